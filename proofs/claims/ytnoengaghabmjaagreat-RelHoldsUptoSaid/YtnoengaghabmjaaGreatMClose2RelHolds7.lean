/- A part of the proof: ShMade, ShRev, ShBits, ShPairs, ShMasks, ShKeys, ShQueue. -/
import Derived.Test.YtnoengaghabmjaaGreatMClose2RelHolds5
import Derived.Test.YtnoengaghabmjaaGreatMClose2RelHolds1
set_option linter.unusedVariables false
set_option linter.unusedSimpArgs false
/- Open regions with effects in place, of which room that is made ahead of them is shown to be as it was. -/
set_option linter.unusedVariables false
set_option linter.unusedSimpArgs false
namespace Go.Proofs.Sh
open Go
def B3t {α:Type}:List Bool→List α→List α
 | true :: bs,p :: ps=>p :: B3t bs ps
 | false :: bs,p :: ps=>B3t bs ps
 | _,_=>[]
section
variable {P:Program}
theorem B4n {α:Type} (f:Nat→Bool):∀ (is:List Nat) (qs:List α),(is.filter f).zip (B3t (is.map f) qs)=(is.zip qs).filter fun z=>f z.1
 | [],_=>by simp
 | i :: is,[]=>by
  have:B3t ((i :: is).map f) ([]:List α)=[]:=by
   simp only [List.map_cons]
   cases f i <;> rfl
  rw [this]; simp
 | i :: is,q :: qs=>by
  have ih:=B4n f is qs
  cases hf:f i with
  | true=>simp [B3t,hf,ih]
  | false=>simp [B3t,hf,ih]
def LiveM (all:List Oper) (G:Fr) (l:List Nat) (pb mb:List Nat) (ms:List (AH→Prop)) (p:Pend):Prop:=match p with
 | .read i F v=>p.at_∈pb∧Live all G l p
 | .made i g x=>∃ z∈mb.zip ms,z.1=i∧∀ H,z.2 H→Val P all H p
theorem LiveM.put {all:List Oper} {G:Fr} {l:List Nat} {pb pb' mb:List Nat} {ms:List (AH→Prop)} {i:Nat} {o:Oper} {v:Value} (ho:all[i]?=some o) {p:Pend} (h:LiveM (P:=P) all G (i :: l) pb mb ms p) (hb:∀ k∈pb,k∈pb'):LiveM (P:=P) all (put G o.dst v) l pb' mb ms p:=by
 cases p with
 | read k F w=>exact ⟨hb _ h.1,h.2.put ho⟩
 | made k g x=>exact h
theorem LiveM.more {all:List Oper} {G:Fr} {l:List Nat} {pb mb:List Nat} {ms:List (AH→Prop)} {p:Pend} {i:Nat} {q:AH→Prop} (h:LiveM (P:=P) all G l pb mb ms p):LiveM (P:=P) all G l pb (i :: mb) (q :: ms) p:=by
 cases p with
 | read k F w=>exact h
 | made k g x=>
  obtain ⟨z,h1,h2⟩:=h
  exact ⟨z,List.mem_cons_of_mem _ h1,h2⟩
theorem LiveM.keep {all:List Oper} {G:Fr} {l:List Nat} {pb pb' mb:List Nat} {ms:List (AH→Prop)} {p:Pend} {f:Nat→Bool} (h:LiveM (P:=P) all G l pb mb ms p) (hp:p.at_∈pb→p.at_∈pb') (hf:f p.at_=true):LiveM (P:=P) all G l pb' (mb.filter f) (B3t (mb.map f) ms) p:=by
 cases p with
 | read k F w=>exact ⟨hp h.1,h.2⟩
 | made k g x=>
  obtain ⟨z,h1,h2,h3⟩:=h
  refine ⟨z,?_,h2,h3⟩
  rw [B4n]
  exact List.mem_filter.2 ⟨h1,by rw [h2]; exact hf⟩
end
variable {P:Program} {O:A1c} {S:List Item} {Q:Fr→AH→Prop} {F:Fr} {H:AH}
end Go.Proofs.Sh
/- Paths, words read from their ends; a graph in memory that keeps to its own places. -/
set_option linter.unusedSectionVars false
namespace Go.Proofs.Sh
open Go
inductive Path (G:ByteArray→Nat→Nat→Prop):Nat→List ByteArray→Nat→Prop
 | nil (s:Nat):Path G s [] s
 | eps {s t u:Nat} {w:List ByteArray}:G A5p s t→Path G t w u→Path G s w u
 | sym {s t u:Nat} {w:List ByteArray} {x:ByteArray}:x≠A5p→G x s t→Path G t w u→Path G s (x :: w) u
section
variable {G:ByteArray→Nat→Nat→Prop}
theorem Path.append {s t v:Nat} {a b:List ByteArray} (h:Path G s a t) (k:Path G t b v):Path G s (a++b) v:=by
 induction h with
 | nil s=>exact k
 | eps h _ ih=>exact .eps h (ih k)
 | sym hx h _ ih=>exact .sym hx h (ih k)
theorem Path.ne {s t:Nat} {w:List ByteArray} (h:Path G s w t):∀ x∈w,x≠A5p:=by
 induction h with
 | nil s=>intro x hx; cases hx
 | eps _ _ ih=>exact ih
 | sym hx _ _ ih=>
  intro y hy
  rcases List.mem_cons.1 hy with rfl | hy
  ·exact hx
  ·exact ih y hy
end
def ownG (g:Nat) (os ot oe oc:Option Nat) (obs:List (Option Nat)) (y:Nat):Prop:=y=g∨os=some y∨JIn ot obs y∨oe=some y∨oc=some y
def GrX (H:AH) (X:Nat→Prop) (g:Nat) (sigma:List ByteArray) (rows:List (List (List Value))) (ends costs:List Int):Prop:=
 ∃ sv av ev cv os ot oe oc vals obs,GrB H 0 g sv av ev cv os ot oe oc vals obs sigma rows ends costs∧∀ y,ownG g os ot oe oc obs y→X y
section
variable {H H':AH} {X Z:Nat→Prop} {base g:Nat} {sigma:List ByteArray} {rows:List (List (List Value))} {ends costs:List Int}
theorem Gr.own (h:Gr H base g sigma rows ends costs) (hw:Wf H):GrX H (fun y=>base≤y∧y < H.next) g sigma rows ends costs:=by
 obtain ⟨sv,av,ev,cv,os,ot,oe,oc,vals,obs,h⟩:=h
 refine ⟨sv,av,ev,cv,os,ot,oe,oc,vals,obs,{ h with fg:=Nat.zero_le _,fs:=fun _ _=>Nat.zero_le _,fj:=fun _ _=>Nat.zero_le _,fe:=fun _ _=>Nat.zero_le _,fc:=fun _ _=>Nat.zero_le _ },?_⟩
 rintro y (rfl | hy | hy | hy | hy)
 ·exact ⟨h.fg,h.arr.lt hw⟩
 ·exact ⟨h.fs y hy,h.sg.lt hw y hy⟩
 ·exact ⟨h.fj y hy,h.jag.lt hw y hy⟩
 ·exact ⟨h.fe y hy,h.en.lt hw y hy⟩
 ·exact ⟨h.fc y hy,h.co.lt hw y hy⟩
theorem GrX.mono (h:GrX H X g sigma rows ends costs) (hx:∀ y,X y→Z y):GrX H Z g sigma rows ends costs:=by
 obtain ⟨sv,av,ev,cv,os,ot,oe,oc,vals,obs,h,ho⟩:=h
 exact ⟨sv,av,ev,cv,os,ot,oe,oc,vals,obs,h,fun y hy=>hx y (ho y hy)⟩
theorem GrX.chg (h:GrX H X g sigma rows ends costs) (hw:Wf H) (hc:Chg Z H H') (hx:∀ y,X y→¬Z y):GrX H' X g sigma rows ends costs:=by
 obtain ⟨sv,av,ev,cv,os,ot,oe,oc,vals,obs,h,ho⟩:=h
 refine ⟨sv,av,ev,cv,os,ot,oe,oc,vals,obs,{ h with arr:=h.arr.keep (hc.old g (h.arr.lt hw) (hx g (ho g (.inl rfl)))),sg:=h.sg.chg hw hc fun y hy=>hx y (ho y (.inr (.inl hy))),jag:=h.jag.chg hw hc fun y hy=>hx y (ho y (.inr (.inr (.inl hy)))),en:=h.en.chg hw hc fun y hy=>hx y (ho y (.inr (.inr (.inr (.inl hy))))),co:=h.co.chg hw hc fun y hy=>hx y (ho y (.inr (.inr (.inr (.inr hy))))) },ho⟩
theorem GrX.kept (h:GrX H X g sigma rows ends costs) (hw:Wf H) (hk:Kept H H'):GrX H' X g sigma rows ends costs:=h.chg hw (hk.chg (X:=none')) fun _ _ h=>h
theorem GrX.read (h:GrX H X g sigma rows ends costs):∃ sv av ev cv vals,GrR H g sv av ev cv vals sigma rows ends costs:=by
 obtain ⟨sv,av,ev,cv,os,ot,oe,oc,vals,obs,h,_⟩:=h
 exact ⟨sv,av,ev,cv,vals,h.arr,h.sg.toSl,h.jag.read,h.en.toSl,h.co.toSl⟩
end
end Go.Proofs.Sh
/- Numbers of 64 bits as sets of places; what is reached, of any kind, and by layers. -/
namespace Go.Proofs.Sh
open Go
def m64:Nat:=18446744073709551616
theorem A5v {a:Nat} (ha:a < m64):(BitVec.ofInt IntKind.u64.bits (a:Int)).toNat=a:=by
 rw [BitVec.toNat_ofInt]
 simp only [IntKind.bits]
 unfold m64 at ha
 omega
theorem C6b {a b:Nat} (ha:a < m64) (hb:b < m64):a ||| b < m64:=Nat.or_lt_two_pow (n:=64) ha hb
theorem and_lt64 {a b:Nat} (hb:b < m64):a &&& b < m64:=Nat.lt_of_le_of_lt Nat.and_le_right hb
section
variable {P:Program} {t:TypeId} {c:Bool}
theorem or64 {a b:Nat} (ha:a < m64) (hb:b < m64):abin P t c .or (.int .u64 (a:Int)) (.int .u64 (b:Int))=some (.int .u64 ((a ||| b:Nat):Int)):=by
 simp only [abin,A8e,cond_true,aint]
 rw [BitVec.toNat_or,A5v ha,A5v hb,B5h (by omega) (by have:=C6b ha hb; unfold m64 at this; omega)]
theorem and64 {a b:Nat} (ha:a < m64) (hb:b < m64):abin P t c .and (.int .u64 (a:Int)) (.int .u64 (b:Int))=some (.int .u64 ((a &&& b:Nat):Int)):=by
 simp only [abin,A8e,cond_true,aint]
 rw [BitVec.toNat_and,A5v ha,A5v hb,B5h (by omega) (by have:=and_lt64 (a:=a) hb; unfold m64 at this; omega)]
theorem shl64 {a:Nat} (ha:2 * a < m64) {j:IntKind}:abin P t c .shl (.int .u64 (a:Int)) (.int j 1)=some (.int .u64 ((2 * a:Nat):Int)):=by
 show A7q true .u64 (a:Int) 1=_
 unfold A7q
 have h1:A2u 0 (1:Int)=true:=rfl
 have h2:min (1:Int).toNat IntKind.u64.bits=1:=rfl
 simp only [h1,cond_true,h2]
 have e:(a:Int) * 2 ^ 1=((2 * a:Nat):Int):=by omega
 rw [e,B5h (by omega) (by unfold m64 at ha; omega)]
end
theorem bit_two {a j:Nat}:(2 * a).testBit (j+1)=a.testBit j:=by
 rw [Nat.testBit_succ]
 congr 1
 omega
theorem bit_two0 {a:Nat}:(2 * a).testBit 0=false:=by
 simp [Nat.testBit_zero]
theorem B89 {j:Nat}:(1:Nat).testBit j=true↔j=0:=by
 rw [show (1:Nat)=2 ^ 0 from rfl,Nat.testBit_two_pow]
 simp [eq_comm]
theorem bit_pow {i j:Nat}:(2 ^ i:Nat).testBit j=true↔j=i:=by
 rw [Nat.testBit_two_pow]
 simp [eq_comm]
def A1w (m:Nat):Nat:=((List.range 64).filter fun j=>m.testBit j).length
theorem filter_lt {α:Type} {p q:α→Bool}:∀ {l:List α},(∀ x∈l,p x=true→q x=true)→(∃ x∈l,q x=true∧p x=false)→(l.filter p).length < (l.filter q).length
 | [],_,h=>by obtain ⟨x,hx,_⟩:=h; cases hx
 | y :: l,h,⟨x,hx,h1,h2⟩=>by
  have hle:∀ {l:List α},(∀ x∈l,p x=true→q x=true)→(l.filter p).length≤(l.filter q).length:=by
   intro l
   induction l with
   | nil=>intro _; exact Nat.le_refl _
   | cons z l ih=>
    intro h
    have:=ih fun x hx=>h x (List.mem_cons_of_mem _ hx)
    by_cases hp:p z=true
    ·rw [List.filter_cons_of_pos hp,List.filter_cons_of_pos (h z List.mem_cons_self hp)]; simp only [List.length_cons]; omega
    ·rw [List.filter_cons_of_neg hp]
     by_cases hq:q z=true
     ·rw [List.filter_cons_of_pos hq]; simp only [List.length_cons]; omega
     ·rw [List.filter_cons_of_neg hq]; exact this
  rcases List.mem_cons.1 hx with rfl | hx
  ·rw [List.filter_cons_of_neg (by simp [h2]),List.filter_cons_of_pos h1]
   have:=hle (l:=l) fun x hx=>h x (List.mem_cons_of_mem _ hx)
   simp only [List.length_cons]; omega
  ·have ih:=filter_lt (l:=l) (fun x hx=>h x (List.mem_cons_of_mem _ hx)) ⟨x,hx,h1,h2⟩
   by_cases hp:p y=true
   ·rw [List.filter_cons_of_pos hp,List.filter_cons_of_pos (h y List.mem_cons_self hp)]; simp only [List.length_cons]; omega
   ·rw [List.filter_cons_of_neg hp]
    by_cases hq:q y=true
    ·rw [List.filter_cons_of_pos hq]; simp only [List.length_cons]; omega
    ·rw [List.filter_cons_of_neg hq]; exact ih
theorem card_le (m:Nat):A1w m≤64:=by
 unfold A1w
 exact Nat.le_trans (List.length_filter_le _ _) (by simp)
theorem card_lt {a b:Nat} (hb:b < m64) (hs:∀ j,a.testBit j=true→b.testBit j=true) (hn:a≠b):A1w a < A1w b:=by
 unfold A1w
 refine filter_lt (fun j _ h=>hs j h) ?_
 by_cases h:∃ j,b.testBit j=true∧a.testBit j=false
 ·obtain ⟨j,h1,h2⟩:=h
  refine ⟨j,List.mem_range.2 ?_,h1,h2⟩
  by_cases hj:j < 64
  ·exact hj
  ·rw [Nat.testBit_lt_two_pow (Nat.lt_of_lt_of_le hb (show (2:Nat) ^ 64≤2 ^ j from Nat.pow_le_pow_right (by decide) (by omega)))] at h1
   cases h1
 ·exfalso
  apply hn
  refine Nat.eq_of_testBit_eq fun j=>?_
  cases ha:a.testBit j with
  | true=>exact (hs j ha).symm
  | false=>
   cases hb2:b.testBit j with
   | false=>rfl
   | true=>exact absurd ⟨j,hb2,ha⟩ h
inductive Cl {α:Type} (R:α→α→Prop) (S:α→Prop):α→Prop
 | base {s:α}:S s→Cl R S s
 | step {s t:α}:Cl R S s→R s t→Cl R S t
theorem Cl.of {α:Type} {R:α→α→Prop} {S Q:α→Prop} (h1:∀ s,S s→Q s) (h2:∀ s t,Q s→R s t→Q t) {t:α} (h:Cl R S t):Q t:=by
 induction h with
 | base h=>exact h1 _ h
 | step _ hr ih=>exact h2 _ _ ih hr
theorem Cl.congr {α:Type} {R R':α→α→Prop} {S S':α→Prop} (h1:∀ s,S s→S' s) (h2:∀ s t,R s t→R' s t) {t:α} (h:Cl R S t):Cl R' S' t:=
 h.of (fun s hs=>.base (h1 s hs)) fun s t hs hr=>.step hs (h2 s t hr)
def A79 {α:Type} (E:α→α→Prop) (A:Nat→α→α→Prop) (S:α→Prop):Nat→α→Prop
 | 0=>Cl E S
 | i+1=>Cl E fun b=>∃ a,A79 E A S i a∧A i a b
theorem layers {α:Type} {E:α→α→Prop} {A:Nat→α→α→Prop} {S:α→Prop} {i:Nat} {a:α}:
  Cl (fun p q:Nat×α=>p.1=q.1∧E p.2 q.2∨q.1=p.1+1∧A p.1 p.2 q.2) (fun p=>p.1=0∧S p.2) (i,a)↔A79 E A S i a:=by
 constructor
 ·intro h
  have:∀ p:Nat×α,Cl (fun p q:Nat×α=>p.1=q.1∧E p.2 q.2∨q.1=p.1+1∧A p.1 p.2 q.2) (fun p=>p.1=0∧S p.2) p→A79 E A S p.1 p.2:=by
   intro p hp
   refine hp.of (Q:=fun p=>A79 E A S p.1 p.2) ?_ ?_
   ·rintro ⟨i,a⟩ ⟨rfl,hs⟩
    exact .base hs
   ·rintro ⟨i,a⟩ ⟨k,b⟩ hl (⟨h1,h2⟩ | ⟨h1,h2⟩)
    ·simp only at h1 h2 hl
     subst h1
     cases i with
     | zero=>exact .step hl h2
     | succ i=>exact .step hl h2
    ·simp only at h1 h2 hl
     subst h1
     exact .base ⟨a,hl,h2⟩
  exact this _ h
 ·induction i generalizing a with
  | zero=>
   intro h
   refine Cl.of (Q:=fun a=>Cl _ _ ((0:Nat),a)) ?_ ?_ (show Cl E S a from h)
   ·exact fun s hs=>.base ⟨rfl,hs⟩
   ·exact fun s t hs hr=>.step hs (.inl ⟨rfl,hr⟩)
  | succ i ih=>
   intro h
   refine Cl.of (Q:=fun a=>Cl _ _ (i+1,a)) ?_ ?_ (show Cl E (fun b=>∃ a,A79 E A S i a∧A i a b) a from h)
   ·rintro b ⟨a,h1,h2⟩
    exact .step (ih h1) (.inr ⟨rfl,h2⟩)
   ·exact fun s t hs hr=>.step hs (.inl ⟨rfl,hr⟩)
end Go.Proofs.Sh
/- Relations of words without a program: ways along edges that read a symbol, or none, on either side; places in two words. -/
namespace Go.Proofs.Sh
open Go
section
variable {σ τ α:Type}
abbrev Arcs (σ α:Type):=σ→Option α→Option α→σ→Prop
inductive Way (A:Arcs σ α):σ→List α→List α→σ→Prop
 | nil (s:σ):Way A s [] [] s
 | cons {s t u:σ} {a b:Option α} {x y:List α}:A s a b t→Way A t x y u→Way A s (a.toList++x) (b.toList++y) u
theorem Way.app {A:Arcs σ α} {s t u:σ} {x y z w:List α} (h:Way A s x y t) (k:Way A t z w u):Way A s (x++z) (y++w) u:=by
 induction h with
 | nil s=>exact k
 | cons h1 _ ih=>rw [List.append_assoc,List.append_assoc]; exact .cons h1 (ih k)
theorem Way.one {A:Arcs σ α} {s t:σ} {a b:Option α} (h:A s a b t):Way A s a.toList b.toList t:=by
 have:=Way.cons h (Way.nil (A:=A) t)
 simpa using this
theorem Way.mono {A B:Arcs σ α} (h:∀ s a b t,A s a b t→B s a b t) {s t:σ} {x y:List α} (k:Way A s x y t):Way B s x y t:=by
 induction k with
 | nil s=>exact .nil s
 | cons h1 _ ih=>exact .cons (h _ _ _ _ h1) ih
theorem Way.map {β:Type} {A:Arcs σ α} {B:Arcs σ β} {f:α→β} (h:∀ s a b t,A s a b t→B s (a.map f) (b.map f) t) {s t:σ} {x y:List α} (k:Way A s x y t):Way B s (x.map f) (y.map f) t:=by
 induction k with
 | nil s=>exact .nil s
 | @cons s t u a b x y h1 _ ih=>
  have e:∀ o:Option α,(o.map f).toList=o.toList.map f:=fun o=>by cases o <;> rfl
  rw [List.map_append,List.map_append,← e,← e]
  exact .cons (h _ _ _ _ h1) ih
theorem Way.move {A:Arcs σ α} {B:Arcs τ α} {g:σ→τ} (h:∀ s a b t,A s a b t→B (g s) a b (g t)) {s t:σ} {x y:List α} (k:Way A s x y t):Way B (g s) x y (g t):=by
 induction k with
 | nil s=>exact .nil _
 | cons h1 _ ih=>exact .cons (h _ _ _ _ h1) ih
theorem Way.swap {A B:Arcs σ α} (h:∀ s a b t,A s a b t→B s b a t) {s t:σ} {x y:List α} (k:Way A s x y t):Way B s y x t:=by
 induction k with
 | nil s=>exact .nil _
 | cons h1 _ ih=>exact .cons (h _ _ _ _ h1) ih
theorem Way.keeps {A:Arcs σ α} {Q:σ→Prop} (h:∀ s a b t,Q s→A s a b t→Q t) {s t:σ} {x y:List α} (k:Way A s x y t) (hs:Q s):Q t:=by
 induction k with
 | nil s=>exact hs
 | cons h1 _ ih=>exact ih (h _ _ _ _ hs h1)
def A9w (w:List α) (i:Nat) (o:Option α) (j:Nat):Prop:=
 match o with
 | none=>j=i
 | some s=>w[i]?=some s∧j=i+1
theorem B9g {w:List α} {i j:Nat} {o:Option α} (h:A9w w i o j) (hi:i≤w.length):j≤w.length:=by
 cases o with
 | none=>rw [show j=i from h]; exact hi
 | some s=>have:=(List.getElem?_eq_some_iff.1 h.1).1; rw [h.2]; omega
theorem B1c {w:List α} {i j:Nat} {o:Option α} (h:A9w w i o j):w.drop i=o.toList++w.drop j∧j=i+o.toList.length:=by
 cases o with
 | none=>rw [show j=i from h]; exact ⟨rfl,rfl⟩
 | some s=>
  obtain ⟨h1,rfl⟩:=h
  obtain ⟨h2,h3⟩:=List.getElem?_eq_some_iff.1 h1
  rw [List.drop_eq_getElem_cons h2,h3]
  exact ⟨rfl,rfl⟩
theorem B12 {w:List α} {i:Nat} {o:Option α} {u:List α} (h:w.drop i=o.toList++u):A9w w i o (i+o.toList.length)∧w.drop (i+o.toList.length)=u:=by
 cases o with
 | none=>exact ⟨rfl,h⟩
 | some s=>
  have h':w.drop i=s :: u:=h
  have hl:i < w.length:=by
   rcases Nat.lt_or_ge i w.length with h1 | h1
   ·exact h1
   ·rw [List.drop_of_length_le h1] at h'; cases h'
  rw [List.drop_eq_getElem_cons hl] at h'
  injection h' with h1 h2
  exact ⟨⟨by rw [List.getElem?_eq_getElem hl,h1],rfl⟩,h2⟩
def A4x (A:Arcs σ α) (x y:List α) (p q:σ×Nat×Nat):Prop:=∃ a b,A p.1 a b q.1∧A9w x p.2.1 a q.2.1∧A9w y p.2.2 b q.2.2
theorem Cl.trans {β:Type} {R:β→β→Prop} {S:β→Prop} {p t:β} (h:Cl R (fun q=>q=p) t) (hp:Cl R S p):Cl R S t:=
 h.of (Q:=Cl R S) (fun s hs=>by rw [hs]; exact hp) fun s t hs hr=>.step hs hr
theorem way_step {A:Arcs σ α} {s t:σ} {u v:List α} (h:Way A s u v t) {x y x' y':List α} {i j:Nat} (hx:x.drop i=u++x') (hy:y.drop j=v++y'):
  Cl (A4x A x y) (fun q=>q=(s,i,j)) (t,i+u.length,j+v.length):=by
 induction h generalizing i j with
 | nil s=>exact .base rfl
 | @cons s t w a b u v h1 _ ih=>
  rw [List.append_assoc] at hx hy
  obtain ⟨h2,h3⟩:=B12 hx
  obtain ⟨h4,h5⟩:=B12 hy
  have:=ih h3 h5
  rw [List.length_append,List.length_append,← Nat.add_assoc,← Nat.add_assoc]
  exact this.trans (.step (.base rfl) ⟨a,b,h1,h2,h4⟩)
theorem step_way {A:Arcs σ α} {x y:List α} {S:σ×Nat×Nat→Prop} {p:σ×Nat×Nat} (h:Cl (A4x A x y) S p):
  ∃ q u v,S q∧Way A q.1 u v p.1∧x.drop q.2.1=u++x.drop p.2.1∧y.drop q.2.2=v++y.drop p.2.2∧p.2.1=q.2.1+u.length∧p.2.2=q.2.2+v.length:=by
 refine h.of (Q:=fun p=>∃ q u v,S q∧Way A q.1 u v p.1∧x.drop q.2.1=u++x.drop p.2.1∧y.drop q.2.2=v++y.drop p.2.2∧p.2.1=q.2.1+u.length∧p.2.2=q.2.2+v.length) ?_ ?_
 ·intro q hq
  exact ⟨q,[],[],hq,.nil _,rfl,rfl,rfl,rfl⟩
 ·rintro p r ⟨q,u,v,h1,h2,h3,h4,h5,h6⟩ ⟨a,b,h7,h8,h9⟩
  obtain ⟨h10,h11⟩:=B1c h8
  obtain ⟨h12,h13⟩:=B1c h9
  refine ⟨q,u++a.toList,v++b.toList,h1,h2.app (Way.one h7),?_,?_,?_,?_⟩
  ·rw [h3,h10,List.append_assoc]
  ·rw [h4,h12,List.append_assoc]
  ·rw [h11,h5,List.length_append]; omega
  ·rw [h13,h6,List.length_append]; omega
theorem places {A:Arcs σ α} {x y:List α} {s t:σ}:Cl (A4x A x y) (fun q=>q=(s,0,0)) (t,x.length,y.length)↔Way A s x y t:=by
 constructor
 ·intro h
  obtain ⟨q,u,v,rfl,h1,h2,h3,_,_⟩:=step_way h
  simp only [List.drop_zero,List.drop_length,List.append_nil] at h2 h3
  rw [h2,h3]; exact h1
 ·intro h
  have:=way_step h (x:=x) (y:=y) (x':=[]) (y':=[]) (i:=0) (j:=0) (by simp) (by simp)
  simpa using this
def laE (A:Arcs σ α) (y:List α) (p q:σ×Nat):Prop:=∃ b,A p.1 none b q.1∧A9w y p.2 b q.2
def laA (A:Arcs σ α) (x y:List α) (i:Nat) (p q:σ×Nat):Prop:=∃ b c,x[i]?=some c∧A p.1 (some c) b q.1∧A9w y p.2 b q.2
theorem C8e {A:Arcs σ α} {x y:List α} {s t:σ}:A79 (laE A y) (laA A x y) (fun p=>p=(s,0)) x.length (t,y.length)↔Way A s x y t:=by
 rw [← layers,← places]
 constructor
 ·intro h
  have:∀ p:Nat×σ×Nat,Cl (fun p q:Nat×σ×Nat=>p.1=q.1∧laE A y p.2 q.2∨q.1=p.1+1∧laA A x y p.1 p.2 q.2) (fun p=>p.1=0∧p.2=(s,0)) p→Cl (A4x A x y) (fun q=>q=(s,0,0)) (p.2.1,p.1,p.2.2):=by
   intro p hp
   refine hp.of (Q:=fun p=>Cl (A4x A x y) (fun q=>q=(s,0,0)) (p.2.1,p.1,p.2.2)) ?_ ?_
   ·rintro ⟨i,q⟩ ⟨rfl,rfl⟩; exact .base rfl
   ·rintro ⟨i,a,j⟩ ⟨k,b,l⟩ hl (⟨h1,d,h2,h3⟩ | ⟨h1,d,c,h2,h3,h4⟩)
    ·simp only at h1 h2 h3
     subst h1
     exact .step hl ⟨none,d,h2,rfl,h3⟩
    ·simp only at h1 h2 h3 h4
     subst h1
     exact .step hl ⟨some c,d,h3,⟨h2,rfl⟩,h4⟩
  exact this _ h
 ·intro h
  have:∀ p:σ×Nat×Nat,Cl (A4x A x y) (fun q=>q=(s,0,0)) p→Cl (fun p q:Nat×σ×Nat=>p.1=q.1∧laE A y p.2 q.2∨q.1=p.1+1∧laA A x y p.1 p.2 q.2) (fun p=>p.1=0∧p.2=(s,0)) (p.2.1,p.1,p.2.2):=by
   intro p hp
   refine hp.of (Q:=fun p=>Cl _ _ (p.2.1,p.1,p.2.2)) ?_ ?_
   ·rintro p rfl; exact .base ⟨rfl,rfl⟩
   ·rintro ⟨a,i,j⟩ ⟨b,k,l⟩ hl ⟨c,d,h1,h2,h3⟩
    cases c with
    | none=>
     simp only at h1 h2 h3
     rw [show k=i from h2]
     exact .step hl (.inl ⟨rfl,d,h1,h3⟩)
    | some c=>
     simp only at h1 h2 h3
     exact .step hl (.inr ⟨h2.2,d,c,h2.1,h1,h3⟩)
  exact this _ h
end
end Go.Proofs.Sh
/- Sets of places as numbers of 64 bits: what a symbol does to them. -/
namespace Go.Proofs.Sh
open Go
def u64C (m:Nat):List Value:=[.int .u64 (m:Int)]
section
variable {P:Program} {t:TypeId} {c:Bool}
theorem pow64 {j:Nat} (hj:j < 64) {k:IntKind}:abin P t c .shl (.int .u64 1) (.int k (j:Int))=some (.int .u64 ((2 ^ j:Nat):Int)):=by
 show A7q true .u64 1 (j:Int)=_
 unfold A7q
 have h1:A2u 0 (j:Int)=true:=by
  show Nat.ble 0 j=true
  simp
 have h2:min (j:Int).toNat IntKind.u64.bits=j:=by
  show min j 64=j
  omega
 simp only [h1,cond_true,h2]
 have h3:(2:Nat) ^ j < 2 ^ 64:=Nat.pow_lt_pow_right (by decide) hj
 have e:(1:Int) * 2 ^ j=((2 ^ j:Nat):Int):=by rw [Int.one_mul,Int.natCast_pow]; rfl
 have h4:(2:Nat) ^ 64=18446744073709551616:=rfl
 rw [e,B5h (Int.natCast_nonneg _) (by omega)]
theorem shr64 {m n:Nat} (hn:n < 64) {k:IntKind}:abin P t c .shr (.int .u64 (m:Int)) (.int k (n:Int))=some (.int .u64 ((m / 2 ^ n:Nat):Int)):=by
 show A7q false .u64 (m:Int) (n:Int)=_
 unfold A7q
 have h1:A2u 0 (n:Int)=true:=by
  show Nat.ble 0 n=true
  simp
 have h2:min (n:Int).toNat IntKind.u64.bits=n:=by
  show min n 64=n
  omega
 simp only [h1,cond_true,h2,cond_false]
 have e:(2:Int) ^ n=((2 ^ n:Nat):Int):=by rw [Int.natCast_pow]; rfl
 rw [e,Int.fdiv_eq_ediv_of_nonneg _ (Int.natCast_nonneg _),Int.natCast_ediv]
end
theorem A76 {m:Nat}:decide ((m:Int)=0)=decide (m=0):=decide_eq_decide.2 (by omega)
theorem C8d {m:Nat}:decide ((m:Int)=1)=decide (m=1):=decide_eq_decide.2 (by omega)
theorem C0c {P:Program} {t:TypeId} {c:Bool} {a:Nat} (ha:a < m64):abin P t c .and (.int .u64 (a:Int)) (.int .u64 1)=some (.int .u64 ((a &&& 1:Nat):Int)):=and64 (b:=1) ha (by decide)
theorem C4e (m j:Nat):(m / 2 ^ j &&& 1=1)↔m.testBit j=true:=by
 rw [Nat.and_one_is_mod,Nat.testBit_eq_decide_div_mod_eq,decide_eq_true_iff]
def labN (k:Int):Option Nat:=if k < 0 then none else some k.toNat
def A8u (W:List Nat) (y:List Nat):Prop:=∀ (k m:Nat),W[k]?=some m→∀ j,m.testBit j=true↔y[j]?=some k
def stepM (W:List Nat) (m:Nat) (o:Int):Nat:=if o < 0 then m else 2 * (m &&& W.getD o.toNat 0)
def within (n m:Nat):Prop:=∀ j,m.testBit j=true→j≤n
theorem B2p {n m:Nat} (h:within n m):m < 2 ^ (n+1):=by
 rcases Nat.lt_or_ge m (2 ^ (n+1)) with h1 | h1
 ·exact h1
 ·obtain ⟨i,h2,h3⟩:=Nat.exists_ge_and_testBit_of_ge_two_pow h1
  have:=h i h3
  omega
theorem pow61 {n:Nat} (h:n≤60):2 ^ (n+1)≤2305843009213693952:=by
 have:(2:Nat) ^ (n+1)≤2 ^ 61:=Nat.pow_le_pow_right (by decide) (by omega)
 have e:(2:Nat) ^ 61=2305843009213693952:=rfl
 omega
theorem within.lt64 {n m:Nat} (h:within n m) (hn:n≤60):m < m64:=by
 have h1:=B2p h
 have h2:=pow61 hn
 unfold m64; omega
theorem A2z {W y:List Nat} (hW:A8u W y) {m:Nat} {o:Int} (ho:0≤o→o.toNat < W.length) (j':Nat):(stepM W m o).testBit j'=true↔∃ j,m.testBit j=true∧A9w y j (labN o) j':=by
 unfold stepM labN
 by_cases h:o < 0
 ·rw [if_pos h,if_pos h]
  exact ⟨fun h1=>⟨j',h1,rfl⟩,fun ⟨j,h1,h2⟩=>by rw [show j'=j from h2]; exact h1⟩
 ·rw [if_neg h,if_neg h]
  have hl:=ho (by omega)
  have hg:W[o.toNat]?=some (W.getD o.toNat 0):=by simp [List.getD,hl]
  have hw:=hW _ _ hg
  generalize W.getD o.toNat 0=w at hw
  cases j' with
  | zero=>
   rw [bit_two0]
   constructor
   ·intro h; cases h
   ·rintro ⟨j,_,_,h3⟩; omega
  | succ j'=>
   rw [bit_two,Nat.testBit_and,Bool.and_eq_true,hw]
   exact ⟨fun ⟨h1,h2⟩=>⟨j',h1,h2,rfl⟩,fun ⟨j,h1,h2,h3⟩=>by
    have:j'=j:=by omega
    subst this; exact ⟨h1,h2⟩⟩
theorem A72 {W y:List Nat} (hW:A8u W y) {m:Nat} {o:Int} (ho:0≤o→o.toNat < W.length) (hm:within y.length m):within y.length (stepM W m o):=fun j' h=>by
 obtain ⟨j,h1,h2⟩:=(A2z hW ho j').1 h
 exact B9g h2 (hm j h1)
theorem B9n {n a b:Nat} (ha:within n a) (hb:within n b):within n (a ||| b):=fun j h=>by
 rw [Nat.testBit_or,Bool.or_eq_true] at h
 exact h.elim (ha j) (hb j)
theorem B29 {W y:List Nat} (hW:A8u W y) {m:Nat} {o:Nat} {w:Nat} (hg:W[o]?=some w) (hy:y.length≤60):w < m64∧2 * (m &&& w) < m64:=by
 have h1:within y.length w:=fun j h=>Nat.le_of_lt (List.getElem?_eq_some_iff.1 ((hW o w hg j).1 h)).1
 have h2:m &&& w≤w:=Nat.and_le_right
 have h3:=B2p h1
 have h4:=pow61 hy
 unfold m64
 omega
def A7f (now:List Nat) (p:Nat×Nat):Prop:=∃ m,now[p.1]?=some m∧m.testBit p.2=true
def A9m (now:List Nat):Nat:=(now.map A1w).sum
theorem A2y:∀ (now:List Nat),A9m now≤64 * now.length
 | []=>Nat.zero_le _
 | m :: l=>by
  have h1:=card_le m
  have h2:=A2y l
  unfold A9m at h2 ⊢
  simp only [List.map_cons,List.sum_cons,List.length_cons]; omega
theorem B9l:∀ (now:List Nat) (s m m':Nat),now[s]?=some m→A9m (now.set s m')+A1w m=A9m now+A1w m'
 | [],s,m,m',h=>by simp at h
 | q :: l,0,m,m',h=>by
  simp at h
  subst h
  unfold A9m
  simp only [List.set_cons_zero,List.map_cons,List.sum_cons]; omega
 | q :: l,s+1,m,m',h=>by
  have:=B9l l s m m' (by simpa using h)
  unfold A9m at this ⊢
  simp only [List.set_cons_succ,List.map_cons,List.sum_cons]; omega
end Go.Proofs.Sh
/- Maps that have true for some keys. -/
namespace Go.Proofs.Sh
open Go
theorem B4e {α:Type} [DecidableEq α] (v:Value) (D:List α) (t:α):A8q (D.map fun t=>(t,v)) t=if t∈D then some v else none:=by
 unfold A8q
 by_cases h:t∈D
 ·rw [if_pos h]
  cases hf:(D.map fun t=>(t,v)).find? fun p=>decide (t=p.1) with
  | none=>
   rw [List.find?_eq_none] at hf
   have:=hf (t,v) (List.mem_map.2 ⟨t,h,rfl⟩)
   simp at this
  | some p=>
   have:=List.mem_of_find?_eq_some hf
   obtain ⟨u,_,rfl⟩:=List.mem_map.1 this
   rfl
 ·rw [if_neg h]
  have:(D.map fun t=>(t,v)).find? (fun p=>decide (t=p.1))=none:=by
   rw [List.find?_eq_none]
   rintro p hp
   obtain ⟨u,hu,rfl⟩:=List.mem_map.1 hp
   simp only [decide_eq_true_eq]
   rintro rfl
   exact h hu
  rw [this]; rfl
def SetIs {α:Type} (H:AH) (g:Nat) (f:α→Value) (D:List α):Prop:=MapIs H g f (D.map fun t=>(t,.bool true))
theorem SetIs.new {α:Type} {H:AH} {f:α→Value}:SetIs (H.push (.map [])).2 H.next f ([]:List α):=MapIs.new
section
variable {α:Type} [DecidableEq α] {P:Program} {H:AH} {t kt e g:Nat} {f:α→Value} {D:List α}
theorem SetIs.keep {H':AH} (h:SetIs H g f D) (hg:H'.objs.get g=H.objs.get g):SetIs H' g f D:=MapIs.keep h hg
theorem SetIs.lt (h:SetIs H g f D) (hw:Wf H):g < H.next:=MapIs.lt h hw
theorem SetIs.look (hu:P.underlying t=some (.map kt e)) (hz:zeroAt P e=some (.bool false)) (hk:∀ a,A9j P kt (f a)=true) (heq:∀ a b,eqT P A7e kt (f a) (f b)=some (decide (a=b)))
  (h:SetIs H g f D) (a:α):A7m P t (.map (some g)) (f a) false H=some (.bool (decide (a∈D))):=by
 have:=MapIs.look (ok:=false) hu hz hk heq h a
 rw [this,B4e]
 by_cases hd:a∈D <;> simp [hd]
theorem SetIs.add (hu:P.underlying t=some (.map kt e)) (hk:∀ a,A9j P kt (f a)=true) (heq:∀ a b,eqT P A7e kt (f a) (f b)=some (decide (a=b)))
  (h:SetIs H g f D) (hw:Wf H) {a:α} (ha:a∉D):∃ H',A9e P t (.map (some g)) (f a) (.bool true) H=some H'∧SetIs H' g f (D++[a])∧Chg (fun y=>y=g) H H'∧H'.next=H.next:=by
 obtain ⟨H',h1,h2,h3,h4⟩:=MapIs.add hu hk heq h hw (a:=a) (by rw [B4e,if_neg ha]) (.bool true)
 exact ⟨H',h1,by unfold SetIs; rw [List.map_append]; exact h2,h3,h4⟩
end
theorem B57 {a b c:Nat} {l:List (Nat×Nat×Nat)} (hn:l.Nodup) (h:∀ p∈l,p.1 < a∧p.2.1 < b∧p.2.2 < c):l.length≤a * b * c:=by
  have h1:(l.map fun p=>(p.1 * b+p.2.1) * c+p.2.2).Nodup:=by
    rw [List.nodup_iff_pairwise_ne] at hn ⊢
    rw [List.pairwise_map]
    refine hn.imp_of_mem fun {p q} hp hq hne he=>hne ?_
    obtain ⟨h1,h2,h3⟩:=h p hp
    obtain ⟨h4,h5,h6⟩:=h q hq
    have e3:p.2.2=q.2.2:=by
      have := congrArg (· % c) he
      simp only [Nat.mul_comm _ c,Nat.mul_add_mod] at this
      rwa [Nat.mod_eq_of_lt h3,Nat.mod_eq_of_lt h6] at this
    have e2:p.1 * b+p.2.1=q.1 * b+q.2.1:=by
      rw [e3] at he
      exact Nat.eq_of_mul_eq_mul_right (by omega) (Nat.add_right_cancel he)
    have e1:p.2.1=q.2.1:=by
      have := congrArg (· % b) e2
      simp only [Nat.mul_comm _ b,Nat.mul_add_mod] at this
      rwa [Nat.mod_eq_of_lt h2,Nat.mod_eq_of_lt h5] at this
    have e0:p.1=q.1:=by
      rw [e1] at e2
      exact Nat.eq_of_mul_eq_mul_right (by omega) (Nat.add_right_cancel e2)
    exact Prod.ext e0 (Prod.ext e1 e3)
  have h2:=B31 (n:=a * b * c) h1 fun x hx=>by
    obtain ⟨p,hp,rfl⟩:=List.mem_map.1 hx
    obtain ⟨h1,h2,h3⟩:=h p hp
    have e1:p.1 * b+p.2.1 < a * b:=by
      have:(p.1+1) * b≤a * b:=Nat.mul_le_mul_right b h1
      rw [Nat.succ_mul] at this
      omega
    have:(p.1 * b+p.2.1+1) * c≤a * b * c:=Nat.mul_le_mul_right c e1
    rw [Nat.succ_mul] at this
    show (p.1 * b+p.2.1) * c+p.2.2 < a * b * c
    omega
  rwa [List.length_map] at h2
end Go.Proofs.Sh
/- A list that grows, with a map of what is in it. -/
namespace Go.Proofs.Sh
open Go
def A40 {α:Type} (cell:α→List Value) (a:α):Value:=.agg (cell a).toArray
structure QS {α:Type} (H:AH) (s:Nat) (cell:α→List Value) (base g:Nat) (z:Value) (ob:Option Nat) (T:List α):Prop where
 td:Buf H s z (T.map cell) ob
 sn:SetIs H g (A40 cell) T
 nd:T.Nodup
 b0:base≤g
 tb:∀ y,ob=some y→base≤y∧y≠g
def QO (g:Nat) (ob:Option Nat) (y:Nat):Prop:=y=g∨ob=some y
section
variable {α:Type} [DecidableEq α] {P:Program} {H H':AH} {s base g:Nat} {cell:α→List Value} {z:Value} {ob:Option Nat} {T:List α}
theorem QS.lt (h:QS H s cell base g z ob T) (hw:Wf H):∀ y,QO g ob y→y < H.next:=by
 rintro y (rfl | hy)
 ·exact h.sn.lt hw
 ·exact h.td.lt hw y hy
theorem QS.ge (h:QS H s cell base g z ob T):∀ y,QO g ob y→base≤y:=by
 rintro y (rfl | hy)
 ·exact h.b0
 ·exact (h.tb y hy).1
theorem QS.chg (h:QS H s cell base g z ob T) (hw:Wf H) {X:Nat→Prop} (hc:Chg X H H') (hx:∀ y,X y→¬QO g ob y):QS H' s cell base g z ob T:=
 ⟨h.td.chg hw hc fun y hy hX=>hx y hX (.inr hy),h.sn.keep (hc.old g (h.sn.lt hw) fun hX=>hx g hX (.inl rfl)),h.nd,h.b0,h.tb⟩
theorem QS.kept (h:QS H s cell base g z ob T) (hw:Wf H) (hk:Kept H H'):QS H' s cell base g z ob T:=h.chg hw (hk.chg (X:=none')) fun y hy=>hy.elim
theorem QS.start {H:AH} (hw:Wf H) (hb:base≤H.next):QS (H.push (.map [])).2 s cell base H.next (.slice none 0 0) none ([]:List α):=
 ⟨.void none,SetIs.new,List.nodup_nil,hb,fun y hy=>by cases hy⟩
theorem QS.read {t e:Nat} (hu:P.underlying t=some (.slice e)) (hs:A7b P e=some s) (h:QS H s cell base g z ob T) {i:Nat} {a:α} (ha:T[i]?=some a):
  ∃ p,A2c P t z (.int .i64 (i:Int))=some (.pointer (some p))∧H.cells p s=some (cell a):=by
 obtain ⟨q,o,k,h1,h2,h3⟩:=h.td.toSl.at hu hs (i:=i) (x:=cell a) (by simp [ha]) .i64
 exact ⟨_,h1,h2⟩
theorem QS.len {t e:Nat} (hu:P.underlying t=some (.slice e)) (h:QS H s cell base g z ob T) (H':AH):A7a P .len [t] [z] H'=some (.int .i64 (T.length:Int),H'):=by
 rw [h.td.toSl.len hu,List.length_map]
theorem QS.add {tm kt e ts:Nat} (hu:P.underlying tm=some (.map kt e)) (hk:∀ a,A9j P kt (A40 cell a)=true) (heq:∀ a b,eqT P A7e kt (A40 cell a) (A40 cell b)=some (decide (a=b))) (hc:∀ a,(cell a).length=s)
  (hA:∀ (H:AH) (len cap:Nat) (b:Option Addr) (x:List Value),x.length=s→len≤1073741823→A7a P .append [ts,ts] [.slice b len cap,.slice (some ⟨H.next,0,some 0⟩) 1 1] (H.new s x).2=A0e s b len cap 1 x (H.new s x).2)
  (h:QS H s cell base g z ob T) (hw:Wf H) (hb:base≤H.next) {a:α} (ha:a∉T) (hl:T.length≤1073741823):
  ∃ H1 b cap z' H3 ob',A9e P tm (.map (some g)) (A40 cell a) (.bool true) H=some H1∧Chg (fun y=>y=g) H H1∧H1.next=H.next∧z=.slice b T.length cap∧
   A7a P .append [ts,ts] [.slice b T.length cap,.slice (some ⟨H1.next,0,some 0⟩) 1 1] (H1.new s (cell a)).2=some (z',H3)∧
   QS H3 s cell base g z' ob' (T++[a])∧Chg (QO g ob) H H3∧∀ y,QO g ob' y→QO g ob y∨H.next≤y:=by
 obtain ⟨H1,a1,a2,a3,a4⟩:=h.sn.add hu hk heq hw ha
 have b1:Buf H1 s z (T.map cell) ob:=h.td.chg hw a3 fun y hy hX=>(h.tb y hy).2 hX
 obtain ⟨b,cap,z',H3,ob',e1,e2,e3,e4,e5⟩:=b1.push a3.wf (x:=cell a) (hc a)
 rw [List.length_map] at e1 e2
 have ha':=hA H1 T.length cap b (cell a) (hc a) hl
 rw [e2] at ha'
 have hgl:=h.sn.lt hw
 refine ⟨H1,b,cap,z',H3,ob',a1,a3,a4,e1,ha',⟨?_,a2.keep (e4.old g (by omega) fun hX=>(h.tb g hX).2 rfl),?_,h.b0,fun y hy=>?_⟩,(a3.weak fun y hy=>.inl hy).trans (e4.weak fun y hy=>.inr hy),fun y hy=>?_⟩
 ·rw [List.map_append]; exact e3
 ·rw [List.nodup_append]
  exact ⟨h.nd,by simp,fun x hx y hy=>by rw [List.mem_singleton.1 hy]; rintro rfl; exact ha hx⟩
 ·rcases e5 y hy with h1 | h1
  ·exact h.tb y h1
  ·exact ⟨by omega,by omega⟩
 ·rcases hy with rfl | hy
  ·exact .inl (.inl rfl)
  ·rcases e5 y hy with h1 | h1
   ·exact .inl (.inr h1)
   ·exact .inr (by omega)
end
theorem wpo_two {P:Program} {O:A1c} {all ops:List Oper} {b:Code} {S:List Item} {Q:Fr→AH→Prop} {F:Fr} {H:AH} (M:Fr→AH→Prop) (hb:A01 b=true) (h:wpo P O all ops (wp P O [.code b] M) F H) (k:∀ F' H',M F' H'→wp P O S Q F' H'):wpo P O all ops (wp P O (.code b :: S) Q) F H:=by
 obtain ⟨n,F1,H1,h1,h2⟩:=h
 exact ⟨n,F1,H1,h1,wp_mid M hb h2 k⟩
theorem B9e {P:Program} {H:AH} {t e:Nat} {z x y:Value} (hu:P.underlying t=some (.slice e)) (hs:A7b P e=some 1) (hz:zeroAt P e=some z) (hl:isCell z=true) (hx:isCell x=true) (hy:isCell y=true):
  A5a P t 2 [(0,x),(1,y)] H=some (.slice (some ⟨H.next,0,some 0⟩) 2 2,(H.new 1 [x,y]).2):=by
 unfold A5a
 have e1:repl 2 (A8a z)=[z,z]:=by rw [A4d hl]; rfl
 simp only [hu,hs,hz,Option.bind_some,e1,A3y]
 rw [A4d hl,A4d hx,A4d hy]
 simp [hx,hy,setCells,A4a,A6b]
 rfl
theorem Cl.iff {α:Type} {R:α→α→Prop} {S:α→Prop} {l:List α} (h0:∀ s,S s→s∈l) (h1:∀ s∈l,Cl R S s) (h2:∀ s∈l,∀ t,R s t→t∈l) (t:α):t∈l↔Cl R S t:=
 ⟨h1 t,fun h=>h.of h0 fun s t hs hr=>h2 s hs t hr⟩
end Go.Proofs.Sh
