/- A part of the proof: ShBits, ShPairs, ShMasks, ShKeys, ShQueue. -/
import Derived.Test.YtnoengaghabmjaaGreatMClose2RelTurns7
import Derived.Test.YtnoengaghabmjaaGreatMClose2RelTurns1
import Derived.Test.YtnoengaghabmjaaGreatMClose2RelTurns5
set_option linter.unusedVariables false
set_option linter.unusedSimpArgs false
/- Numbers of 64 bits as sets of places; what is reached, of any kind, and by layers. -/
set_option linter.unusedVariables false
set_option linter.unusedSimpArgs false
namespace Go.Proofs.Sh
open Go
section
variable {P:Program} {t:TypeId} {c:Bool}
end
inductive Cl {α:Type} (R:α→α→Prop) (S:α→Prop):α→Prop
 | base {s:α}:S s→Cl R S s
 | step {s t:α}:Cl R S s→R s t→Cl R S t
theorem Cl.of {α:Type} {R:α→α→Prop} {S Q:α→Prop} (h1:∀ s,S s→Q s) (h2:∀ s t,Q s→R s t→Q t) {t:α} (h:Cl R S t):Q t:=by
 induction h with
 | base h=>exact h1 _ h
 | step _ hr ih=>exact h2 _ _ ih hr
theorem Cl.congr {α:Type} {R R':α→α→Prop} {S S':α→Prop} (h1:∀ s,S s→S' s) (h2:∀ s t,R s t→R' s t) {t:α} (h:Cl R S t):Cl R' S' t:=
 h.of (fun s hs=>.base (h1 s hs)) fun s t hs hr=>.step hs (h2 s t hr)
def C9z {α:Type} (E:α→α→Prop) (A:Nat→α→α→Prop) (S:α→Prop):Nat→α→Prop
 | 0=>Cl E S
 | i+1=>Cl E fun b=>∃ a,C9z E A S i a∧A i a b
theorem layers {α:Type} {E:α→α→Prop} {A:Nat→α→α→Prop} {S:α→Prop} {i:Nat} {a:α}:
  Cl (fun p q:Nat×α=>p.1=q.1∧E p.2 q.2∨q.1=p.1+1∧A p.1 p.2 q.2) (fun p=>p.1=0∧S p.2) (i,a)↔C9z E A S i a:=by
 constructor
 ·intro h
  have:∀ p:Nat×α,Cl (fun p q:Nat×α=>p.1=q.1∧E p.2 q.2∨q.1=p.1+1∧A p.1 p.2 q.2) (fun p=>p.1=0∧S p.2) p→C9z E A S p.1 p.2:=by
   intro p hp
   refine hp.of (Q:=fun p=>C9z E A S p.1 p.2) ?_ ?_
   ·rintro ⟨i,a⟩ ⟨rfl,hs⟩
    exact .base hs
   ·rintro ⟨i,a⟩ ⟨k,b⟩ hl (⟨h1,h2⟩ | ⟨h1,h2⟩)
    ·simp only at h1 h2 hl
     subst h1
     cases i with
     | zero=>exact .step hl h2
     | succ i=>exact .step hl h2
    ·simp only at h1 h2 hl
     subst h1
     exact .base ⟨a,hl,h2⟩
  exact this _ h
 ·induction i generalizing a with
  | zero=>
   intro h
   refine Cl.of (Q:=fun a=>Cl _ _ ((0:Nat),a)) ?_ ?_ (show Cl E S a from h)
   ·exact fun s hs=>.base ⟨rfl,hs⟩
   ·exact fun s t hs hr=>.step hs (.inl ⟨rfl,hr⟩)
  | succ i ih=>
   intro h
   refine Cl.of (Q:=fun a=>Cl _ _ (i+1,a)) ?_ ?_ (show Cl E (fun b=>∃ a,C9z E A S i a∧A i a b) a from h)
   ·rintro b ⟨a,h1,h2⟩
    exact .step (ih h1) (.inr ⟨rfl,h2⟩)
   ·exact fun s t hs hr=>.step hs (.inl ⟨rfl,hr⟩)
end Go.Proofs.Sh
/- Relations of words without a program: ways along edges that read a symbol, or none, on either side; places in two words. -/
namespace Go.Proofs.Sh
open Go
section
variable {σ τ α:Type}
abbrev Arcs (σ α:Type):=σ→Option α→Option α→σ→Prop
inductive Way (A:Arcs σ α):σ→List α→List α→σ→Prop
 | nil (s:σ):Way A s [] [] s
 | cons {s t u:σ} {a b:Option α} {x y:List α}:A s a b t→Way A t x y u→Way A s (a.toList++x) (b.toList++y) u
theorem Way.app {A:Arcs σ α} {s t u:σ} {x y z w:List α} (h:Way A s x y t) (k:Way A t z w u):Way A s (x++z) (y++w) u:=by
 induction h with
 | nil s=>exact k
 | cons h1 _ ih=>rw [List.append_assoc,List.append_assoc]; exact .cons h1 (ih k)
theorem Way.one {A:Arcs σ α} {s t:σ} {a b:Option α} (h:A s a b t):Way A s a.toList b.toList t:=by
 have:=Way.cons h (Way.nil (A:=A) t)
 simpa using this
theorem Way.mono {A B:Arcs σ α} (h:∀ s a b t,A s a b t→B s a b t) {s t:σ} {x y:List α} (k:Way A s x y t):Way B s x y t:=by
 induction k with
 | nil s=>exact .nil s
 | cons h1 _ ih=>exact .cons (h _ _ _ _ h1) ih
theorem Way.map {β:Type} {A:Arcs σ α} {B:Arcs σ β} {f:α→β} (h:∀ s a b t,A s a b t→B s (a.map f) (b.map f) t) {s t:σ} {x y:List α} (k:Way A s x y t):Way B s (x.map f) (y.map f) t:=by
 induction k with
 | nil s=>exact .nil s
 | @cons s t u a b x y h1 _ ih=>
  have e:∀ o:Option α,(o.map f).toList=o.toList.map f:=fun o=>by cases o <;> rfl
  rw [List.map_append,List.map_append,← e,← e]
  exact .cons (h _ _ _ _ h1) ih
theorem Way.move {A:Arcs σ α} {B:Arcs τ α} {g:σ→τ} (h:∀ s a b t,A s a b t→B (g s) a b (g t)) {s t:σ} {x y:List α} (k:Way A s x y t):Way B (g s) x y (g t):=by
 induction k with
 | nil s=>exact .nil _
 | cons h1 _ ih=>exact .cons (h _ _ _ _ h1) ih
theorem Way.swap {A B:Arcs σ α} (h:∀ s a b t,A s a b t→B s b a t) {s t:σ} {x y:List α} (k:Way A s x y t):Way B s y x t:=by
 induction k with
 | nil s=>exact .nil _
 | cons h1 _ ih=>exact .cons (h _ _ _ _ h1) ih
theorem Way.keeps {A:Arcs σ α} {Q:σ→Prop} (h:∀ s a b t,Q s→A s a b t→Q t) {s t:σ} {x y:List α} (k:Way A s x y t) (hs:Q s):Q t:=by
 induction k with
 | nil s=>exact hs
 | cons h1 _ ih=>exact ih (h _ _ _ _ hs h1)
def B2v (w:List α) (i:Nat) (o:Option α) (j:Nat):Prop:=
 match o with
 | none=>j=i
 | some s=>w[i]?=some s∧j=i+1
theorem C4f {w:List α} {i j:Nat} {o:Option α} (h:B2v w i o j) (hi:i≤w.length):j≤w.length:=by
 cases o with
 | none=>rw [show j=i from h]; exact hi
 | some s=>have:=(List.getElem?_eq_some_iff.1 h.1).1; rw [h.2]; omega
theorem B4r {w:List α} {i j:Nat} {o:Option α} (h:B2v w i o j):w.drop i=o.toList++w.drop j∧j=i+o.toList.length:=by
 cases o with
 | none=>rw [show j=i from h]; exact ⟨rfl,rfl⟩
 | some s=>
  obtain ⟨h1,rfl⟩:=h
  obtain ⟨h2,h3⟩:=List.getElem?_eq_some_iff.1 h1
  rw [List.drop_eq_getElem_cons h2,h3]
  exact ⟨rfl,rfl⟩
theorem C7g {w:List α} {i:Nat} {o:Option α} {u:List α} (h:w.drop i=o.toList++u):B2v w i o (i+o.toList.length)∧w.drop (i+o.toList.length)=u:=by
 cases o with
 | none=>exact ⟨rfl,h⟩
 | some s=>
  have h':w.drop i=s :: u:=h
  have hl:i < w.length:=by
   rcases Nat.lt_or_ge i w.length with h1 | h1
   ·exact h1
   ·rw [List.drop_of_length_le h1] at h'; cases h'
  rw [List.drop_eq_getElem_cons hl] at h'
  injection h' with h1 h2
  exact ⟨⟨by rw [List.getElem?_eq_getElem hl,h1],rfl⟩,h2⟩
def A23 (A:Arcs σ α) (x y:List α) (p q:σ×Nat×Nat):Prop:=∃ a b,A p.1 a b q.1∧B2v x p.2.1 a q.2.1∧B2v y p.2.2 b q.2.2
theorem Cl.trans {β:Type} {R:β→β→Prop} {S:β→Prop} {p t:β} (h:Cl R (fun q=>q=p) t) (hp:Cl R S p):Cl R S t:=
 h.of (Q:=Cl R S) (fun s hs=>by rw [hs]; exact hp) fun s t hs hr=>.step hs hr
theorem C2n {A:Arcs σ α} {s t:σ} {u v:List α} (h:Way A s u v t) {x y x' y':List α} {i j:Nat} (hx:x.drop i=u++x') (hy:y.drop j=v++y'):
  Cl (A23 A x y) (fun q=>q=(s,i,j)) (t,i+u.length,j+v.length):=by
 induction h generalizing i j with
 | nil s=>exact .base rfl
 | @cons s t w a b u v h1 _ ih=>
  rw [List.append_assoc] at hx hy
  obtain ⟨h2,h3⟩:=C7g hx
  obtain ⟨h4,h5⟩:=C7g hy
  have:=ih h3 h5
  rw [List.length_append,List.length_append,← Nat.add_assoc,← Nat.add_assoc]
  exact this.trans (.step (.base rfl) ⟨a,b,h1,h2,h4⟩)
theorem C7e {A:Arcs σ α} {x y:List α} {S:σ×Nat×Nat→Prop} {p:σ×Nat×Nat} (h:Cl (A23 A x y) S p):
  ∃ q u v,S q∧Way A q.1 u v p.1∧x.drop q.2.1=u++x.drop p.2.1∧y.drop q.2.2=v++y.drop p.2.2∧p.2.1=q.2.1+u.length∧p.2.2=q.2.2+v.length:=by
 refine h.of (Q:=fun p=>∃ q u v,S q∧Way A q.1 u v p.1∧x.drop q.2.1=u++x.drop p.2.1∧y.drop q.2.2=v++y.drop p.2.2∧p.2.1=q.2.1+u.length∧p.2.2=q.2.2+v.length) ?_ ?_
 ·intro q hq
  exact ⟨q,[],[],hq,.nil _,rfl,rfl,rfl,rfl⟩
 ·rintro p r ⟨q,u,v,h1,h2,h3,h4,h5,h6⟩ ⟨a,b,h7,h8,h9⟩
  obtain ⟨h10,h11⟩:=B4r h8
  obtain ⟨h12,h13⟩:=B4r h9
  refine ⟨q,u++a.toList,v++b.toList,h1,h2.app (Way.one h7),?_,?_,?_,?_⟩
  ·rw [h3,h10,List.append_assoc]
  ·rw [h4,h12,List.append_assoc]
  ·rw [h11,h5,List.length_append]; omega
  ·rw [h13,h6,List.length_append]; omega
theorem places {A:Arcs σ α} {x y:List α} {s t:σ}:Cl (A23 A x y) (fun q=>q=(s,0,0)) (t,x.length,y.length)↔Way A s x y t:=by
 constructor
 ·intro h
  obtain ⟨q,u,v,rfl,h1,h2,h3,_,_⟩:=C7e h
  simp only [List.drop_zero,List.drop_length,List.append_nil] at h2 h3
  rw [h2,h3]; exact h1
 ·intro h
  have:=C2n h (x:=x) (y:=y) (x':=[]) (y':=[]) (i:=0) (j:=0) (by simp) (by simp)
  simpa using this
end
end Go.Proofs.Sh
/- Sets of places as numbers of 64 bits: what a symbol does to them. -/
namespace Go.Proofs.Sh
open Go
section
variable {P:Program} {t:TypeId} {c:Bool}
end
def labN (k:Int):Option Nat:=if k < 0 then none else some k.toNat
def within (n m:Nat):Prop:=∀ j,m.testBit j=true→j≤n
end Go.Proofs.Sh
/- Maps that have true for some keys. -/
namespace Go.Proofs.Sh
open Go
theorem B4o {α:Type} [DecidableEq α] (v:Value) (D:List α) (t:α):A0u (D.map fun t=>(t,v)) t=if t∈D then some v else none:=by
 unfold A0u
 by_cases h:t∈D
 ·rw [if_pos h]
  cases hf:(D.map fun t=>(t,v)).find? fun p=>decide (t=p.1) with
  | none=>
   rw [List.find?_eq_none] at hf
   have:=hf (t,v) (List.mem_map.2 ⟨t,h,rfl⟩)
   simp at this
  | some p=>
   have:=List.mem_of_find?_eq_some hf
   obtain ⟨u,_,rfl⟩:=List.mem_map.1 this
   rfl
 ·rw [if_neg h]
  have:(D.map fun t=>(t,v)).find? (fun p=>decide (t=p.1))=none:=by
   rw [List.find?_eq_none]
   rintro p hp
   obtain ⟨u,hu,rfl⟩:=List.mem_map.1 hp
   simp only [decide_eq_true_eq]
   rintro rfl
   exact h hu
  rw [this]; rfl
def SetIs {α:Type} (H:AH) (g:Nat) (f:α→Value) (D:List α):Prop:=MapIs H g f (D.map fun t=>(t,.bool true))
theorem SetIs.new {α:Type} {H:AH} {f:α→Value}:SetIs (H.push (.map [])).2 H.next f ([]:List α):=MapIs.new
section
variable {α:Type} [DecidableEq α] {P:Program} {H:AH} {t kt e g:Nat} {f:α→Value} {D:List α}
theorem SetIs.keep {H':AH} (h:SetIs H g f D) (hg:H'.objs.get g=H.objs.get g):SetIs H' g f D:=MapIs.keep h hg
theorem SetIs.lt (h:SetIs H g f D) (hw:Wf H):g < H.next:=MapIs.lt h hw
theorem SetIs.look (hu:P.underlying t=some (.map kt e)) (hz:zeroAt P e=some (.bool false)) (hk:∀ a,A4n P kt (f a)=true) (heq:∀ a b,eqT P A5h kt (f a) (f b)=some (decide (a=b)))
  (h:SetIs H g f D) (a:α):A9p P t (.map (some g)) (f a) false H=some (.bool (decide (a∈D))):=by
 have:=MapIs.look (ok:=false) hu hz hk heq h a
 rw [this,B4o]
 by_cases hd:a∈D <;> simp [hd]
theorem SetIs.add (hu:P.underlying t=some (.map kt e)) (hk:∀ a,A4n P kt (f a)=true) (heq:∀ a b,eqT P A5h kt (f a) (f b)=some (decide (a=b)))
  (h:SetIs H g f D) (hw:Wf H) {a:α} (ha:a∉D):∃ H',A7h P t (.map (some g)) (f a) (.bool true) H=some H'∧SetIs H' g f (D++[a])∧Chg (fun y=>y=g) H H'∧H'.next=H.next:=by
 obtain ⟨H',h1,h2,h3,h4⟩:=MapIs.add hu hk heq h hw (a:=a) (by rw [B4o,if_neg ha]) (.bool true)
 exact ⟨H',h1,by unfold SetIs; rw [List.map_append]; exact h2,h3,h4⟩
end
theorem C0w {a b c:Nat} {l:List (Nat×Nat×Nat)} (hn:l.Nodup) (h:∀ p∈l,p.1 < a∧p.2.1 < b∧p.2.2 < c):l.length≤a * b * c:=by
  have h1:(l.map fun p=>(p.1 * b+p.2.1) * c+p.2.2).Nodup:=by
    rw [List.nodup_iff_pairwise_ne] at hn ⊢
    rw [List.pairwise_map]
    refine hn.imp_of_mem fun {p q} hp hq hne he=>hne ?_
    obtain ⟨h1,h2,h3⟩:=h p hp
    obtain ⟨h4,h5,h6⟩:=h q hq
    have e3:p.2.2=q.2.2:=by
      have := congrArg (· % c) he
      simp only [Nat.mul_comm _ c,Nat.mul_add_mod] at this
      rwa [Nat.mod_eq_of_lt h3,Nat.mod_eq_of_lt h6] at this
    have e2:p.1 * b+p.2.1=q.1 * b+q.2.1:=by
      rw [e3] at he
      exact Nat.eq_of_mul_eq_mul_right (by omega) (Nat.add_right_cancel he)
    have e1:p.2.1=q.2.1:=by
      have := congrArg (· % b) e2
      simp only [Nat.mul_comm _ b,Nat.mul_add_mod] at this
      rwa [Nat.mod_eq_of_lt h2,Nat.mod_eq_of_lt h5] at this
    have e0:p.1=q.1:=by
      rw [e1] at e2
      exact Nat.eq_of_mul_eq_mul_right (by omega) (Nat.add_right_cancel e2)
    exact Prod.ext e0 (Prod.ext e1 e3)
  have h2:=B2d (n:=a * b * c) h1 fun x hx=>by
    obtain ⟨p,hp,rfl⟩:=List.mem_map.1 hx
    obtain ⟨h1,h2,h3⟩:=h p hp
    have e1:p.1 * b+p.2.1 < a * b:=by
      have:(p.1+1) * b≤a * b:=Nat.mul_le_mul_right b h1
      rw [Nat.succ_mul] at this
      omega
    have:(p.1 * b+p.2.1+1) * c≤a * b * c:=Nat.mul_le_mul_right c e1
    rw [Nat.succ_mul] at this
    show (p.1 * b+p.2.1) * c+p.2.2 < a * b * c
    omega
  rwa [List.length_map] at h2
end Go.Proofs.Sh
/- A list that grows, with a map of what is in it. -/
set_option linter.unusedSectionVars false
namespace Go.Proofs.Sh
open Go
def A08 {α:Type} (cell:α→List Value) (a:α):Value:=.agg (cell a).toArray
structure QS {α:Type} (H:AH) (s:Nat) (cell:α→List Value) (base g:Nat) (z:Value) (ob:Option Nat) (T:List α):Prop where
 td:Buf H s z (T.map cell) ob
 sn:SetIs H g (A08 cell) T
 nd:T.Nodup
 b0:base≤g
 tb:∀ y,ob=some y→base≤y∧y≠g
def QO (g:Nat) (ob:Option Nat) (y:Nat):Prop:=y=g∨ob=some y
section
variable {α:Type} [DecidableEq α] {P:Program} {H H':AH} {s base g:Nat} {cell:α→List Value} {z:Value} {ob:Option Nat} {T:List α}
theorem QS.lt (h:QS H s cell base g z ob T) (hw:Wf H):∀ y,QO g ob y→y < H.next:=by
 rintro y (rfl | hy)
 ·exact h.sn.lt hw
 ·exact h.td.lt hw y hy
theorem QS.ge (h:QS H s cell base g z ob T):∀ y,QO g ob y→base≤y:=by
 rintro y (rfl | hy)
 ·exact h.b0
 ·exact (h.tb y hy).1
theorem QS.chg (h:QS H s cell base g z ob T) (hw:Wf H) {X:Nat→Prop} (hc:Chg X H H') (hx:∀ y,X y→¬QO g ob y):QS H' s cell base g z ob T:=
 ⟨h.td.chg hw hc fun y hy hX=>hx y hX (.inr hy),h.sn.keep (hc.old g (h.sn.lt hw) fun hX=>hx g hX (.inl rfl)),h.nd,h.b0,h.tb⟩
theorem QS.kept (h:QS H s cell base g z ob T) (hw:Wf H) (hk:Kept H H'):QS H' s cell base g z ob T:=h.chg hw (hk.chg (X:=none')) fun y hy=>hy.elim
theorem QS.start {H:AH} (hw:Wf H) (hb:base≤H.next):QS (H.push (.map [])).2 s cell base H.next (.slice none 0 0) none ([]:List α):=
 ⟨.void none,SetIs.new,List.nodup_nil,hb,fun y hy=>by cases hy⟩
theorem QS.read {t e:Nat} (hu:P.underlying t=some (.slice e)) (hs:A8c P e=some s) (h:QS H s cell base g z ob T) {i:Nat} {a:α} (ha:T[i]?=some a):
  ∃ p,A4c P t z (.int .i64 (i:Int))=some (.pointer (some p))∧H.cells p s=some (cell a):=by
 obtain ⟨q,o,k,h1,h2,h3⟩:=h.td.toSl.at hu hs (i:=i) (x:=cell a) (by simp [ha]) .i64
 exact ⟨_,h1,h2⟩
theorem QS.len {t e:Nat} (hu:P.underlying t=some (.slice e)) (h:QS H s cell base g z ob T) (H':AH):A6a P .len [t] [z] H'=some (.int .i64 (T.length:Int),H'):=by
 rw [h.td.toSl.len hu,List.length_map]
theorem QS.add {tm kt e ts:Nat} (hu:P.underlying tm=some (.map kt e)) (hk:∀ a,A4n P kt (A08 cell a)=true) (heq:∀ a b,eqT P A5h kt (A08 cell a) (A08 cell b)=some (decide (a=b))) (hc:∀ a,(cell a).length=s)
  (hA:∀ (H:AH) (len cap:Nat) (b:Option Addr) (x:List Value),x.length=s→len≤1073741823→A6a P .append [ts,ts] [.slice b len cap,.slice (some ⟨H.next,0,some 0⟩) 1 1] (H.new s x).2=A9f s b len cap 1 x (H.new s x).2)
  (h:QS H s cell base g z ob T) (hw:Wf H) (hb:base≤H.next) {a:α} (ha:a∉T) (hl:T.length≤1073741823):
  ∃ H1 b cap z' H3 ob',A7h P tm (.map (some g)) (A08 cell a) (.bool true) H=some H1∧Chg (fun y=>y=g) H H1∧H1.next=H.next∧z=.slice b T.length cap∧
   A6a P .append [ts,ts] [.slice b T.length cap,.slice (some ⟨H1.next,0,some 0⟩) 1 1] (H1.new s (cell a)).2=some (z',H3)∧
   QS H3 s cell base g z' ob' (T++[a])∧Chg (QO g ob) H H3∧∀ y,QO g ob' y→QO g ob y∨H.next≤y:=by
 obtain ⟨H1,a1,a2,a3,a4⟩:=h.sn.add hu hk heq hw ha
 have b1:Buf H1 s z (T.map cell) ob:=h.td.chg hw a3 fun y hy hX=>(h.tb y hy).2 hX
 obtain ⟨b,cap,z',H3,ob',e1,e2,e3,e4,e5⟩:=b1.push a3.wf (x:=cell a) (hc a)
 rw [List.length_map] at e1 e2
 have ha':=hA H1 T.length cap b (cell a) (hc a) hl
 rw [e2] at ha'
 have hgl:=h.sn.lt hw
 refine ⟨H1,b,cap,z',H3,ob',a1,a3,a4,e1,ha',⟨?_,a2.keep (e4.old g (by omega) fun hX=>(h.tb g hX).2 rfl),?_,h.b0,fun y hy=>?_⟩,(a3.weak fun y hy=>.inl hy).trans (e4.weak fun y hy=>.inr hy),fun y hy=>?_⟩
 ·rw [List.map_append]; exact e3
 ·rw [List.nodup_append]
  exact ⟨h.nd,by simp,fun x hx y hy=>by rw [List.mem_singleton.1 hy]; rintro rfl; exact ha hx⟩
 ·rcases e5 y hy with h1 | h1
  ·exact h.tb y h1
  ·exact ⟨by omega,by omega⟩
 ·rcases hy with rfl | hy
  ·exact .inl (.inl rfl)
  ·rcases e5 y hy with h1 | h1
   ·exact .inl (.inr h1)
   ·exact .inr (by omega)
end
theorem wpo_two {P:Program} {O:A0e} {all ops:List Oper} {b:Code} {S:List Item} {Q:Fr→AH→Prop} {F:Fr} {H:AH} (M:Fr→AH→Prop) (hb:A83 b=true) (h:wpo P O all ops (wp P O [.code b] M) F H) (k:∀ F' H',M F' H'→wp P O S Q F' H'):wpo P O all ops (wp P O (.code b :: S) Q) F H:=by
 obtain ⟨n,F1,H1,h1,h2⟩:=h
 exact ⟨n,F1,H1,h1,B91 M hb h2 k⟩
theorem C5q {P:Program} {H:AH} {t e:Nat} {z x y:Value} (hu:P.underlying t=some (.slice e)) (hs:A8c P e=some 1) (hz:zeroAt P e=some z) (hl:isCell z=true) (hx:isCell x=true) (hy:isCell y=true):
  A9a P t 2 [(0,x),(1,y)] H=some (.slice (some ⟨H.next,0,some 0⟩) 2 2,(H.new 1 [x,y]).2):=by
 unfold A9a
 have e1:repl 2 (A0b z)=[z,z]:=by rw [A7b hl]; rfl
 simp only [hu,hs,hz,Option.bind_some,e1,A5u]
 rw [A7b hl,A7b hx,A7b hy]
 simp [hx,hy,setCells,A8a,A3c]
 rfl
theorem Cl.iff {α:Type} {R:α→α→Prop} {S:α→Prop} {l:List α} (h0:∀ s,S s→s∈l) (h1:∀ s∈l,Cl R S s) (h2:∀ s∈l,∀ t,R s t→t∈l) (t:α):t∈l↔Cl R S t:=
 ⟨h1 t,fun h=>h.of h0 fun s t hs hr=>h2 s hs t hr⟩
end Go.Proofs.Sh
