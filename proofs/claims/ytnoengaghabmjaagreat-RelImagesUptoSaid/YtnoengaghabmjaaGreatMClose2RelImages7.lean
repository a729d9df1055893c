/- A part of the proof: ShMade, ShRev. -/
import Derived.Test.YtnoengaghabmjaaGreatMClose2RelImages5
set_option linter.unusedVariables false
set_option linter.unusedSimpArgs false
/- Open regions with effects in place, of which room that is made ahead of them is shown to be as it was. -/
set_option linter.unusedVariables false
set_option linter.unusedSimpArgs false
namespace Go.Proofs.Sh
open Go
def B6y {α:Type}:List Bool→List α→List α
 | true :: bs,p :: ps=>p :: B6y bs ps
 | false :: bs,p :: ps=>B6y bs ps
 | _,_=>[]
section
variable {P:Program}
theorem B1q {α:Type} (f:Nat→Bool):∀ (is:List Nat) (qs:List α),(is.filter f).zip (B6y (is.map f) qs)=(is.zip qs).filter fun z=>f z.1
 | [],_=>by simp
 | i :: is,[]=>by
  have:B6y ((i :: is).map f) ([]:List α)=[]:=by
   simp only [List.map_cons]
   cases f i <;> rfl
  rw [this]; simp
 | i :: is,q :: qs=>by
  have ih:=B1q f is qs
  cases hf:f i with
  | true=>simp [B6y,hf,ih]
  | false=>simp [B6y,hf,ih]
def LiveM (all:List Oper) (G:Fr) (l:List Nat) (pb mb:List Nat) (ms:List (AH→Prop)) (p:Pend):Prop:=match p with
 | .read i F v=>p.at_∈pb∧Live all G l p
 | .made i g x=>∃ z∈mb.zip ms,z.1=i∧∀ H,z.2 H→Val P all H p
theorem LiveM.put {all:List Oper} {G:Fr} {l:List Nat} {pb pb' mb:List Nat} {ms:List (AH→Prop)} {i:Nat} {o:Oper} {v:Value} (ho:all[i]?=some o) {p:Pend} (h:LiveM (P:=P) all G (i :: l) pb mb ms p) (hb:∀ k∈pb,k∈pb'):LiveM (P:=P) all (put G o.dst v) l pb' mb ms p:=by
 cases p with
 | read k F w=>exact ⟨hb _ h.1,h.2.put ho⟩
 | made k g x=>exact h
theorem LiveM.more {all:List Oper} {G:Fr} {l:List Nat} {pb mb:List Nat} {ms:List (AH→Prop)} {p:Pend} {i:Nat} {q:AH→Prop} (h:LiveM (P:=P) all G l pb mb ms p):LiveM (P:=P) all G l pb (i :: mb) (q :: ms) p:=by
 cases p with
 | read k F w=>exact h
 | made k g x=>
  obtain ⟨z,h1,h2⟩:=h
  exact ⟨z,List.mem_cons_of_mem _ h1,h2⟩
theorem LiveM.keep {all:List Oper} {G:Fr} {l:List Nat} {pb pb' mb:List Nat} {ms:List (AH→Prop)} {p:Pend} {f:Nat→Bool} (h:LiveM (P:=P) all G l pb mb ms p) (hp:p.at_∈pb→p.at_∈pb') (hf:f p.at_=true):LiveM (P:=P) all G l pb' (mb.filter f) (B6y (mb.map f) ms) p:=by
 cases p with
 | read k F w=>exact ⟨hp h.1,h.2⟩
 | made k g x=>
  obtain ⟨z,h1,h2,h3⟩:=h
  refine ⟨z,?_,h2,h3⟩
  rw [B1q]
  exact List.mem_filter.2 ⟨h1,by rw [h2]; exact hf⟩
end
variable {P:Program} {O:A9c} {S:List Item} {Q:Fr→AH→Prop} {F:Fr} {H:AH}
end Go.Proofs.Sh
/- Paths, words read from their ends; a graph in memory that keeps to its own places. -/
set_option linter.unusedSectionVars false
namespace Go.Proofs.Sh
open Go
inductive Path (G:ByteArray→Nat→Nat→Prop):Nat→List ByteArray→Nat→Prop
 | nil (s:Nat):Path G s [] s
 | eps {s t u:Nat} {w:List ByteArray}:G A0p s t→Path G t w u→Path G s w u
 | sym {s t u:Nat} {w:List ByteArray} {x:ByteArray}:x≠A0p→G x s t→Path G t w u→Path G s (x :: w) u
section
variable {G:ByteArray→Nat→Nat→Prop}
theorem Path.append {s t v:Nat} {a b:List ByteArray} (h:Path G s a t) (k:Path G t b v):Path G s (a++b) v:=by
 induction h with
 | nil s=>exact k
 | eps h _ ih=>exact .eps h (ih k)
 | sym hx h _ ih=>exact .sym hx h (ih k)
theorem Path.ne {s t:Nat} {w:List ByteArray} (h:Path G s w t):∀ x∈w,x≠A0p:=by
 induction h with
 | nil s=>intro x hx; cases hx
 | eps _ _ ih=>exact ih
 | sym hx _ _ ih=>
  intro y hy
  rcases List.mem_cons.1 hy with rfl | hy
  ·exact hx
  ·exact ih y hy
end
def ownG (g:Nat) (os ot oe oc:Option Nat) (obs:List (Option Nat)) (y:Nat):Prop:=y=g∨os=some y∨JIn ot obs y∨oe=some y∨oc=some y
def GrX (H:AH) (X:Nat→Prop) (g:Nat) (sigma:List ByteArray) (rows:List (List (List Value))) (ends costs:List Int):Prop:=
 ∃ sv av ev cv os ot oe oc vals obs,GrB H 0 g sv av ev cv os ot oe oc vals obs sigma rows ends costs∧∀ y,ownG g os ot oe oc obs y→X y
section
variable {H H':AH} {X Z:Nat→Prop} {base g:Nat} {sigma:List ByteArray} {rows:List (List (List Value))} {ends costs:List Int}
theorem Gr.own (h:Gr H base g sigma rows ends costs) (hw:Wf H):GrX H (fun y=>base≤y∧y < H.next) g sigma rows ends costs:=by
 obtain ⟨sv,av,ev,cv,os,ot,oe,oc,vals,obs,h⟩:=h
 refine ⟨sv,av,ev,cv,os,ot,oe,oc,vals,obs,{ h with fg:=Nat.zero_le _,fs:=fun _ _=>Nat.zero_le _,fj:=fun _ _=>Nat.zero_le _,fe:=fun _ _=>Nat.zero_le _,fc:=fun _ _=>Nat.zero_le _ },?_⟩
 rintro y (rfl | hy | hy | hy | hy)
 ·exact ⟨h.fg,h.arr.lt hw⟩
 ·exact ⟨h.fs y hy,h.sg.lt hw y hy⟩
 ·exact ⟨h.fj y hy,h.jag.lt hw y hy⟩
 ·exact ⟨h.fe y hy,h.en.lt hw y hy⟩
 ·exact ⟨h.fc y hy,h.co.lt hw y hy⟩
theorem GrX.mono (h:GrX H X g sigma rows ends costs) (hx:∀ y,X y→Z y):GrX H Z g sigma rows ends costs:=by
 obtain ⟨sv,av,ev,cv,os,ot,oe,oc,vals,obs,h,ho⟩:=h
 exact ⟨sv,av,ev,cv,os,ot,oe,oc,vals,obs,h,fun y hy=>hx y (ho y hy)⟩
theorem GrX.chg (h:GrX H X g sigma rows ends costs) (hw:Wf H) (hc:Chg Z H H') (hx:∀ y,X y→¬Z y):GrX H' X g sigma rows ends costs:=by
 obtain ⟨sv,av,ev,cv,os,ot,oe,oc,vals,obs,h,ho⟩:=h
 refine ⟨sv,av,ev,cv,os,ot,oe,oc,vals,obs,{ h with arr:=h.arr.keep (hc.old g (h.arr.lt hw) (hx g (ho g (.inl rfl)))),sg:=h.sg.chg hw hc fun y hy=>hx y (ho y (.inr (.inl hy))),jag:=h.jag.chg hw hc fun y hy=>hx y (ho y (.inr (.inr (.inl hy)))),en:=h.en.chg hw hc fun y hy=>hx y (ho y (.inr (.inr (.inr (.inl hy))))),co:=h.co.chg hw hc fun y hy=>hx y (ho y (.inr (.inr (.inr (.inr hy))))) },ho⟩
theorem GrX.kept (h:GrX H X g sigma rows ends costs) (hw:Wf H) (hk:Kept H H'):GrX H' X g sigma rows ends costs:=h.chg hw (hk.chg (X:=none')) fun _ _ h=>h
theorem GrX.read (h:GrX H X g sigma rows ends costs):∃ sv av ev cv vals,GrR H g sv av ev cv vals sigma rows ends costs:=by
 obtain ⟨sv,av,ev,cv,os,ot,oe,oc,vals,obs,h,_⟩:=h
 exact ⟨sv,av,ev,cv,vals,h.arr,h.sg.toSl,h.jag.read,h.en.toSl,h.co.toSl⟩
end
end Go.Proofs.Sh
