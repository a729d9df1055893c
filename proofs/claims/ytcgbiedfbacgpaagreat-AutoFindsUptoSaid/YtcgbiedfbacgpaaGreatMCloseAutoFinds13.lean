/- A part of the proof: ShRing. -/
import Derived.Test.YtcgbiedfbacgpaaGreatMCloseAutoFinds11
set_option linter.unusedVariables false
set_option linter.unusedSimpArgs false
/- The classes of states that reach each other, found by going backwards from the last that is open. -/
set_option linter.unusedVariables false
set_option linter.unusedSimpArgs false
namespace Go.Proofs.Sh
open Go
structure RingI (adj:Nat→List Nat) (ord:List Nat) (C:Nat→Option Nat) (M:List Nat) (i:Nat):Prop where
 done:∀ x∈ord.drop i,x∈M
 shut:∀ x y,x∈M→Both adj x y→y∈M
 cls:∀ x∈M,∃ c,C x=some c∧Both adj c x
 eq:∀ x y,x∈M→y∈M→Both adj x y→C x=C y
theorem RingI.start (adj:Nat→List Nat) (ord:List Nat) (C:Nat→Option Nat):RingI adj ord C [] ord.length:=
 ⟨fun x hx=>(by simp at hx),fun x y hx=>(by cases hx),fun x hx=>(by cases hx),fun x y hx=>(by cases hx)⟩
theorem RingI.step {adj bdj:Nat→List Nat} {ord:List Nat} {C C':Nat→Option Nat} {M M' F:List Nat} {i r:Nat} (h:RingI adj ord C M (i+1)) (hb:∀ a b,b∈bdj a↔a∈adj b) (ho:OrdOk adj ord) (hr:ord[i]?=some r) (hall:∀ x,Rch adj x r→x∈ord)
  (hF:r∈M∧F=[]∨Dfs bdj (fun x=>x∈M) r F []) (hM:∀ t,t∈M'↔t∈M∨t∈F) (hC:∀ x,C' x=if x∈F then some r else C x):RingI adj ord C' M' i:=by
 have hi:=(List.getElem?_eq_some_iff.1 hr).1
 have hdr:ord.drop i=r :: ord.drop (i+1):=by rw [List.drop_eq_getElem_cons hi,(List.getElem?_eq_some_iff.1 hr).2]
 rcases hF with ⟨h1,rfl⟩ | hd
 ·have hMM:∀ t,t∈M'↔t∈M:=fun t=>by rw [hM]; simp
  have hCC:∀ x,C' x=C x:=fun x=>by rw [hC]; simp
  refine ⟨fun x hx=>?_,fun x y hx hxy=>(hMM y).2 (h.shut x y ((hMM x).1 hx) hxy),fun x hx=>by rw [hCC]; exact h.cls x ((hMM x).1 hx),fun x y hx hy hxy=>by rw [hCC,hCC]; exact h.eq x y ((hMM x).1 hx) ((hMM y).1 hy) hxy⟩
  rw [hdr] at hx
  rcases List.mem_cons.1 hx with h2 | h2
  ·rw [h2]; exact (hMM r).2 h1
  ·exact (hMM x).2 (h.done x h2)
 ·have hrM:r∉M:=hd.inv.out r (by simpa using hd.inv.has)
  have hring:∀ x,x∈F↔Both adj r x:=fun x=>(hd.reach x).trans (ring_of hb ho (A:=ord.take i) (B:=ord.drop (i+1)) (by rw [← hdr]; exact (List.take_append_drop i ord).symm) h.done h.shut hrM hall x)
  have hno:∀ x,x∈M→x∉F:=fun x hx hf=>hrM (h.shut x r hx ((hring x).1 hf).symm)
  refine ⟨fun x hx=>?_,fun x y hx hxy=>?_,fun x hx=>?_,fun x y hx hy hxy=>?_⟩
  ·rw [hdr] at hx
   rcases List.mem_cons.1 hx with h2 | h2
   ·rw [h2]; exact (hM r).2 (.inr ((hring r).2 ⟨.refl r,.refl r⟩))
   ·exact (hM x).2 (.inl (h.done x h2))
  ·rcases (hM x).1 hx with h2 | h2
   ·exact (hM y).2 (.inl (h.shut x y h2 hxy))
   ·exact (hM y).2 (.inr ((hring y).2 (((hring x).1 h2).trans hxy)))
  ·rw [hC]
   rcases (hM x).1 hx with h2 | h2
   ·rw [if_neg (hno x h2)]; exact h.cls x h2
   ·rw [if_pos h2]; exact ⟨r,rfl,(hring x).1 h2⟩
  ·have hxf : x ∈ F ↔ y ∈ F := by
     rw [hring, hring]
     exact ⟨fun k => k.trans hxy, fun k => k.trans hxy.symm⟩
   rw [hC, hC]
   by_cases h2 : x ∈ F
   · rw [if_pos h2, if_pos (hxf.1 h2)]
   · have h3 : y ∉ F := fun k => h2 (hxf.2 k)
     rw [if_neg h2, if_neg h3]
     exact h.eq x y (((hM x).1 hx).resolve_right h2) (((hM y).1 hy).resolve_right h3) hxy
theorem RingI.fin {adj:Nat→List Nat} {ord:List Nat} {C:Nat→Option Nat} {M:List Nat} (h:RingI adj ord C M 0) {x y:Nat} (hx:x∈ord) (hy:y∈ord):C x=C y↔Both adj x y:=by
 have mx:=h.done x (by simpa using hx)
 have my:=h.done y (by simpa using hy)
 refine ⟨fun he=>?_,fun hb=>h.eq x y mx my hb⟩
 obtain ⟨c,h1,h2⟩:=h.cls x mx
 obtain ⟨d,h3,h4⟩:=h.cls y my
 rw [h1,h3] at he
 rw [← Option.some.inj he] at h4
 exact h2.symm.trans h4
theorem OrdOk.none (adj:Nat→List Nat):OrdOk adj []:=⟨by simp,fun u hu=>(by cases hu),fun u hu=>(by cases hu)⟩
theorem OrdOk.step {adj:Nat→List Nat} {ord M F:List Nat} {s:Nat} (h:OrdOk adj ord) (hM:∀ t,t∈M↔t∈ord) (hF:s∈M∧F=[]∨Dfs adj (fun x=>x∈M) s F []):OrdOk adj (ord++F)∧s∈ord++F:=by
 rcases hF with ⟨h1,rfl⟩ | hd
 ·rw [List.append_nil]; exact ⟨h,(hM s).1 h1⟩
 ·have hs:=hd.inv.has
  rw [show (fun x=>x∈M)=fun x=>x∈ord from funext fun x=>propext (hM x)] at hd
  exact ⟨hd.ok h,List.mem_append_right _ (by simpa using hs)⟩
end Go.Proofs.Sh
