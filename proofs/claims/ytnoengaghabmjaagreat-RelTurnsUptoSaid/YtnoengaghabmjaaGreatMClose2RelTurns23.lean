/- A part of the proof: ShCompose. -/
import Derived.Test.YtnoengaghabmjaaGreatMClose2RelTurns11
set_option linter.unusedVariables false
set_option linter.unusedSimpArgs false
/- What is gone through breadth first, without a program: lists that grow by what is not in them; what two graphs make one behind the other's symbols. -/
set_option linter.unusedVariables false
set_option linter.unusedSimpArgs false
set_option linter.unusedSectionVars false
namespace Go.Proofs.Sh
open Go
section
variable {α β:Type} [DecidableEq α]
def B9c (T:List α) (x:α):List α:=if x∈T then T else T++[x]
def A1t (T:List α) (l:List α):List α:=l.foldl B9c T
theorem C1u (T:List α) (x:α):∃ U,B9c T x=T++U:=by
 unfold B9c
 split
 ·exact ⟨[],by simp⟩
 ·exact ⟨_,rfl⟩
theorem C3s (T l:List α) (x:α):A1t T (l++[x])=B9c (A1t T l) x:=by unfold A1t; rw [List.foldl_append]; rfl
theorem B61:∀ (l T:List α),∃ U,A1t T l=T++U
 | [],T=>⟨[],by simp [A1t]⟩
 | x :: l,T=>by
  obtain ⟨U,hU⟩:=C1u T x
  obtain ⟨V,hV⟩:=B61 l (B9c T x)
  refine ⟨U++V,?_⟩
  show A1t (B9c T x) l=_
  rw [hV,hU,List.append_assoc]
theorem C04 {T:List α} {x y:α}:y∈B9c T x↔y∈T∨y=x:=by
 unfold B9c
 split
 ·rename_i h
  exact ⟨.inl,fun h2=>h2.elim id fun e=>e ▸ h⟩
 ·simp
theorem A70 {y:α}:∀ {l T:List α},y∈A1t T l↔y∈T∨y∈l
 | [],T=>by simp [A1t]
 | x :: l,T=>by
  show y∈A1t (B9c T x) l↔_
  rw [A70 (l:=l),C04,List.mem_cons,or_assoc]
theorem C8c {T:List α} (h:T.Nodup) (x:α):(B9c T x).Nodup:=by
 unfold B9c
 split
 ·exact h
 ·rename_i hx
  rw [List.nodup_append]
  exact ⟨h,by simp,fun a ha b hb=>by rw [List.mem_singleton.1 hb]; rintro rfl; exact hx ha⟩
theorem A05:∀ {l T:List α},T.Nodup→(A1t T l).Nodup
 | [],_,h=>h
 | x :: l,T,h=>A05 (l:=l) (C8c h x)
variable {C:α→List α} {T0:List α}
end
section
variable {σ α β:Type} [DecidableEq σ]
end
end Go.Proofs.Sh
