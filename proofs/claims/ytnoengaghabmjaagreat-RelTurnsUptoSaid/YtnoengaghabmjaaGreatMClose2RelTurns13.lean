/- A part of the proof: ShWords. -/
import Derived.Test.YtnoengaghabmjaaGreatMClose2RelTurns7
set_option linter.unusedVariables false
set_option linter.unusedSimpArgs false
/- Words of an automaton, by their length and in order; which lengths they have. -/
set_option linter.unusedVariables false
set_option linter.unusedSimpArgs false
namespace Go.Proofs.Sh
open Go
noncomputable def tB (p:Prop):Bool:=@decide p (Classical.propDecidable p)
theorem A55 {p:Prop}:tB p=true↔p:=@decide_eq_true_iff p (Classical.propDecidable p)
theorem A37 {p q:Prop} (h:p↔q):tB p=tB q:=by rw [propext h]
section
variable {α β:Type}
end
section
variable {E:Nat→Nat→Prop} {A:Nat→Nat→Nat→Prop} {end_:Nat→Prop}
def accS {L:Type} (E:Nat→Nat→Prop) (A:L→Nat→Nat→Prop) (end_:Nat→Prop) (S:Nat→Prop) (w:List L):Prop:=∃ t,RunS E A S w t∧end_ t
theorem B9i {E:Nat→Nat→Prop} {B:Nat→Prop} {t:Nat}:Clo E B t↔∃ s,B s∧Clo E (fun x=>x=s) t:=by
 constructor
 ·exact fun h=>h.of (Q:=fun t=>∃ s,B s∧Clo E (fun x=>x=s) t) (fun s hs=>⟨s,hs,.base rfl⟩) fun a b ⟨s,h1,h2⟩ hr=>⟨s,h1,.step h2 hr⟩
 ·rintro ⟨s,h1,h2⟩
  exact h2.of (Q:=fun t=>Clo E B t) (fun x hx=>by rw [hx]; exact .base h1) fun a b ha hb=>.step ha hb
end
end Go.Proofs.Sh
