/- A part of the proof: ShWords. -/
import Derived.Test.YtnoengaghabmjaaGreatDoorMClose3RelComposes3
set_option linter.unusedVariables false
set_option linter.unusedSimpArgs false
/- Words of an automaton, by their length and in order; which lengths they have. -/
set_option linter.unusedVariables false
set_option linter.unusedSimpArgs false
namespace Go.Proofs.Sh
open Go
noncomputable def tB (p:Prop):Bool:=@decide p (Classical.propDecidable p)
theorem C8d {p:Prop}:tB p=true↔p:=@decide_eq_true_iff p (Classical.propDecidable p)
section
variable {α β:Type}
end
section
variable {E:Nat→Nat→Prop} {A:Nat→Nat→Nat→Prop} {end_:Nat→Prop}
end
end Go.Proofs.Sh
