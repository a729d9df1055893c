/- A part of the proof: GraphSpread. -/
import Derived.Test.YtnoengaghabmjaaGreatMClose2RelTurns6
import Derived.Test.YtnoengaghabmjaaGreatMClose2RelTurns9
set_option linter.unusedVariables false
set_option linter.unusedSimpArgs false
/- (*graph.Graph).spread and the step of Holds: places of all states, as bits. -/
set_option maxHeartbeats 4000000
set_option maxRecDepth 20000
set_option linter.unusedSimpArgs false
set_option linter.unusedVariables false
namespace Go.Proofs.YtnoengaghabmjaaGreat
open Go Go.Proofs Go.Proofs.Sh
def A0n (E:List (List (Nat×Int×Int×Int))):Arcs Nat Nat:=fun s a b t=>∃ r,E[s]?=some r∧∃ e∈r,e.1=t∧labN e.2.1=a∧labN e.2.2.1=b
end Go.Proofs.YtnoengaghabmjaaGreat
