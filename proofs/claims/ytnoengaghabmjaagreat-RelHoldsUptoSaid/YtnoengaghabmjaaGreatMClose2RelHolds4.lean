/- A part of the proof: Marks. -/
import Derived.Test.YtnoengaghabmjaaGreatMClose2RelHolds2
import Derived.Test.YtnoengaghabmjaaGreatMClose2RelHolds3
set_option linter.unusedVariables false
set_option linter.unusedSimpArgs false
/- A state is marked and put into a list. -/
set_option maxHeartbeats 4000000
set_option maxRecDepth 20000
set_option linter.unusedSimpArgs false
set_option linter.unusedVariables false
namespace Go.Proofs.YtnoengaghabmjaaGreat
open Go Go.Proofs Go.Proofs.Sh
end Go.Proofs.YtnoengaghabmjaaGreat
