/- A part of the proof: ShFlat. -/
import Derived.Test.YtcgbiedfbacgpaaGreatMCloseAutoFinds1
set_option linter.unusedVariables false
set_option linter.unusedSimpArgs false
/- A law's arguments are of the shape of their types. -/
set_option linter.unusedVariables false
set_option linter.unusedSimpArgs false
namespace Go.Proofs.Sh
open Go Go.RowKit Go.ChangeShapes
section
variable {K:Type} {enc:TypeId×Value→K} {P:Program}
end
end Go.Proofs.Sh
