/- A part of the proof: ShMasks. -/
import Derived.Test.YtnoengaghabmjaaGreatDoorMClose3RelComposes3
set_option linter.unusedVariables false
set_option linter.unusedSimpArgs false
/- Sets of places as numbers of 64 bits: what a symbol does to them. -/
set_option linter.unusedVariables false
set_option linter.unusedSimpArgs false
namespace Go.Proofs.Sh
open Go
section
variable {P:Program} {t:TypeId} {c:Bool}
end
def labN (k:Int):Option Nat:=if k < 0 then none else some k.toNat
def within (n m:Nat):Prop:=∀ j,m.testBit j=true→j≤n
end Go.Proofs.Sh
