/-
  No cell of these rows narrows 'for every input' (looked for: loops, veiled, ifaces, maps, wideKeys, modest, calm, conditions, laid).
  DERIVED. THE GIVEN ROWS OF THIS SEAT. 5 by the template 'for every input the law returns true; each argument reads behind the call as it read before'; 0 by the template 'total and deterministic' (their statements: YtnoengaghabmjaaGreatTotals.lean).
  GIVEN WITH THE SEED: the statements are not yours to turn. If you find one false, say at which input.
  Laid BY PROGRAM, IN A SANDBOX (cutbox-rows.mjs): the forced cells as the released guide's own fill.sh prints them over the translation e183f0b4375da87f… (all of the seat's roots in one cut). By AI agents, Wed Nov 11 2026. No macro, syntax, notation, axiom, sorry.
-/
import Derived.Test.YtnoengaghabmjaaGreatChecked
import GoSem.Claim
import GoSem.ClaimJoined
import GoSem.ClaimMapViews
import Derived.JoinedTies
import Derived.KernelRfl
namespace Go.Proofs.YtnoengaghabmjaaGreat
/- THE CELL 'sum', in the pinned program and in every row, IS THE sha256 OF THE DUMP (.gsa) THAT YtnoengaghabmjaaGreatProg.lean LOADS. Nothing in Lean hashes anything: it is a label: what it is worth is what the hold of that sum in a sandbox is worth. -/
noncomputable def Tryz.pinned : Pinned := { name := "ytnoengaghabmjaagreat", sum := "e183f0b4375da87f0eddf279be330a69f52d237d317dc7a7dee1b7a77ebea77e", checked := Tryz.checked }
namespace Rows
def none {H : Type} : Left H := { results := [], args := [] }

/-- 'ablautlaw05.RelDowns': WHATEVER THE INPUT: true; the input reads as it did. -/
def relDownsSpec : ChangeSpec := { name := "relDowns", fn := fun _ => fun
  | [d1, d2, d3] => { results := [.lit (.bool true)], args := [d1, d2, d3] }
  | _ => none }
def relDownsRow : OpenClaim := { program := "ytnoengaghabmjaagreat", sum := "e183f0b4375da87f0eddf279be330a69f52d237d317dc7a7dee1b7a77ebea77e", func := "ablaut/ablautlaw05.RelDowns", spec := "relDowns", unfollowed := true, recurses := true, plainKeys := false, apart := false }
def RelDownsSaid : Prop := relDownsRow.holds Tryz.pinned (OpenSpec.ofChange relDownsSpec)

/-- ITS FALSE NEIGHBOUR: 'it returns false'. Refute it at one input. -/
def relDownsWrong : ChangeSpec := { name := "relDowns", fn := fun _ => fun
  | [d1, d2, d3] => { results := [.lit (.bool false)], args := [d1, d2, d3] }
  | _ => none }
def RelDownsWrongFalsely : Prop := relDownsRow.holds Tryz.pinned (OpenSpec.ofChange relDownsWrong)

/-- 'ablautlaw05.RelImages': WHATEVER THE INPUT: true; the input reads as it did. -/
def relImagesSpec : ChangeSpec := { name := "relImages", fn := fun _ => fun
  | [d1, d2, d3] => { results := [.lit (.bool true)], args := [d1, d2, d3] }
  | _ => none }
def relImagesRow : OpenClaim := { program := "ytnoengaghabmjaagreat", sum := "e183f0b4375da87f0eddf279be330a69f52d237d317dc7a7dee1b7a77ebea77e", func := "ablaut/ablautlaw05.RelImages", spec := "relImages", unfollowed := true, recurses := true, plainKeys := false, apart := false }
def RelImagesSaid : Prop := relImagesRow.holds Tryz.pinned (OpenSpec.ofChange relImagesSpec)

/-- ITS FALSE NEIGHBOUR: 'it returns false'. Refute it at one input. -/
def relImagesWrong : ChangeSpec := { name := "relImages", fn := fun _ => fun
  | [d1, d2, d3] => { results := [.lit (.bool false)], args := [d1, d2, d3] }
  | _ => none }
def RelImagesWrongFalsely : Prop := relImagesRow.holds Tryz.pinned (OpenSpec.ofChange relImagesWrong)

/-- 'ablautlaw05.RelTurns': WHATEVER THE INPUT: true; the input reads as it did. -/
def relTurnsSpec : ChangeSpec := { name := "relTurns", fn := fun _ => fun
  | [d1, d2, d3] => { results := [.lit (.bool true)], args := [d1, d2, d3] }
  | _ => none }
def relTurnsRow : OpenClaim := { program := "ytnoengaghabmjaagreat", sum := "e183f0b4375da87f0eddf279be330a69f52d237d317dc7a7dee1b7a77ebea77e", func := "ablaut/ablautlaw05.RelTurns", spec := "relTurns", unfollowed := true, recurses := true, plainKeys := false, apart := false }
def RelTurnsSaid : Prop := relTurnsRow.holds Tryz.pinned (OpenSpec.ofChange relTurnsSpec)

/-- ITS FALSE NEIGHBOUR: 'it returns false'. Refute it at one input. -/
def relTurnsWrong : ChangeSpec := { name := "relTurns", fn := fun _ => fun
  | [d1, d2, d3] => { results := [.lit (.bool false)], args := [d1, d2, d3] }
  | _ => none }
def RelTurnsWrongFalsely : Prop := relTurnsRow.holds Tryz.pinned (OpenSpec.ofChange relTurnsWrong)

/-- 'ablautlaw05.RelHolds': WHATEVER THE INPUT: true; the input reads as it did. -/
def relHoldsSpec : ChangeSpec := { name := "relHolds", fn := fun _ => fun
  | [d1, d2, d3] => { results := [.lit (.bool true)], args := [d1, d2, d3] }
  | _ => none }
def relHoldsRow : OpenClaim := { program := "ytnoengaghabmjaagreat", sum := "e183f0b4375da87f0eddf279be330a69f52d237d317dc7a7dee1b7a77ebea77e", func := "ablaut/ablautlaw05.RelHolds", spec := "relHolds", unfollowed := true, recurses := true, plainKeys := false, apart := false }
def RelHoldsSaid : Prop := relHoldsRow.holds Tryz.pinned (OpenSpec.ofChange relHoldsSpec)

/-- ITS FALSE NEIGHBOUR: 'it returns false'. Refute it at one input. -/
def relHoldsWrong : ChangeSpec := { name := "relHolds", fn := fun _ => fun
  | [d1, d2, d3] => { results := [.lit (.bool false)], args := [d1, d2, d3] }
  | _ => none }
def RelHoldsWrongFalsely : Prop := relHoldsRow.holds Tryz.pinned (OpenSpec.ofChange relHoldsWrong)

/-- 'ablautlaw05.RelChained': WHATEVER THE INPUT: true; the input reads as it did. -/
def relChainedSpec : ChangeSpec := { name := "relChained", fn := fun _ => fun
  | [d] => { results := [.lit (.bool true)], args := [d] }
  | _ => none }
def relChainedRow : OpenClaim := { program := "ytnoengaghabmjaagreat", sum := "e183f0b4375da87f0eddf279be330a69f52d237d317dc7a7dee1b7a77ebea77e", func := "ablaut/ablautlaw05.RelChained", spec := "relChained", unfollowed := true, recurses := true, plainKeys := false, apart := false }
def RelChainedSaid : Prop := relChainedRow.holds Tryz.pinned (OpenSpec.ofChange relChainedSpec)

/-- ITS FALSE NEIGHBOUR: 'it returns false'. Refute it at one input. -/
def relChainedWrong : ChangeSpec := { name := "relChained", fn := fun _ => fun
  | [d] => { results := [.lit (.bool false)], args := [d] }
  | _ => none }
def RelChainedWrongFalsely : Prop := relChainedRow.holds Tryz.pinned (OpenSpec.ofChange relChainedWrong)

/- THE SECOND FORM. 'bulk': how many values and letters a reading holds, each counted each time it is reached (what is shared counts as often as it is met; a slice's spare places count too). A statement '..UptoSaid' is the law's where the arguments, and the package variables that the reading takes, are together of bulk at most 1048576: NARROWER than '..Said'. Prove '..Said' where nothing that the law and all that it calls make is longer than what came in: it says more and counts as full. Else prove '..UptoSaid'. A law counts once. -/
mutual
def uptoBulk {H : Type} : DataW H → Nat
  | .lit (.string bytes) => bytes.length + 1
  | .lit _ => 1
  | .nil => 1
  | .ptr d => uptoBulk d + 1
  | .slice elems spare => uptoBulkAll elems + uptoBulkAll spare + 1
  | .agg parts => uptoBulkAll parts + 1
  | .iface _ d => uptoBulk d + 1
  | .map entries => uptoBulkEntries entries + 1
  | .held _ => 1
def uptoBulkAll {H : Type} : List (DataW H) → Nat
  | [] => 0
  | d :: r => uptoBulk d + uptoBulkAll r
def uptoBulkEntries {H : Type} : List (Lit × DataW H) → Nat
  | [] => 0
  | x :: r => uptoBulkEntry x + uptoBulkEntries r
def uptoBulkEntry {H : Type} : Lit × DataW H → Nat
  | (.string bytes, d) => bytes.length + uptoBulk d + 1
  | (_, d) => uptoBulk d + 1
 end
def uptoSmall : (H : Type) → List (DataW H) → Bool := fun _ ds => decide (uptoBulkAll ds ≤ 1048576)
def OpenSpec.upto (s : _root_.Go.ChangeSpec) : _root_.Go.OpenSpec := { _root_.Go.OpenSpec.ofChange s with cond := some uptoSmall }

/-- 'ablautlaw05.RelDowns', WHERE WHAT IT READS IS OF BULK AT MOST 1048576: true; the input reads as it did. -/
def relDownsUptoRow : OpenClaim := { program := "ytnoengaghabmjaagreat", sum := "e183f0b4375da87f0eddf279be330a69f52d237d317dc7a7dee1b7a77ebea77e", func := "ablaut/ablautlaw05.RelDowns", spec := "relDowns", unfollowed := true, recurses := true, plainKeys := false, apart := false, narrowed := true }
def RelDownsUptoSaid : Prop := relDownsUptoRow.holds Tryz.pinned (OpenSpec.upto relDownsSpec)

/-- 'ablautlaw05.RelImages', WHERE WHAT IT READS IS OF BULK AT MOST 1048576: true; the input reads as it did. -/
def relImagesUptoRow : OpenClaim := { program := "ytnoengaghabmjaagreat", sum := "e183f0b4375da87f0eddf279be330a69f52d237d317dc7a7dee1b7a77ebea77e", func := "ablaut/ablautlaw05.RelImages", spec := "relImages", unfollowed := true, recurses := true, plainKeys := false, apart := false, narrowed := true }
def RelImagesUptoSaid : Prop := relImagesUptoRow.holds Tryz.pinned (OpenSpec.upto relImagesSpec)

/-- 'ablautlaw05.RelTurns', WHERE WHAT IT READS IS OF BULK AT MOST 1048576: true; the input reads as it did. -/
def relTurnsUptoRow : OpenClaim := { program := "ytnoengaghabmjaagreat", sum := "e183f0b4375da87f0eddf279be330a69f52d237d317dc7a7dee1b7a77ebea77e", func := "ablaut/ablautlaw05.RelTurns", spec := "relTurns", unfollowed := true, recurses := true, plainKeys := false, apart := false, narrowed := true }
def RelTurnsUptoSaid : Prop := relTurnsUptoRow.holds Tryz.pinned (OpenSpec.upto relTurnsSpec)

/-- 'ablautlaw05.RelHolds', WHERE WHAT IT READS IS OF BULK AT MOST 1048576: true; the input reads as it did. -/
def relHoldsUptoRow : OpenClaim := { program := "ytnoengaghabmjaagreat", sum := "e183f0b4375da87f0eddf279be330a69f52d237d317dc7a7dee1b7a77ebea77e", func := "ablaut/ablautlaw05.RelHolds", spec := "relHolds", unfollowed := true, recurses := true, plainKeys := false, apart := false, narrowed := true }
def RelHoldsUptoSaid : Prop := relHoldsUptoRow.holds Tryz.pinned (OpenSpec.upto relHoldsSpec)

/-- 'ablautlaw05.RelChained', WHERE WHAT IT READS IS OF BULK AT MOST 1048576: true; the input reads as it did. -/
def relChainedUptoRow : OpenClaim := { program := "ytnoengaghabmjaagreat", sum := "e183f0b4375da87f0eddf279be330a69f52d237d317dc7a7dee1b7a77ebea77e", func := "ablaut/ablautlaw05.RelChained", spec := "relChained", unfollowed := true, recurses := true, plainKeys := false, apart := false, narrowed := true }
def RelChainedUptoSaid : Prop := relChainedUptoRow.holds Tryz.pinned (OpenSpec.upto relChainedSpec)

end Rows
end Go.Proofs.YtnoengaghabmjaaGreat
