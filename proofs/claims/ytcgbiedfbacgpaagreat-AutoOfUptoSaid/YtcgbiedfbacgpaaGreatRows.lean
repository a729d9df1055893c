/-
  No cell of these rows narrows 'for every input' (looked for: loops, veiled, ifaces, maps, wideKeys, modest, calm, conditions, laid).
  DERIVED. THE GIVEN ROWS OF THIS SEAT. 3 by the template 'for every input the law returns true; each argument reads behind the call as it read before'; 0 by the template 'total and deterministic' (their statements: YtcgbiedfbacgpaaGreatTotals.lean).
  GIVEN WITH THE SEED: the statements are not yours to turn. If you find one false, say at which input.
  Laid BY PROGRAM, IN A SANDBOX (cutbox-rows.mjs): the forced cells as the released guide's own fill.sh prints them over the translation 2e43c2b7b2bcfbb3… (all of the seat's roots in one cut). By AI agents, Wed Nov 11 2026. No macro, syntax, notation, axiom, sorry.
-/
import Derived.Test.YtcgbiedfbacgpaaGreatChecked
import GoSem.Claim
import GoSem.ClaimJoined
import GoSem.ClaimMapViews
import Derived.JoinedTies
import Derived.KernelRfl
namespace Go.Proofs.YtcgbiedfbacgpaaGreat
/- THE CELL 'sum', in the pinned program and in every row, IS THE sha256 OF THE DUMP (.gsa) THAT YtcgbiedfbacgpaaGreatProg.lean LOADS. Nothing in Lean hashes anything: it is a label: what it is worth is what the hold of that sum in a sandbox is worth. -/
noncomputable def Tryz.pinned : Pinned := { name := "ytcgbiedfbacgpaagreat", sum := "2e43c2b7b2bcfbb3dae5d5cb1bfb5d1e39a8efc18317badc8715c7249ba73f3f", checked := Tryz.checked }
namespace Rows
def none {H : Type} : Left H := { results := [], args := [] }

/-- 'ablautlaw02.AutoLists': WHATEVER THE INPUT: true; the input reads as it did. -/
def autoListsSpec : ChangeSpec := { name := "autoLists", fn := fun _ => fun
  | [d1, d2] => { results := [.lit (.bool true)], args := [d1, d2] }
  | _ => none }
def autoListsRow : OpenClaim := { program := "ytcgbiedfbacgpaagreat", sum := "2e43c2b7b2bcfbb3dae5d5cb1bfb5d1e39a8efc18317badc8715c7249ba73f3f", func := "ablaut/ablautlaw02.AutoLists", spec := "autoLists", unfollowed := true, recurses := true, plainKeys := false, apart := false }
def AutoListsSaid : Prop := autoListsRow.holds Tryz.pinned (OpenSpec.ofChange autoListsSpec)

/-- ITS FALSE NEIGHBOUR: 'it returns false'. Refute it at one input. -/
def autoListsWrong : ChangeSpec := { name := "autoLists", fn := fun _ => fun
  | [d1, d2] => { results := [.lit (.bool false)], args := [d1, d2] }
  | _ => none }
def AutoListsWrongFalsely : Prop := autoListsRow.holds Tryz.pinned (OpenSpec.ofChange autoListsWrong)

/-- 'ablautlaw02.AutoFinds': WHATEVER THE INPUT: true; the input reads as it did. -/
def autoFindsSpec : ChangeSpec := { name := "autoFinds", fn := fun _ => fun
  | [d] => { results := [.lit (.bool true)], args := [d] }
  | _ => none }
def autoFindsRow : OpenClaim := { program := "ytcgbiedfbacgpaagreat", sum := "2e43c2b7b2bcfbb3dae5d5cb1bfb5d1e39a8efc18317badc8715c7249ba73f3f", func := "ablaut/ablautlaw02.AutoFinds", spec := "autoFinds", unfollowed := true, recurses := true, plainKeys := false, apart := false }
def AutoFindsSaid : Prop := autoFindsRow.holds Tryz.pinned (OpenSpec.ofChange autoFindsSpec)

/-- ITS FALSE NEIGHBOUR: 'it returns false'. Refute it at one input. -/
def autoFindsWrong : ChangeSpec := { name := "autoFinds", fn := fun _ => fun
  | [d] => { results := [.lit (.bool false)], args := [d] }
  | _ => none }
def AutoFindsWrongFalsely : Prop := autoFindsRow.holds Tryz.pinned (OpenSpec.ofChange autoFindsWrong)

/-- 'ablautlaw02.AutoOf': WHATEVER THE INPUT: true; the input reads as it did. -/
def autoOfSpec : ChangeSpec := { name := "autoOf", fn := fun _ => fun
  | [d1, d2] => { results := [.lit (.bool true)], args := [d1, d2] }
  | _ => none }
def autoOfRow : OpenClaim := { program := "ytcgbiedfbacgpaagreat", sum := "2e43c2b7b2bcfbb3dae5d5cb1bfb5d1e39a8efc18317badc8715c7249ba73f3f", func := "ablaut/ablautlaw02.AutoOf", spec := "autoOf", unfollowed := true, recurses := true, plainKeys := false, apart := false }
def AutoOfSaid : Prop := autoOfRow.holds Tryz.pinned (OpenSpec.ofChange autoOfSpec)

/-- ITS FALSE NEIGHBOUR: 'it returns false'. Refute it at one input. -/
def autoOfWrong : ChangeSpec := { name := "autoOf", fn := fun _ => fun
  | [d1, d2] => { results := [.lit (.bool false)], args := [d1, d2] }
  | _ => none }
def AutoOfWrongFalsely : Prop := autoOfRow.holds Tryz.pinned (OpenSpec.ofChange autoOfWrong)

/- THE SECOND FORM. 'bulk': how many values and letters a reading holds, each counted each time it is reached (what is shared counts as often as it is met; a slice's spare places count too). A statement '..UptoSaid' is the law's where the arguments, and the package variables that the reading takes, are together of bulk at most 1048576: NARROWER than '..Said'. Prove '..Said' where nothing that the law and all that it calls make is longer than what came in: it says more and counts as full. Else prove '..UptoSaid'. A law counts once. -/
mutual
def uptoBulk {H : Type} : DataW H → Nat
  | .lit (.string bytes) => bytes.length + 1
  | .lit _ => 1
  | .nil => 1
  | .ptr d => uptoBulk d + 1
  | .slice elems spare => uptoBulkAll elems + uptoBulkAll spare + 1
  | .agg parts => uptoBulkAll parts + 1
  | .iface _ d => uptoBulk d + 1
  | .map entries => uptoBulkEntries entries + 1
  | .held _ => 1
def uptoBulkAll {H : Type} : List (DataW H) → Nat
  | [] => 0
  | d :: r => uptoBulk d + uptoBulkAll r
def uptoBulkEntries {H : Type} : List (Lit × DataW H) → Nat
  | [] => 0
  | x :: r => uptoBulkEntry x + uptoBulkEntries r
def uptoBulkEntry {H : Type} : Lit × DataW H → Nat
  | (.string bytes, d) => bytes.length + uptoBulk d + 1
  | (_, d) => uptoBulk d + 1
 end
def uptoSmall : (H : Type) → List (DataW H) → Bool := fun _ ds => decide (uptoBulkAll ds ≤ 1048576)
def OpenSpec.upto (s : _root_.Go.ChangeSpec) : _root_.Go.OpenSpec := { _root_.Go.OpenSpec.ofChange s with cond := some uptoSmall }

/-- 'ablautlaw02.AutoLists', WHERE WHAT IT READS IS OF BULK AT MOST 1048576: true; the input reads as it did. -/
def autoListsUptoRow : OpenClaim := { program := "ytcgbiedfbacgpaagreat", sum := "2e43c2b7b2bcfbb3dae5d5cb1bfb5d1e39a8efc18317badc8715c7249ba73f3f", func := "ablaut/ablautlaw02.AutoLists", spec := "autoLists", unfollowed := true, recurses := true, plainKeys := false, apart := false, narrowed := true }
def AutoListsUptoSaid : Prop := autoListsUptoRow.holds Tryz.pinned (OpenSpec.upto autoListsSpec)

/-- 'ablautlaw02.AutoFinds', WHERE WHAT IT READS IS OF BULK AT MOST 1048576: true; the input reads as it did. -/
def autoFindsUptoRow : OpenClaim := { program := "ytcgbiedfbacgpaagreat", sum := "2e43c2b7b2bcfbb3dae5d5cb1bfb5d1e39a8efc18317badc8715c7249ba73f3f", func := "ablaut/ablautlaw02.AutoFinds", spec := "autoFinds", unfollowed := true, recurses := true, plainKeys := false, apart := false, narrowed := true }
def AutoFindsUptoSaid : Prop := autoFindsUptoRow.holds Tryz.pinned (OpenSpec.upto autoFindsSpec)

/-- 'ablautlaw02.AutoOf', WHERE WHAT IT READS IS OF BULK AT MOST 1048576: true; the input reads as it did. -/
def autoOfUptoRow : OpenClaim := { program := "ytcgbiedfbacgpaagreat", sum := "2e43c2b7b2bcfbb3dae5d5cb1bfb5d1e39a8efc18317badc8715c7249ba73f3f", func := "ablaut/ablautlaw02.AutoOf", spec := "autoOf", unfollowed := true, recurses := true, plainKeys := false, apart := false, narrowed := true }
def AutoOfUptoSaid : Prop := autoOfUptoRow.holds Tryz.pinned (OpenSpec.upto autoOfSpec)

end Rows
end Go.Proofs.YtcgbiedfbacgpaaGreat
