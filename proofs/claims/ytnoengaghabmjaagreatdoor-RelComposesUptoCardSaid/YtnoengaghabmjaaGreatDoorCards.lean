/-
  DERIVED. GIVEN WITH THE SEED: THE CARDS: each row of YtnoengaghabmjaaGreatDoorRows.lean that lists a variable, with what it lists TIED to the program's text (the seventh form; the later family's looks); each row that meets fmt, with fmt's text TOLD by the authors' own Lean function (tested against real Go, not proved from fmt's source: count such statements apart). THE CARD IS WHAT COUNTS. Prove the row's statement (the work); the ties are given (YtnoengaghabmjaaGreatDoorTie.lean); close each card by the builder's one call (the guide's Derived/Test/ToyasCard.lean, 'card_holds'). Laid BY PROGRAM, IN A SANDBOX (cutbox-door.mjs). By AI agents, Wed Nov 11 2026. No macro, syntax, notation, axiom, sorry.
-/
import Derived.Test.YtnoengaghabmjaaGreatDoorRows
import GoSem.ClaimSeven
namespace Go.Proofs.YtnoengaghabmjaaGreatDoor
namespace Rows

/-- THE TIED CARD OF 'ablautlaw05.RelCrosses'. -/
def relCrossesCard : Claim7 := { stood := { row := relCrossesRow, standIns := [], harness := (true, "934b64db31c9df652c1e71c921a305b2df73d966b39d64f157fdf50b6641e29f"), looks := false }, kinds := [], alts := [], laidByText := true, laidKinds := [.data, .data, .data], laidTests := true, laidLooks := .later }
def RelCrossesCardSaid : Prop := Claim7.holds Tryz.pinned (.plain (OpenSpec.ofChange relCrossesSpec)) relCrossesCard

/-- THE TIED CARD OF 'ablautlaw05.RelEithers'. -/
def relEithersCard : Claim7 := { stood := { row := relEithersRow, standIns := [], harness := (true, "934b64db31c9df652c1e71c921a305b2df73d966b39d64f157fdf50b6641e29f"), looks := false }, kinds := [], alts := [], laidByText := true, laidKinds := [.data, .data, .data], laidTests := true, laidLooks := .later }
def RelEithersCardSaid : Prop := Claim7.holds Tryz.pinned (.plain (OpenSpec.ofChange relEithersSpec)) relEithersCard

/-- THE TIED CARD OF 'ablautlaw05.RelChains'. -/
def relChainsCard : Claim7 := { stood := { row := relChainsRow, standIns := [], harness := (true, "934b64db31c9df652c1e71c921a305b2df73d966b39d64f157fdf50b6641e29f"), looks := false }, kinds := [], alts := [], laidByText := true, laidKinds := [.data, .data, .data], laidTests := true, laidLooks := .later }
def RelChainsCardSaid : Prop := Claim7.holds Tryz.pinned (.plain (OpenSpec.ofChange relChainsSpec)) relChainsCard

/-- THE TIED CARD OF 'ablautlaw05.RelComposes'. -/
def relComposesCard : Claim7 := { stood := { row := relComposesRow, standIns := [], harness := (true, "934b64db31c9df652c1e71c921a305b2df73d966b39d64f157fdf50b6641e29f"), looks := false }, kinds := [], alts := [], laidByText := true, laidKinds := [.data, .data, .data], laidTests := true, laidLooks := .later }
def RelComposesCardSaid : Prop := Claim7.holds Tryz.pinned (.plain (OpenSpec.ofChange relComposesSpec)) relComposesCard

/-- THE SECOND FORM's CARD OF 'ablautlaw05.RelCrosses'. -/
def relCrossesUptoCard : Claim7 := { stood := { row := relCrossesUptoRow, standIns := [], harness := (true, "934b64db31c9df652c1e71c921a305b2df73d966b39d64f157fdf50b6641e29f"), looks := false }, kinds := [], alts := [], laidByText := true, laidKinds := [.data, .data, .data], laidTests := true, laidLooks := .later }
def RelCrossesUptoCardSaid : Prop := Claim7.holds Tryz.pinned (.plain (OpenSpec.upto relCrossesSpec)) relCrossesUptoCard

/-- THE SECOND FORM's CARD OF 'ablautlaw05.RelEithers'. -/
def relEithersUptoCard : Claim7 := { stood := { row := relEithersUptoRow, standIns := [], harness := (true, "934b64db31c9df652c1e71c921a305b2df73d966b39d64f157fdf50b6641e29f"), looks := false }, kinds := [], alts := [], laidByText := true, laidKinds := [.data, .data, .data], laidTests := true, laidLooks := .later }
def RelEithersUptoCardSaid : Prop := Claim7.holds Tryz.pinned (.plain (OpenSpec.upto relEithersSpec)) relEithersUptoCard

/-- THE SECOND FORM's CARD OF 'ablautlaw05.RelChains'. -/
def relChainsUptoCard : Claim7 := { stood := { row := relChainsUptoRow, standIns := [], harness := (true, "934b64db31c9df652c1e71c921a305b2df73d966b39d64f157fdf50b6641e29f"), looks := false }, kinds := [], alts := [], laidByText := true, laidKinds := [.data, .data, .data], laidTests := true, laidLooks := .later }
def RelChainsUptoCardSaid : Prop := Claim7.holds Tryz.pinned (.plain (OpenSpec.upto relChainsSpec)) relChainsUptoCard

/-- THE SECOND FORM's CARD OF 'ablautlaw05.RelComposes'. -/
def relComposesUptoCard : Claim7 := { stood := { row := relComposesUptoRow, standIns := [], harness := (true, "934b64db31c9df652c1e71c921a305b2df73d966b39d64f157fdf50b6641e29f"), looks := false }, kinds := [], alts := [], laidByText := true, laidKinds := [.data, .data, .data], laidTests := true, laidLooks := .later }
def RelComposesUptoCardSaid : Prop := Claim7.holds Tryz.pinned (.plain (OpenSpec.upto relComposesSpec)) relComposesUptoCard
end Rows
end Go.Proofs.YtnoengaghabmjaaGreatDoor
