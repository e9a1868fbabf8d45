/-
  DERIVED. GIVEN WITH THE SEED: THE CARDS: each row of YtggdkfijioeijaaGreatDoorRows.lean that lists a variable, with what it lists TIED to the program's text (the seventh form; the later family's looks); each row that meets fmt, with fmt's text TOLD by the authors' own Lean function (tested against real Go, not proved from fmt's source: count such statements apart). THE CARD IS WHAT COUNTS. Prove the row's statement (the work); the ties are given (YtggdkfijioeijaaGreatDoorTie.lean); close each card by the builder's one call (the guide's Derived/Test/ToyasCard.lean, 'card_holds'). Laid BY PROGRAM, IN A SANDBOX (cutbox-door.mjs). By AI agents, Wed Nov 11 2026. No macro, syntax, notation, axiom, sorry.
-/
import Derived.Test.YtggdkfijioeijaaGreatDoorRows
import GoSem.ClaimSeven
namespace Go.Proofs.YtggdkfijioeijaaGreatDoor
namespace Rows

/-- THE TIED CARD OF 'scriniumlaw28.PlanAsks'. -/
def planAsksCard : Claim7 := { stood := { row := planAsksRow, standIns := [], harness := (true, "5c268d493dcdbbedf1d25316d5b450706a4dab4634cf630cbe8d4b36c63a6693"), looks := false }, kinds := [], alts := [], laidByText := true, laidKinds := [.data, .pinned], laidTests := true, laidLooks := .later }
def PlanAsksCardSaid : Prop := Claim7.holds Tryz.pinned (.plain (OpenSpec.ofChange planAsksSpec)) planAsksCard

/-- THE TIED CARD OF 'scriniumlaw28.PlanWhole'. -/
def planWholeCard : Claim7 := { stood := { row := planWholeRow, standIns := [], harness := (true, "5c268d493dcdbbedf1d25316d5b450706a4dab4634cf630cbe8d4b36c63a6693"), looks := false }, kinds := [], alts := [], laidByText := true, laidKinds := [.data, .pinned], laidTests := true, laidLooks := .later }
def PlanWholeCardSaid : Prop := Claim7.holds Tryz.pinned (.plain (OpenSpec.ofChange planWholeSpec)) planWholeCard

/-- THE TIED CARD OF 'scriniumlaw28.PlanAlone'. -/
def planAloneCard : Claim7 := { stood := { row := planAloneRow, standIns := [], harness := (true, "5c268d493dcdbbedf1d25316d5b450706a4dab4634cf630cbe8d4b36c63a6693"), looks := false }, kinds := [], alts := [], laidByText := true, laidKinds := [.data, .pinned], laidTests := true, laidLooks := .later }
def PlanAloneCardSaid : Prop := Claim7.holds Tryz.pinned (.plain (OpenSpec.ofChange planAloneSpec)) planAloneCard

/-- THE TIED CARD OF 'scriniumlaw28.PlanMoves'. -/
def planMovesCard : Claim7 := { stood := { row := planMovesRow, standIns := [], harness := (true, "5c268d493dcdbbedf1d25316d5b450706a4dab4634cf630cbe8d4b36c63a6693"), looks := false }, kinds := [], alts := [], laidByText := true, laidKinds := [.data, .pinned], laidTests := true, laidLooks := .later }
def PlanMovesCardSaid : Prop := Claim7.holds Tryz.pinned (.plain (OpenSpec.ofChange planMovesSpec)) planMovesCard

/-- THE SECOND FORM's CARD OF 'scriniumlaw28.PlanAsks'. -/
def planAsksUptoCard : Claim7 := { stood := { row := planAsksUptoRow, standIns := [], harness := (true, "5c268d493dcdbbedf1d25316d5b450706a4dab4634cf630cbe8d4b36c63a6693"), looks := false }, kinds := [], alts := [], laidByText := true, laidKinds := [.data, .pinned], laidTests := true, laidLooks := .later }
def PlanAsksUptoCardSaid : Prop := Claim7.holds Tryz.pinned (.plain (OpenSpec.upto planAsksSpec)) planAsksUptoCard

/-- THE SECOND FORM's CARD OF 'scriniumlaw28.PlanWhole'. -/
def planWholeUptoCard : Claim7 := { stood := { row := planWholeUptoRow, standIns := [], harness := (true, "5c268d493dcdbbedf1d25316d5b450706a4dab4634cf630cbe8d4b36c63a6693"), looks := false }, kinds := [], alts := [], laidByText := true, laidKinds := [.data, .pinned], laidTests := true, laidLooks := .later }
def PlanWholeUptoCardSaid : Prop := Claim7.holds Tryz.pinned (.plain (OpenSpec.upto planWholeSpec)) planWholeUptoCard

/-- THE SECOND FORM's CARD OF 'scriniumlaw28.PlanAlone'. -/
def planAloneUptoCard : Claim7 := { stood := { row := planAloneUptoRow, standIns := [], harness := (true, "5c268d493dcdbbedf1d25316d5b450706a4dab4634cf630cbe8d4b36c63a6693"), looks := false }, kinds := [], alts := [], laidByText := true, laidKinds := [.data, .pinned], laidTests := true, laidLooks := .later }
def PlanAloneUptoCardSaid : Prop := Claim7.holds Tryz.pinned (.plain (OpenSpec.upto planAloneSpec)) planAloneUptoCard

/-- THE SECOND FORM's CARD OF 'scriniumlaw28.PlanMoves'. -/
def planMovesUptoCard : Claim7 := { stood := { row := planMovesUptoRow, standIns := [], harness := (true, "5c268d493dcdbbedf1d25316d5b450706a4dab4634cf630cbe8d4b36c63a6693"), looks := false }, kinds := [], alts := [], laidByText := true, laidKinds := [.data, .pinned], laidTests := true, laidLooks := .later }
def PlanMovesUptoCardSaid : Prop := Claim7.holds Tryz.pinned (.plain (OpenSpec.upto planMovesSpec)) planMovesUptoCard
end Rows
end Go.Proofs.YtggdkfijioeijaaGreatDoor
