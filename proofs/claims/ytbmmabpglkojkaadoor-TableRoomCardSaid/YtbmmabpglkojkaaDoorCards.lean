/-
  DERIVED. GIVEN WITH THE SEED: THE CARDS: each row of YtbmmabpglkojkaaDoorRows.lean that lists a variable, with what it lists TIED to the program's text (the seventh form; the later family's looks); each row that meets fmt, with fmt's text TOLD by the authors' own Lean function (tested against real Go, not proved from fmt's source: count such statements apart). THE CARD IS WHAT COUNTS. Prove the row's statement (the work); the ties are given (YtbmmabpglkojkaaDoorTie.lean); close each card by the builder's one call (the guide's Derived/Test/ToyasCard.lean, 'card_holds'). Laid BY PROGRAM, IN A SANDBOX (cutbox-door.mjs). By AI agents, Wed Nov 11 2026. No macro, syntax, notation, axiom, sorry.
-/
import Derived.Test.YtbmmabpglkojkaaDoorRows
import GoSem.ClaimSeven
namespace Go.Proofs.YtbmmabpglkojkaaDoor
namespace Rows

/-- THE TIED CARD OF 'scriniumlaw18.TableAtOnce'. -/
def tableAtOnceCard : Claim7 := { stood := { row := tableAtOnceRow, standIns := [], harness := (true, "8dd77891c41905d8a94772e8b976d2525713133e2883f6351ff6b42df14ceffe"), looks := false }, kinds := [], alts := [], laidByText := true, laidKinds := [.data, .pinned], laidTests := true, laidLooks := .later }
def TableAtOnceCardSaid : Prop := Claim7.holds Tryd.pinned (.plain (OpenSpec.ofChange tableAtOnceSpec)) tableAtOnceCard

/-- THE TIED CARD OF 'scriniumlaw18.TableRoom'. -/
def tableRoomCard : Claim7 := { stood := { row := tableRoomRow, standIns := [], harness := (true, "8dd77891c41905d8a94772e8b976d2525713133e2883f6351ff6b42df14ceffe"), looks := false }, kinds := [], alts := [], laidByText := true, laidKinds := [.data, .pinned], laidTests := true, laidLooks := .later }
def TableRoomCardSaid : Prop := Claim7.holds Tryd.pinned (.plain (OpenSpec.ofChange tableRoomSpec)) tableRoomCard

/-- THE TIED CARD OF 'scriniumlaw18.TableNone'. -/
def tableNoneCard : Claim7 := { stood := { row := tableNoneRow, standIns := [], harness := (true, "8dd77891c41905d8a94772e8b976d2525713133e2883f6351ff6b42df14ceffe"), looks := false }, kinds := [], alts := [], laidByText := true, laidKinds := [.data, .pinned], laidTests := true, laidLooks := .later }
def TableNoneCardSaid : Prop := Claim7.holds Tryd.pinned (.plain (OpenSpec.ofChange tableNoneSpec)) tableNoneCard

/-- THE SECOND FORM's CARD OF 'scriniumlaw18.TableAtOnce'. -/
def tableAtOnceUptoCard : Claim7 := { stood := { row := tableAtOnceUptoRow, standIns := [], harness := (true, "8dd77891c41905d8a94772e8b976d2525713133e2883f6351ff6b42df14ceffe"), looks := false }, kinds := [], alts := [], laidByText := true, laidKinds := [.data, .pinned], laidTests := true, laidLooks := .later }
def TableAtOnceUptoCardSaid : Prop := Claim7.holds Tryd.pinned (.plain (OpenSpec.upto tableAtOnceSpec)) tableAtOnceUptoCard

/-- THE SECOND FORM's CARD OF 'scriniumlaw18.TableRoom'. -/
def tableRoomUptoCard : Claim7 := { stood := { row := tableRoomUptoRow, standIns := [], harness := (true, "8dd77891c41905d8a94772e8b976d2525713133e2883f6351ff6b42df14ceffe"), looks := false }, kinds := [], alts := [], laidByText := true, laidKinds := [.data, .pinned], laidTests := true, laidLooks := .later }
def TableRoomUptoCardSaid : Prop := Claim7.holds Tryd.pinned (.plain (OpenSpec.upto tableRoomSpec)) tableRoomUptoCard

/-- THE SECOND FORM's CARD OF 'scriniumlaw18.TableNone'. -/
def tableNoneUptoCard : Claim7 := { stood := { row := tableNoneUptoRow, standIns := [], harness := (true, "8dd77891c41905d8a94772e8b976d2525713133e2883f6351ff6b42df14ceffe"), looks := false }, kinds := [], alts := [], laidByText := true, laidKinds := [.data, .pinned], laidTests := true, laidLooks := .later }
def TableNoneUptoCardSaid : Prop := Claim7.holds Tryd.pinned (.plain (OpenSpec.upto tableNoneSpec)) tableNoneUptoCard
end Rows
end Go.Proofs.YtbmmabpglkojkaaDoor
