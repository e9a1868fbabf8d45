/- scriniumlaw31.ModelCells, its number a whole number. -/
import Derived.Test.YtfbgnpfhjbiikaaGreatDoorQm09
namespace Go.Proofs.YtfbgnpfhjbiikaaGreatDoor
open Go Go.RowKit
theorem law31_cells (p s t : ByteArray) (want : Int) (w : World) (hp : p.size ≤ 140737488351232) (hs : s.size ≤ 140737488351232) (ht : t.size ≤ 140737488351232) (hw : (Lit.int .u64 want).wf = true) (hm : MX w) : Calls Tryz.prog 7 #[.string p, .string s, .string t, .int .u64 want] w fun e w' => e = .returned (.bool true) ∧ Below w.heap.size w w' := by
  have h : ∃ n : Nat, want = n := by
    refine ⟨want.toNat, ?_⟩
    simp only [Lit.wf, Bool.and_eq_true, decide_eq_true_eq] at hw
    have h1 := hw.1
    rw [show IntKind.min .u64 = 0 from rfl] at h1
    omega
  obtain ⟨n, rfl⟩ := h
  exact law_cells p s t n w (by omega) (by omega) (by omega) hm
end Go.Proofs.YtfbgnpfhjbiikaaGreatDoor
