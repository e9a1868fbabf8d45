/- slices.Compact of two equal numbers. -/
import Derived.Test.YthcmcjoenepkbaaRow
namespace Go.Proofs.Ythcmcjoenepkbaa
open Go Go.RowKit Go.Maps

set_option maxRecDepth 100000 in
set_option maxHeartbeats 1000000 in
theorem compact_two (b cap : Nat) (x : Int) (w : World) (hb : b < w.heap.size) (hcap : 2 ≤ cap) (c0 : w.cell? ⟨b, 0, none⟩ = some (.int .u32 x)) (c1 : w.cell? ⟨b, 1, none⟩ = some (.int .u32 x)) (f1 : w.frozen? ⟨b, 1, none⟩ = false) :
    Calls Try.prog 16 #[.slice (some ⟨b, 0, none⟩) 2 cap] w fun e w' => e = .returned (.slice (some ⟨b, 0, none⟩) 1 cap) ∧ ∃ n, w' = (w.drewN n).setCell ⟨b, 1, none⟩ (.int .u32 0) := by
  have hcp : ((2 : Int) ≤ (cap : Int)) = True := by simp; omega
  have hcp1 : ((1 : Int) ≤ (cap : Int)) = True := by simp; omega
  go_enter Try.func16, Try.ntmps16
  go_wp2_with fail
  go_loopw [3] (fun i wr => i = .int .i64 1 ∧ wr = w) (fun i _ => 0)
  case atStart => exact ⟨rfl, rfl⟩
  case round =>
    obtain ⟨rfl, rfl⟩ := hrel
    go_wp2_with fail
    go_quiet (fail)
    go_wp2_with fail
    go_loopw [3, 5] (fun s i wx => s = .int .i64 1 ∧ i = .int .i64 1 ∧ wx = wr.drewN nq) (fun _ _ _ => 0)
    case atStart => exact ⟨rfl, rfl, rfl⟩
    case round =>
      obtain ⟨rfl, rfl, rfl⟩ := hrel
      have hcl : ∀ ty, (Builtin.clear_ #[25] ty #[.slice (some ⟨b, 1, none⟩) 1 (cap - 1)]).run Try.prog (wr.drewN nq) = .ok (.tuple #[]) ((wr.drewN nq).setCells b 1 [.int .u32 0]) := fun ty => by
        have h := Lib.run_clear_slice (P := Try.prog) (wr.drewN nq) _ _ ty (.int .u32 0) Try.underlying25 (fun w => by kernel_rfl) rfl rfl b 1 1 (cap - 1) (by omega) (fun j hj => by rw [show 1 + j = 1 by omega]; exact (congrArg Option.isSome c1).trans rfl) (fun j hj => by rw [show 1 + j = 1 by omega]; exact f1)
        exact h
      go_wp2_with fail
      go_ret
      exact ⟨rfl, nq, rfl⟩
end Go.Proofs.Ythcmcjoenepkbaa
