/- Contracts for the library's sort at uint32: Less, insertionSort, reverseRange. -/
import Derived.Test.YthcmcjoenepkbaaSort0
import Derived.CellFam
import Derived.BigQuiet
import Derived.BigCall
import Derived.BigGuard
import Derived.Deep.QuietTactic
import Derived.Deep.LoopGhost
namespace Go.Proofs.Ythcmcjoenepkbaa
open Go Go.RowKit Go.Sort

set_option maxHeartbeats 1000000 in
theorem uint32_isNaN (x : Int) (w : World) : Calls Try.prog 73 #[.int .u32 x] w fun e w' => e = .returned (.bool false) ∧ w' = w := by
  go_enter Try.func73, Try.ntmps73
  go_wp2
  go_ret
  exact ⟨by simp, rfl⟩

set_option maxHeartbeats 1000000 in
theorem uint32_less (x y : Int) (w : World) : Calls Try.prog 53 #[.int .u32 x, .int .u32 y] w fun e w' => e = .returned (.bool (ltInt x y)) ∧ w' = w := by
  go_enter Try.func53, Try.ntmps53
  go_wp2_with (go_at_call 73; refine (uint32_isNaN _ _).mono ?_; rintro e w' ⟨rfl, rfl⟩)
  go_ret
  exact ⟨rfl, rfl⟩

set_option maxHeartbeats 8000000 in
set_option maxRecDepth 1000000 in
theorem uint32_insertionSort {S : Nat → Prop} {blk off N cap a b : Nat} {d : Array Int} {w0 w : World} (hS : S blk) (h : SR .u32 S w0 blk off d w) (hd : d.size = N) (hab : a ≤ b) (hb : b ≤ N) (hN : N < 4611686018427387904) :
    Calls Try.prog 47 #[.slice (some ⟨blk, off, none⟩) N cap, .int .i64 a, .int .i64 b] w fun e w' => e = .returned (.tuple #[]) ∧ SR .u32 S w0 blk off (insertionSort ltInt d a b) w' := by
  have H := Lib.hid h; have HS := Lib.hid hS; clear h hS
  go_enter Try.func47, Try.ntmps47
  go_wp2
  go_loopw [6] (fun vi wr => ∃ (i : Nat) (dk : Array Int), vi = .int .i64 i ∧ a < i ∧ i ≤ b + 1 ∧ Hid (dk.size = N) ∧ Hid (SR .u32 S w0 blk off dk wr) ∧
      Hid (insOuter ltInt a b i dk = insOuter ltInt a b (a + 1) d)) (fun vi _ => b + 1 - (intOf vi).toNat)
  case atStart => exact ⟨a + 1, d, by go_num, by omega, by omega, Lib.hid hd, H, Lib.hid rfl⟩
  case round =>
    obtain ⟨i, dk, rfl, hai, hib, Hsk, HR, HO⟩ := hrel
    go_wp2
    · have hlt : i < b := by assumption
      go_loopw [7] (fun vj wr2 => ∃ (j : Nat) (dj : Array Int), vj = .int .i64 j ∧ a ≤ j ∧ j ≤ i ∧ Hid (dj.size = N) ∧ Hid (SR .u32 S w0 blk off dj wr2) ∧
          Hid (insInner ltInt a j dj = insInner ltInt a i dk)) (fun vj _ => (intOf vj).toNat)
      case atStart => exact ⟨i, dk, rfl, by omega, Nat.le_refl _, Hsk, HR, Lib.hid rfl⟩
      case round =>
        obtain ⟨j, dj, rfl, haj, hji, Hsj, HJ, HI⟩ := hrel
        obtain ⟨G, hG, hcw, hfw⟩ := HJ.out.cells
        rw [Hsj.out] at hcw hfw
        have HG := Lib.hid hG; clear hG
        have out : (j ≤ a ∨ ltInt dj[j]! dj[j - 1]! = false) → ∀ q, ∃ i' dk', Value.int .i64 ((i : Int) + 1) = .int .i64 (i' : Nat) ∧ a < i' ∧ i' ≤ b + 1 ∧ Hid (dk'.size = N) ∧
            Hid (SR .u32 S w0 blk off dk' (wr.drewN q)) ∧ Hid (insOuter ltInt a b i' dk' = insOuter ltInt a b (a + 1) d) := fun hs q =>
          ⟨i + 1, dj, by go_num, by omega, by omega, Hsj, Lib.hid (HJ.out.drewN q), Lib.hid (by rw [← HO.out, insOut_go hlt, ← HI.out, ins_stop hs])⟩
        have OUT := Lib.hid out
        clear out
        go_wp2
        by_cases hja : a < j
        · go_big_quiet (first | (go_at_call 53; refine Calls.quiet_of_same (uint32_less _ _ _)))
          go_wp2
          · have hl : ltInt (G j) (G (j - 1)) = true := by assumption
            have HL := Lib.hid hl
            go_region
            all_goals go_wp2
            go_roundw
            case rel =>
              refine ⟨j - 1, swp dj j (j - 1), by congr 1; omega, by omega, by omega, Lib.hid (by rw [size_swp]; exact Hsj.out), Lib.hid ?_, Lib.hid ?_⟩
              · exact ((HJ.out.swap HS.out HG.out (i := j) (j := j - 1) (by rw [Hsj.out]; omega) (by rw [Hsj.out]; omega)).drewN (nq + 1))
              · rw [← HI.out]; exact (ins_go hja (by rw [← HG.out, ← HG.out]; exact HL.out)).symm
            case measure => simp [intOf]; omega
          · have hl : ltInt (G j) (G (j - 1)) = false := by assumption
            go_roundw
            case rel => exact OUT.out (Or.inr (by rw [← HG.out, ← HG.out]; exact hl)) nq
            case measure => simp [intOf]; omega
        · go_big_quiet (first | (go_at_call 53; refine Calls.quiet_of_same (uint32_less _ _ _)))
          go_wp2
          go_roundw
          case rel => exact OUT.out (Or.inl (by omega)) nq
          case measure => simp [intOf]; omega
    · have hge : ¬ i < b := by assumption
      go_end0
      refine ⟨rfl, ?_⟩
      have e := HO.out
      rw [insOut_stop hge] at e
      unfold insertionSort
      rw [← e]; exact HR.out

set_option maxHeartbeats 8000000 in
set_option maxRecDepth 1000000 in
theorem uint32_reverseRange {S : Nat → Prop} {blk off N cap a b : Nat} {d : Array Int} {w0 w : World} (hS : S blk) (h : SR .u32 S w0 blk off d w) (hd : d.size = N) (hab : a < b) (hb : b ≤ N) (hN : N < 4611686018427387904) :
    Calls Try.prog 51 #[.slice (some ⟨blk, off, none⟩) N cap, .int .i64 a, .int .i64 b] w fun e w' => e = .returned (.tuple #[]) ∧ ∃ d', d'.size = N ∧ PermIn a b d d' ∧ SR .u32 S w0 blk off d' w' := by
  have H := Lib.hid h; have HS := Lib.hid hS; have Hd := Lib.hid hd; clear h hS hd
  go_enter Try.func51, Try.ntmps51
  go_wp2
  go_loopw [6, 7] (fun vi vj wr => ∃ (i j : Nat) (dk : Array Int), vi = .int .i64 i ∧ vj = .int .i64 (j : Nat) ∧ a ≤ i ∧ i ≤ j + 2 ∧ j < b ∧ Hid (dk.size = N) ∧ Hid (SR .u32 S w0 blk off dk wr) ∧ Hid (PermIn a b d dk)) (fun vi vj _ => (intOf vj).toNat + 2 - (intOf vi).toNat)
  case atStart => exact ⟨a, b - 1, d, rfl, by congr 1; omega, by omega, by omega, by omega, Hd, H, Lib.hid (permIn_refl _ _ _)⟩
  case round =>
    obtain ⟨i, j, dk, rfl, rfl, hai, hij, hjb, Hsk, HR, HP⟩ := hrel
    obtain ⟨G, hG, hcw, hfw⟩ := HR.out.cells
    rw [Hsk.out] at hcw hfw
    have HG := Lib.hid hG; clear hG
    go_wp2
    · have hlt : i < j := by assumption
      go_region
      all_goals go_wp2
      go_roundw
      case rel =>
        refine ⟨i + 1, j - 1, swp dk i j, by go_num, by congr 1; omega, by omega, by omega, by omega, Lib.hid (by rw [size_swp]; exact Hsk.out), Lib.hid ?_, Lib.hid ?_⟩
        · exact ((HR.out.swap HS.out HG.out (i := i) (j := j) (by rw [Hsk.out]; omega) (by rw [Hsk.out]; omega)).drewN 1)
        · exact permIn_trans _ _ _ _ _ HP.out (swp_permIn _ _ _ _ _ hai (by omega) (by omega) hjb (by rw [Hsk.out]; omega))
      case measure => simp [intOf]; omega
    · go_end0
      exact ⟨rfl, dk, Hsk.out, HP.out, HR.out⟩
end Go.Proofs.Ythcmcjoenepkbaa
