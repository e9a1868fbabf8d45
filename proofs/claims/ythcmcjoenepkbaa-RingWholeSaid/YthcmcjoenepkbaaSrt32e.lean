/- Contracts for the library's sort at uint32: breakPatterns; choosePivot. -/
import Derived.Test.YthcmcjoenepkbaaSrt32d
import Derived.Test.YthcmcjoenepkbaaRnd
namespace Go.Proofs.Ythcmcjoenepkbaa
open Go Go.RowKit Go.Sort

set_option maxHeartbeats 4000000 in
set_option maxRecDepth 1000000 in
theorem uint32_breakPatterns {S : Nat → Prop} {blk off N cap a b : Nat} {d : Array Int} {w0 w : World} (hS : S blk) (h : SR .u32 S w0 blk off d w) (hlt : blk < w.heap.size) (hd : d.size = N) (hab : a + 8 ≤ b) (hb : b ≤ N) (hN : N < 4611686018427387904) :
    Calls Try.prog 49 #[.slice (some ⟨blk, off, none⟩) N cap, .int .i64 a, .int .i64 b] w fun e w' => e = .returned (.tuple #[]) ∧ ∃ d', PermIn a b d d' ∧ SR .u32 S w0 blk off d' w' := by
  obtain ⟨L, rfl⟩ : ∃ L, b = a + L := ⟨b - a, by omega⟩
  have h8 : 8 ≤ L := by omega
  obtain ⟨M, hM⟩ : ∃ M : Nat, M = 1 <<< bitsLen L := ⟨_, rfl⟩
  have hM1 : 1 ≤ M := by rw [hM, Nat.one_shiftLeft]; exact Nat.two_pow_pos _
  have hM2 : M ≤ 2 * L := by rw [hM, Nat.one_shiftLeft]; exact two_pow_bitsLen_le (by omega)
  have hNP : Hid (∀ w, Calls Try.prog 69 #[.int .i64 (L : Int)] w fun e w' => e = .returned (.int .u64 (M : Int)) ∧ w' = w) := by rw [hM]; exact Lib.hid (fun w => slices_nextPowerOfTwo L (by omega) w)
  clear hM hab
  have H : Hid (SR .u32 (fun k => S k ∨ k = w.heap.size) w0 blk off d (w.alloc (.cells #[.int .u64 (L : Int)] 108))) := Lib.hid (h.alloc hlt _)
  have Hone : Hid (One w.heap.size #[.int .u64 (L : Int)] (w.alloc (.cells #[.int .u64 (L : Int)] 108))) := Lib.hid (One.of w _ _)
  have HS := Lib.hid hS; have Hd := Lib.hid hd; have Hlt := Lib.hid hlt
  have Hw : Hid (w0.heap.size ≤ w.heap.size) := Lib.hid h.but.size
  clear h hS hd
  go_enter Try.func49, Try.ntmps49
  go_wp2_with (first | (go_at_call 69; rw [show ((a : Int) + (L : Int) - (a : Int)) = (L : Int) by omega]; refine (hNP.out _).mono ?_; rintro e w' ⟨rfl, rfl⟩))
  go_loopg [9] 4 (fun kk vi wr => ∃ (t ix r : Nat) (dk : Array Int), vi = .int .i64 ix ∧ a + L / 4 * 2 - 1 + t = ix ∧ t ≤ 3 ∧ 3 - t < kk ∧ r < 18446744073709551616 ∧ Hid (dk.size = N) ∧
      Hid (SR .u32 (fun k => S k ∨ k = w.heap.size) w0 blk off dk wr) ∧ Hid (One w.heap.size #[.int .u64 (r : Int)] wr) ∧ Hid (PermIn a (a + L) d dk))
  case atStart => exact ⟨0, a + L / 4 * 2 - 1, L, d, by congr 1; omega, by omega, by omega, by omega, by omega, Hd, H, Hone, Lib.hid (permIn_refl _ _ _)⟩
  case round =>
    obtain ⟨t, ix, r, dk, rfl, hix, ht, hkk, hr, Hsk, HR, HO, HP⟩ := hrel
    have hcB : wr.cell? ⟨w.heap.size, 0, none⟩ = some (.int .u64 (r : Int)) := by rw [HO.out.c]; rfl
    have hfB := HO.out.f 0
    have hne : w.heap.size ≠ blk := by have := Hlt.out; omega
    have hnext : Calls Try.prog 70 #[.pointer (some ⟨w.heap.size, 0, none⟩)] wr fun e w' => ∃ r : Nat, r < 18446744073709551616 ∧ e = .returned (.int .u64 r) ∧ SR .u32 (fun k => S k ∨ k = w.heap.size) w0 blk off dk w' ∧ One w.heap.size #[.int .u64 (r : Int)] w' := by
      refine (rnd_next w.heap.size r hr wr hcB hfB).mono ?_
      rintro e w' ⟨r', hr', rfl, rfl⟩
      exact ⟨r', hr', rfl, (HR.out.set (p := ⟨w.heap.size, 0, none⟩) (Or.inr rfl) hne _).drewN 3, (HO.out.set (i := 0) (by simp) _).drewN 3⟩
    have HNext := Lib.hid hnext
    clear hnext hcB hfB hne HO
    by_cases ht3 : t < 3
    · go_wp2_with fail
      refine HNext.out.mono ?_
      rintro e w1 ⟨r', hr', rfl, h1, h2⟩
      obtain ⟨G, hG, hcw, hfw⟩ := h1.cells
      rw [Hsk.out] at hcw hfw
      have HG := Lib.hid hG; have H1 := Lib.hid h1; have H2 := Lib.hid h2; clear hG h1 h2 HNext
      obtain ⟨O, hO⟩ : ∃ O : Nat, O = r' &&& (M - 1) := ⟨_, rfl⟩
      have lO : O ≤ M - 1 := by rw [hO]; exact Nat.and_le_right
      have eAnd : bits .and .u64 (r' : Int) ((M : Int) - 1) = (O : Int) := by
        rw [show ((M : Int) - 1) = ((M - 1 : Nat) : Int) by omega, u64_and_nat _ _ hr' (by omega), hO]
      clear hO
      go_upto_if 43 with fail
      go_cut [10] (fun s wx => ∃ o : Nat, s = .int .i64 o ∧ o < L ∧ w1 = wx)
      case first =>
        by_cases hLO : L ≤ O
        · go_wp2_with fail
          go_meet
          exact ⟨O - L, by congr 1; omega, by omega, rfl⟩
        · go_wp2_with fail
          go_meet
          exact ⟨O, rfl, by omega, rfl⟩
      case rest =>
        obtain ⟨o, rfl, ho, rfl⟩ := hcut
        have hix2 : ix < a + L ∧ a ≤ ix := ⟨by omega, by omega⟩
        obtain ⟨v3, hy3⟩ := cell?_setCell_some (w := w1) (p := ⟨blk, off + ix, none⟩) (x := .int .u32 (G (a + o))) (q := ⟨blk, off + (a + o), none⟩) (hcw (a + o) (by omega))
        have HN := Lib.hid (H1.out.swap (Or.inl HS.out) HG.out (i := ix) (j := a + o) (by rw [Hsk.out]; omega) (by rw [Hsk.out]; omega)).drew
        have HO2 := Lib.hid (((H2.out.far (p := ⟨blk, off + ix, none⟩) (by have := Hlt.out; show blk ≠ _; omega) (.int .u32 (G (a + o)))).far (p := ⟨blk, off + (a + o), none⟩) (by have := Hlt.out; show blk ≠ _; omega) (.int .u32 (G ix))).drewN 1)
        go_wp2_with fail
        go_region
        all_goals go_wp2
        go_roundg (3 - t)
        case measure => omega
        case rel =>
          exact ⟨t + 1, ix + 1, r', swp dk ix (a + o), by go_num, by omega, by omega, by omega, hr', Lib.hid (by rw [size_swp]; exact Hsk.out), HN, HO2, Lib.hid (permIn_trans _ _ _ _ _ HP.out (swp_permIn _ _ _ _ _ (by omega) (by omega) (by omega) (by omega) (by rw [Hsk.out]; omega)))⟩
    · obtain rfl : t = 3 := by omega
      go_wp2_with fail
      go_end0
      exact ⟨rfl, dk, HP.out, HR.out.drop Hw.out⟩
end Go.Proofs.Ythcmcjoenepkbaa
