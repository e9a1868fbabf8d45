/- Contracts for the library's sort at uint32: partialInsertionSort. -/
import Derived.Test.YthcmcjoenepkbaaSrt32c
namespace Go.Proofs.Ythcmcjoenepkbaa
open Go Go.RowKit Go.Sort

set_option maxHeartbeats 16000000 in
set_option maxRecDepth 1000000 in
theorem uint32_partialInsertionSort {S : Nat → Prop} {blk off N cap a b : Nat} {d : Array Int} {w0 w : World} (hS : S blk) (h : SR .u32 S w0 blk off d w) (hd : d.size = N) (hab : a < b) (hb : b ≤ N) (hN : N < 4611686018427387904) :
    Calls Try.prog 52 #[.slice (some ⟨blk, off, none⟩) N cap, .int .i64 a, .int .i64 b] w fun e w' => ∃ (d' : Array Int) (r : Bool), e = .returned (.bool r) ∧ partialInsertionSort ltInt d a b = (d', r) ∧ SR .u32 S w0 blk off d' w' := by
  have H := Lib.hid h; have HS := Lib.hid hS; have Hd := Lib.hid hd
  clear h hS hd
  obtain ⟨Pd, Pb, hP⟩ : ∃ Pd Pb, partialIns ltInt a b 5 (a + 1) d = (Pd, Pb) := ⟨_, _, rfl⟩
  have HP0 := Lib.hid hP; clear hP
  go_enter Try.func52, Try.ntmps52
  go_wp2_with fail
  go_loopg [7, 8] 6 (fun k s7 s8 wr => ∃ (i s : Nat) (dk : Array Int), s7 = .int .i64 i ∧ s8 = .int .i64 s ∧ s ≤ 5 ∧ 6 - s ≤ k ∧ a < i ∧ i ≤ b ∧ Hid (dk.size = N) ∧ Hid (SR .u32 S w0 blk off dk wr) ∧ Hid (partialIns ltInt a b (5 - s) i dk = (Pd, Pb)))
  case atStart => exact ⟨a + 1, 0, d, by go_num, rfl, by omega, by omega, by omega, by omega, Hd, H, HP0⟩
  case round =>
    clear H Hd
    obtain ⟨i, s, dk, rfl, rfl, hs5, hk, hai, hib, Hs, HR, HP⟩ := hrel
    by_cases h5 : s < 5
    · have hgs : 5 - s = (4 - s) + 1 := by omega
      have hps := HP.out
      rw [hgs, partialIns_succ] at hps
      obtain ⟨I, hI⟩ : ∃ I : Nat, scanSorted ltInt dk b i = I := ⟨_, rfl⟩
      rw [hI] at hps
      have HI := Lib.hid hI; have HP2 := Lib.hid hps
      clear hI hps HP hgs
      go_upto_block 2 with fail
      go_cut [7] (fun s wx => s = .int .i64 (I : Nat) ∧ i ≤ I ∧ I ≤ b ∧ Hid (SR .u32 S w0 blk off dk wx))
      case first =>
        go_wp2_with fail
        go_loopg [7] (b - i) (fun k s wr => ∃ x : Nat, s = .int .i64 x ∧ i ≤ x ∧ x ≤ b ∧ b - x ≤ k ∧ Hid (scanSorted ltInt dk b x = I) ∧ Hid (SR .u32 S w0 blk off dk wr))
        case atStart => exact ⟨i, rfl, by omega, by omega, by omega, HI, HR⟩
        case round =>
          obtain ⟨x, rfl, hx1, hx2, hx3, HX, HY⟩ := hrel
          obtain ⟨G, hG, hcw, hfw⟩ := HY.out.cells
          rw [Hs.out] at hcw hfw
          have HG := Lib.hid hG; clear hG
          by_cases hle : x < b
          · go_wp2_with fail
            go_big_quiet (first | (go_at_call 53; refine Calls.quiet_of_same (uint32_less _ _ _)))
            go_wp2
            · have ht : (!ltInt (G x) (G (x - 1))) = true := by assumption
              go_roundg (b - (x + 1))
              case measure => omega
              case rel => exact ⟨x + 1, by go_num, by omega, by omega, Nat.le_refl _, Lib.hid ((sorted_go hle (by rw [← HG.out x, ← HG.out (x - 1)]; simpa using ht)).symm.trans HX.out), Lib.hid (HY.out.drewN nq)⟩
            · have ht : (!ltInt (G x) (G (x - 1))) = false := by assumption
              have e := HX.out
              rw [sorted_end (Or.inr (by rw [← HG.out x, ← HG.out (x - 1)]; simpa using ht))] at e
              subst e
              go_meet
              exact ⟨rfl, hx1, hx2, Lib.hid (HY.out.drewN nq)⟩
          · go_wp2_with fail
            go_big_quiet (first | (go_at_call 53; refine Calls.quiet_of_same (uint32_less _ _ _)))
            have e := HX.out
            rw [sorted_end (Or.inl hle)] at e
            subst e
            go_wp2
            go_meet
            exact ⟨rfl, hx1, hx2, Lib.hid (HY.out.drewN nq)⟩
      case rest =>
        obtain ⟨rfl, hiI, hIb, HR1⟩ := hcut
        clear HR
        by_cases hIe : I = b
        · have hIz : (I : Int) = (b : Int) := by omega
          have hp := HP2.out
          rw [if_pos hIe] at hp
          cases hp
          go_wp2
          go_ret
          exact ⟨_, _, rfl, HP0.out, HR1.out⟩
        · have hp := HP2.out
          rw [if_neg hIe] at hp
          by_cases h50 : b - a < 50
          · rw [if_pos h50] at hp
            cases hp
            go_wp2
            go_ret
            exact ⟨_, _, rfl, HP0.out, HR1.out⟩
          · rw [if_neg h50] at hp
            have hIe2 : ¬ ((I : Int) = (b : Int)) := by omega
            obtain ⟨G, hG, hcw, hfw⟩ := HR1.out.cells
            rw [Hs.out] at hcw hfw
            have HG := Lib.hid hG; clear hG
            have HN := Lib.hid (HR1.out.swap HS.out HG.out (i := I) (j := I - 1) (by rw [Hs.out]; omega) (by rw [Hs.out]; omega)).drew
            have hs1 : Hid ((swp dk I (I - 1)).size = N) := Lib.hid (by rw [size_swp]; exact Hs.out)
            obtain ⟨d1, hd1⟩ : ∃ d1, swp dk I (I - 1) = d1 := ⟨_, rfl⟩
            rw [hd1] at hp HN hs1
            obtain ⟨d2, hd2⟩ : ∃ d2, fixDown ltInt a I d1 = d2 := ⟨_, rfl⟩
            rw [hd2] at hp
            obtain ⟨d3, hd3⟩ : ∃ d3, fixUp ltInt b I d2 = d3 := ⟨_, rfl⟩
            rw [hd3] at hp
            have HP3 := Lib.hid hp; have HD2 := Lib.hid hd2; have HD3 := Lib.hid hd3
            clear hp hd1 hd2 hd3
            go_wp2_with fail
            go_region
            clear hcw hfw HG
            go_upto_if 61 with fail
            go_cut [] (fun wx => Hid (SR .u32 S w0 blk off d2 wx) ∧ Hid (d2.size = N))
            case first =>
              by_cases h2 : I - a ≥ 2
              · have hd2 := HD2.out; unfold fixDown at hd2
                rw [if_pos h2] at hd2
                have HD := Lib.hid hd2; clear hd2
                go_wp2_with fail
                go_loopg [9] (I - 1) (fun k s wr => ∃ (x : Nat) (dj : Array Int), s = .int .i64 x ∧ x ≤ k ∧ x < I ∧ Hid (dj.size = N) ∧ Hid (shiftDown ltInt x dj = d2) ∧ Hid (SR .u32 S w0 blk off dj wr))
                case atStart => exact ⟨I - 1, d1, by go_num, by omega, by omega, hs1, HD, HN⟩
                case round =>
                  obtain ⟨x, dj, rfl, hx1, hx2, Hj, HX, HY⟩ := hrel
                  by_cases hx0 : 1 ≤ x
                  · obtain ⟨G, hG, hcw, hfw⟩ := HY.out.cells
                    rw [Hj.out] at hcw hfw
                    have HG := Lib.hid hG; clear hG
                    go_wp2_with fail
                    go_big_quiet (first | (go_at_call 53; refine Calls.quiet_of_same (uint32_less _ _ _)))
                    go_wp2_with fail
                    · have ht : (!ltInt (G x) (G (x - 1))) = true := by assumption
                      have e := HX.out
                      rw [shd_stop (Or.inr (by rw [← HG.out x, ← HG.out (x - 1)]; simpa using ht))] at e
                      subst e
                      go_meet
                      exact ⟨Lib.hid (HY.out.drewN nq), Hj⟩
                    · have ht : (!ltInt (G x) (G (x - 1))) = false := by assumption
                      have HT := Lib.hid ht; clear ht
                      go_region
                      all_goals go_wp2
                      go_roundg (x - 1)
                      case measure => omega
                      case rel =>
                        refine ⟨x - 1, swp dj x (x - 1), by go_num, Nat.le_refl _, by omega, Lib.hid (by rw [size_swp]; exact Hj.out), Lib.hid ?_, Lib.hid ?_⟩
                        · rw [← HX.out]; exact (shd_go hx0 (by have := HT.out; rw [HG.out, HG.out] at this; simpa using this)).symm
                        · exact (HY.out.swap HS.out HG.out (i := x) (j := x - 1) (by rw [Hj.out]; omega) (by rw [Hj.out]; omega)).drewN (nq + 1)
                  · have hx0z : ¬ ((1 : Int) ≤ (x : Int)) := by omega
                    have e := HX.out
                    rw [shd_stop (Or.inl (by omega))] at e
                    subst e
                    go_wp2_with fail
                    go_meet
                    exact ⟨HY, Hj⟩
              · have hd2 := HD2.out; unfold fixDown at hd2
                rw [if_neg h2] at hd2
                subst hd2
                go_wp2_with fail
                go_meet
                exact ⟨HN, hs1⟩
            case rest =>
              obtain ⟨HR2, Hs2⟩ := hcut
              clear HN hs1 HR1
              go_upto_if 98 with fail
              by_cases h2 : b - I ≥ 2
              · have hd2 := HD3.out; unfold fixUp at hd2
                rw [if_pos h2] at hd2
                have HD := Lib.hid hd2; clear hd2
                go_wp2_with fail
                go_loopg [10] (b - (I + 1)) (fun k s wr => ∃ (x : Nat) (dj : Array Int), s = .int .i64 x ∧ I + 1 ≤ x ∧ x ≤ b ∧ b - x ≤ k ∧ Hid (dj.size = N) ∧ Hid (shiftUp ltInt b x dj = d3) ∧ Hid (SR .u32 S w0 blk off dj wr))
                case atStart => exact ⟨I + 1, d2, by go_num, by omega, by omega, by omega, Hs2, HD, HR2⟩
                case round =>
                  obtain ⟨x, dj, rfl, hx1, hx2, hx3, Hj, HX, HY⟩ := hrel
                  by_cases hx0 : x < b
                  · obtain ⟨G, hG, hcw, hfw⟩ := HY.out.cells
                    rw [Hj.out] at hcw hfw
                    have HG := Lib.hid hG; clear hG
                    go_wp2_with fail
                    go_big_quiet (first | (go_at_call 53; refine Calls.quiet_of_same (uint32_less _ _ _)))
                    go_wp2_with fail
                    · have ht : (!ltInt (G x) (G (x - 1))) = true := by assumption
                      have e := HX.out
                      rw [shu_stop (Or.inr (by rw [← HG.out x, ← HG.out (x - 1)]; simpa using ht))] at e
                      subst e
                      go_wp2_with fail
                      go_roundg (6 - (s + 1))
                      case measure => omega
                      case rel => exact ⟨I, s + 1, _, rfl, by go_num, by omega, Nat.le_refl _, by omega, by omega, Hj, Lib.hid (HY.out.drewN nq), Lib.hid (by rw [show 5 - (s + 1) = 4 - s by omega]; exact HP3.out)⟩
                    · have ht : (!ltInt (G x) (G (x - 1))) = false := by assumption
                      have HT := Lib.hid ht; clear ht
                      go_region
                      all_goals go_wp2
                      go_roundg (b - (x + 1))
                      case measure => omega
                      case rel =>
                        refine ⟨x + 1, swp dj x (x - 1), by go_num, by omega, by omega, Nat.le_refl _, Lib.hid (by rw [size_swp]; exact Hj.out), Lib.hid ?_, Lib.hid ?_⟩
                        · rw [← HX.out]; exact (shu_go hx0 (by have := HT.out; rw [HG.out, HG.out] at this; simpa using this)).symm
                        · exact (HY.out.swap HS.out HG.out (i := x) (j := x - 1) (by rw [Hj.out]; omega) (by rw [Hj.out]; omega)).drewN (nq + 1)
                  · have e := HX.out
                    rw [shu_stop (Or.inl hx0)] at e
                    subst e
                    go_wp2_with fail
                    go_roundg (6 - (s + 1))
                    case measure => omega
                    case rel => exact ⟨I, s + 1, _, rfl, by go_num, by omega, Nat.le_refl _, by omega, by omega, Hj, HY, Lib.hid (by rw [show 5 - (s + 1) = 4 - s by omega]; exact HP3.out)⟩
              · have hd2 := HD3.out; unfold fixUp at hd2
                rw [if_neg h2] at hd2
                subst hd2
                go_wp2_with fail
                go_roundg (6 - (s + 1))
                case measure => omega
                case rel => exact ⟨I, s + 1, _, rfl, by go_num, by omega, Nat.le_refl _, by omega, by omega, Hs2, HR2, Lib.hid (by rw [show 5 - (s + 1) = 4 - s by omega]; exact HP3.out)⟩
    · have hp := HP.out
      rw [show 5 - s = 0 by omega] at hp
      cases hp
      go_wp2
      go_ret
      exact ⟨_, _, rfl, HP0.out, HR.out⟩
end Go.Proofs.Ythcmcjoenepkbaa
