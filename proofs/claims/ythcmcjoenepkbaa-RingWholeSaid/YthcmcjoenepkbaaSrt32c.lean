/- Contracts for the library's sort at uint32: partition, partitionEqual. -/
import Derived.Test.YthcmcjoenepkbaaSrt32b
import Derived.Deep.DeepCutAuto
import Derived.Deep.CutBlock
namespace Go.Proofs.Ythcmcjoenepkbaa
open Go Go.RowKit Go.Sort

set_option maxHeartbeats 16000000 in
set_option maxRecDepth 1000000 in
theorem uint32_partitionEqual {S : Nat → Prop} {blk off N cap a b pivot : Nat} {d : Array Int} {w0 w : World} (hS : S blk) (h : SR .u32 S w0 blk off d w) (hd : d.size = N) (hap : a ≤ pivot) (hpb : pivot < b) (hb : b ≤ N) (hN : N < 4611686018427387904) :
    Calls Try.prog 54 #[.slice (some ⟨blk, off, none⟩) N cap, .int .i64 a, .int .i64 b, .int .i64 pivot] w fun e w' => ∃ (mid : Nat) (d' : Array Int), e = .returned (.int .i64 mid) ∧ partitionEqual ltInt d a b pivot = (mid, d') ∧ SR .u32 S w0 blk off d' w' := by
  obtain ⟨G, hG, hcw, hfw⟩ := h.cells
  rw [hd] at hcw hfw
  obtain ⟨v3, hy3⟩ := cell?_setCell_some (w := w) (p := ⟨blk, off + a, none⟩) (x := .int .u32 (G pivot)) (q := ⟨blk, off + pivot, none⟩) (hcw pivot (by omega))
  have H1 := Lib.hid (h.swap hS hG (i := a) (j := pivot) (by omega) (by omega)).drew
  have HS := Lib.hid hS; have Hd := Lib.hid hd
  clear h hS hd hG
  go_enter Try.func54, Try.ntmps54
  go_wp2
  go_region
  clear hcw hfw hy3
  go_upto_block 0 with fail
  refine wp_abs (F := fun wx => SR .u32 S w0 blk off (swp d a pivot) wx) H1.out ?_
  intro W HW
  have HR := Lib.hid HW; clear HW
  have Hs0 : Hid ((swp d a pivot).size = N) := Lib.hid (by rw [size_swp]; exact Hd.out)
  obtain ⟨Pm, Pd, hP⟩ : ∃ Pm Pd, partEqLoop ltInt a (a + 1) (b - 1) (swp d a pivot) = (Pm, Pd) := ⟨_, _, rfl⟩
  have HP0 := Lib.hid hP; clear hP
  go_wp2_with fail
  go_loopg [9, 10] (b + 1) (fun k s9 s10 wr => ∃ (i j : Nat) (dk : Array Int), s9 = .int .i64 i ∧ s10 = .int .i64 j ∧ a < i ∧ i ≤ b ∧ j < b ∧ j + 1 - i < k ∧ Hid (dk.size = N) ∧ Hid (SR .u32 S w0 blk off dk wr) ∧ Hid (partEqLoop ltInt a i j dk = (Pm, Pd)))
  case atStart => exact ⟨a + 1, b - 1, swp d a pivot, by go_num, by go_num, by omega, by omega, by omega, by omega, Hs0, HR, HP0⟩
  case round =>
    clear HR Hs0
    obtain ⟨i, j, dk, rfl, rfl, hai, hib, hjb, hk, Hs, HR, HP⟩ := hrel
    obtain ⟨I, hI⟩ : ∃ I : Nat, scanUp (fun x => !ltInt dk[a]! x) dk j i = I := ⟨_, rfl⟩
    have HI := Lib.hid hI; clear hI
    go_upto_block 2 with fail
    go_cut [9] (fun s wx => s = .int .i64 (I : Nat) ∧ i ≤ I ∧ I ≤ b ∧ Hid (SR .u32 S w0 blk off dk wx))
    case first =>
      go_wp2_with fail
      go_loopg [9] (j + 1 - i) (fun k s wx => ∃ x : Nat, s = .int .i64 x ∧ i ≤ x ∧ x ≤ b ∧ j + 1 - x ≤ k ∧ Hid (scanUp (fun x => !ltInt dk[a]! x) dk j x = I) ∧ Hid (SR .u32 S w0 blk off dk wx))
      case atStart => exact ⟨i, rfl, by omega, by omega, by omega, HI, HR⟩
      case round =>
        obtain ⟨x, rfl, hx1, hx2, hx3, HX, HY⟩ := hrel
        obtain ⟨G, hG, hcw, hfw⟩ := HY.out.cells
        rw [Hs.out] at hcw hfw
        have HG := Lib.hid hG; clear hG
        by_cases hle : x ≤ j
        · go_wp2_with fail
          go_big_quiet (first | (go_at_call 53; refine Calls.quiet_of_same (uint32_less _ _ _)))
          go_wp2
          · have ht : (!ltInt (G a) (G x)) = true := by assumption
            go_roundg (j + 1 - (x + 1))
            case measure => omega
            case rel => exact ⟨x + 1, by go_num, by omega, by omega, Nat.le_refl _, Lib.hid ((up_go (p := fun x => !ltInt dk[a]! x) (d := dk) hle (by rw [← HG.out a, ← HG.out x]; exact ht)).symm.trans HX.out), Lib.hid (HY.out.drewN nq)⟩
          · have ht : (!ltInt (G a) (G x)) = false := by assumption
            have e := HX.out
            rw [up_end (Or.inr (by show _ = _; rw [← HG.out a, ← HG.out x]; exact ht))] at e
            subst e
            go_meet
            exact ⟨rfl, hx1, hx2, Lib.hid (HY.out.drewN nq)⟩
        · go_wp2_with fail
          go_big_quiet (first | (go_at_call 53; refine Calls.quiet_of_same (uint32_less _ _ _)))
          have e := HX.out
          rw [up_end (Or.inl hle)] at e
          subst e
          go_wp2
          go_meet
          exact ⟨rfl, hx1, hx2, Lib.hid (HY.out.drewN nq)⟩
    case rest =>
      obtain ⟨rfl, hiI, hIb, HR1⟩ := hcut
      clear HR
      obtain ⟨J, hJ⟩ : ∃ J : Nat, scanDown (fun x => ltInt dk[a]! x) dk I j = J := ⟨_, rfl⟩
      have HJ := Lib.hid hJ; clear hJ
      go_upto_block 4 with fail
      go_cut [10] (fun s wx => s = .int .i64 (J : Nat) ∧ J ≤ j ∧ Hid (SR .u32 S w0 blk off dk wx))
      case first =>
        go_wp2_with fail
        go_loopg [10] (j) (fun k s wx => ∃ x : Nat, s = .int .i64 x ∧ x ≤ j ∧ x ≤ k ∧ Hid (scanDown (fun x => ltInt dk[a]! x) dk I x = J) ∧ Hid (SR .u32 S w0 blk off dk wx))
        case atStart => exact ⟨j, rfl, by omega, by omega, HJ, HR1⟩
        case round =>
          obtain ⟨x, rfl, hx1, hx2, HX, HY⟩ := hrel
          obtain ⟨G, hG, hcw, hfw⟩ := HY.out.cells
          rw [Hs.out] at hcw hfw
          have HG := Lib.hid hG; clear hG
          by_cases hle : I ≤ x
          · go_wp2_with fail
            go_big_quiet (first | (go_at_call 53; refine Calls.quiet_of_same (uint32_less _ _ _)))
            go_wp2
            · have ht : ltInt (G a) (G x) = true := by assumption
              go_roundg (x - 1)
              case measure => omega
              case rel => exact ⟨x - 1, by go_num, by omega, Nat.le_refl _, Lib.hid ((down_go (p := fun x => ltInt dk[a]! x) (d := dk) hle (by omega) (by rw [← HG.out a, ← HG.out x]; exact ht)).symm.trans HX.out), Lib.hid (HY.out.drewN nq)⟩
            · have ht : ltInt (G a) (G x) = false := by assumption
              have e := HX.out
              rw [down_end (Or.inr (by show _ = _; rw [← HG.out a, ← HG.out x]; exact ht))] at e
              subst e
              go_meet
              exact ⟨rfl, hx1, Lib.hid (HY.out.drewN nq)⟩
          · go_wp2_with fail
            go_big_quiet (first | (go_at_call 53; refine Calls.quiet_of_same (uint32_less _ _ _)))
            have e := HX.out
            rw [down_end (Or.inl hle)] at e
            subst e
            go_wp2
            go_meet
            exact ⟨rfl, hx1, Lib.hid (HY.out.drewN nq)⟩
      case rest =>
        obtain ⟨rfl, hJj, HR2⟩ := hcut
        clear HR1
        by_cases hst : J < I
        · go_wp2
          go_ret
          have e := HP.out
          rw [partE_stop HI.out HJ.out hst] at e
          cases e
          exact ⟨_, _, rfl, HP0.out, HR2.out⟩
        · obtain ⟨G, hG, hcw, hfw⟩ := HR2.out.cells
          rw [Hs.out] at hcw hfw
          have HG := Lib.hid hG; clear hG
          obtain ⟨v3, hy3⟩ := cell?_setCell_some (w := wc) (p := ⟨blk, off + I, none⟩) (x := .int .u32 (G J)) (q := ⟨blk, off + J, none⟩) (hcw J (by omega))
          go_wp2
          go_region
          all_goals go_wp2
          go_roundg (J - 1 + 1 - (I + 1) + 1)
          case measure => omega
          case rel =>
            refine ⟨I + 1, J - 1, swp dk I J, by go_num, by go_num, by omega, by omega, by omega, by omega, Lib.hid (by rw [size_swp]; exact Hs.out), Lib.hid ?_, Lib.hid ?_⟩
            · exact (HR2.out.swap HS.out HG.out (i := I) (j := J) (by rw [Hs.out]; omega) (by rw [Hs.out]; omega)).drewN 1
            · rw [← HP.out]; exact (partE_go HI.out HJ.out hst).symm

set_option maxHeartbeats 16000000 in
set_option maxRecDepth 1000000 in
theorem uint32_partition {S : Nat → Prop} {blk off N cap a b pivot : Nat} {d : Array Int} {w0 w : World} (hS : S blk) (h : SR .u32 S w0 blk off d w) (hd : d.size = N) (hap : a ≤ pivot) (hpb : pivot < b) (hb : b ≤ N) (hN : N < 4611686018427387904) :
    Calls Try.prog 55 #[.slice (some ⟨blk, off, none⟩) N cap, .int .i64 a, .int .i64 b, .int .i64 pivot] w fun e w' => ∃ (mid : Nat) (ap ap' : Bool) (d' : Array Int), e = .returned (.tuple #[.int .i64 mid, .bool ap]) ∧ partition ltInt d a b pivot = (mid, ap', d') ∧ SR .u32 S w0 blk off d' w' := by
  obtain ⟨G, hG, hcw, hfw⟩ := h.cells
  rw [hd] at hcw hfw
  obtain ⟨v3, hy3⟩ := cell?_setCell_some (w := w) (p := ⟨blk, off + a, none⟩) (x := .int .u32 (G pivot)) (q := ⟨blk, off + pivot, none⟩) (hcw pivot (by omega))
  have H1 := Lib.hid (h.swap hS hG (i := a) (j := pivot) (by omega) (by omega)).drew
  have HS := Lib.hid hS; have Hd := Lib.hid hd
  clear h hS hd hG
  obtain ⟨jj, hjj, hjb⟩ : ∃ jj : Nat, (b : Int) - 1 = (jj : Int) ∧ b - 1 = jj := ⟨b - 1, by omega, rfl⟩
  go_enter Try.func55, Try.ntmps55
  go_wp2
  go_region
  clear hcw hfw hy3
  go_upto_block 0 with fail
  refine wp_abs (F := fun wx => SR .u32 S w0 blk off (swp d a pivot) wx) H1.out ?_
  intro W HW
  have HR := Lib.hid HW; clear HW
  have Hs0 : Hid ((swp d a pivot).size = N) := Lib.hid (by rw [size_swp]; exact Hd.out)
  obtain ⟨Pm, Pd, hP⟩ : ∃ Pm Pd, partLoop ltInt a (a + 1) (b - 1) (swp d a pivot) = (Pm, Pd) := ⟨_, _, rfl⟩
  have hfin : partition ltInt d a b pivot = (Pm, (partition ltInt d a b pivot).2.1, swp Pd Pm a) := by
    have e1 := partition_fst ltInt d a b pivot; have e2 := partition_arr ltInt d a b pivot
    rw [hP] at e1 e2
    refine Prod.ext e1 (Prod.ext rfl e2)
  have HF := Lib.hid hfin
  have HP := Lib.hid hP; clear hP hfin
  obtain ⟨dk, hdk⟩ : ∃ dk, swp d a pivot = dk := ⟨_, rfl⟩
  rw [hdk] at HR HP Hs0
  rw [hjb] at HP
  have Hs := Hs0
  clear hdk Hs0
  have hjb2 : jj + 1 = b := by omega
  clear hjj hjb
  obtain ⟨I, hI⟩ : ∃ I : Nat, scanUp (fun x => ltInt x dk[a]!) dk jj (a + 1) = I := ⟨_, rfl⟩
  have HI := Lib.hid hI; clear hI
  go_upto_block 0 with fail
  go_cut [10] (fun s wx => s = .int .i64 (I : Nat) ∧ (a + 1) ≤ I ∧ I ≤ b ∧ Hid (SR .u32 S w0 blk off dk wx))
  case first =>
    go_wp2_with fail
    go_loopg [10] (jj + 1 - (a + 1)) (fun k s wx => ∃ x : Nat, s = .int .i64 x ∧ (a + 1) ≤ x ∧ x ≤ b ∧ jj + 1 - x ≤ k ∧ Hid (scanUp (fun x => ltInt x dk[a]!) dk jj x = I) ∧ Hid (SR .u32 S w0 blk off dk wx))
    case atStart => exact ⟨(a + 1), rfl, by omega, by omega, by omega, HI, HR⟩
    case round =>
      obtain ⟨x, rfl, hx1, hx2, hx3, HX, HY⟩ := hrel
      obtain ⟨G, hG, hcw, hfw⟩ := HY.out.cells
      rw [Hs.out] at hcw hfw
      have HG := Lib.hid hG; clear hG
      by_cases hle : x ≤ jj
      · go_wp2_with fail
        go_big_quiet (first | (go_at_call 53; refine Calls.quiet_of_same (uint32_less _ _ _)))
        go_wp2
        · have ht : ltInt (G x) (G a) = true := by assumption
          go_roundg (jj + 1 - (x + 1))
          case measure => omega
          case rel => exact ⟨x + 1, by go_num, by omega, by omega, Nat.le_refl _, Lib.hid ((up_go (p := fun x => ltInt x dk[a]!) (d := dk) hle (by rw [← HG.out x, ← HG.out a]; exact ht)).symm.trans HX.out), Lib.hid (HY.out.drewN nq)⟩
        · have ht : ltInt (G x) (G a) = false := by assumption
          have e := HX.out
          rw [up_end (Or.inr (by show _ = _; rw [← HG.out x, ← HG.out a]; exact ht))] at e
          subst e
          go_meet
          exact ⟨rfl, hx1, hx2, Lib.hid (HY.out.drewN nq)⟩
      · go_wp2_with fail
        go_big_quiet (first | (go_at_call 53; refine Calls.quiet_of_same (uint32_less _ _ _)))
        have e := HX.out
        rw [up_end (Or.inl hle)] at e
        subst e
        go_wp2
        go_meet
        exact ⟨rfl, hx1, hx2, Lib.hid (HY.out.drewN nq)⟩
  case rest =>
    obtain ⟨rfl, hiI, hIb, HR1⟩ := hcut
    clear HR
    obtain ⟨J, hJ⟩ : ∃ J : Nat, scanDown (fun x => !ltInt x dk[a]!) dk I jj = J := ⟨_, rfl⟩
    have HJ := Lib.hid hJ; clear hJ
    go_upto_block 2 with fail
    go_cut [11] (fun s wx => s = .int .i64 (J : Nat) ∧ J ≤ jj ∧ Hid (SR .u32 S w0 blk off dk wx))
    case first =>
      go_wp2_with fail
      go_loopg [11] (jj) (fun k s wx => ∃ x : Nat, s = .int .i64 x ∧ x ≤ jj ∧ x ≤ k ∧ Hid (scanDown (fun x => !ltInt x dk[a]!) dk I x = J) ∧ Hid (SR .u32 S w0 blk off dk wx))
      case atStart => exact ⟨jj, rfl, by omega, by omega, HJ, HR1⟩
      case round =>
        obtain ⟨x, rfl, hx1, hx2, HX, HY⟩ := hrel
        obtain ⟨G, hG, hcw, hfw⟩ := HY.out.cells
        rw [Hs.out] at hcw hfw
        have HG := Lib.hid hG; clear hG
        by_cases hle : I ≤ x
        · go_wp2_with fail
          go_big_quiet (first | (go_at_call 53; refine Calls.quiet_of_same (uint32_less _ _ _)))
          go_wp2
          · have ht : (!ltInt (G x) (G a)) = true := by assumption
            go_roundg (x - 1)
            case measure => omega
            case rel => exact ⟨x - 1, by go_num, by omega, Nat.le_refl _, Lib.hid ((down_go (p := fun x => !ltInt x dk[a]!) (d := dk) hle (by omega) (by rw [← HG.out x, ← HG.out a]; exact ht)).symm.trans HX.out), Lib.hid (HY.out.drewN nq)⟩
          · have ht : (!ltInt (G x) (G a)) = false := by assumption
            have e := HX.out
            rw [down_end (Or.inr (by show _ = _; rw [← HG.out x, ← HG.out a]; exact ht))] at e
            subst e
            go_meet
            exact ⟨rfl, hx1, Lib.hid (HY.out.drewN nq)⟩
        · go_wp2_with fail
          go_big_quiet (first | (go_at_call 53; refine Calls.quiet_of_same (uint32_less _ _ _)))
          have e := HX.out
          rw [down_end (Or.inl hle)] at e
          subst e
          go_wp2
          go_meet
          exact ⟨rfl, hx1, Lib.hid (HY.out.drewN nq)⟩
    case rest =>
      obtain ⟨rfl, hJj, HR2⟩ := hcut
      clear HR1
      by_cases hst : J < I
      · skip
        obtain ⟨G, hG, hcw, hfw⟩ := HR2.out.cells
        rw [Hs.out] at hcw hfw
        have HG := Lib.hid hG; clear hG
        obtain ⟨v3, hy3⟩ := cell?_setCell_some (w := wc) (p := ⟨blk, off + J, none⟩) (x := .int .u32 (G a)) (q := ⟨blk, off + a, none⟩) (hcw a (by omega))
        go_wp2
        go_region
        all_goals go_wp2
        go_ret2
        have e := HP.out
        rw [partL_stop HI.out HJ.out hst] at e
        cases e
        exact ⟨_, _, _, _, rfl, HF.out, (HR2.out.swap HS.out HG.out (i := Pm) (j := a) (by rw [Hs.out]; omega) (by rw [Hs.out]; omega)).drew⟩
      · obtain ⟨G, hG, hcw, hfw⟩ := HR2.out.cells
        rw [Hs.out] at hcw hfw
        have HG := Lib.hid hG; clear hG
        obtain ⟨v3, hy3⟩ := cell?_setCell_some (w := wc) (p := ⟨blk, off + I, none⟩) (x := .int .u32 (G J)) (q := ⟨blk, off + J, none⟩) (hcw J (by omega))
        have HN := Lib.hid (HR2.out.swap HS.out HG.out (i := I) (j := J) (by rw [Hs.out]; omega) (by rw [Hs.out]; omega)).drew
        have HPN := Lib.hid ((partL_go HI.out HJ.out hst).symm.trans HP.out)
        have hsN : Hid ((swp dk I J).size = N) := Lib.hid (by rw [size_swp]; exact Hs.out)
        go_wp2
        go_region
        go_upto_block 4 with fail
        clear hy3 hcw hfw HG HR2 HP
        go_wp2_with fail
        go_loopg [10, 11] (b + 1) (fun k s10 s11 wr => ∃ (i j : Nat) (dk : Array Int), s10 = .int .i64 i ∧ s11 = .int .i64 j ∧ a < i ∧ i ≤ b ∧ j < b ∧ j + 1 - i < k ∧ Hid (dk.size = N) ∧ Hid (SR .u32 S w0 blk off dk wr) ∧ Hid (partLoop ltInt a i j dk = (Pm, Pd)))
        case atStart => exact ⟨I + 1, J - 1, swp dk I J, by go_num, by go_num, by omega, by omega, by omega, by omega, hsN, HN, HPN⟩
        case round =>
          clear HI HJ HN HPN hsN Hs
          obtain ⟨i, j, dk, rfl, rfl, hai, hib, hjb, hk, Hs, HR, HP⟩ := hrel
          obtain ⟨I, hI⟩ : ∃ I : Nat, scanUp (fun x => ltInt x dk[a]!) dk j i = I := ⟨_, rfl⟩
          have HI := Lib.hid hI; clear hI
          go_upto_block 6 with fail
          go_cut [10] (fun s wx => s = .int .i64 (I : Nat) ∧ i ≤ I ∧ I ≤ b ∧ Hid (SR .u32 S w0 blk off dk wx))
          case first =>
            go_wp2_with fail
            go_loopg [10] (j + 1 - i) (fun k s wx => ∃ x : Nat, s = .int .i64 x ∧ i ≤ x ∧ x ≤ b ∧ j + 1 - x ≤ k ∧ Hid (scanUp (fun x => ltInt x dk[a]!) dk j x = I) ∧ Hid (SR .u32 S w0 blk off dk wx))
            case atStart => exact ⟨i, rfl, by omega, by omega, by omega, HI, HR⟩
            case round =>
              obtain ⟨x, rfl, hx1, hx2, hx3, HX, HY⟩ := hrel
              obtain ⟨G, hG, hcw, hfw⟩ := HY.out.cells
              rw [Hs.out] at hcw hfw
              have HG := Lib.hid hG; clear hG
              by_cases hle : x ≤ j
              · go_wp2_with fail
                go_big_quiet (first | (go_at_call 53; refine Calls.quiet_of_same (uint32_less _ _ _)))
                go_wp2
                · have ht : ltInt (G x) (G a) = true := by assumption
                  go_roundg (j + 1 - (x + 1))
                  case measure => omega
                  case rel => exact ⟨x + 1, by go_num, by omega, by omega, Nat.le_refl _, Lib.hid ((up_go (p := fun x => ltInt x dk[a]!) (d := dk) hle (by rw [← HG.out x, ← HG.out a]; exact ht)).symm.trans HX.out), Lib.hid (HY.out.drewN nq)⟩
                · have ht : ltInt (G x) (G a) = false := by assumption
                  have e := HX.out
                  rw [up_end (Or.inr (by show _ = _; rw [← HG.out x, ← HG.out a]; exact ht))] at e
                  subst e
                  go_meet
                  exact ⟨rfl, hx1, hx2, Lib.hid (HY.out.drewN nq)⟩
              · go_wp2_with fail
                go_big_quiet (first | (go_at_call 53; refine Calls.quiet_of_same (uint32_less _ _ _)))
                have e := HX.out
                rw [up_end (Or.inl hle)] at e
                subst e
                go_wp2
                go_meet
                exact ⟨rfl, hx1, hx2, Lib.hid (HY.out.drewN nq)⟩
          case rest =>
            obtain ⟨rfl, hiI, hIb, HR1⟩ := hcut
            clear HR
            obtain ⟨J, hJ⟩ : ∃ J : Nat, scanDown (fun x => !ltInt x dk[a]!) dk I j = J := ⟨_, rfl⟩
            have HJ := Lib.hid hJ; clear hJ
            go_upto_block 8 with fail
            go_cut [11] (fun s wx => s = .int .i64 (J : Nat) ∧ J ≤ j ∧ Hid (SR .u32 S w0 blk off dk wx))
            case first =>
              go_wp2_with fail
              go_loopg [11] (j) (fun k s wx => ∃ x : Nat, s = .int .i64 x ∧ x ≤ j ∧ x ≤ k ∧ Hid (scanDown (fun x => !ltInt x dk[a]!) dk I x = J) ∧ Hid (SR .u32 S w0 blk off dk wx))
              case atStart => exact ⟨j, rfl, by omega, by omega, HJ, HR1⟩
              case round =>
                obtain ⟨x, rfl, hx1, hx2, HX, HY⟩ := hrel
                obtain ⟨G, hG, hcw, hfw⟩ := HY.out.cells
                rw [Hs.out] at hcw hfw
                have HG := Lib.hid hG; clear hG
                by_cases hle : I ≤ x
                · go_wp2_with fail
                  go_big_quiet (first | (go_at_call 53; refine Calls.quiet_of_same (uint32_less _ _ _)))
                  go_wp2
                  · have ht : (!ltInt (G x) (G a)) = true := by assumption
                    go_roundg (x - 1)
                    case measure => omega
                    case rel => exact ⟨x - 1, by go_num, by omega, Nat.le_refl _, Lib.hid ((down_go (p := fun x => !ltInt x dk[a]!) (d := dk) hle (by omega) (by rw [← HG.out x, ← HG.out a]; exact ht)).symm.trans HX.out), Lib.hid (HY.out.drewN nq)⟩
                  · have ht : (!ltInt (G x) (G a)) = false := by assumption
                    have e := HX.out
                    rw [down_end (Or.inr (by show _ = _; rw [← HG.out x, ← HG.out a]; exact ht))] at e
                    subst e
                    go_meet
                    exact ⟨rfl, hx1, Lib.hid (HY.out.drewN nq)⟩
                · go_wp2_with fail
                  go_big_quiet (first | (go_at_call 53; refine Calls.quiet_of_same (uint32_less _ _ _)))
                  have e := HX.out
                  rw [down_end (Or.inl hle)] at e
                  subst e
                  go_wp2
                  go_meet
                  exact ⟨rfl, hx1, Lib.hid (HY.out.drewN nq)⟩
            case rest =>
              obtain ⟨rfl, hJj, HR2⟩ := hcut
              clear HR1
              by_cases hst : J < I
              · skip
                obtain ⟨G, hG, hcw, hfw⟩ := HR2.out.cells
                rw [Hs.out] at hcw hfw
                have HG := Lib.hid hG; clear hG
                obtain ⟨v3, hy3⟩ := cell?_setCell_some (w := wc) (p := ⟨blk, off + J, none⟩) (x := .int .u32 (G a)) (q := ⟨blk, off + a, none⟩) (hcw a (by omega))
                go_wp2
                go_region
                all_goals go_wp2
                go_ret2
                have e := HP.out
                rw [partL_stop HI.out HJ.out hst] at e
                cases e
                exact ⟨_, _, _, _, rfl, HF.out, (HR2.out.swap HS.out HG.out (i := Pm) (j := a) (by rw [Hs.out]; omega) (by rw [Hs.out]; omega)).drew⟩
              · obtain ⟨G, hG, hcw, hfw⟩ := HR2.out.cells
                rw [Hs.out] at hcw hfw
                have HG := Lib.hid hG; clear hG
                obtain ⟨v3, hy3⟩ := cell?_setCell_some (w := wc) (p := ⟨blk, off + I, none⟩) (x := .int .u32 (G J)) (q := ⟨blk, off + J, none⟩) (hcw J (by omega))
                go_wp2
                go_region
                all_goals go_wp2
                go_roundg (J - 1 + 1 - (I + 1) + 1)
                case measure => omega
                case rel =>
                  refine ⟨I + 1, J - 1, swp dk I J, by go_num, by go_num, by omega, by omega, by omega, by omega, Lib.hid (by rw [size_swp]; exact Hs.out), Lib.hid ?_, Lib.hid ?_⟩
                  · exact (HR2.out.swap HS.out HG.out (i := I) (j := J) (by rw [Hs.out]; omega) (by rw [Hs.out]; omega)).drewN 1
                  · rw [← HP.out]; exact (partL_go HI.out HJ.out hst).symm

end Go.Proofs.Ythcmcjoenepkbaa
