/- Contracts: segment.number, segment.Head. Contracts: the log's open, Room, full, First, Next, Reserved, Down, frees, free, piece. -/
import Derived.Test.YtniflkggcceagaaQv00
import Derived.Test.YtniflkggcceagaaQv02
namespace Go.Proofs.Ytniflkggcceagaa
open Go Go.RowKit
theorem seg_number (n : Nat) (w : World) :
    Calls Try.prog 60 #[.int .u64 (n : Int)] w fun e w' => e = .returned (.bool (decide (1 ≤ n ∧ n ≤ 281474976710656))) ∧ w' = w := by
  go_enter Try.func60, Try.ntmps60
  by_cases h1 : 1 ≤ n
  · have h1i : (1 : Int) ≤ (n : Int) := by omega
    by_cases h2 : n ≤ 281474976710656
    · have h2i : (n : Int) ≤ 281474976710656 := by omega
      go_wp2_with fail
      go_ret
      exact ⟨ret_bool (by simp [h1, h2]), rfl⟩
    · have h2i : ¬ (n : Int) ≤ 281474976710656 := by omega
      go_wp2_with fail
      go_ret
      exact ⟨ret_bool (by simp), rfl⟩
  · have h1i : ¬ (1 : Int) ≤ (n : Int) := by omega
    go_wp2_with fail
    go_ret
    exact ⟨ret_bool (by simp), rfl⟩
def okH (k g n : Nat) (t : List UInt8) : Prop := k ≤ 1 ∧ (1 ≤ g ∧ g ≤ 281474976710656) ∧ (1 ≤ n ∧ n ≤ 281474976710656) ∧ (k = 0 → t = [])
set_option maxRecDepth 100000 in
set_option maxHeartbeats 4000000 in
theorem seg_Head (k g n : Nat) (t : List UInt8) (h : okH k g n t) (hg : g < 128) (ht : t.length ≤ 65534) (w : World) :
    Calls Try.prog 39 #[.int .u8 (k : Int), .int .u64 (g : Int), .int .u64 (n : Int), .string (bs t)] w fun e w' => e = .returned (.tuple #[.string (bs (Wl.head sumF k g n t)), .int .i64 0]) ∧ Below w.heap.size w w' := by
  obtain ⟨h1, h2, h3, h4⟩ := h
  have hN1 := fun w => seg_number g w
  have hN2 := fun w => seg_number n w
  rw [decide_eq_true h2] at hN1
  rw [decide_eq_true h3] at hN2
  have k1 : ¬ (k : Int) > 1 := by omega
  have k2 : decide ((k : Int) > 1) = false := by simp; omega
  have k3 : ¬ (1 : Int) < (k : Int) := by omega
  have hk1 : strOfNums [(k : Int)] = bs [UInt8.ofNat k] := by simp [strOfNums, bs]
  have e7 : bs [UInt8.ofNat k] ++ bs [UInt8.ofNat g] = bs [UInt8.ofNat k, UInt8.ofNat g] := by refine ba_ext ?_; simp [bs]
  have e9 : bs [UInt8.ofNat k, UInt8.ofNat g] ++ bs t = bs ([UInt8.ofNat k, UInt8.ofNat g] ++ t) := by refine ba_ext ?_; simp [bs]
  have j7 : ¬ 9223372036854775807 < (bs [UInt8.ofNat k]).size + (bs [UInt8.ofNat g]).size := by simp [bs_size]
  have j9 : ¬ 9223372036854775807 < (bs [UInt8.ofNat k, UInt8.ofNat g]).size + (bs t).size := by simp [bs_size]; omega
  have HTL : Hid (([UInt8.ofNat k, UInt8.ofNat g] ++ t).length ≤ 65536) := Lib.hid (by simp; omega)
  obtain ⟨R, hR⟩ : ∃ R, Wl.enc sumF n ([UInt8.ofNat k, UInt8.ofNat g] ++ t) = R := ⟨_, rfl⟩
  have hEnc := fun w => frame_Encode n ([UInt8.ofNat k, UInt8.ofNat g] ++ t) (by omega) HTL.out w
  rw [hR] at hEnc
  have hRR : Wl.head sumF k g n t = R := hR
  rw [hRR]
  by_cases hk : k = 0
  · have ht0 := h4 hk
    have hkb : ((k : Int) == 0) = true := by simp [hk]
    have htb : (bs t).toList.isEmpty = true := by rw [ht0]; simp [bs]
    clear ht0 h4 hk
    go_enter Try.func39, Try.ntmps39
    go_wp2_with fail
    refine (hN1 w).mono ?_
    rintro e w1 ⟨rfl, hw⟩
    subst w1
    go_wp2_with fail
    refine (hN2 w).mono ?_
    rintro e w1 ⟨rfl, hw⟩
    subst w1
    go_wp2_with fail
    clear hN1 hN2
    refine wp_region_held_drew (S := fun w' => Hid (Below w.heap.size w w')) (by kernel_rfl) (Lib.hid (Below.drew (Below.refl _ _))) (fun hS => ?_)
    have HS0 : Hid (Below w.heap.size w w.drew) := hS
    obtain ⟨X0, hX0⟩ : ∃ X0, w.drew = X0 := ⟨_, rfl⟩
    rw [hX0] at hS HS0 ⊢
    clear hX0
    refine wpAnyH_take (i := 0) (v := .int .u64 (n : Int)) rfl (by kernel_rfl) (by kernel_rfl) (by kernel_rfl) (fun _ _ _ h => h) (Or.inl ⟨by rfl, fun w' hw => ?_⟩) hS ?_
    · go_simp
    simp only [Act.put, List.getElem_toArray, List.getElem_cons_zero, List.setIfInBounds_toArray, List.set_cons_zero, List.set_cons_succ]
    refine wpAnyH_take (i := 1) (v := .int .u8 (k : Int)) rfl (by kernel_rfl) (by kernel_rfl) (by kernel_rfl) (fun _ _ _ h => h) (Or.inl ⟨by rfl, fun w' hw => ?_⟩) hS ?_
    · go_simp
    simp only [Act.put, List.getElem_toArray, List.getElem_cons_succ, List.getElem_cons_zero, List.setIfInBounds_toArray, List.set_cons_zero, List.set_cons_succ]
    refine wpAnyH_take (i := 4) (v := .int .u64 (g : Int)) rfl (by kernel_rfl) (by kernel_rfl) (by kernel_rfl) (fun _ _ _ h => h) (Or.inl ⟨by rfl, fun w' hw => ?_⟩) hS ?_
    · go_simp
    simp only [Act.put, List.getElem_toArray, List.getElem_cons_succ, List.getElem_cons_zero, List.setIfInBounds_toArray, List.set_cons_zero, List.set_cons_succ]
    refine wpAnyH_take (i := 8) (v := .string (bs t)) rfl (by kernel_rfl) (by kernel_rfl) (by kernel_rfl) (fun _ _ _ h => h) (Or.inl ⟨by rfl, fun w' hw => ?_⟩) hS ?_
    · go_simp
    simp only [Act.put, List.getElem_toArray, List.getElem_cons_succ, List.getElem_cons_zero, List.setIfInBounds_toArray, List.set_cons_zero, List.set_cons_succ]
    refine wpAnyH_ready (rs := [2, 5]) (by kernel_rfl) (by simp) ?_
    refine AllReadyH.cons rfl (fun K hK => ?_) ?_
    · rw [if_pos (by rfl)]
      go_simp
      have hbn : Below X0.heap.size X0 (X0.alloc (.cells #[.int .u8 (k : Int)] 5)) := (Below.refl _ _).alloc (Nat.le_refl _) _
      have gAb : Bx (X0.alloc (.cells #[.int .u8 (k : Int)] 5)) X0.heap.size 5 (.int .u8 (k : Int)) := Bx.new _ _ _
      obtain ⟨gA, hgA⟩ : ∃ x, X0.heap.size = x := ⟨_, rfl⟩
      rw [hgA] at gAb ⊢
      clear hgA
      generalize (X0.alloc (.cells #[.int .u8 (k : Int)] 5)) = X1 at hbn gAb ⊢
      have HS1 := Lib.hid (HS0.out.trans (hbn.mono HS0.out.size))
      refine hK.out _ _ HS1 (fun hS => ?_)
      clear hK hbn
      (try go_frame)
      refine wpAnyH_ready (rs := [3, 5]) (by kernel_rfl) (by simp) ?_
      refine AllReadyH.cons rfl (fun K hK => ?_) ?_
      · rw [if_pos (by rfl)]
        have hcv := run_convert_bytes_arg (P := Try.prog) X1 53 5 Try.underlying53 Try.underlying5 gA 0 1 1 [(k : Int)] rfl (fun i hi => by
          obtain rfl : i = 0 := by omega
          exact gAb.c) 9 Try.underlying9
        rw [hk1] at hcv
        go_simp
        clear hcv
        refine hK.out _ _ hS (fun hS => ?_)
        clear hK
        (try go_frame)
        refine wpAnyH_ready (rs := [5]) (by kernel_rfl) (by simp) ?_
        refine AllReadyH.cons rfl (fun K hK => ?_) AllReadyH.nil
        rw [if_pos (by rfl)]
        go_simp
        have hbn : Below X1.heap.size X1 (X1.alloc (.cells #[.int .u64 (g : Int)] 31)) := (Below.refl _ _).alloc (Nat.le_refl _) _
        have gBb : Bx (X1.alloc (.cells #[.int .u64 (g : Int)] 31)) X1.heap.size 31 (.int .u64 (g : Int)) := Bx.new _ _ _
        obtain ⟨gB, hgB⟩ : ∃ x, X1.heap.size = x := ⟨_, rfl⟩
        rw [hgB] at gBb ⊢
        clear hgB
        generalize (X1.alloc (.cells #[.int .u64 (g : Int)] 31)) = X2 at hbn gBb ⊢
        have HS2 := Lib.hid (HS1.out.trans (hbn.mono HS1.out.size))
        replace gAb := gAb.below hbn
        refine hK.out _ _ HS2 (fun hS => ?_)
        clear hK hbn
        (try go_frame)
        refine wpAnyH_ready (rs := [6]) (by kernel_rfl) (by simp) ?_
        refine AllReadyH.cons rfl (fun K hK => ?_) AllReadyH.nil
        rw [if_pos (by rfl)]
        have gBc := gBb.c
        go_simp
        refine (wire_Uints1 g hg gB X2 gBc).mono ?_
        rintro e X3 ⟨rfl, hbn⟩
        clear gBc
        go_simp
        have HS3 := Lib.hid (HS2.out.trans (hbn.mono HS2.out.size))
        replace gAb := gAb.below hbn
        replace gBb := gBb.below hbn
        refine hK.out _ _ HS3 (fun hS => ?_)
        clear hK hbn
        (try go_frame)
        refine wpAnyH_take (i := 7) (v := .string (bs [UInt8.ofNat k, UInt8.ofNat g])) rfl (by kernel_rfl) (by kernel_rfl) (by kernel_rfl) (fun _ _ _ h => h) (Or.inl ⟨by rfl, fun w' hw => ?_⟩) hS ?_
        · go_simp
        simp only [Act.put, List.getElem_toArray, List.getElem_cons_succ, List.getElem_cons_zero, List.setIfInBounds_toArray, List.set_cons_zero, List.set_cons_succ]
        refine wpAnyH_take (i := 9) (v := .string (bs ([UInt8.ofNat k, UInt8.ofNat g] ++ t))) rfl (by kernel_rfl) (by kernel_rfl) (by kernel_rfl) (fun _ _ _ h => h) (Or.inl ⟨by rfl, fun w' hw => ?_⟩) hS ?_
        · go_simp
        simp only [Act.put, List.getElem_toArray, List.getElem_cons_succ, List.getElem_cons_zero, List.setIfInBounds_toArray, List.set_cons_zero, List.set_cons_succ]
        refine wpAnyH_take (i := 10) (v := .agg #[.int .u64 (n : Int), .string (bs ([UInt8.ofNat k, UInt8.ofNat g] ++ t))]) rfl (by kernel_rfl) (by kernel_rfl) (by kernel_rfl) (fun _ _ _ h => h) (Or.inl ⟨by rfl, fun w' hw => ?_⟩) hS ?_
        · go_simp
        simp only [Act.put, List.getElem_toArray, List.getElem_cons_succ, List.getElem_cons_zero, List.setIfInBounds_toArray, List.set_cons_zero, List.set_cons_succ]
        refine wpAnyH_ready (rs := [11]) (by kernel_rfl) (by simp) ?_
        refine AllReadyH.cons rfl (fun K hK => ?_) AllReadyH.nil
        rw [if_pos (by rfl)]
        go_simp
        refine (hEnc X3).mono ?_
        rintro e X4 ⟨rfl, hbn⟩
        go_simp
        have HS4 := Lib.hid (HS3.out.trans (hbn.mono HS3.out.size))
        replace gAb := gAb.below hbn
        replace gBb := gBb.below hbn
        refine hK.out _ _ HS4 (fun hS => ?_)
        clear hK hbn
        (try go_frame)
        refine wpAnyH_take (i := 12) (v := .string (bs R)) rfl (by kernel_rfl) (by kernel_rfl) (by kernel_rfl) (fun _ _ _ h => h) (Or.inl ⟨by rfl, fun w' hw => ?_⟩) hS ?_
        · go_simp
        simp only [Act.put, List.getElem_toArray, List.getElem_cons_succ, List.getElem_cons_zero, List.setIfInBounds_toArray, List.set_cons_zero, List.set_cons_succ]
        refine wpAnyH_take (i := 13) (v := .int .i64 0) rfl (by kernel_rfl) (by kernel_rfl) (by kernel_rfl) (fun _ _ _ h => h) (Or.inl ⟨by rfl, fun w' hw => ?_⟩) hS ?_
        · go_simp
        simp only [Act.put, List.getElem_toArray, List.getElem_cons_succ, List.getElem_cons_zero, List.setIfInBounds_toArray, List.set_cons_zero, List.set_cons_succ]
        refine wpAnyH_take (i := 14) (v := .string (bs R)) rfl (by kernel_rfl) (by kernel_rfl) (by kernel_rfl) (fun _ _ _ h => h) (Or.inl ⟨by rfl, fun w' hw => ?_⟩) hS ?_
        · go_simp
        simp only [Act.put, List.getElem_toArray, List.getElem_cons_succ, List.getElem_cons_zero, List.setIfInBounds_toArray, List.set_cons_zero, List.set_cons_succ]
        refine wpAnyH_take (i := 15) (v := .int .i64 0) rfl (by kernel_rfl) (by kernel_rfl) (by kernel_rfl) (fun _ _ _ h => h) (Or.inl ⟨by rfl, fun w' hw => ?_⟩) hS ?_
        · go_simp
        simp only [Act.put, List.getElem_toArray, List.getElem_cons_succ, List.getElem_cons_zero, List.setIfInBounds_toArray, List.set_cons_zero, List.set_cons_succ]
        refine wpAnyH_done (by kernel_rfl) ?_ _
        clear hS
        go_wp2_with fail
        go_ret2
        exact ⟨rfl, HS4.out⟩
      refine AllReadyH.cons rfl (fun K hK => ?_) AllReadyH.nil
      rw [if_pos (by rfl)]
      go_simp
      have hbn : Below X1.heap.size X1 (X1.alloc (.cells #[.int .u64 (g : Int)] 31)) := (Below.refl _ _).alloc (Nat.le_refl _) _
      have gBb : Bx (X1.alloc (.cells #[.int .u64 (g : Int)] 31)) X1.heap.size 31 (.int .u64 (g : Int)) := Bx.new _ _ _
      obtain ⟨gB, hgB⟩ : ∃ x, X1.heap.size = x := ⟨_, rfl⟩
      rw [hgB] at gBb ⊢
      clear hgB
      generalize (X1.alloc (.cells #[.int .u64 (g : Int)] 31)) = X2 at hbn gBb ⊢
      have HS2 := Lib.hid (HS1.out.trans (hbn.mono HS1.out.size))
      replace gAb := gAb.below hbn
      refine hK.out _ _ HS2 (fun hS => ?_)
      clear hK hbn
      (try go_frame)
      refine wpAnyH_ready (rs := [3, 6]) (by kernel_rfl) (by simp) ?_
      refine AllReadyH.cons rfl (fun K hK => ?_) ?_
      · rw [if_pos (by rfl)]
        have hcv := run_convert_bytes_arg (P := Try.prog) X2 53 5 Try.underlying53 Try.underlying5 gA 0 1 1 [(k : Int)] rfl (fun i hi => by
          obtain rfl : i = 0 := by omega
          exact gAb.c) 9 Try.underlying9
        rw [hk1] at hcv
        go_simp
        clear hcv
        refine hK.out _ _ hS (fun hS => ?_)
        clear hK
        (try go_frame)
        refine wpAnyH_ready (rs := [6]) (by kernel_rfl) (by simp) ?_
        refine AllReadyH.cons rfl (fun K hK => ?_) AllReadyH.nil
        rw [if_pos (by rfl)]
        have gBc := gBb.c
        go_simp
        refine (wire_Uints1 g hg gB X2 gBc).mono ?_
        rintro e X3 ⟨rfl, hbn⟩
        clear gBc
        go_simp
        have HS3 := Lib.hid (HS2.out.trans (hbn.mono HS2.out.size))
        replace gAb := gAb.below hbn
        replace gBb := gBb.below hbn
        refine hK.out _ _ HS3 (fun hS => ?_)
        clear hK hbn
        (try go_frame)
        refine wpAnyH_take (i := 7) (v := .string (bs [UInt8.ofNat k, UInt8.ofNat g])) rfl (by kernel_rfl) (by kernel_rfl) (by kernel_rfl) (fun _ _ _ h => h) (Or.inl ⟨by rfl, fun w' hw => ?_⟩) hS ?_
        · go_simp
        simp only [Act.put, List.getElem_toArray, List.getElem_cons_succ, List.getElem_cons_zero, List.setIfInBounds_toArray, List.set_cons_zero, List.set_cons_succ]
        refine wpAnyH_take (i := 9) (v := .string (bs ([UInt8.ofNat k, UInt8.ofNat g] ++ t))) rfl (by kernel_rfl) (by kernel_rfl) (by kernel_rfl) (fun _ _ _ h => h) (Or.inl ⟨by rfl, fun w' hw => ?_⟩) hS ?_
        · go_simp
        simp only [Act.put, List.getElem_toArray, List.getElem_cons_succ, List.getElem_cons_zero, List.setIfInBounds_toArray, List.set_cons_zero, List.set_cons_succ]
        refine wpAnyH_take (i := 10) (v := .agg #[.int .u64 (n : Int), .string (bs ([UInt8.ofNat k, UInt8.ofNat g] ++ t))]) rfl (by kernel_rfl) (by kernel_rfl) (by kernel_rfl) (fun _ _ _ h => h) (Or.inl ⟨by rfl, fun w' hw => ?_⟩) hS ?_
        · go_simp
        simp only [Act.put, List.getElem_toArray, List.getElem_cons_succ, List.getElem_cons_zero, List.setIfInBounds_toArray, List.set_cons_zero, List.set_cons_succ]
        refine wpAnyH_ready (rs := [11]) (by kernel_rfl) (by simp) ?_
        refine AllReadyH.cons rfl (fun K hK => ?_) AllReadyH.nil
        rw [if_pos (by rfl)]
        go_simp
        refine (hEnc X3).mono ?_
        rintro e X4 ⟨rfl, hbn⟩
        go_simp
        have HS4 := Lib.hid (HS3.out.trans (hbn.mono HS3.out.size))
        replace gAb := gAb.below hbn
        replace gBb := gBb.below hbn
        refine hK.out _ _ HS4 (fun hS => ?_)
        clear hK hbn
        (try go_frame)
        refine wpAnyH_take (i := 12) (v := .string (bs R)) rfl (by kernel_rfl) (by kernel_rfl) (by kernel_rfl) (fun _ _ _ h => h) (Or.inl ⟨by rfl, fun w' hw => ?_⟩) hS ?_
        · go_simp
        simp only [Act.put, List.getElem_toArray, List.getElem_cons_succ, List.getElem_cons_zero, List.setIfInBounds_toArray, List.set_cons_zero, List.set_cons_succ]
        refine wpAnyH_take (i := 13) (v := .int .i64 0) rfl (by kernel_rfl) (by kernel_rfl) (by kernel_rfl) (fun _ _ _ h => h) (Or.inl ⟨by rfl, fun w' hw => ?_⟩) hS ?_
        · go_simp
        simp only [Act.put, List.getElem_toArray, List.getElem_cons_succ, List.getElem_cons_zero, List.setIfInBounds_toArray, List.set_cons_zero, List.set_cons_succ]
        refine wpAnyH_take (i := 14) (v := .string (bs R)) rfl (by kernel_rfl) (by kernel_rfl) (by kernel_rfl) (fun _ _ _ h => h) (Or.inl ⟨by rfl, fun w' hw => ?_⟩) hS ?_
        · go_simp
        simp only [Act.put, List.getElem_toArray, List.getElem_cons_succ, List.getElem_cons_zero, List.setIfInBounds_toArray, List.set_cons_zero, List.set_cons_succ]
        refine wpAnyH_take (i := 15) (v := .int .i64 0) rfl (by kernel_rfl) (by kernel_rfl) (by kernel_rfl) (fun _ _ _ h => h) (Or.inl ⟨by rfl, fun w' hw => ?_⟩) hS ?_
        · go_simp
        simp only [Act.put, List.getElem_toArray, List.getElem_cons_succ, List.getElem_cons_zero, List.setIfInBounds_toArray, List.set_cons_zero, List.set_cons_succ]
        refine wpAnyH_done (by kernel_rfl) ?_ _
        clear hS
        go_wp2_with fail
        go_ret2
        exact ⟨rfl, HS4.out⟩
      refine AllReadyH.cons rfl (fun K hK => ?_) AllReadyH.nil
      rw [if_pos (by rfl)]
      have gBc := gBb.c
      go_simp
      refine (wire_Uints1 g hg gB X2 gBc).mono ?_
      rintro e X3 ⟨rfl, hbn⟩
      clear gBc
      go_simp
      have HS3 := Lib.hid (HS2.out.trans (hbn.mono HS2.out.size))
      replace gAb := gAb.below hbn
      replace gBb := gBb.below hbn
      refine hK.out _ _ HS3 (fun hS => ?_)
      clear hK hbn
      (try go_frame)
      refine wpAnyH_ready (rs := [3]) (by kernel_rfl) (by simp) ?_
      refine AllReadyH.cons rfl (fun K hK => ?_) AllReadyH.nil
      rw [if_pos (by rfl)]
      have hcv := run_convert_bytes_arg (P := Try.prog) X3 53 5 Try.underlying53 Try.underlying5 gA 0 1 1 [(k : Int)] rfl (fun i hi => by
        obtain rfl : i = 0 := by omega
        exact gAb.c) 9 Try.underlying9
      rw [hk1] at hcv
      go_simp
      clear hcv
      refine hK.out _ _ hS (fun hS => ?_)
      clear hK
      (try go_frame)
      refine wpAnyH_take (i := 7) (v := .string (bs [UInt8.ofNat k, UInt8.ofNat g])) rfl (by kernel_rfl) (by kernel_rfl) (by kernel_rfl) (fun _ _ _ h => h) (Or.inl ⟨by rfl, fun w' hw => ?_⟩) hS ?_
      · go_simp
      simp only [Act.put, List.getElem_toArray, List.getElem_cons_succ, List.getElem_cons_zero, List.setIfInBounds_toArray, List.set_cons_zero, List.set_cons_succ]
      refine wpAnyH_take (i := 9) (v := .string (bs ([UInt8.ofNat k, UInt8.ofNat g] ++ t))) rfl (by kernel_rfl) (by kernel_rfl) (by kernel_rfl) (fun _ _ _ h => h) (Or.inl ⟨by rfl, fun w' hw => ?_⟩) hS ?_
      · go_simp
      simp only [Act.put, List.getElem_toArray, List.getElem_cons_succ, List.getElem_cons_zero, List.setIfInBounds_toArray, List.set_cons_zero, List.set_cons_succ]
      refine wpAnyH_take (i := 10) (v := .agg #[.int .u64 (n : Int), .string (bs ([UInt8.ofNat k, UInt8.ofNat g] ++ t))]) rfl (by kernel_rfl) (by kernel_rfl) (by kernel_rfl) (fun _ _ _ h => h) (Or.inl ⟨by rfl, fun w' hw => ?_⟩) hS ?_
      · go_simp
      simp only [Act.put, List.getElem_toArray, List.getElem_cons_succ, List.getElem_cons_zero, List.setIfInBounds_toArray, List.set_cons_zero, List.set_cons_succ]
      refine wpAnyH_ready (rs := [11]) (by kernel_rfl) (by simp) ?_
      refine AllReadyH.cons rfl (fun K hK => ?_) AllReadyH.nil
      rw [if_pos (by rfl)]
      go_simp
      refine (hEnc X3).mono ?_
      rintro e X4 ⟨rfl, hbn⟩
      go_simp
      have HS4 := Lib.hid (HS3.out.trans (hbn.mono HS3.out.size))
      replace gAb := gAb.below hbn
      replace gBb := gBb.below hbn
      refine hK.out _ _ HS4 (fun hS => ?_)
      clear hK hbn
      (try go_frame)
      refine wpAnyH_take (i := 12) (v := .string (bs R)) rfl (by kernel_rfl) (by kernel_rfl) (by kernel_rfl) (fun _ _ _ h => h) (Or.inl ⟨by rfl, fun w' hw => ?_⟩) hS ?_
      · go_simp
      simp only [Act.put, List.getElem_toArray, List.getElem_cons_succ, List.getElem_cons_zero, List.setIfInBounds_toArray, List.set_cons_zero, List.set_cons_succ]
      refine wpAnyH_take (i := 13) (v := .int .i64 0) rfl (by kernel_rfl) (by kernel_rfl) (by kernel_rfl) (fun _ _ _ h => h) (Or.inl ⟨by rfl, fun w' hw => ?_⟩) hS ?_
      · go_simp
      simp only [Act.put, List.getElem_toArray, List.getElem_cons_succ, List.getElem_cons_zero, List.setIfInBounds_toArray, List.set_cons_zero, List.set_cons_succ]
      refine wpAnyH_take (i := 14) (v := .string (bs R)) rfl (by kernel_rfl) (by kernel_rfl) (by kernel_rfl) (fun _ _ _ h => h) (Or.inl ⟨by rfl, fun w' hw => ?_⟩) hS ?_
      · go_simp
      simp only [Act.put, List.getElem_toArray, List.getElem_cons_succ, List.getElem_cons_zero, List.setIfInBounds_toArray, List.set_cons_zero, List.set_cons_succ]
      refine wpAnyH_take (i := 15) (v := .int .i64 0) rfl (by kernel_rfl) (by kernel_rfl) (by kernel_rfl) (fun _ _ _ h => h) (Or.inl ⟨by rfl, fun w' hw => ?_⟩) hS ?_
      · go_simp
      simp only [Act.put, List.getElem_toArray, List.getElem_cons_succ, List.getElem_cons_zero, List.setIfInBounds_toArray, List.set_cons_zero, List.set_cons_succ]
      refine wpAnyH_done (by kernel_rfl) ?_ _
      clear hS
      go_wp2_with fail
      go_ret2
      exact ⟨rfl, HS4.out⟩
    refine AllReadyH.cons rfl (fun K hK => ?_) AllReadyH.nil
    rw [if_pos (by rfl)]
    go_simp
    have hbn : Below X0.heap.size X0 (X0.alloc (.cells #[.int .u64 (g : Int)] 31)) := (Below.refl _ _).alloc (Nat.le_refl _) _
    have gBb : Bx (X0.alloc (.cells #[.int .u64 (g : Int)] 31)) X0.heap.size 31 (.int .u64 (g : Int)) := Bx.new _ _ _
    obtain ⟨gB, hgB⟩ : ∃ x, X0.heap.size = x := ⟨_, rfl⟩
    rw [hgB] at gBb ⊢
    clear hgB
    generalize (X0.alloc (.cells #[.int .u64 (g : Int)] 31)) = X1 at hbn gBb ⊢
    have HS1 := Lib.hid (HS0.out.trans (hbn.mono HS0.out.size))
    refine hK.out _ _ HS1 (fun hS => ?_)
    clear hK hbn
    (try go_frame)
    refine wpAnyH_ready (rs := [2, 6]) (by kernel_rfl) (by simp) ?_
    refine AllReadyH.cons rfl (fun K hK => ?_) ?_
    · rw [if_pos (by rfl)]
      go_simp
      have hbn : Below X1.heap.size X1 (X1.alloc (.cells #[.int .u8 (k : Int)] 5)) := (Below.refl _ _).alloc (Nat.le_refl _) _
      have gAb : Bx (X1.alloc (.cells #[.int .u8 (k : Int)] 5)) X1.heap.size 5 (.int .u8 (k : Int)) := Bx.new _ _ _
      obtain ⟨gA, hgA⟩ : ∃ x, X1.heap.size = x := ⟨_, rfl⟩
      rw [hgA] at gAb ⊢
      clear hgA
      generalize (X1.alloc (.cells #[.int .u8 (k : Int)] 5)) = X2 at hbn gAb ⊢
      have HS2 := Lib.hid (HS1.out.trans (hbn.mono HS1.out.size))
      replace gBb := gBb.below hbn
      refine hK.out _ _ HS2 (fun hS => ?_)
      clear hK hbn
      (try go_frame)
      refine wpAnyH_ready (rs := [3, 6]) (by kernel_rfl) (by simp) ?_
      refine AllReadyH.cons rfl (fun K hK => ?_) ?_
      · rw [if_pos (by rfl)]
        have hcv := run_convert_bytes_arg (P := Try.prog) X2 53 5 Try.underlying53 Try.underlying5 gA 0 1 1 [(k : Int)] rfl (fun i hi => by
          obtain rfl : i = 0 := by omega
          exact gAb.c) 9 Try.underlying9
        rw [hk1] at hcv
        go_simp
        clear hcv
        refine hK.out _ _ hS (fun hS => ?_)
        clear hK
        (try go_frame)
        refine wpAnyH_ready (rs := [6]) (by kernel_rfl) (by simp) ?_
        refine AllReadyH.cons rfl (fun K hK => ?_) AllReadyH.nil
        rw [if_pos (by rfl)]
        have gBc := gBb.c
        go_simp
        refine (wire_Uints1 g hg gB X2 gBc).mono ?_
        rintro e X3 ⟨rfl, hbn⟩
        clear gBc
        go_simp
        have HS3 := Lib.hid (HS2.out.trans (hbn.mono HS2.out.size))
        replace gAb := gAb.below hbn
        replace gBb := gBb.below hbn
        refine hK.out _ _ HS3 (fun hS => ?_)
        clear hK hbn
        (try go_frame)
        refine wpAnyH_take (i := 7) (v := .string (bs [UInt8.ofNat k, UInt8.ofNat g])) rfl (by kernel_rfl) (by kernel_rfl) (by kernel_rfl) (fun _ _ _ h => h) (Or.inl ⟨by rfl, fun w' hw => ?_⟩) hS ?_
        · go_simp
        simp only [Act.put, List.getElem_toArray, List.getElem_cons_succ, List.getElem_cons_zero, List.setIfInBounds_toArray, List.set_cons_zero, List.set_cons_succ]
        refine wpAnyH_take (i := 9) (v := .string (bs ([UInt8.ofNat k, UInt8.ofNat g] ++ t))) rfl (by kernel_rfl) (by kernel_rfl) (by kernel_rfl) (fun _ _ _ h => h) (Or.inl ⟨by rfl, fun w' hw => ?_⟩) hS ?_
        · go_simp
        simp only [Act.put, List.getElem_toArray, List.getElem_cons_succ, List.getElem_cons_zero, List.setIfInBounds_toArray, List.set_cons_zero, List.set_cons_succ]
        refine wpAnyH_take (i := 10) (v := .agg #[.int .u64 (n : Int), .string (bs ([UInt8.ofNat k, UInt8.ofNat g] ++ t))]) rfl (by kernel_rfl) (by kernel_rfl) (by kernel_rfl) (fun _ _ _ h => h) (Or.inl ⟨by rfl, fun w' hw => ?_⟩) hS ?_
        · go_simp
        simp only [Act.put, List.getElem_toArray, List.getElem_cons_succ, List.getElem_cons_zero, List.setIfInBounds_toArray, List.set_cons_zero, List.set_cons_succ]
        refine wpAnyH_ready (rs := [11]) (by kernel_rfl) (by simp) ?_
        refine AllReadyH.cons rfl (fun K hK => ?_) AllReadyH.nil
        rw [if_pos (by rfl)]
        go_simp
        refine (hEnc X3).mono ?_
        rintro e X4 ⟨rfl, hbn⟩
        go_simp
        have HS4 := Lib.hid (HS3.out.trans (hbn.mono HS3.out.size))
        replace gAb := gAb.below hbn
        replace gBb := gBb.below hbn
        refine hK.out _ _ HS4 (fun hS => ?_)
        clear hK hbn
        (try go_frame)
        refine wpAnyH_take (i := 12) (v := .string (bs R)) rfl (by kernel_rfl) (by kernel_rfl) (by kernel_rfl) (fun _ _ _ h => h) (Or.inl ⟨by rfl, fun w' hw => ?_⟩) hS ?_
        · go_simp
        simp only [Act.put, List.getElem_toArray, List.getElem_cons_succ, List.getElem_cons_zero, List.setIfInBounds_toArray, List.set_cons_zero, List.set_cons_succ]
        refine wpAnyH_take (i := 13) (v := .int .i64 0) rfl (by kernel_rfl) (by kernel_rfl) (by kernel_rfl) (fun _ _ _ h => h) (Or.inl ⟨by rfl, fun w' hw => ?_⟩) hS ?_
        · go_simp
        simp only [Act.put, List.getElem_toArray, List.getElem_cons_succ, List.getElem_cons_zero, List.setIfInBounds_toArray, List.set_cons_zero, List.set_cons_succ]
        refine wpAnyH_take (i := 14) (v := .string (bs R)) rfl (by kernel_rfl) (by kernel_rfl) (by kernel_rfl) (fun _ _ _ h => h) (Or.inl ⟨by rfl, fun w' hw => ?_⟩) hS ?_
        · go_simp
        simp only [Act.put, List.getElem_toArray, List.getElem_cons_succ, List.getElem_cons_zero, List.setIfInBounds_toArray, List.set_cons_zero, List.set_cons_succ]
        refine wpAnyH_take (i := 15) (v := .int .i64 0) rfl (by kernel_rfl) (by kernel_rfl) (by kernel_rfl) (fun _ _ _ h => h) (Or.inl ⟨by rfl, fun w' hw => ?_⟩) hS ?_
        · go_simp
        simp only [Act.put, List.getElem_toArray, List.getElem_cons_succ, List.getElem_cons_zero, List.setIfInBounds_toArray, List.set_cons_zero, List.set_cons_succ]
        refine wpAnyH_done (by kernel_rfl) ?_ _
        clear hS
        go_wp2_with fail
        go_ret2
        exact ⟨rfl, HS4.out⟩
      refine AllReadyH.cons rfl (fun K hK => ?_) AllReadyH.nil
      rw [if_pos (by rfl)]
      have gBc := gBb.c
      go_simp
      refine (wire_Uints1 g hg gB X2 gBc).mono ?_
      rintro e X3 ⟨rfl, hbn⟩
      clear gBc
      go_simp
      have HS3 := Lib.hid (HS2.out.trans (hbn.mono HS2.out.size))
      replace gAb := gAb.below hbn
      replace gBb := gBb.below hbn
      refine hK.out _ _ HS3 (fun hS => ?_)
      clear hK hbn
      (try go_frame)
      refine wpAnyH_ready (rs := [3]) (by kernel_rfl) (by simp) ?_
      refine AllReadyH.cons rfl (fun K hK => ?_) AllReadyH.nil
      rw [if_pos (by rfl)]
      have hcv := run_convert_bytes_arg (P := Try.prog) X3 53 5 Try.underlying53 Try.underlying5 gA 0 1 1 [(k : Int)] rfl (fun i hi => by
        obtain rfl : i = 0 := by omega
        exact gAb.c) 9 Try.underlying9
      rw [hk1] at hcv
      go_simp
      clear hcv
      refine hK.out _ _ hS (fun hS => ?_)
      clear hK
      (try go_frame)
      refine wpAnyH_take (i := 7) (v := .string (bs [UInt8.ofNat k, UInt8.ofNat g])) rfl (by kernel_rfl) (by kernel_rfl) (by kernel_rfl) (fun _ _ _ h => h) (Or.inl ⟨by rfl, fun w' hw => ?_⟩) hS ?_
      · go_simp
      simp only [Act.put, List.getElem_toArray, List.getElem_cons_succ, List.getElem_cons_zero, List.setIfInBounds_toArray, List.set_cons_zero, List.set_cons_succ]
      refine wpAnyH_take (i := 9) (v := .string (bs ([UInt8.ofNat k, UInt8.ofNat g] ++ t))) rfl (by kernel_rfl) (by kernel_rfl) (by kernel_rfl) (fun _ _ _ h => h) (Or.inl ⟨by rfl, fun w' hw => ?_⟩) hS ?_
      · go_simp
      simp only [Act.put, List.getElem_toArray, List.getElem_cons_succ, List.getElem_cons_zero, List.setIfInBounds_toArray, List.set_cons_zero, List.set_cons_succ]
      refine wpAnyH_take (i := 10) (v := .agg #[.int .u64 (n : Int), .string (bs ([UInt8.ofNat k, UInt8.ofNat g] ++ t))]) rfl (by kernel_rfl) (by kernel_rfl) (by kernel_rfl) (fun _ _ _ h => h) (Or.inl ⟨by rfl, fun w' hw => ?_⟩) hS ?_
      · go_simp
      simp only [Act.put, List.getElem_toArray, List.getElem_cons_succ, List.getElem_cons_zero, List.setIfInBounds_toArray, List.set_cons_zero, List.set_cons_succ]
      refine wpAnyH_ready (rs := [11]) (by kernel_rfl) (by simp) ?_
      refine AllReadyH.cons rfl (fun K hK => ?_) AllReadyH.nil
      rw [if_pos (by rfl)]
      go_simp
      refine (hEnc X3).mono ?_
      rintro e X4 ⟨rfl, hbn⟩
      go_simp
      have HS4 := Lib.hid (HS3.out.trans (hbn.mono HS3.out.size))
      replace gAb := gAb.below hbn
      replace gBb := gBb.below hbn
      refine hK.out _ _ HS4 (fun hS => ?_)
      clear hK hbn
      (try go_frame)
      refine wpAnyH_take (i := 12) (v := .string (bs R)) rfl (by kernel_rfl) (by kernel_rfl) (by kernel_rfl) (fun _ _ _ h => h) (Or.inl ⟨by rfl, fun w' hw => ?_⟩) hS ?_
      · go_simp
      simp only [Act.put, List.getElem_toArray, List.getElem_cons_succ, List.getElem_cons_zero, List.setIfInBounds_toArray, List.set_cons_zero, List.set_cons_succ]
      refine wpAnyH_take (i := 13) (v := .int .i64 0) rfl (by kernel_rfl) (by kernel_rfl) (by kernel_rfl) (fun _ _ _ h => h) (Or.inl ⟨by rfl, fun w' hw => ?_⟩) hS ?_
      · go_simp
      simp only [Act.put, List.getElem_toArray, List.getElem_cons_succ, List.getElem_cons_zero, List.setIfInBounds_toArray, List.set_cons_zero, List.set_cons_succ]
      refine wpAnyH_take (i := 14) (v := .string (bs R)) rfl (by kernel_rfl) (by kernel_rfl) (by kernel_rfl) (fun _ _ _ h => h) (Or.inl ⟨by rfl, fun w' hw => ?_⟩) hS ?_
      · go_simp
      simp only [Act.put, List.getElem_toArray, List.getElem_cons_succ, List.getElem_cons_zero, List.setIfInBounds_toArray, List.set_cons_zero, List.set_cons_succ]
      refine wpAnyH_take (i := 15) (v := .int .i64 0) rfl (by kernel_rfl) (by kernel_rfl) (by kernel_rfl) (fun _ _ _ h => h) (Or.inl ⟨by rfl, fun w' hw => ?_⟩) hS ?_
      · go_simp
      simp only [Act.put, List.getElem_toArray, List.getElem_cons_succ, List.getElem_cons_zero, List.setIfInBounds_toArray, List.set_cons_zero, List.set_cons_succ]
      refine wpAnyH_done (by kernel_rfl) ?_ _
      clear hS
      go_wp2_with fail
      go_ret2
      exact ⟨rfl, HS4.out⟩
    refine AllReadyH.cons rfl (fun K hK => ?_) AllReadyH.nil
    rw [if_pos (by rfl)]
    have gBc := gBb.c
    go_simp
    refine (wire_Uints1 g hg gB X1 gBc).mono ?_
    rintro e X2 ⟨rfl, hbn⟩
    clear gBc
    go_simp
    have HS2 := Lib.hid (HS1.out.trans (hbn.mono HS1.out.size))
    replace gBb := gBb.below hbn
    refine hK.out _ _ HS2 (fun hS => ?_)
    clear hK hbn
    (try go_frame)
    refine wpAnyH_ready (rs := [2]) (by kernel_rfl) (by simp) ?_
    refine AllReadyH.cons rfl (fun K hK => ?_) AllReadyH.nil
    rw [if_pos (by rfl)]
    go_simp
    have hbn : Below X2.heap.size X2 (X2.alloc (.cells #[.int .u8 (k : Int)] 5)) := (Below.refl _ _).alloc (Nat.le_refl _) _
    have gAb : Bx (X2.alloc (.cells #[.int .u8 (k : Int)] 5)) X2.heap.size 5 (.int .u8 (k : Int)) := Bx.new _ _ _
    obtain ⟨gA, hgA⟩ : ∃ x, X2.heap.size = x := ⟨_, rfl⟩
    rw [hgA] at gAb ⊢
    clear hgA
    generalize (X2.alloc (.cells #[.int .u8 (k : Int)] 5)) = X3 at hbn gAb ⊢
    have HS3 := Lib.hid (HS2.out.trans (hbn.mono HS2.out.size))
    replace gBb := gBb.below hbn
    refine hK.out _ _ HS3 (fun hS => ?_)
    clear hK hbn
    (try go_frame)
    refine wpAnyH_ready (rs := [3]) (by kernel_rfl) (by simp) ?_
    refine AllReadyH.cons rfl (fun K hK => ?_) AllReadyH.nil
    rw [if_pos (by rfl)]
    have hcv := run_convert_bytes_arg (P := Try.prog) X3 53 5 Try.underlying53 Try.underlying5 gA 0 1 1 [(k : Int)] rfl (fun i hi => by
      obtain rfl : i = 0 := by omega
      exact gAb.c) 9 Try.underlying9
    rw [hk1] at hcv
    go_simp
    clear hcv
    refine hK.out _ _ hS (fun hS => ?_)
    clear hK
    (try go_frame)
    refine wpAnyH_take (i := 7) (v := .string (bs [UInt8.ofNat k, UInt8.ofNat g])) rfl (by kernel_rfl) (by kernel_rfl) (by kernel_rfl) (fun _ _ _ h => h) (Or.inl ⟨by rfl, fun w' hw => ?_⟩) hS ?_
    · go_simp
    simp only [Act.put, List.getElem_toArray, List.getElem_cons_succ, List.getElem_cons_zero, List.setIfInBounds_toArray, List.set_cons_zero, List.set_cons_succ]
    refine wpAnyH_take (i := 9) (v := .string (bs ([UInt8.ofNat k, UInt8.ofNat g] ++ t))) rfl (by kernel_rfl) (by kernel_rfl) (by kernel_rfl) (fun _ _ _ h => h) (Or.inl ⟨by rfl, fun w' hw => ?_⟩) hS ?_
    · go_simp
    simp only [Act.put, List.getElem_toArray, List.getElem_cons_succ, List.getElem_cons_zero, List.setIfInBounds_toArray, List.set_cons_zero, List.set_cons_succ]
    refine wpAnyH_take (i := 10) (v := .agg #[.int .u64 (n : Int), .string (bs ([UInt8.ofNat k, UInt8.ofNat g] ++ t))]) rfl (by kernel_rfl) (by kernel_rfl) (by kernel_rfl) (fun _ _ _ h => h) (Or.inl ⟨by rfl, fun w' hw => ?_⟩) hS ?_
    · go_simp
    simp only [Act.put, List.getElem_toArray, List.getElem_cons_succ, List.getElem_cons_zero, List.setIfInBounds_toArray, List.set_cons_zero, List.set_cons_succ]
    refine wpAnyH_ready (rs := [11]) (by kernel_rfl) (by simp) ?_
    refine AllReadyH.cons rfl (fun K hK => ?_) AllReadyH.nil
    rw [if_pos (by rfl)]
    go_simp
    refine (hEnc X3).mono ?_
    rintro e X4 ⟨rfl, hbn⟩
    go_simp
    have HS4 := Lib.hid (HS3.out.trans (hbn.mono HS3.out.size))
    replace gAb := gAb.below hbn
    replace gBb := gBb.below hbn
    refine hK.out _ _ HS4 (fun hS => ?_)
    clear hK hbn
    (try go_frame)
    refine wpAnyH_take (i := 12) (v := .string (bs R)) rfl (by kernel_rfl) (by kernel_rfl) (by kernel_rfl) (fun _ _ _ h => h) (Or.inl ⟨by rfl, fun w' hw => ?_⟩) hS ?_
    · go_simp
    simp only [Act.put, List.getElem_toArray, List.getElem_cons_succ, List.getElem_cons_zero, List.setIfInBounds_toArray, List.set_cons_zero, List.set_cons_succ]
    refine wpAnyH_take (i := 13) (v := .int .i64 0) rfl (by kernel_rfl) (by kernel_rfl) (by kernel_rfl) (fun _ _ _ h => h) (Or.inl ⟨by rfl, fun w' hw => ?_⟩) hS ?_
    · go_simp
    simp only [Act.put, List.getElem_toArray, List.getElem_cons_succ, List.getElem_cons_zero, List.setIfInBounds_toArray, List.set_cons_zero, List.set_cons_succ]
    refine wpAnyH_take (i := 14) (v := .string (bs R)) rfl (by kernel_rfl) (by kernel_rfl) (by kernel_rfl) (fun _ _ _ h => h) (Or.inl ⟨by rfl, fun w' hw => ?_⟩) hS ?_
    · go_simp
    simp only [Act.put, List.getElem_toArray, List.getElem_cons_succ, List.getElem_cons_zero, List.setIfInBounds_toArray, List.set_cons_zero, List.set_cons_succ]
    refine wpAnyH_take (i := 15) (v := .int .i64 0) rfl (by kernel_rfl) (by kernel_rfl) (by kernel_rfl) (fun _ _ _ h => h) (Or.inl ⟨by rfl, fun w' hw => ?_⟩) hS ?_
    · go_simp
    simp only [Act.put, List.getElem_toArray, List.getElem_cons_succ, List.getElem_cons_zero, List.setIfInBounds_toArray, List.set_cons_zero, List.set_cons_succ]
    refine wpAnyH_done (by kernel_rfl) ?_ _
    clear hS
    go_wp2_with fail
    go_ret2
    exact ⟨rfl, HS4.out⟩
  · have hkb : ((k : Int) == 0) = false := by simp; omega
    go_enter Try.func39, Try.ntmps39
    go_wp2_with fail
    refine (hN1 w).mono ?_
    rintro e w1 ⟨rfl, hw⟩
    subst w1
    go_wp2_with fail
    refine (hN2 w).mono ?_
    rintro e w1 ⟨rfl, hw⟩
    subst w1
    go_wp2_with fail
    clear hN1 hN2
    refine wp_region_held_drew (S := fun w' => Hid (Below w.heap.size w w')) (by kernel_rfl) (Lib.hid (Below.drew (Below.refl _ _))) (fun hS => ?_)
    have HS0 : Hid (Below w.heap.size w w.drew) := hS
    obtain ⟨X0, hX0⟩ : ∃ X0, w.drew = X0 := ⟨_, rfl⟩
    rw [hX0] at hS HS0 ⊢
    clear hX0
    refine wpAnyH_take (i := 0) (v := .int .u64 (n : Int)) rfl (by kernel_rfl) (by kernel_rfl) (by kernel_rfl) (fun _ _ _ h => h) (Or.inl ⟨by rfl, fun w' hw => ?_⟩) hS ?_
    · go_simp
    simp only [Act.put, List.getElem_toArray, List.getElem_cons_zero, List.setIfInBounds_toArray, List.set_cons_zero, List.set_cons_succ]
    refine wpAnyH_take (i := 1) (v := .int .u8 (k : Int)) rfl (by kernel_rfl) (by kernel_rfl) (by kernel_rfl) (fun _ _ _ h => h) (Or.inl ⟨by rfl, fun w' hw => ?_⟩) hS ?_
    · go_simp
    simp only [Act.put, List.getElem_toArray, List.getElem_cons_succ, List.getElem_cons_zero, List.setIfInBounds_toArray, List.set_cons_zero, List.set_cons_succ]
    refine wpAnyH_take (i := 4) (v := .int .u64 (g : Int)) rfl (by kernel_rfl) (by kernel_rfl) (by kernel_rfl) (fun _ _ _ h => h) (Or.inl ⟨by rfl, fun w' hw => ?_⟩) hS ?_
    · go_simp
    simp only [Act.put, List.getElem_toArray, List.getElem_cons_succ, List.getElem_cons_zero, List.setIfInBounds_toArray, List.set_cons_zero, List.set_cons_succ]
    refine wpAnyH_take (i := 8) (v := .string (bs t)) rfl (by kernel_rfl) (by kernel_rfl) (by kernel_rfl) (fun _ _ _ h => h) (Or.inl ⟨by rfl, fun w' hw => ?_⟩) hS ?_
    · go_simp
    simp only [Act.put, List.getElem_toArray, List.getElem_cons_succ, List.getElem_cons_zero, List.setIfInBounds_toArray, List.set_cons_zero, List.set_cons_succ]
    refine wpAnyH_ready (rs := [2, 5]) (by kernel_rfl) (by simp) ?_
    refine AllReadyH.cons rfl (fun K hK => ?_) ?_
    · rw [if_pos (by rfl)]
      go_simp
      have hbn : Below X0.heap.size X0 (X0.alloc (.cells #[.int .u8 (k : Int)] 5)) := (Below.refl _ _).alloc (Nat.le_refl _) _
      have gAb : Bx (X0.alloc (.cells #[.int .u8 (k : Int)] 5)) X0.heap.size 5 (.int .u8 (k : Int)) := Bx.new _ _ _
      obtain ⟨gA, hgA⟩ : ∃ x, X0.heap.size = x := ⟨_, rfl⟩
      rw [hgA] at gAb ⊢
      clear hgA
      generalize (X0.alloc (.cells #[.int .u8 (k : Int)] 5)) = X1 at hbn gAb ⊢
      have HS1 := Lib.hid (HS0.out.trans (hbn.mono HS0.out.size))
      refine hK.out _ _ HS1 (fun hS => ?_)
      clear hK hbn
      (try go_frame)
      refine wpAnyH_ready (rs := [3, 5]) (by kernel_rfl) (by simp) ?_
      refine AllReadyH.cons rfl (fun K hK => ?_) ?_
      · rw [if_pos (by rfl)]
        have hcv := run_convert_bytes_arg (P := Try.prog) X1 53 5 Try.underlying53 Try.underlying5 gA 0 1 1 [(k : Int)] rfl (fun i hi => by
          obtain rfl : i = 0 := by omega
          exact gAb.c) 9 Try.underlying9
        rw [hk1] at hcv
        go_simp
        clear hcv
        refine hK.out _ _ hS (fun hS => ?_)
        clear hK
        (try go_frame)
        refine wpAnyH_ready (rs := [5]) (by kernel_rfl) (by simp) ?_
        refine AllReadyH.cons rfl (fun K hK => ?_) AllReadyH.nil
        rw [if_pos (by rfl)]
        go_simp
        have hbn : Below X1.heap.size X1 (X1.alloc (.cells #[.int .u64 (g : Int)] 31)) := (Below.refl _ _).alloc (Nat.le_refl _) _
        have gBb : Bx (X1.alloc (.cells #[.int .u64 (g : Int)] 31)) X1.heap.size 31 (.int .u64 (g : Int)) := Bx.new _ _ _
        obtain ⟨gB, hgB⟩ : ∃ x, X1.heap.size = x := ⟨_, rfl⟩
        rw [hgB] at gBb ⊢
        clear hgB
        generalize (X1.alloc (.cells #[.int .u64 (g : Int)] 31)) = X2 at hbn gBb ⊢
        have HS2 := Lib.hid (HS1.out.trans (hbn.mono HS1.out.size))
        replace gAb := gAb.below hbn
        refine hK.out _ _ HS2 (fun hS => ?_)
        clear hK hbn
        (try go_frame)
        refine wpAnyH_ready (rs := [6]) (by kernel_rfl) (by simp) ?_
        refine AllReadyH.cons rfl (fun K hK => ?_) AllReadyH.nil
        rw [if_pos (by rfl)]
        have gBc := gBb.c
        go_simp
        refine (wire_Uints1 g hg gB X2 gBc).mono ?_
        rintro e X3 ⟨rfl, hbn⟩
        clear gBc
        go_simp
        have HS3 := Lib.hid (HS2.out.trans (hbn.mono HS2.out.size))
        replace gAb := gAb.below hbn
        replace gBb := gBb.below hbn
        refine hK.out _ _ HS3 (fun hS => ?_)
        clear hK hbn
        (try go_frame)
        refine wpAnyH_take (i := 7) (v := .string (bs [UInt8.ofNat k, UInt8.ofNat g])) rfl (by kernel_rfl) (by kernel_rfl) (by kernel_rfl) (fun _ _ _ h => h) (Or.inl ⟨by rfl, fun w' hw => ?_⟩) hS ?_
        · go_simp
        simp only [Act.put, List.getElem_toArray, List.getElem_cons_succ, List.getElem_cons_zero, List.setIfInBounds_toArray, List.set_cons_zero, List.set_cons_succ]
        refine wpAnyH_take (i := 9) (v := .string (bs ([UInt8.ofNat k, UInt8.ofNat g] ++ t))) rfl (by kernel_rfl) (by kernel_rfl) (by kernel_rfl) (fun _ _ _ h => h) (Or.inl ⟨by rfl, fun w' hw => ?_⟩) hS ?_
        · go_simp
        simp only [Act.put, List.getElem_toArray, List.getElem_cons_succ, List.getElem_cons_zero, List.setIfInBounds_toArray, List.set_cons_zero, List.set_cons_succ]
        refine wpAnyH_take (i := 10) (v := .agg #[.int .u64 (n : Int), .string (bs ([UInt8.ofNat k, UInt8.ofNat g] ++ t))]) rfl (by kernel_rfl) (by kernel_rfl) (by kernel_rfl) (fun _ _ _ h => h) (Or.inl ⟨by rfl, fun w' hw => ?_⟩) hS ?_
        · go_simp
        simp only [Act.put, List.getElem_toArray, List.getElem_cons_succ, List.getElem_cons_zero, List.setIfInBounds_toArray, List.set_cons_zero, List.set_cons_succ]
        refine wpAnyH_ready (rs := [11]) (by kernel_rfl) (by simp) ?_
        refine AllReadyH.cons rfl (fun K hK => ?_) AllReadyH.nil
        rw [if_pos (by rfl)]
        go_simp
        refine (hEnc X3).mono ?_
        rintro e X4 ⟨rfl, hbn⟩
        go_simp
        have HS4 := Lib.hid (HS3.out.trans (hbn.mono HS3.out.size))
        replace gAb := gAb.below hbn
        replace gBb := gBb.below hbn
        refine hK.out _ _ HS4 (fun hS => ?_)
        clear hK hbn
        (try go_frame)
        refine wpAnyH_take (i := 12) (v := .string (bs R)) rfl (by kernel_rfl) (by kernel_rfl) (by kernel_rfl) (fun _ _ _ h => h) (Or.inl ⟨by rfl, fun w' hw => ?_⟩) hS ?_
        · go_simp
        simp only [Act.put, List.getElem_toArray, List.getElem_cons_succ, List.getElem_cons_zero, List.setIfInBounds_toArray, List.set_cons_zero, List.set_cons_succ]
        refine wpAnyH_take (i := 13) (v := .int .i64 0) rfl (by kernel_rfl) (by kernel_rfl) (by kernel_rfl) (fun _ _ _ h => h) (Or.inl ⟨by rfl, fun w' hw => ?_⟩) hS ?_
        · go_simp
        simp only [Act.put, List.getElem_toArray, List.getElem_cons_succ, List.getElem_cons_zero, List.setIfInBounds_toArray, List.set_cons_zero, List.set_cons_succ]
        refine wpAnyH_take (i := 14) (v := .string (bs R)) rfl (by kernel_rfl) (by kernel_rfl) (by kernel_rfl) (fun _ _ _ h => h) (Or.inl ⟨by rfl, fun w' hw => ?_⟩) hS ?_
        · go_simp
        simp only [Act.put, List.getElem_toArray, List.getElem_cons_succ, List.getElem_cons_zero, List.setIfInBounds_toArray, List.set_cons_zero, List.set_cons_succ]
        refine wpAnyH_take (i := 15) (v := .int .i64 0) rfl (by kernel_rfl) (by kernel_rfl) (by kernel_rfl) (fun _ _ _ h => h) (Or.inl ⟨by rfl, fun w' hw => ?_⟩) hS ?_
        · go_simp
        simp only [Act.put, List.getElem_toArray, List.getElem_cons_succ, List.getElem_cons_zero, List.setIfInBounds_toArray, List.set_cons_zero, List.set_cons_succ]
        refine wpAnyH_done (by kernel_rfl) ?_ _
        clear hS
        go_wp2_with fail
        go_ret2
        exact ⟨rfl, HS4.out⟩
      refine AllReadyH.cons rfl (fun K hK => ?_) AllReadyH.nil
      rw [if_pos (by rfl)]
      go_simp
      have hbn : Below X1.heap.size X1 (X1.alloc (.cells #[.int .u64 (g : Int)] 31)) := (Below.refl _ _).alloc (Nat.le_refl _) _
      have gBb : Bx (X1.alloc (.cells #[.int .u64 (g : Int)] 31)) X1.heap.size 31 (.int .u64 (g : Int)) := Bx.new _ _ _
      obtain ⟨gB, hgB⟩ : ∃ x, X1.heap.size = x := ⟨_, rfl⟩
      rw [hgB] at gBb ⊢
      clear hgB
      generalize (X1.alloc (.cells #[.int .u64 (g : Int)] 31)) = X2 at hbn gBb ⊢
      have HS2 := Lib.hid (HS1.out.trans (hbn.mono HS1.out.size))
      replace gAb := gAb.below hbn
      refine hK.out _ _ HS2 (fun hS => ?_)
      clear hK hbn
      (try go_frame)
      refine wpAnyH_ready (rs := [3, 6]) (by kernel_rfl) (by simp) ?_
      refine AllReadyH.cons rfl (fun K hK => ?_) ?_
      · rw [if_pos (by rfl)]
        have hcv := run_convert_bytes_arg (P := Try.prog) X2 53 5 Try.underlying53 Try.underlying5 gA 0 1 1 [(k : Int)] rfl (fun i hi => by
          obtain rfl : i = 0 := by omega
          exact gAb.c) 9 Try.underlying9
        rw [hk1] at hcv
        go_simp
        clear hcv
        refine hK.out _ _ hS (fun hS => ?_)
        clear hK
        (try go_frame)
        refine wpAnyH_ready (rs := [6]) (by kernel_rfl) (by simp) ?_
        refine AllReadyH.cons rfl (fun K hK => ?_) AllReadyH.nil
        rw [if_pos (by rfl)]
        have gBc := gBb.c
        go_simp
        refine (wire_Uints1 g hg gB X2 gBc).mono ?_
        rintro e X3 ⟨rfl, hbn⟩
        clear gBc
        go_simp
        have HS3 := Lib.hid (HS2.out.trans (hbn.mono HS2.out.size))
        replace gAb := gAb.below hbn
        replace gBb := gBb.below hbn
        refine hK.out _ _ HS3 (fun hS => ?_)
        clear hK hbn
        (try go_frame)
        refine wpAnyH_take (i := 7) (v := .string (bs [UInt8.ofNat k, UInt8.ofNat g])) rfl (by kernel_rfl) (by kernel_rfl) (by kernel_rfl) (fun _ _ _ h => h) (Or.inl ⟨by rfl, fun w' hw => ?_⟩) hS ?_
        · go_simp
        simp only [Act.put, List.getElem_toArray, List.getElem_cons_succ, List.getElem_cons_zero, List.setIfInBounds_toArray, List.set_cons_zero, List.set_cons_succ]
        refine wpAnyH_take (i := 9) (v := .string (bs ([UInt8.ofNat k, UInt8.ofNat g] ++ t))) rfl (by kernel_rfl) (by kernel_rfl) (by kernel_rfl) (fun _ _ _ h => h) (Or.inl ⟨by rfl, fun w' hw => ?_⟩) hS ?_
        · go_simp
        simp only [Act.put, List.getElem_toArray, List.getElem_cons_succ, List.getElem_cons_zero, List.setIfInBounds_toArray, List.set_cons_zero, List.set_cons_succ]
        refine wpAnyH_take (i := 10) (v := .agg #[.int .u64 (n : Int), .string (bs ([UInt8.ofNat k, UInt8.ofNat g] ++ t))]) rfl (by kernel_rfl) (by kernel_rfl) (by kernel_rfl) (fun _ _ _ h => h) (Or.inl ⟨by rfl, fun w' hw => ?_⟩) hS ?_
        · go_simp
        simp only [Act.put, List.getElem_toArray, List.getElem_cons_succ, List.getElem_cons_zero, List.setIfInBounds_toArray, List.set_cons_zero, List.set_cons_succ]
        refine wpAnyH_ready (rs := [11]) (by kernel_rfl) (by simp) ?_
        refine AllReadyH.cons rfl (fun K hK => ?_) AllReadyH.nil
        rw [if_pos (by rfl)]
        go_simp
        refine (hEnc X3).mono ?_
        rintro e X4 ⟨rfl, hbn⟩
        go_simp
        have HS4 := Lib.hid (HS3.out.trans (hbn.mono HS3.out.size))
        replace gAb := gAb.below hbn
        replace gBb := gBb.below hbn
        refine hK.out _ _ HS4 (fun hS => ?_)
        clear hK hbn
        (try go_frame)
        refine wpAnyH_take (i := 12) (v := .string (bs R)) rfl (by kernel_rfl) (by kernel_rfl) (by kernel_rfl) (fun _ _ _ h => h) (Or.inl ⟨by rfl, fun w' hw => ?_⟩) hS ?_
        · go_simp
        simp only [Act.put, List.getElem_toArray, List.getElem_cons_succ, List.getElem_cons_zero, List.setIfInBounds_toArray, List.set_cons_zero, List.set_cons_succ]
        refine wpAnyH_take (i := 13) (v := .int .i64 0) rfl (by kernel_rfl) (by kernel_rfl) (by kernel_rfl) (fun _ _ _ h => h) (Or.inl ⟨by rfl, fun w' hw => ?_⟩) hS ?_
        · go_simp
        simp only [Act.put, List.getElem_toArray, List.getElem_cons_succ, List.getElem_cons_zero, List.setIfInBounds_toArray, List.set_cons_zero, List.set_cons_succ]
        refine wpAnyH_take (i := 14) (v := .string (bs R)) rfl (by kernel_rfl) (by kernel_rfl) (by kernel_rfl) (fun _ _ _ h => h) (Or.inl ⟨by rfl, fun w' hw => ?_⟩) hS ?_
        · go_simp
        simp only [Act.put, List.getElem_toArray, List.getElem_cons_succ, List.getElem_cons_zero, List.setIfInBounds_toArray, List.set_cons_zero, List.set_cons_succ]
        refine wpAnyH_take (i := 15) (v := .int .i64 0) rfl (by kernel_rfl) (by kernel_rfl) (by kernel_rfl) (fun _ _ _ h => h) (Or.inl ⟨by rfl, fun w' hw => ?_⟩) hS ?_
        · go_simp
        simp only [Act.put, List.getElem_toArray, List.getElem_cons_succ, List.getElem_cons_zero, List.setIfInBounds_toArray, List.set_cons_zero, List.set_cons_succ]
        refine wpAnyH_done (by kernel_rfl) ?_ _
        clear hS
        go_wp2_with fail
        go_ret2
        exact ⟨rfl, HS4.out⟩
      refine AllReadyH.cons rfl (fun K hK => ?_) AllReadyH.nil
      rw [if_pos (by rfl)]
      have gBc := gBb.c
      go_simp
      refine (wire_Uints1 g hg gB X2 gBc).mono ?_
      rintro e X3 ⟨rfl, hbn⟩
      clear gBc
      go_simp
      have HS3 := Lib.hid (HS2.out.trans (hbn.mono HS2.out.size))
      replace gAb := gAb.below hbn
      replace gBb := gBb.below hbn
      refine hK.out _ _ HS3 (fun hS => ?_)
      clear hK hbn
      (try go_frame)
      refine wpAnyH_ready (rs := [3]) (by kernel_rfl) (by simp) ?_
      refine AllReadyH.cons rfl (fun K hK => ?_) AllReadyH.nil
      rw [if_pos (by rfl)]
      have hcv := run_convert_bytes_arg (P := Try.prog) X3 53 5 Try.underlying53 Try.underlying5 gA 0 1 1 [(k : Int)] rfl (fun i hi => by
        obtain rfl : i = 0 := by omega
        exact gAb.c) 9 Try.underlying9
      rw [hk1] at hcv
      go_simp
      clear hcv
      refine hK.out _ _ hS (fun hS => ?_)
      clear hK
      (try go_frame)
      refine wpAnyH_take (i := 7) (v := .string (bs [UInt8.ofNat k, UInt8.ofNat g])) rfl (by kernel_rfl) (by kernel_rfl) (by kernel_rfl) (fun _ _ _ h => h) (Or.inl ⟨by rfl, fun w' hw => ?_⟩) hS ?_
      · go_simp
      simp only [Act.put, List.getElem_toArray, List.getElem_cons_succ, List.getElem_cons_zero, List.setIfInBounds_toArray, List.set_cons_zero, List.set_cons_succ]
      refine wpAnyH_take (i := 9) (v := .string (bs ([UInt8.ofNat k, UInt8.ofNat g] ++ t))) rfl (by kernel_rfl) (by kernel_rfl) (by kernel_rfl) (fun _ _ _ h => h) (Or.inl ⟨by rfl, fun w' hw => ?_⟩) hS ?_
      · go_simp
      simp only [Act.put, List.getElem_toArray, List.getElem_cons_succ, List.getElem_cons_zero, List.setIfInBounds_toArray, List.set_cons_zero, List.set_cons_succ]
      refine wpAnyH_take (i := 10) (v := .agg #[.int .u64 (n : Int), .string (bs ([UInt8.ofNat k, UInt8.ofNat g] ++ t))]) rfl (by kernel_rfl) (by kernel_rfl) (by kernel_rfl) (fun _ _ _ h => h) (Or.inl ⟨by rfl, fun w' hw => ?_⟩) hS ?_
      · go_simp
      simp only [Act.put, List.getElem_toArray, List.getElem_cons_succ, List.getElem_cons_zero, List.setIfInBounds_toArray, List.set_cons_zero, List.set_cons_succ]
      refine wpAnyH_ready (rs := [11]) (by kernel_rfl) (by simp) ?_
      refine AllReadyH.cons rfl (fun K hK => ?_) AllReadyH.nil
      rw [if_pos (by rfl)]
      go_simp
      refine (hEnc X3).mono ?_
      rintro e X4 ⟨rfl, hbn⟩
      go_simp
      have HS4 := Lib.hid (HS3.out.trans (hbn.mono HS3.out.size))
      replace gAb := gAb.below hbn
      replace gBb := gBb.below hbn
      refine hK.out _ _ HS4 (fun hS => ?_)
      clear hK hbn
      (try go_frame)
      refine wpAnyH_take (i := 12) (v := .string (bs R)) rfl (by kernel_rfl) (by kernel_rfl) (by kernel_rfl) (fun _ _ _ h => h) (Or.inl ⟨by rfl, fun w' hw => ?_⟩) hS ?_
      · go_simp
      simp only [Act.put, List.getElem_toArray, List.getElem_cons_succ, List.getElem_cons_zero, List.setIfInBounds_toArray, List.set_cons_zero, List.set_cons_succ]
      refine wpAnyH_take (i := 13) (v := .int .i64 0) rfl (by kernel_rfl) (by kernel_rfl) (by kernel_rfl) (fun _ _ _ h => h) (Or.inl ⟨by rfl, fun w' hw => ?_⟩) hS ?_
      · go_simp
      simp only [Act.put, List.getElem_toArray, List.getElem_cons_succ, List.getElem_cons_zero, List.setIfInBounds_toArray, List.set_cons_zero, List.set_cons_succ]
      refine wpAnyH_take (i := 14) (v := .string (bs R)) rfl (by kernel_rfl) (by kernel_rfl) (by kernel_rfl) (fun _ _ _ h => h) (Or.inl ⟨by rfl, fun w' hw => ?_⟩) hS ?_
      · go_simp
      simp only [Act.put, List.getElem_toArray, List.getElem_cons_succ, List.getElem_cons_zero, List.setIfInBounds_toArray, List.set_cons_zero, List.set_cons_succ]
      refine wpAnyH_take (i := 15) (v := .int .i64 0) rfl (by kernel_rfl) (by kernel_rfl) (by kernel_rfl) (fun _ _ _ h => h) (Or.inl ⟨by rfl, fun w' hw => ?_⟩) hS ?_
      · go_simp
      simp only [Act.put, List.getElem_toArray, List.getElem_cons_succ, List.getElem_cons_zero, List.setIfInBounds_toArray, List.set_cons_zero, List.set_cons_succ]
      refine wpAnyH_done (by kernel_rfl) ?_ _
      clear hS
      go_wp2_with fail
      go_ret2
      exact ⟨rfl, HS4.out⟩
    refine AllReadyH.cons rfl (fun K hK => ?_) AllReadyH.nil
    rw [if_pos (by rfl)]
    go_simp
    have hbn : Below X0.heap.size X0 (X0.alloc (.cells #[.int .u64 (g : Int)] 31)) := (Below.refl _ _).alloc (Nat.le_refl _) _
    have gBb : Bx (X0.alloc (.cells #[.int .u64 (g : Int)] 31)) X0.heap.size 31 (.int .u64 (g : Int)) := Bx.new _ _ _
    obtain ⟨gB, hgB⟩ : ∃ x, X0.heap.size = x := ⟨_, rfl⟩
    rw [hgB] at gBb ⊢
    clear hgB
    generalize (X0.alloc (.cells #[.int .u64 (g : Int)] 31)) = X1 at hbn gBb ⊢
    have HS1 := Lib.hid (HS0.out.trans (hbn.mono HS0.out.size))
    refine hK.out _ _ HS1 (fun hS => ?_)
    clear hK hbn
    (try go_frame)
    refine wpAnyH_ready (rs := [2, 6]) (by kernel_rfl) (by simp) ?_
    refine AllReadyH.cons rfl (fun K hK => ?_) ?_
    · rw [if_pos (by rfl)]
      go_simp
      have hbn : Below X1.heap.size X1 (X1.alloc (.cells #[.int .u8 (k : Int)] 5)) := (Below.refl _ _).alloc (Nat.le_refl _) _
      have gAb : Bx (X1.alloc (.cells #[.int .u8 (k : Int)] 5)) X1.heap.size 5 (.int .u8 (k : Int)) := Bx.new _ _ _
      obtain ⟨gA, hgA⟩ : ∃ x, X1.heap.size = x := ⟨_, rfl⟩
      rw [hgA] at gAb ⊢
      clear hgA
      generalize (X1.alloc (.cells #[.int .u8 (k : Int)] 5)) = X2 at hbn gAb ⊢
      have HS2 := Lib.hid (HS1.out.trans (hbn.mono HS1.out.size))
      replace gBb := gBb.below hbn
      refine hK.out _ _ HS2 (fun hS => ?_)
      clear hK hbn
      (try go_frame)
      refine wpAnyH_ready (rs := [3, 6]) (by kernel_rfl) (by simp) ?_
      refine AllReadyH.cons rfl (fun K hK => ?_) ?_
      · rw [if_pos (by rfl)]
        have hcv := run_convert_bytes_arg (P := Try.prog) X2 53 5 Try.underlying53 Try.underlying5 gA 0 1 1 [(k : Int)] rfl (fun i hi => by
          obtain rfl : i = 0 := by omega
          exact gAb.c) 9 Try.underlying9
        rw [hk1] at hcv
        go_simp
        clear hcv
        refine hK.out _ _ hS (fun hS => ?_)
        clear hK
        (try go_frame)
        refine wpAnyH_ready (rs := [6]) (by kernel_rfl) (by simp) ?_
        refine AllReadyH.cons rfl (fun K hK => ?_) AllReadyH.nil
        rw [if_pos (by rfl)]
        have gBc := gBb.c
        go_simp
        refine (wire_Uints1 g hg gB X2 gBc).mono ?_
        rintro e X3 ⟨rfl, hbn⟩
        clear gBc
        go_simp
        have HS3 := Lib.hid (HS2.out.trans (hbn.mono HS2.out.size))
        replace gAb := gAb.below hbn
        replace gBb := gBb.below hbn
        refine hK.out _ _ HS3 (fun hS => ?_)
        clear hK hbn
        (try go_frame)
        refine wpAnyH_take (i := 7) (v := .string (bs [UInt8.ofNat k, UInt8.ofNat g])) rfl (by kernel_rfl) (by kernel_rfl) (by kernel_rfl) (fun _ _ _ h => h) (Or.inl ⟨by rfl, fun w' hw => ?_⟩) hS ?_
        · go_simp
        simp only [Act.put, List.getElem_toArray, List.getElem_cons_succ, List.getElem_cons_zero, List.setIfInBounds_toArray, List.set_cons_zero, List.set_cons_succ]
        refine wpAnyH_take (i := 9) (v := .string (bs ([UInt8.ofNat k, UInt8.ofNat g] ++ t))) rfl (by kernel_rfl) (by kernel_rfl) (by kernel_rfl) (fun _ _ _ h => h) (Or.inl ⟨by rfl, fun w' hw => ?_⟩) hS ?_
        · go_simp
        simp only [Act.put, List.getElem_toArray, List.getElem_cons_succ, List.getElem_cons_zero, List.setIfInBounds_toArray, List.set_cons_zero, List.set_cons_succ]
        refine wpAnyH_take (i := 10) (v := .agg #[.int .u64 (n : Int), .string (bs ([UInt8.ofNat k, UInt8.ofNat g] ++ t))]) rfl (by kernel_rfl) (by kernel_rfl) (by kernel_rfl) (fun _ _ _ h => h) (Or.inl ⟨by rfl, fun w' hw => ?_⟩) hS ?_
        · go_simp
        simp only [Act.put, List.getElem_toArray, List.getElem_cons_succ, List.getElem_cons_zero, List.setIfInBounds_toArray, List.set_cons_zero, List.set_cons_succ]
        refine wpAnyH_ready (rs := [11]) (by kernel_rfl) (by simp) ?_
        refine AllReadyH.cons rfl (fun K hK => ?_) AllReadyH.nil
        rw [if_pos (by rfl)]
        go_simp
        refine (hEnc X3).mono ?_
        rintro e X4 ⟨rfl, hbn⟩
        go_simp
        have HS4 := Lib.hid (HS3.out.trans (hbn.mono HS3.out.size))
        replace gAb := gAb.below hbn
        replace gBb := gBb.below hbn
        refine hK.out _ _ HS4 (fun hS => ?_)
        clear hK hbn
        (try go_frame)
        refine wpAnyH_take (i := 12) (v := .string (bs R)) rfl (by kernel_rfl) (by kernel_rfl) (by kernel_rfl) (fun _ _ _ h => h) (Or.inl ⟨by rfl, fun w' hw => ?_⟩) hS ?_
        · go_simp
        simp only [Act.put, List.getElem_toArray, List.getElem_cons_succ, List.getElem_cons_zero, List.setIfInBounds_toArray, List.set_cons_zero, List.set_cons_succ]
        refine wpAnyH_take (i := 13) (v := .int .i64 0) rfl (by kernel_rfl) (by kernel_rfl) (by kernel_rfl) (fun _ _ _ h => h) (Or.inl ⟨by rfl, fun w' hw => ?_⟩) hS ?_
        · go_simp
        simp only [Act.put, List.getElem_toArray, List.getElem_cons_succ, List.getElem_cons_zero, List.setIfInBounds_toArray, List.set_cons_zero, List.set_cons_succ]
        refine wpAnyH_take (i := 14) (v := .string (bs R)) rfl (by kernel_rfl) (by kernel_rfl) (by kernel_rfl) (fun _ _ _ h => h) (Or.inl ⟨by rfl, fun w' hw => ?_⟩) hS ?_
        · go_simp
        simp only [Act.put, List.getElem_toArray, List.getElem_cons_succ, List.getElem_cons_zero, List.setIfInBounds_toArray, List.set_cons_zero, List.set_cons_succ]
        refine wpAnyH_take (i := 15) (v := .int .i64 0) rfl (by kernel_rfl) (by kernel_rfl) (by kernel_rfl) (fun _ _ _ h => h) (Or.inl ⟨by rfl, fun w' hw => ?_⟩) hS ?_
        · go_simp
        simp only [Act.put, List.getElem_toArray, List.getElem_cons_succ, List.getElem_cons_zero, List.setIfInBounds_toArray, List.set_cons_zero, List.set_cons_succ]
        refine wpAnyH_done (by kernel_rfl) ?_ _
        clear hS
        go_wp2_with fail
        go_ret2
        exact ⟨rfl, HS4.out⟩
      refine AllReadyH.cons rfl (fun K hK => ?_) AllReadyH.nil
      rw [if_pos (by rfl)]
      have gBc := gBb.c
      go_simp
      refine (wire_Uints1 g hg gB X2 gBc).mono ?_
      rintro e X3 ⟨rfl, hbn⟩
      clear gBc
      go_simp
      have HS3 := Lib.hid (HS2.out.trans (hbn.mono HS2.out.size))
      replace gAb := gAb.below hbn
      replace gBb := gBb.below hbn
      refine hK.out _ _ HS3 (fun hS => ?_)
      clear hK hbn
      (try go_frame)
      refine wpAnyH_ready (rs := [3]) (by kernel_rfl) (by simp) ?_
      refine AllReadyH.cons rfl (fun K hK => ?_) AllReadyH.nil
      rw [if_pos (by rfl)]
      have hcv := run_convert_bytes_arg (P := Try.prog) X3 53 5 Try.underlying53 Try.underlying5 gA 0 1 1 [(k : Int)] rfl (fun i hi => by
        obtain rfl : i = 0 := by omega
        exact gAb.c) 9 Try.underlying9
      rw [hk1] at hcv
      go_simp
      clear hcv
      refine hK.out _ _ hS (fun hS => ?_)
      clear hK
      (try go_frame)
      refine wpAnyH_take (i := 7) (v := .string (bs [UInt8.ofNat k, UInt8.ofNat g])) rfl (by kernel_rfl) (by kernel_rfl) (by kernel_rfl) (fun _ _ _ h => h) (Or.inl ⟨by rfl, fun w' hw => ?_⟩) hS ?_
      · go_simp
      simp only [Act.put, List.getElem_toArray, List.getElem_cons_succ, List.getElem_cons_zero, List.setIfInBounds_toArray, List.set_cons_zero, List.set_cons_succ]
      refine wpAnyH_take (i := 9) (v := .string (bs ([UInt8.ofNat k, UInt8.ofNat g] ++ t))) rfl (by kernel_rfl) (by kernel_rfl) (by kernel_rfl) (fun _ _ _ h => h) (Or.inl ⟨by rfl, fun w' hw => ?_⟩) hS ?_
      · go_simp
      simp only [Act.put, List.getElem_toArray, List.getElem_cons_succ, List.getElem_cons_zero, List.setIfInBounds_toArray, List.set_cons_zero, List.set_cons_succ]
      refine wpAnyH_take (i := 10) (v := .agg #[.int .u64 (n : Int), .string (bs ([UInt8.ofNat k, UInt8.ofNat g] ++ t))]) rfl (by kernel_rfl) (by kernel_rfl) (by kernel_rfl) (fun _ _ _ h => h) (Or.inl ⟨by rfl, fun w' hw => ?_⟩) hS ?_
      · go_simp
      simp only [Act.put, List.getElem_toArray, List.getElem_cons_succ, List.getElem_cons_zero, List.setIfInBounds_toArray, List.set_cons_zero, List.set_cons_succ]
      refine wpAnyH_ready (rs := [11]) (by kernel_rfl) (by simp) ?_
      refine AllReadyH.cons rfl (fun K hK => ?_) AllReadyH.nil
      rw [if_pos (by rfl)]
      go_simp
      refine (hEnc X3).mono ?_
      rintro e X4 ⟨rfl, hbn⟩
      go_simp
      have HS4 := Lib.hid (HS3.out.trans (hbn.mono HS3.out.size))
      replace gAb := gAb.below hbn
      replace gBb := gBb.below hbn
      refine hK.out _ _ HS4 (fun hS => ?_)
      clear hK hbn
      (try go_frame)
      refine wpAnyH_take (i := 12) (v := .string (bs R)) rfl (by kernel_rfl) (by kernel_rfl) (by kernel_rfl) (fun _ _ _ h => h) (Or.inl ⟨by rfl, fun w' hw => ?_⟩) hS ?_
      · go_simp
      simp only [Act.put, List.getElem_toArray, List.getElem_cons_succ, List.getElem_cons_zero, List.setIfInBounds_toArray, List.set_cons_zero, List.set_cons_succ]
      refine wpAnyH_take (i := 13) (v := .int .i64 0) rfl (by kernel_rfl) (by kernel_rfl) (by kernel_rfl) (fun _ _ _ h => h) (Or.inl ⟨by rfl, fun w' hw => ?_⟩) hS ?_
      · go_simp
      simp only [Act.put, List.getElem_toArray, List.getElem_cons_succ, List.getElem_cons_zero, List.setIfInBounds_toArray, List.set_cons_zero, List.set_cons_succ]
      refine wpAnyH_take (i := 14) (v := .string (bs R)) rfl (by kernel_rfl) (by kernel_rfl) (by kernel_rfl) (fun _ _ _ h => h) (Or.inl ⟨by rfl, fun w' hw => ?_⟩) hS ?_
      · go_simp
      simp only [Act.put, List.getElem_toArray, List.getElem_cons_succ, List.getElem_cons_zero, List.setIfInBounds_toArray, List.set_cons_zero, List.set_cons_succ]
      refine wpAnyH_take (i := 15) (v := .int .i64 0) rfl (by kernel_rfl) (by kernel_rfl) (by kernel_rfl) (fun _ _ _ h => h) (Or.inl ⟨by rfl, fun w' hw => ?_⟩) hS ?_
      · go_simp
      simp only [Act.put, List.getElem_toArray, List.getElem_cons_succ, List.getElem_cons_zero, List.setIfInBounds_toArray, List.set_cons_zero, List.set_cons_succ]
      refine wpAnyH_done (by kernel_rfl) ?_ _
      clear hS
      go_wp2_with fail
      go_ret2
      exact ⟨rfl, HS4.out⟩
    refine AllReadyH.cons rfl (fun K hK => ?_) AllReadyH.nil
    rw [if_pos (by rfl)]
    have gBc := gBb.c
    go_simp
    refine (wire_Uints1 g hg gB X1 gBc).mono ?_
    rintro e X2 ⟨rfl, hbn⟩
    clear gBc
    go_simp
    have HS2 := Lib.hid (HS1.out.trans (hbn.mono HS1.out.size))
    replace gBb := gBb.below hbn
    refine hK.out _ _ HS2 (fun hS => ?_)
    clear hK hbn
    (try go_frame)
    refine wpAnyH_ready (rs := [2]) (by kernel_rfl) (by simp) ?_
    refine AllReadyH.cons rfl (fun K hK => ?_) AllReadyH.nil
    rw [if_pos (by rfl)]
    go_simp
    have hbn : Below X2.heap.size X2 (X2.alloc (.cells #[.int .u8 (k : Int)] 5)) := (Below.refl _ _).alloc (Nat.le_refl _) _
    have gAb : Bx (X2.alloc (.cells #[.int .u8 (k : Int)] 5)) X2.heap.size 5 (.int .u8 (k : Int)) := Bx.new _ _ _
    obtain ⟨gA, hgA⟩ : ∃ x, X2.heap.size = x := ⟨_, rfl⟩
    rw [hgA] at gAb ⊢
    clear hgA
    generalize (X2.alloc (.cells #[.int .u8 (k : Int)] 5)) = X3 at hbn gAb ⊢
    have HS3 := Lib.hid (HS2.out.trans (hbn.mono HS2.out.size))
    replace gBb := gBb.below hbn
    refine hK.out _ _ HS3 (fun hS => ?_)
    clear hK hbn
    (try go_frame)
    refine wpAnyH_ready (rs := [3]) (by kernel_rfl) (by simp) ?_
    refine AllReadyH.cons rfl (fun K hK => ?_) AllReadyH.nil
    rw [if_pos (by rfl)]
    have hcv := run_convert_bytes_arg (P := Try.prog) X3 53 5 Try.underlying53 Try.underlying5 gA 0 1 1 [(k : Int)] rfl (fun i hi => by
      obtain rfl : i = 0 := by omega
      exact gAb.c) 9 Try.underlying9
    rw [hk1] at hcv
    go_simp
    clear hcv
    refine hK.out _ _ hS (fun hS => ?_)
    clear hK
    (try go_frame)
    refine wpAnyH_take (i := 7) (v := .string (bs [UInt8.ofNat k, UInt8.ofNat g])) rfl (by kernel_rfl) (by kernel_rfl) (by kernel_rfl) (fun _ _ _ h => h) (Or.inl ⟨by rfl, fun w' hw => ?_⟩) hS ?_
    · go_simp
    simp only [Act.put, List.getElem_toArray, List.getElem_cons_succ, List.getElem_cons_zero, List.setIfInBounds_toArray, List.set_cons_zero, List.set_cons_succ]
    refine wpAnyH_take (i := 9) (v := .string (bs ([UInt8.ofNat k, UInt8.ofNat g] ++ t))) rfl (by kernel_rfl) (by kernel_rfl) (by kernel_rfl) (fun _ _ _ h => h) (Or.inl ⟨by rfl, fun w' hw => ?_⟩) hS ?_
    · go_simp
    simp only [Act.put, List.getElem_toArray, List.getElem_cons_succ, List.getElem_cons_zero, List.setIfInBounds_toArray, List.set_cons_zero, List.set_cons_succ]
    refine wpAnyH_take (i := 10) (v := .agg #[.int .u64 (n : Int), .string (bs ([UInt8.ofNat k, UInt8.ofNat g] ++ t))]) rfl (by kernel_rfl) (by kernel_rfl) (by kernel_rfl) (fun _ _ _ h => h) (Or.inl ⟨by rfl, fun w' hw => ?_⟩) hS ?_
    · go_simp
    simp only [Act.put, List.getElem_toArray, List.getElem_cons_succ, List.getElem_cons_zero, List.setIfInBounds_toArray, List.set_cons_zero, List.set_cons_succ]
    refine wpAnyH_ready (rs := [11]) (by kernel_rfl) (by simp) ?_
    refine AllReadyH.cons rfl (fun K hK => ?_) AllReadyH.nil
    rw [if_pos (by rfl)]
    go_simp
    refine (hEnc X3).mono ?_
    rintro e X4 ⟨rfl, hbn⟩
    go_simp
    have HS4 := Lib.hid (HS3.out.trans (hbn.mono HS3.out.size))
    replace gAb := gAb.below hbn
    replace gBb := gBb.below hbn
    refine hK.out _ _ HS4 (fun hS => ?_)
    clear hK hbn
    (try go_frame)
    refine wpAnyH_take (i := 12) (v := .string (bs R)) rfl (by kernel_rfl) (by kernel_rfl) (by kernel_rfl) (fun _ _ _ h => h) (Or.inl ⟨by rfl, fun w' hw => ?_⟩) hS ?_
    · go_simp
    simp only [Act.put, List.getElem_toArray, List.getElem_cons_succ, List.getElem_cons_zero, List.setIfInBounds_toArray, List.set_cons_zero, List.set_cons_succ]
    refine wpAnyH_take (i := 13) (v := .int .i64 0) rfl (by kernel_rfl) (by kernel_rfl) (by kernel_rfl) (fun _ _ _ h => h) (Or.inl ⟨by rfl, fun w' hw => ?_⟩) hS ?_
    · go_simp
    simp only [Act.put, List.getElem_toArray, List.getElem_cons_succ, List.getElem_cons_zero, List.setIfInBounds_toArray, List.set_cons_zero, List.set_cons_succ]
    refine wpAnyH_take (i := 14) (v := .string (bs R)) rfl (by kernel_rfl) (by kernel_rfl) (by kernel_rfl) (fun _ _ _ h => h) (Or.inl ⟨by rfl, fun w' hw => ?_⟩) hS ?_
    · go_simp
    simp only [Act.put, List.getElem_toArray, List.getElem_cons_succ, List.getElem_cons_zero, List.setIfInBounds_toArray, List.set_cons_zero, List.set_cons_succ]
    refine wpAnyH_take (i := 15) (v := .int .i64 0) rfl (by kernel_rfl) (by kernel_rfl) (by kernel_rfl) (fun _ _ _ h => h) (Or.inl ⟨by rfl, fun w' hw => ?_⟩) hS ?_
    · go_simp
    simp only [Act.put, List.getElem_toArray, List.getElem_cons_succ, List.getElem_cons_zero, List.setIfInBounds_toArray, List.set_cons_zero, List.set_cons_succ]
    refine wpAnyH_done (by kernel_rfl) ?_ _
    clear hS
    go_wp2_with fail
    go_ret2
    exact ⟨rfl, HS4.out⟩
end Go.Proofs.Ytniflkggcceagaa

namespace Go.Proofs.Ytniflkggcceagaa
open Go Go.RowKit
def openP (used room : Int) : Int := min (200 - used) (room - 60)
set_option maxRecDepth 100000 in
theorem wal_open (w : World) {T : Nat → Prop} {x d : Nat} {W : Wa} (h : WalAt w T x d W) (used room : Int) (hu : 0 ≤ used ∧ used ≤ 1125899906842624) (hr : -1125899906842624 ≤ room ∧ room ≤ 1125899906842624) : Calls Try.prog 28 #[.pointer (some ⟨x, 0, none⟩), .int .i64 used, .int .i64 room] w fun e w' => e = .returned (.int .i64 (openP used room)) ∧ ∃ n, w' = w.drewN n := by
  have c1 := h.c1; have c2 := h.c2; have c3 := h.c3
  clear h
  unfold openP
  obtain ⟨A, hA⟩ : ∃ A : Int, 200 - used = A := ⟨_, rfl⟩
  obtain ⟨B, hB⟩ : ∃ B : Int, room - 60 = B := ⟨_, rfl⟩
  have hm : (if B < A then B else A) = min A B := by omega
  have hAw : IntKind.i64.wrap (200 - used) = A := by rw [IntKind.wrap_i64]; omega
  have hBw : IntKind.i64.wrap (room - 60) = B := by rw [IntKind.wrap_i64]; omega
  have hAw2 : IntKind.i64.wrap A = A := by rw [IntKind.wrap_i64]; omega
  have hBw2 : IntKind.i64.wrap B = B := by rw [IntKind.wrap_i64]; omega
  rw [hA, hB]
  obtain ⟨M, hM⟩ : ∃ M, min A B = M := ⟨_, rfl⟩
  rw [hM] at hm ⊢
  have h2w : IntKind.i64.wrap 2 = 2 := by decide
  have h200 : IntKind.i64.wrap 200 = 200 := by decide
  go_enter Try.func28, Try.ntmps28
  go_upto_region 1 with fail
  refine wp_region_quiet (C := fun W => W.cell? ⟨x, 1, none⟩ = some (.int .i64 3) ∧ W.cell? ⟨x, 2, none⟩ = some (.int .i64 100) ∧ W.cell? ⟨x, 3, none⟩ = some (.int .i64 60) ∧ ∃ n, W = w.drewN n) (by kernel_rfl) (by kernel_rfl) ⟨c1, c2, c3, 1, rfl⟩ ?_
  refine (quiet_plain' ?_ (.pointer (some ⟨x, 0, none⟩)) (fun w' hw' => ?_) ?_ : _)
  · exact rfl
  · go_simp
  go_frame
  refine (quiet_plain' ?_ (.pointer (some ⟨x, 0, none⟩)) (fun w' hw' => ?_) ?_ : _)
  · exact rfl
  · go_simp
  go_frame
  refine (quiet_plain' ?_ (.pointer (some ⟨x, 1, none⟩)) (fun w' hw' => ?_) ?_ : _)
  · exact rfl
  · go_simp
  go_frame
  refine (quiet_plain' ?_ (.pointer (some ⟨x, 1, none⟩)) (fun w' hw' => ?_) ?_ : _)
  · exact rfl
  · go_simp
  go_frame
  refine (quiet_plain' ?_ (.int .i64 3) (fun w' hw' => ?_) ?_ : _)
  · exact rfl
  · obtain ⟨h1, h2, h3, _⟩ := hw'
    go_simp
  go_frame
  refine (quiet_plain' ?_ (.int .i64 2) (fun w' hw' => ?_) ?_ : _)
  · exact rfl
  · go_simp
  go_frame
  refine (quiet_plain' ?_ (.pointer (some ⟨x, 0, none⟩)) (fun w' hw' => ?_) ?_ : _)
  · exact rfl
  · go_simp
  go_frame
  refine (quiet_plain' ?_ (.pointer (some ⟨x, 0, none⟩)) (fun w' hw' => ?_) ?_ : _)
  · exact rfl
  · go_simp
  go_frame
  refine (quiet_plain' ?_ (.pointer (some ⟨x, 1, none⟩)) (fun w' hw' => ?_) ?_ : _)
  · exact rfl
  · go_simp
  go_frame
  refine (quiet_plain' ?_ (.pointer (some ⟨x, 2, none⟩)) (fun w' hw' => ?_) ?_ : _)
  · exact rfl
  · go_simp
  go_frame
  refine (quiet_plain' ?_ (.int .i64 100) (fun w' hw' => ?_) ?_ : _)
  · exact rfl
  · obtain ⟨h1, h2, h3, _⟩ := hw'
    go_simp
  go_frame
  refine (quiet_plain' ?_ (.int .i64 200) (fun w' hw' => ?_) ?_ : _)
  · exact rfl
  · go_simp
  go_frame
  refine (quiet_plain' ?_ (.int .i64 used) (fun w' hw' => ?_) ?_ : _)
  · exact rfl
  · go_simp
  go_frame
  refine (quiet_plain' ?_ (.int .i64 A) (fun w' hw' => ?_) ?_ : _)
  · exact rfl
  · go_simp
  go_frame
  refine (quiet_plain' ?_ (.int .i64 room) (fun w' hw' => ?_) ?_ : _)
  · exact rfl
  · go_simp
  go_frame
  refine (quiet_plain' ?_ (.pointer (some ⟨x, 0, none⟩)) (fun w' hw' => ?_) ?_ : _)
  · exact rfl
  · go_simp
  go_frame
  refine (quiet_plain' ?_ (.pointer (some ⟨x, 0, none⟩)) (fun w' hw' => ?_) ?_ : _)
  · exact rfl
  · go_simp
  go_frame
  refine (quiet_plain' ?_ (.pointer (some ⟨x, 1, none⟩)) (fun w' hw' => ?_) ?_ : _)
  · exact rfl
  · go_simp
  go_frame
  refine (quiet_plain' ?_ (.pointer (some ⟨x, 3, none⟩)) (fun w' hw' => ?_) ?_ : _)
  · exact rfl
  · go_simp
  go_frame
  refine (quiet_plain' ?_ (.int .i64 60) (fun w' hw' => ?_) ?_ : _)
  · exact rfl
  · obtain ⟨h1, h2, h3, _⟩ := hw'
    go_simp
  go_frame
  refine (quiet_plain' ?_ (.int .i64 B) (fun w' hw' => ?_) ?_ : _)
  · exact rfl
  · go_simp
  go_frame
  refine (quiet_plain' ?_ (.int .i64 M) (fun w' hw' => ?_) ?_ : _)
  · exact rfl
  · go_simp
  go_frame
  refine (quiet_plain' ?_ (.int .i64 M) (fun w' hw' => ?_) ?_ : _)
  · exact rfl
  · go_simp
  go_frame
  refine (wpQuiet_nil ?_ : _)
  rintro W6 ⟨_, _, _, n, rfl⟩
  go_wp2_with fail
  go_ret
  exact ⟨rfl, n, rfl⟩
def roomP (D : Dk) (W : Wa) : Int := max 0 (openP (sumL W.sizes : Nat) D.left - W.reserved)
structure WaOk (W : Wa) : Prop where
  n : W.sizes.length ≤ 1000
  s : ∀ n ∈ W.sizes, n ≤ 1073741824
  r : 0 ≤ W.reserved ∧ W.reserved ≤ 1073741824
theorem sumL_le (l : List Nat) (b : Nat) (h : ∀ n ∈ l, n ≤ b) : sumL l ≤ l.length * b := by
  have : ∀ q, q ≤ l.length → sumL (l.take q) ≤ q * b := fun q => by
    induction q with
    | zero => intro _; simp [sumL]
    | succ q ih =>
      intro hq
      rw [sumL_take l q (by omega)]
      have h1 := ih (by omega)
      have h2 := h (l.getD q 0) (by rw [List.getD_eq_getElem?_getD, List.getElem?_eq_getElem (by omega)]; exact List.getElem_mem _)
      rw [Nat.succ_mul]; omega
  have h3 := this l.length (Nat.le_refl _)
  rwa [List.take_length] at h3
set_option maxRecDepth 100000 in
set_option maxHeartbeats 1000000 in
theorem wal_Room (w : World) {S T : Nat → Prop} {x d : Nat} {W : Wa} {D : Dk} (h : WalAt w T x d W) (hd : DiskAt w S d D) (hk : DkOk D) (ho : WaOk W) : Calls Try.prog 10 #[.pointer (some ⟨x, 0, none⟩)] w fun e w' => e = .returned (.int .i64 (roomP D W)) ∧ ∃ n, w' = w.drewN n := by
  have hlw : ∀ k, k ≤ 16 → lensN D.now k ≤ k * 1073741824 := fun k => by
    induction k with
    | zero => intro _; exact Nat.le_refl _
    | succ k ih => intro hk2; have := ih (by omega); have := hk.now k (by omega); show lensN D.now k + _ ≤ _; omega
  have hl16 := hlw 16 (by omega)
  have hroom := hk.room
  have hus := sumL_le W.sizes 1073741824 ho.s
  have hun := ho.n
  have hus2 : sumL W.sizes ≤ 1073741824000 := Nat.le_trans hus (by have := Nat.mul_le_mul_right 1073741824 hun; omega)
  have hlf : -1125899906842624 ≤ D.left ∧ D.left ≤ 1125899906842624 := by unfold Dk.left; omega
  have hrs := ho.r
  have HU := Lib.hid (fun (n : Nat) => wal_used (w.drewN n) (h.drewN n) ho.n ho.s)
  have HR := Lib.hid (fun (n : Nat) => disk_Room (w.drewN n) (hd.step ⟨rfl, rfl, rfl, Nat.le_refl _, fun _ _ => rfl⟩) hk.room hk.now)
  have HO := Lib.hid (fun (n : Nat) => wal_open (w.drewN n) (h.drewN n) (sumL W.sizes : Nat) D.left ⟨by omega, by omega⟩ hlf)
  have HC0 := Lib.hid (fun (n : Nat) => (h.drewN n).c0)
  have HC9 := Lib.hid (fun (n : Nat) => (h.drewN n).c9)
  unfold roomP
  obtain ⟨us, hus3⟩ : ∃ z, sumL W.sizes = z := ⟨_, rfl⟩
  obtain ⟨lf, hlf2⟩ : ∃ z, D.left = z := ⟨_, rfl⟩
  obtain ⟨rs, hrs2⟩ : ∃ z, W.reserved = z := ⟨_, rfl⟩
  rw [hus3] at HU HO hus2 ⊢
  rw [hlf2] at HR HO hlf ⊢
  rw [hrs2] at HC9 hrs ⊢
  have hop : -2000000000000000 ≤ openP (us : Nat) lf ∧ openP (us : Nat) lf ≤ 2000000000000000 := by unfold openP; omega
  obtain ⟨op, hop2⟩ : ∃ z, openP (us : Nat) lf = z := ⟨_, rfl⟩
  rw [hop2] at HO hop ⊢
  obtain ⟨B, hB⟩ : ∃ B : Int, op - rs = B := ⟨_, rfl⟩
  have hBw : IntKind.i64.wrap (op - rs) = B := by rw [IntKind.wrap_i64]; omega
  have hBw2 : IntKind.i64.wrap B = B := by rw [IntKind.wrap_i64]; omega
  have hm : (if 0 < B then B else 0) = max 0 B := by omega
  rw [hB]
  obtain ⟨M, hM⟩ : ∃ M, max 0 B = M := ⟨_, rfl⟩
  rw [hM] at hm ⊢
  have c0 := h.c0
  clear h hd hk ho hlw hl16 hroom hus hun hus2 hlf hrs hus3 hlf2 hrs2 hop hop2
  go_enter Try.func10, Try.ntmps10
  go_upto_region 3 with fail
  refine wp_region_quiet (C := fun W => ∃ n, W = w.drewN n) (by kernel_rfl) (by kernel_rfl) ⟨1, rfl⟩ ?_
  refine (quiet_plain' ?_ (.pointer (some ⟨x, 0, none⟩)) (fun w' hw' => ?_) ?_ : _)
  · exact rfl
  · go_simp
  go_frame
  refine (quiet_plain' ?_ (.pointer (some ⟨x, 0, none⟩)) (fun w' hw' => ?_) ?_ : _)
  · exact rfl
  · go_simp
  go_frame
  refine (quiet_call' ?_ (.int .i64 (us : Int)) 29 #[.pointer (some ⟨x, 0, none⟩)] (fun w' hw' => ⟨?_, ?_⟩) ?_ : _)
  · exact rfl
  · obtain ⟨n, rfl⟩ := hw'; have h0 := HC0.out n; have h9 := HC9.out n
    go_simp
  · obtain ⟨n, rfl⟩ := hw'; exact (HU.out n).mono (fun e wz h => ⟨h.1, n, h.2⟩)
  go_frame
  refine (quiet_plain' ?_ (.pointer (some ⟨x, 0, none⟩)) (fun w' hw' => ?_) ?_ : _)
  · exact rfl
  · go_simp
  go_frame
  refine (quiet_plain' ?_ (.pointer (some ⟨x, 0, none⟩)) (fun w' hw' => ?_) ?_ : _)
  · exact rfl
  · go_simp
  go_frame
  refine (quiet_plain' ?_ (.pointer (some ⟨x, 0, none⟩)) (fun w' hw' => ?_) ?_ : _)
  · exact rfl
  · go_simp
  go_frame
  refine (quiet_plain' ?_ (.pointer (some ⟨d, 0, none⟩)) (fun w' hw' => ?_) ?_ : _)
  · exact rfl
  · obtain ⟨n, rfl⟩ := hw'; have h0 := HC0.out n; have h9 := HC9.out n
    go_simp
  go_frame
  refine (quiet_call' ?_ (.int .i64 lf) 12 #[.pointer (some ⟨d, 0, none⟩)] (fun w' hw' => ⟨?_, ?_⟩) ?_ : _)
  · exact rfl
  · obtain ⟨n, rfl⟩ := hw'; have h0 := HC0.out n; have h9 := HC9.out n
    go_simp
  · obtain ⟨n, rfl⟩ := hw'; exact (HR.out n).mono (fun e wz h => ⟨h.1, n, h.2⟩)
  go_frame
  refine (quiet_call' ?_ (.int .i64 op) 28 #[.pointer (some ⟨x, 0, none⟩), .int .i64 (us : Int), .int .i64 lf] (fun w' hw' => ⟨?_, ?_⟩) ?_ : _)
  · exact rfl
  · obtain ⟨n, rfl⟩ := hw'; have h0 := HC0.out n; have h9 := HC9.out n
    go_simp
  · obtain ⟨n, rfl⟩ := hw'; exact (HO.out n).mono (fun e wz h => ⟨h.1, by obtain ⟨m, hm⟩ := h.2; exact ⟨n + m, by rw [hm, World.drewN_drewN]⟩⟩)
  go_frame
  refine (quiet_plain' ?_ (.pointer (some ⟨x, 0, none⟩)) (fun w' hw' => ?_) ?_ : _)
  · exact rfl
  · go_simp
  go_frame
  refine (quiet_plain' ?_ (.pointer (some ⟨x, 0, none⟩)) (fun w' hw' => ?_) ?_ : _)
  · exact rfl
  · go_simp
  go_frame
  refine (quiet_plain' ?_ (.pointer (some ⟨x, 9, none⟩)) (fun w' hw' => ?_) ?_ : _)
  · exact rfl
  · go_simp
  go_frame
  refine (quiet_plain' ?_ (.int .i64 rs) (fun w' hw' => ?_) ?_ : _)
  · exact rfl
  · obtain ⟨n, rfl⟩ := hw'; have h0 := HC0.out n; have h9 := HC9.out n
    go_simp
  go_frame
  refine (quiet_plain' ?_ (.int .i64 B) (fun w' hw' => ?_) ?_ : _)
  · exact rfl
  · go_simp
  go_frame
  refine (quiet_plain' ?_ (.int .i64 M) (fun w' hw' => ?_) ?_ : _)
  · exact rfl
  · go_simp
  go_frame
  refine (quiet_plain' ?_ (.int .i64 M) (fun w' hw' => ?_) ?_ : _)
  · exact rfl
  · go_simp
  go_frame
  refine (wpQuiet_nil ?_ : _)
  rintro W6 ⟨n, rfl⟩
  go_wp2_with fail
  go_ret
  exact ⟨rfl, n, rfl⟩
theorem wal_full (w : World) {T : Nat → Prop} {x d : Nat} {W : Wa} (h : WalAt w T x d W) (n : Nat) : Calls Try.prog 54 #[.pointer (some ⟨x, 0, none⟩), .int .i64 (n : Int)] w fun e w' => e = .returned (.bool (decide (100 ≤ n))) ∧ w' = w := by
  have c2 := h.c2
  clear h
  by_cases h1 : 100 ≤ n
  · have h2 : (100 : Int) ≤ (n : Int) := by omega
    rw [decide_eq_true h1]
    go_enter Try.func54, Try.ntmps54
    go_wp2_with fail
    go_ret
    exact ⟨rfl, rfl⟩
  · have h2 : ¬ (100 : Int) ≤ (n : Int) := by omega
    have h3 : decide ((100 : Int) ≤ (n : Int)) = false := by simp; omega
    rw [decide_eq_false h1]
    go_enter Try.func54, Try.ntmps54
    go_wp2_with fail
    go_ret
    exact ⟨rfl, rfl⟩
theorem wal_First (w : World) {T : Nat → Prop} {x d : Nat} {W : Wa} (h : WalAt w T x d W) : Calls Try.prog 25 #[.pointer (some ⟨x, 0, none⟩)] w fun e w' => e = .returned (.int .u64 (W.first : Int)) ∧ w' = w := by
  have c5 := h.c5
  clear h
  go_enter Try.func25, Try.ntmps25
  go_wp2_with fail
  go_ret
  exact ⟨rfl, rfl⟩
theorem wal_Next (w : World) {T : Nat → Prop} {x d : Nat} {W : Wa} (h : WalAt w T x d W) : Calls Try.prog 11 #[.pointer (some ⟨x, 0, none⟩)] w fun e w' => e = .returned (.int .u64 (W.next : Int)) ∧ w' = w := by
  have c6 := h.c6
  clear h
  go_enter Try.func11, Try.ntmps11
  go_wp2_with fail
  go_ret
  exact ⟨rfl, rfl⟩
theorem wal_Reserved (w : World) {T : Nat → Prop} {x d : Nat} {W : Wa} (h : WalAt w T x d W) : Calls Try.prog 24 #[.pointer (some ⟨x, 0, none⟩)] w fun e w' => e = .returned (.int .i64 W.reserved) ∧ w' = w := by
  have c9 := h.c9
  clear h
  go_enter Try.func24, Try.ntmps24
  go_wp2_with fail
  go_ret
  exact ⟨rfl, rfl⟩
theorem wal_Down (w : World) {T : Nat → Prop} {x d : Nat} {W : Wa} (h : WalAt w T x d W) : Calls Try.prog 15 #[.pointer (some ⟨x, 0, none⟩)] w fun e w' => e = .returned (.int .i64 W.down) ∧ w' = w := by
  have c0 := h.c0; have c10 := h.c10
  clear h
  go_enter Try.func15, Try.ntmps15
  go_wp2_with fail
  go_ret
  exact ⟨rfl, rfl⟩
end Go.Proofs.Ytniflkggcceagaa
