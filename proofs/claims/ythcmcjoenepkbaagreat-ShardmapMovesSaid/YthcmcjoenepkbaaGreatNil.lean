/- What no map answers. -/
import Derived.Test.YthcmcjoenepkbaaGreatShd
import Derived.Test.YthcmcjoenepkbaaGreatSmA
namespace Go.Proofs.YthcmcjoenepkbaaGreat
open Go Go.RowKit Go.Maps

theorem map_Epoch_nil (w : World) : Calls Tryz.prog 10 #[.pointer none] w fun e w' => e = .returned (.int .u64 0) ∧ Below w.heap.size w w' := by
  go_enter Tryz.func10, Tryz.ntmps10
  go_wp2_with fail
  go_ret
  exact ⟨rfl, Below.refl _ _⟩
theorem map_Spans_nil (w : World) : Calls Tryz.prog 11 #[.pointer none] w fun e w' => e = .returned (.slice none 0 0) ∧ Below w.heap.size w w' := by
  go_enter Tryz.func11, Tryz.ntmps11
  go_wp2_with fail
  go_ret
  exact ⟨rfl, Below.refl _ _⟩
theorem map_Bytes_nil (w : World) : Calls Tryz.prog 12 #[.pointer none] w fun e w' => e = .returned (.string ByteArray.empty) ∧ Below w.heap.size w w' := by
  go_enter Tryz.func12, Tryz.ntmps12
  go_wp2_with fail
  go_ret
  exact ⟨rfl, Below.refl _ _⟩
theorem map_New_nil (w : World) : Calls Tryz.prog 21 #[.pointer none] w fun e w' => e = .returned (.tuple #[.pointer none, .int .i64 1]) ∧ Below w.heap.size w w' := by
  have HS := Lib.hid (ring_Spans_nil w)
  go_enter Tryz.func21, Tryz.ntmps21
  go_wp2_with fail
  refine HS.out.mono ?_
  rintro e w1 ⟨rfl, hb⟩
  have HB := Lib.hid hb
  clear hb HS
  go_wp2_with fail
  go_ret2
  exact ⟨rfl, HB.out⟩

set_option maxRecDepth 100000 in
set_option maxHeartbeats 1000000 in
theorem map_Split_nil (f t tw : Nat) (w : World) :
    Calls Tryz.prog 8 #[.pointer none, .agg #[.int .u64 (f : Int), .int .u64 (t : Int)], .int .u32 (tw : Int)] w fun en w' => en = .returned (.tuple #[.pointer none, .int .u32 0, .int .i64 1]) ∧ Below w.heap.size w w' := by
  go_enter Tryz.func8, Tryz.ntmps8
  go_upto_region 1 with fail
  obtain ⟨W0, hW0⟩ : ∃ W0, ((((w.alloc (.cells #[.int .u64 (f : Int), .int .u64 (t : Int)] 24)).alloc (.cells #[.int .u32 (tw : Int)] 25)).alloc (.cells #[.pointer none] 28)).alloc (.cells #[.int .u32 0] 25)).alloc (.cells #[.int .i64 0] 34) = W0 := ⟨_, rfl⟩
  obtain ⟨hz0, hB0, d0, d1, d2, d3, d4⟩ := five hW0
  rw [hW0]
  clear hW0
  have f3 := cell_of d2 0
  have f4 := cell_of d3 0
  have f5 := cell_of d4 0
  have r3 := frozen_of d2 0
  have r4 := frozen_of d3 0
  have r5 := frozen_of d4 0
  go_wp2_with fail
  obtain ⟨W1, hW1, c1, c2, c3, hb1, _, _⟩ := three_set (x2 := w.heap.size + 1 + 1) (x3 := w.heap.size + 1 + 1 + 1) (x4 := w.heap.size + 1 + 1 + 1 + 1) (Nat.lt_succ_self _) (Nat.lt_succ_self _) d2 d3 d4 (.pointer none) (.int .u32 0) (.int .i64 1)
  rw [hW1]
  refine bodyPost_ret (results_cell3 rfl _ _ (w.heap.size + 1 + 1) (w.heap.size + 1 + 1 + 1) (w.heap.size + 1 + 1 + 1 + 1) _ _ _ rfl rfl rfl Tryz.underlying28 Tryz.underlying25 Tryz.underlying34 c1 c2 c3) rfl ⟨rfl, hB0.trans (hb1.mono (by omega))⟩

theorem map_ranges_nil (w : World) : Calls Tryz.prog 27 #[.pointer none] w fun e w' => e = .returned (.func (.func 52) #[] #[.pointer (some ⟨w.heap.size, 0, none⟩)]) ∧ w' = w.alloc (.cells #[.pointer none] 28) := by
  go_enter Tryz.func27, Tryz.ntmps27
  go_wp2_with fail
  go_ret
  exact ⟨rfl, rfl⟩

attribute [local go_sem] Oper.semAt_some
open Go.Shelf in
set_option maxRecDepth 100000 in
set_option maxHeartbeats 1000000 in
theorem ranges_none (n : Nat) (hn : 1 ≤ n) (Bm nb j : Nat) (w : World) (hBm : w.cell? ⟨Bm, 0, none⟩ = some (.pointer none)) :
    SeqStopsK Fence.wide n Tryz.prog 52 #[.pointer (some ⟨Bm, 0, none⟩)] encRg (KR nb j) (fun ys => ys = []) (fun _ => False) 0 w := fun l J Jx W hW hJa hJxa hY h0 => by
  have hBW : W.cell? ⟨Bm, 0, none⟩ = some (.pointer none) := (hW.cell (p := ⟨Bm, 0, none⟩) (block_lt_of_cell hBm)).trans hBm
  have HSP := Lib.hid (map_Spans_nil W)
  have HJA := Lib.hid hJa; have H0 := Lib.hid h0
  clear hBm hJa hJxa hY h0 hW
  refine callsIn_of_wp Tryz.func52 rfl trivial ?_ rfl
  simp only [Tryz.ntmps52, List.size_toArray, List.length_cons, List.length_nil, Nat.reduceAdd, Nat.reduceSub, Array.replicate_succ, Array.replicate_zero, List.push_toArray, List.append_toArray, List.nil_append, List.cons_append]
  gi_wp2
  refine ⟨trivial, (callsIn_wide.2 HSP.out).mono ?_⟩
  rintro en w1 ⟨rfl, hb1⟩
  have hj1 : J [] w1 := HJA.out [] W w1 none H0.out (below_grown hb1) (fun r h => by cases h)
  have HJ1 := Lib.hid hj1
  clear hb1 hj1 H0 HSP hBW HJA
  gi_wp2
  gi_loopw [11] (fun i wr => i = .int .i64 0 ∧ wr = w1) (fun _ _ => 0)
  case atStart => exact ⟨rfl, rfl⟩
  case round =>
    obtain ⟨rfl, rfl⟩ := hrel
    gi_wp2
    go_end0
    exact ⟨⟨_, rfl⟩, .inl ⟨_, rfl, HJ1.out⟩⟩

set_option maxRecDepth 100000 in
set_option maxHeartbeats 1000000 in
theorem map_Owner_nil (h : Nat) (w : World) : Calls Tryz.prog 18 #[.pointer none, .int .u64 (h : Int)] w fun en w' => en = .returned (.int .u32 0) ∧ Below w.heap.size w w' := by
  refine (callsIn_wide (n := 14)).1 ?_
  refine callsIn_of_wp_marks Tryz.func18 rfl trivial ?_ rfl
  simp only [Tryz.ntmps18, List.size_toArray, List.length_cons, List.length_nil, Nat.reduceAdd, Nat.reduceSub, Array.replicate_succ, Array.replicate_zero, List.push_toArray, List.append_toArray, List.nil_append, List.cons_append]
  gi_wp2_with fail
  obtain ⟨W0, hW0⟩ : ∃ W0, (w.alloc (.cells #[.int .u64 (h : Int)] 22)).alloc (.cells #[.int .u32 0] 25) = W0 := ⟨_, rfl⟩
  have hB0 : Below w.heap.size w W0 := by rw [← hW0]; exact ((Below.refl _ _).alloc (Nat.le_refl _) _).alloc (by simp) _
  have hz0 : Hid (W0.heap.size = w.heap.size + 2) := Lib.hid (by rw [← hW0]; simp)
  have hc2 : W0.heap[w.heap.size + 1]? = some (.cells #[.int .u32 0] 25) := by rw [← hW0]; exact two2 _ _ _
  rw [hW0]
  clear hW0
  refine ⟨trivial, (callsIn_wide.2 (map_ranges_nil W0)).mono ?_⟩
  rintro en w1 ⟨rfl, hw1⟩
  have hb1 : Below W0.heap.size W0 w1 := by rw [hw1]; exact (Below.refl _ _).alloc (Nat.le_refl _) _
  have hs1 : w1.heap.size = w.heap.size + 3 := by rw [hw1]; simp [hz0.out]
  have hbm : w1.cell? ⟨W0.heap.size, 0, none⟩ = some (.pointer none) := by rw [hw1]; exact cell_of (MapKept.heap_alloc _ _).1 0
  have hB1 : Below w.heap.size w w1 := hB0.trans (hb1.mono hB0.size)
  have hc2' := (hb1.block (w.heap.size + 1) (by have := hz0.out; omega)).trans hc2
  have HSEQ := Lib.hid (ranges_none 13 (by decide) W0.heap.size (w.heap.size + 1) 0 w1 hbm); have HB1 := Lib.hid hB1; have HS1 := Lib.hid hs1; have HC2 := Lib.hid hc2'
  clear hB1 hs1 hc2' hw1 hb1 hbm hc2 hB0
  gi_wp2_with fail
  apply wpIn_rangeFunc_ownH rfl (by decide) (gf := 52) (lb := #[.pointer (some ⟨W0.heap.size, 0, none⟩)]) rfl trivial (enters_of Tryz.func52 (by kernel_rfl) rfl)
    HSEQ.out (fun h h' => h.trans h') (fun W l o o' hl h1 h2 h3 => ?hkb) (Below.refl _ _) (fun _ => rfl)
    (fun _ W => Below (w.heap.size + 3) w1 W) (fun _ _ _ => False) (Ax := fun _ _ _ => True)
  case hkb => exact KR.putObj o' h1 h2 (by have := HS1.out; omega)
  case hI =>
    rintro s A C row h1 hg hr
    exact h1.trans ⟨hg.os, hg.tape, hg.output, hg.size, fun j hj => hg.block j (by have := h1.size; have := HS1.out; omega) (fun e => by have := (hr _ e.symm).1; have := HS1.out; omega)⟩
  case hIx => rintro c s A C row h; exact h.elim
  case h0 => exact Below.refl _ _
  case hAx => rintro x a' s A C row h1 hg hr; trivial
  case hassign =>
    rintro l pre x W K h1 hK
    have hbA : Below W.heap.size W (W.alloc (.cells #[.int .u64 (x.1 : Int), .int .u64 (x.2.1 : Int)] 24)) := (Below.refl _ _).alloc (Nat.le_refl _) _
    have hkk := fun a' => hK a' _ (keepsFrom_below hbA (Nat.le_refl _)) (KR.below hbA (by have := h1.size; have := HS1.out; omega)) (h1.trans (hbA.mono (by have := h1.size; have := HS1.out; omega))) trivial
    gi_wp2
    exact hkk _
  case hbody => rintro l pre x a' W hl hrec h1 h2 hpre; omega
  case hdone =>
    rintro D xs W hD rfl hB hdef
    have c2 := cell_of ((hB.block _ (by omega)).trans HC2.out) 0
    have q2 := frozen_of ((hB.block _ (by omega)).trans HC2.out) 0
    have HB := Lib.hid hB; have HDEF := Lib.hid hdef
    clear hB hdef
    gi_wp2_with fail
    obtain ⟨W1, hW1⟩ : ∃ W1, W.setCell ⟨w.heap.size + 1, 0, none⟩ (.int .u32 0) = W1 := ⟨_, rfl⟩
    rw [hW1]
    have hk1 : ∀ k, k ≠ w.heap.size + 1 → W1.heap[k]? = W.heap[k]? := fun k h => by rw [← hW1]; exact Below.heap_setCell W ⟨w.heap.size + 1, 0, none⟩ _ k h
    have hc1 : W1.cell? ⟨w.heap.size + 1, 0, none⟩ = some (.int .u32 0) := by rw [← hW1]; exact World.cell?_setCell_same' _ _ _ (by rw [c2]; rfl)
    have hb1 : Below w.heap.size W W1 := by rw [← hW1]; exact below_set _ _ (by show w.heap.size ≤ w.heap.size + 1; omega)
    have hdef1 : W1.heap[D]? = some (.deferred (some [])) := (hk1 D (by have := HS1.out; omega)).trans HDEF.out
    have hpb : Below (w.heap.size + 3) W1 (W1.putObj D (.deferred none)) := belowK_b (w := w1) (by have := HS1.out; omega) W1 D _ _ hD hdef1 rfl rfl
    refine ⟨by simp, .inl ⟨_, _, rfl, run_takeDeferred hdef1, ?_⟩⟩
    exact ⟨_, results_cell_int rfl _ _ (w.heap.size + 1) _ rfl Tryz.underlying25 ((hpb.cell (p := ⟨w.heap.size + 1, 0, none⟩) (by dsimp only; omega)).trans hc1), rfl, ((HB1.out.trans (HB.out.mono (by omega))).trans hb1).trans (hpb.mono (by omega))⟩
  case hstop =>
    rintro D c pre W _ h _ _
    exact h.elim
set_option maxRecDepth 100000 in
set_option maxHeartbeats 1000000 in
theorem map_Ranges_nil (h : Nat) (w : World) : Calls Tryz.prog 20 #[.pointer none, .int .u32 (h : Int)] w fun en w' => en = .returned (.slice none 0 0) ∧ Below w.heap.size w w' := by
  refine (callsIn_wide (n := 14)).1 ?_
  refine callsIn_of_wp_marks Tryz.func20 rfl trivial ?_ rfl
  simp only [Tryz.ntmps20, List.size_toArray, List.length_cons, List.length_nil, Nat.reduceAdd, Nat.reduceSub, Array.replicate_succ, Array.replicate_zero, List.push_toArray, List.append_toArray, List.nil_append, List.cons_append]
  gi_wp2_with fail
  obtain ⟨W0, hW0⟩ : ∃ W0, (w.alloc (.cells #[.int .u32 (h : Int)] 25)).alloc (.cells #[.slice none 0 0] 59) = W0 := ⟨_, rfl⟩
  have hB0 : Below w.heap.size w W0 := by rw [← hW0]; exact ((Below.refl _ _).alloc (Nat.le_refl _) _).alloc (by simp) _
  have hz0 : Hid (W0.heap.size = w.heap.size + 2) := Lib.hid (by rw [← hW0]; simp)
  have hc2 : W0.heap[w.heap.size + 1]? = some (.cells #[.slice none 0 0] 59) := by rw [← hW0]; exact two2 _ _ _
  rw [hW0]
  clear hW0
  refine ⟨trivial, (callsIn_wide.2 (map_ranges_nil W0)).mono ?_⟩
  rintro en w1 ⟨rfl, hw1⟩
  have hb1 : Below W0.heap.size W0 w1 := by rw [hw1]; exact (Below.refl _ _).alloc (Nat.le_refl _) _
  have hs1 : w1.heap.size = w.heap.size + 3 := by rw [hw1]; simp [hz0.out]
  have hbm : w1.cell? ⟨W0.heap.size, 0, none⟩ = some (.pointer none) := by rw [hw1]; exact cell_of (MapKept.heap_alloc _ _).1 0
  have hB1 : Below w.heap.size w w1 := hB0.trans (hb1.mono hB0.size)
  have hc2' := (hb1.block (w.heap.size + 1) (by have := hz0.out; omega)).trans hc2
  have HSEQ := Lib.hid (ranges_none 13 (by decide) W0.heap.size (w.heap.size + 1) 0 w1 hbm); have HB1 := Lib.hid hB1; have HS1 := Lib.hid hs1; have HC2 := Lib.hid hc2'
  clear hB1 hs1 hc2' hw1 hb1 hbm hc2 hB0
  gi_wp2_with fail
  apply wpIn_rangeFunc_ownH rfl (by decide) (gf := 52) (lb := #[.pointer (some ⟨W0.heap.size, 0, none⟩)]) rfl trivial (enters_of Tryz.func52 (by kernel_rfl) rfl)
    HSEQ.out (fun h h' => h.trans h') (fun W l o o' hl h1 h2 h3 => ?hkb) (Below.refl _ _) (fun _ => rfl)
    (fun _ W => Below (w.heap.size + 3) w1 W) (fun _ _ _ => False) (Ax := fun _ _ _ => True)
  case hkb => exact KR.putObj o' h1 h2 (by have := HS1.out; omega)
  case hI =>
    rintro s A C row h1 hg hr
    exact h1.trans ⟨hg.os, hg.tape, hg.output, hg.size, fun j hj => hg.block j (by have := h1.size; have := HS1.out; omega) (fun e => by have := (hr _ e.symm).1; have := HS1.out; omega)⟩
  case hIx => rintro c s A C row h; exact h.elim
  case h0 => exact Below.refl _ _
  case hAx => rintro x a' s A C row h1 hg hr; trivial
  case hassign =>
    rintro l pre x W K h1 hK
    have hbA : Below W.heap.size W (W.alloc (.cells #[.int .u64 (x.1 : Int), .int .u64 (x.2.1 : Int)] 24)) := (Below.refl _ _).alloc (Nat.le_refl _) _
    have hkk := fun a' => hK a' _ (keepsFrom_below hbA (Nat.le_refl _)) (KR.below hbA (by have := h1.size; have := HS1.out; omega)) (h1.trans (hbA.mono (by have := h1.size; have := HS1.out; omega))) trivial
    gi_wp2
    exact hkk _
  case hbody => rintro l pre x a' W hl hrec h1 h2 hpre; omega
  case hdone =>
    rintro D xs W hD rfl hB hdef
    have c2 := cell_of ((hB.block _ (by omega)).trans HC2.out) 0
    have q2 := frozen_of ((hB.block _ (by omega)).trans HC2.out) 0
    have HB := Lib.hid hB; have HDEF := Lib.hid hdef
    clear hB hdef
    gi_wp2_with fail
    obtain ⟨W1, hW1⟩ : ∃ W1, W.setCell ⟨w.heap.size + 1, 0, none⟩ (.slice none 0 0) = W1 := ⟨_, rfl⟩
    rw [hW1]
    have hk1 : ∀ k, k ≠ w.heap.size + 1 → W1.heap[k]? = W.heap[k]? := fun k h => by rw [← hW1]; exact Below.heap_setCell W ⟨w.heap.size + 1, 0, none⟩ _ k h
    have hc1 : W1.cell? ⟨w.heap.size + 1, 0, none⟩ = some (.slice none 0 0) := by rw [← hW1]; exact World.cell?_setCell_same' _ _ _ (by rw [c2]; rfl)
    have hb1 : Below w.heap.size W W1 := by rw [← hW1]; exact below_set _ _ (by show w.heap.size ≤ w.heap.size + 1; omega)
    have hdef1 : W1.heap[D]? = some (.deferred (some [])) := (hk1 D (by have := HS1.out; omega)).trans HDEF.out
    have hpb : Below (w.heap.size + 3) W1 (W1.putObj D (.deferred none)) := belowK_b (w := w1) (by have := HS1.out; omega) W1 D _ _ hD hdef1 rfl rfl
    refine ⟨by simp, .inl ⟨_, _, rfl, run_takeDeferred hdef1, ?_⟩⟩
    exact ⟨_, results_cell_one rfl _ _ (w.heap.size + 1) _ rfl Tryz.underlying59 ((hpb.cell (p := ⟨w.heap.size + 1, 0, none⟩) (by dsimp only; omega)).trans hc1), rfl, ((HB1.out.trans (HB.out.mono (by omega))).trans hb1).trans (hpb.mono (by omega))⟩
  case hstop =>
    rintro D c pre W _ h _ _
    exact h.elim

set_option maxHeartbeats 1000000 in
theorem insertion_nil (w : World) : Calls Tryz.prog 71 #[.slice none 0 0, .int .i64 0, .int .i64 0] w fun e w' => e = .returned (.tuple #[]) ∧ Below w.heap.size w w' := by
  go_enter Tryz.func71, Tryz.ntmps71
  go_wp2
  go_loopw [6] (fun vi wr => vi = .int .i64 1 ∧ wr = w) (fun _ _ => 0)
  case atStart => exact ⟨rfl, rfl⟩
  case round =>
    obtain ⟨rfl, rfl⟩ := hrel
    go_wp2
    go_end0
    exact ⟨rfl, Below.refl _ _⟩
set_option maxRecDepth 100000 in
set_option maxHeartbeats 2000000 in
theorem pdq_nil (w : World) : Calls Tryz.prog 58 #[.slice none 0 0, .int .i64 0, .int .i64 0, .int .i64 0] w fun e w' => e = .returned (.tuple #[]) ∧ Below w.heap.size w w' := by
  have HI := Lib.hid (insertion_nil w)
  go_enter Tryz.func58, Tryz.ntmps58
  go_wp2_with fail
  go_loopw [1, 2, 3, 8, 9] (fun s1 s2 s3 s8 s9 wr => s1 = .int .i64 0 ∧ s2 = .int .i64 0 ∧ s3 = .int .i64 0 ∧ s8 = .bool true ∧ s9 = .bool true ∧ wr = w) (fun _ _ _ _ _ _ => 0)
  case atStart => exact ⟨rfl, rfl, rfl, rfl, rfl, rfl⟩
  case round =>
    obtain ⟨rfl, rfl, rfl, rfl, rfl, rfl⟩ := hrel
    go_wp2_with fail
    refine HI.out.mono ?_
    rintro e w1 ⟨rfl, h1⟩
    have H1 := Lib.hid h1
    clear h1
    go_wp2_with fail
    (try simp only [Exit.inBlock, Exit.then]); refine bodyPost_ret (results_none rfl _ _ _) rfl ?_
    exact ⟨rfl, H1.out⟩
theorem sort_nil (w : World) : Calls Tryz.prog 38 #[.slice none 0 0] w fun e w' => e = .returned (.tuple #[]) ∧ Below w.heap.size w w' := by
  have HP := Lib.hid (fun w' : World => pdq_nil w')
  go_enter Tryz.func38, Tryz.ntmps38
  go_wp2_with fail
  refine (bits_len 0 (by decide) _).mono ?_
  rintro e w1 ⟨rfl, rfl⟩
  go_wp2_with fail
  refine (HP.out _).mono ?_
  rintro e w2 ⟨rfl, h⟩
  have HB := Lib.hid h
  clear h
  go_wp2_with fail
  go_end0
  exact ⟨rfl, HB.out⟩
theorem compact_nil (w : World) : Calls Tryz.prog 39 #[.slice none 0 0] w fun e w' => e = .returned (.slice none 0 0) ∧ Below w.heap.size w w' := by
  go_enter Tryz.func39, Tryz.ntmps39
  go_wp2_with fail
  go_ret
  exact ⟨rfl, Below.refl _ _⟩

set_option maxRecDepth 100000 in
set_option maxHeartbeats 2000000 in
theorem map_Shards_nil (w : World) : Calls Tryz.prog 19 #[.pointer none] w fun en w' => en = .returned (.slice none 0 0) ∧ Below w.heap.size w w' := by
  refine (callsIn_wide (n := 14)).1 ?_
  refine callsIn_of_wp_marks Tryz.func19 rfl trivial ?_ rfl
  simp only [Tryz.ntmps19, List.size_toArray, List.length_cons, List.length_nil, Nat.reduceAdd, Nat.reduceSub, Array.replicate_succ, Array.replicate_zero, List.push_toArray, List.append_toArray, List.nil_append, List.cons_append]
  gi_wp2_with fail
  obtain ⟨W0, hW0⟩ : ∃ W0, w.alloc (.cells #[.slice none 0 0] 57) = W0 := ⟨_, rfl⟩
  obtain ⟨hz0', hc2, hB0⟩ := alloc_keep hW0
  have hz0 := Lib.hid hz0'
  rw [hW0]
  clear hW0 hz0'
  refine ⟨trivial, (callsIn_wide.2 (map_ranges_nil W0)).mono ?_⟩
  rintro en w1 ⟨rfl, hw1⟩
  have hb1 : Below W0.heap.size W0 w1 := by rw [hw1]; exact (Below.refl _ _).alloc (Nat.le_refl _) _
  have hs1 : w1.heap.size = w.heap.size + 2 := by rw [hw1]; simp [hz0.out]
  have hbm : w1.cell? ⟨W0.heap.size, 0, none⟩ = some (.pointer none) := by rw [hw1]; exact cell_of (MapKept.heap_alloc _ _).1 0
  have hB1 : Below w.heap.size w w1 := hB0.trans (hb1.mono hB0.size)
  have hc2' := (hb1.block w.heap.size (by have := hz0.out; omega)).trans hc2
  have HSEQ := Lib.hid (ranges_none 13 (by decide) W0.heap.size w.heap.size 0 w1 hbm); have HB1 := Lib.hid hB1; have HS1 := Lib.hid hs1; have HC2 := Lib.hid hc2'
  clear hB1 hs1 hc2' hw1 hb1 hbm hc2 hB0
  gi_wp2_with fail
  apply wpIn_rangeFunc_ownH rfl (by decide) (gf := 52) (lb := #[.pointer (some ⟨W0.heap.size, 0, none⟩)]) rfl trivial (enters_of Tryz.func52 (by kernel_rfl) rfl)
    HSEQ.out (fun h h' => h.trans h') (fun W l o o' hl h1 h2 h3 => ?hkb) (Below.refl _ _) (fun _ => rfl)
    (fun _ W => Below (w.heap.size + 2) w1 W) (fun _ _ _ => False) (Ax := fun _ _ _ => True)
  case hkb => exact KR.putObj o' h1 h2 (by have := HS1.out; omega)
  case hI =>
    rintro s A C row h1 hg hr
    exact h1.trans ⟨hg.os, hg.tape, hg.output, hg.size, fun j hj => hg.block j (by have := h1.size; have := HS1.out; omega) (fun e => by have := (hr _ e.symm).1; have := HS1.out; omega)⟩
  case hIx => rintro c s A C row h; exact h.elim
  case h0 => exact Below.refl _ _
  case hAx => rintro x a' s A C row h1 hg hr; trivial
  case hassign =>
    rintro l pre x W K h1 hK
    have hkk := fun a' => hK a' W (KeepsFrom.refl _ _) (KR.below (Below.refl _ _) (by have := h1.size; have := HS1.out; omega)) h1 trivial
    gi_wp2
    exact hkk _
  case hbody => rintro l pre x a' W hl hrec h1 h2 hpre; omega
  case hdone =>
    rintro D xs W hD rfl hB hdef
    have c2 := cell_of ((hB.block _ (by omega)).trans HC2.out) 0
    have HB := Lib.hid hB; have HDEF := Lib.hid hdef; have HSO := Lib.hid (sort_nil W)
    clear hB hdef
    gi_wp2_with fail
    refine ⟨trivial, (callsIn_wide.2 HSO.out).mono ?_⟩
    rintro en W2 ⟨rfl, hb2⟩
    have hBW := HB.out.size
    have hlt : w.heap.size < W.heap.size := by have := HS1.out; omega
    have h2 := (hb2.block w.heap.size hlt).trans ((HB.out.block _ (by omega)).trans HC2.out)
    have c3 := cell_of h2 0
    have HB2 := Lib.hid hb2; have HCO := Lib.hid (compact_nil W2); have HH2 := Lib.hid h2
    clear hb2 h2 c2 HSO
    gi_wp2_with fail
    refine ⟨trivial, (callsIn_wide.2 HCO.out).mono ?_⟩
    rintro en W3 ⟨rfl, hb3⟩
    have h3 := (hb3.block w.heap.size (by have := HB2.out.size; omega)).trans HH2.out
    have c4 := cell_of h3 0
    have q4 := frozen_of h3 0
    have HB3 := Lib.hid hb3
    clear hb3 c3 HCO
    gi_wp2_with fail
    obtain ⟨W1, hW1⟩ : ∃ W1, W3.setCell ⟨w.heap.size, 0, none⟩ (.slice none 0 0) = W1 := ⟨_, rfl⟩
    rw [hW1]
    have hk1 : ∀ k, k ≠ w.heap.size → W1.heap[k]? = W3.heap[k]? := fun k h => by rw [← hW1]; exact Below.heap_setCell W3 ⟨w.heap.size, 0, none⟩ _ k h
    have hc1 : W1.cell? ⟨w.heap.size, 0, none⟩ = some (.slice none 0 0) := by rw [← hW1]; exact World.cell?_setCell_same' _ _ _ (by rw [c4]; rfl)
    have hb1 : Below w.heap.size W3 W1 := by rw [← hW1]; exact below_set _ _ (Nat.le_refl _)
    have hDl := (Array.getElem?_eq_some_iff.1 HDEF.out).1
    have hdef1 : W1.heap[D]? = some (.deferred (some [])) := (hk1 D (by have := HS1.out; omega)).trans ((HB3.out.block D (by have := HB2.out.size; omega)).trans ((HB2.out.block D hDl).trans HDEF.out))
    have hpb : Below (w.heap.size + 2) W1 (W1.putObj D (.deferred none)) := belowK_b (w := w1) (by have := HS1.out; omega) W1 D _ _ hD hdef1 rfl rfl
    have hall : Below w.heap.size w W3 := ((HB1.out.trans (HB.out.mono (by omega))).trans (HB2.out.mono (by omega))).trans (HB3.out.mono (by have := HB2.out.size; omega))
    refine ⟨by simp, .inl ⟨_, _, rfl, run_takeDeferred hdef1, ?_⟩⟩
    exact ⟨_, results_cell_one rfl _ _ w.heap.size _ rfl Tryz.underlying57 ((hpb.cell (p := ⟨w.heap.size, 0, none⟩) (by dsimp only; omega)).trans hc1), rfl, (hall.trans hb1).trans (hpb.mono (by omega))⟩
  case hstop =>
    rintro D c pre W _ h _ _
    exact h.elim
theorem map_Of_nil (s : ByteArray) (hs : s.size ≤ 100000) (w : World) : Calls Tryz.prog 22 #[.pointer none, .string s] w fun e w' => e = .returned (.int .u32 0) ∧ Below w.heap.size w w' := by
  have HH := Lib.hid (ring_Hash s hs w); have HO := Lib.hid (fun (h : Nat) (w' : World) => map_Owner_nil h w')
  go_enter Tryz.func22, Tryz.ntmps22
  go_wp2_with fail
  refine HH.out.mono ?_
  rintro e w1 ⟨rfl, h1⟩
  have H1 := Lib.hid h1
  clear h1 HH
  go_wp2_with fail
  refine (HO.out _ _).mono ?_
  rintro e w2 ⟨rfl, h2⟩
  have H2 := Lib.hid (H1.out.trans (h2.mono H1.out.size))
  clear h2
  go_wp2_with fail
  go_ret
  exact ⟨rfl, H2.out⟩
end Go.Proofs.YthcmcjoenepkbaaGreat
