/- ring.New is refused where a shard is named twice. -/
import Derived.Test.YthcmcjoenepkbaaRingS
import Derived.Test.YthcmcjoenepkbaaL26b
namespace Go.Proofs.Ythcmcjoenepkbaa
open Go Go.RowKit Go.Maps

set_option maxRecDepth 100000 in
set_option maxHeartbeats 4000000 in
theorem ring_New_twice (b off cap : Nat) (w : World) (hb : b < w.heap.size) (hc : ∀ i, i < 2 → w.cell? ⟨b, off + i, none⟩ = some (.int .u32 1)) :
    Calls Try.prog 7 #[.int .i64 8, .slice (some ⟨b, off, none⟩) 2 cap] w fun e w' => e = .returned (.tuple #[.pointer none, .int .i64 2]) ∧ Below w.heap.size w w' := by
  refine (callsIn_wide (n := 14)).1 ?_
  refine callsIn_of_wp_marks Try.func7 rfl trivial ?_ rfl
  simp only [Try.ntmps7, List.size_toArray, List.length_cons, List.length_nil, Nat.reduceAdd, Nat.reduceSub, Array.replicate_succ, Array.replicate_zero, List.push_toArray, List.append_toArray, List.nil_append, List.cons_append]
  have hmm := @run_makeMap Try.prog
  gi_wp2_with fail
  obtain ⟨zs, hzs⟩ : ∃ zs : List Int, List.replicate 2 (1 : Int) = zs := ⟨_, rfl⟩
  have hzl : zs.length = 2 := by rw [← hzs]; rfl
  have hzg : ∀ i, i < 2 → zs.getD i 0 = 1 := fun i hi => by
    rw [← hzs]; rcases (show i = 0 ∨ i = 1 by omega) with rfl | rfl <;> rfl
  obtain ⟨W0, hW0⟩ : ∃ W0, w.alloc (.cells #[.int .i64 8] 3) = W0 := ⟨_, rfl⟩
  have hB0 : Below w.heap.size w W0 := by rw [← hW0]; exact (Below.refl _ _).alloc (Nat.le_refl _) _
  have hP0 : Boxed W0 w.heap.size 3 (.int .i64 8) := by rw [← hW0]; exact Boxed.new w _ _
  have hz0 : Hid (W0.heap.size = w.heap.size + 1) := Lib.hid (by rw [← hW0]; simp)
  rw [hW0]
  clear hW0
  refine ⟨trivial, (callsIn_wide.2 (values_call (some ⟨b, off, none⟩) 2 cap W0)).mono ?_⟩
  rintro e w1 ⟨rfl, rfl⟩
  have hv := values_stops 9 (by decide) W0.heap.size (W0.heap.size + 1) b off cap zs (by omega) (W0.alloc (.cells #[.slice (some ⟨b, off, none⟩) 2 cap] 25)) (by simp) (by simp) (by have := hz0.out; omega)
    (by rw [hzl]; exact (Boxed.new W0 _ _).cell) (fun j hj => by
      rw [hzg j (by omega), World.cell?_alloc_past _ _ _ (by have := hz0.out; omega), hB0.cell (p := ⟨b, off + j, none⟩) (by show b < _; omega)]
      exact hc j (by omega))
  have hs := uint32_sorted (enters_of Try.func27 (by kernel_rfl) rfl) hv belowK_t (fun W l o o' hl h h1 h2 => belowK_b (w := W0.alloc (.cells #[.slice (some ⟨b, off, none⟩) 2 cap] 25)) (by simp) W l o o' hl h h1 h2) (fun W W' _ h => h.mono (by simp)) (by omega)
    (fun xs hx => by rw [hx]; exact ⟨fun h => by rw [h] at hzl; simp at hzl, by omega⟩)
  have HS := Lib.hid hs
  clear hs hv
  gi_wp2_with fail
  refine ⟨trivial, (callsIn_wide.2 HS.out).mono ?_⟩
  rintro e w2 ⟨b1, cap1, xs, ys, rfl, rfl, hperm, hsort, hb1, hints, hbel⟩
  clear HS
  have hB2 : Below w.heap.size w w2 := (hB0.trans ((Below.refl w.heap.size W0).alloc (by have := hz0.out; omega) _)).trans (hbel.mono (by simp; have := hz0.out; omega))
  have hP2 : w2.cell? ⟨w.heap.size, 0, none⟩ = some (.int .i64 8) := by
    rw [hbel.cell (p := ⟨w.heap.size, 0, none⟩) (by simp; have := hz0.out; omega), World.cell?_alloc_past _ _ _ hP0.lt]; exact hP0.cell
  obtain ⟨N, hN⟩ : ∃ N, ys.length = N := ⟨_, rfl⟩
  have hNs : N = 2 := by rw [← hN, hperm.length_eq, hzl]
  have hyc : ∀ i, i < N → w2.cell? ⟨b1, i, none⟩ = some (.int .u32 (ys.getD i 0)) := by
    intro i hi
    rcases hints with ⟨h, _⟩ | ⟨b', o', c', h, _, h2⟩
    · cases h
    · simp only [Value.slice.injEq, Option.some.injEq, Addr.mk.injEq, and_true] at h
      obtain ⟨⟨rfl, rfl⟩, _, rfl⟩ := h
      have := h2 i (by omega)
      rwa [Nat.zero_add] at this
  have hb1l : b1 < w2.heap.size := by
    rcases hints with ⟨h, _⟩ | ⟨b', o', c', h, h1, h2⟩
    · cases h
    · cases h; exact h1
  have hys : ys = List.replicate 2 1 := List.perm_replicate.1 (by rw [hzs]; exact hperm)
  obtain rfl : N = 2 := by omega
  have hyv : ∀ i, i < 2 → ys.getD i 0 = 1 := fun i hi => by rw [hys]; rcases (show i = 0 ∨ i = 1 by omega) with rfl | rfl <;> rfl
  have hclone := clone32 ys b1 0 cap1 w2 hb1l (fun i hi => by rw [Nat.zero_add]; exact hyc i (by omega)) (by omega)
  have c0 := hyc 0 (by omega)
  rw [hyv 0 (by omega)] at c0
  rw [hN] at hclone ⊢
  have HCL := Lib.hid hclone; have HN := Lib.hid hN; have HYV := Lib.hid hyv; have HB2 := Lib.hid hB2; have HYS := Lib.hid hys
  clear hclone hyc hN hyv hB2 hb1l hints hsort hperm hzs hzl hzg hbel hb1 hc hNs hB0 hP0 hys
  gi_wp2_with fail
  refine ⟨trivial, (callsIn_wide.2 HCL.out).mono ?_⟩
  rintro e w3 ⟨v3, rfl, hown3, hb3⟩
  obtain ⟨b3, cap3, rfl, hb3l, hcap3, hbb⟩ : ∃ b3 cap3, v3 = .slice (some ⟨b3, 0, none⟩) 2 cap3 ∧ b3 < w3.heap.size ∧ 2 ≤ cap3 ∧ w2.heap.size ≤ b3 := by
    rcases hown3.2 with ⟨_, hl⟩ | ⟨g, cap, cur, hv, hB, hg, hcap, _⟩
    · omega
    · exact ⟨g, cap, hv, lt_of_block hg, hcap, hB⟩
  have hcc : ∀ i, i < 2 → w3.cell? ⟨b3, i, none⟩ = some (.int .u32 1) := fun i hi => by
    rw [World.ownsRow.cellAt hown3 i (by omega), HYS.out]; rcases (show i = 0 ∨ i = 1 by omega) with rfl | rfl <;> rfl
  have hcomp := compact_two b3 cap3 1 w3 hb3l hcap3 (hcc 0 (by omega)) (hcc 1 (by omega)) (World.ownsRow.frozenAt hown3 1)
  have HCOMP := Lib.hid hcomp
  have HB3 := Lib.hid (HB2.out.trans (hb3.mono HB2.out.size))
  have HBB := Lib.hid (Nat.le_trans HB2.out.size hbb)
  clear hcomp hcc hown3 HCL hb3 hb3l hP2 c0 HB2 hbb
  gi_wp2_with fail
  refine ⟨trivial, (callsIn_wide.2 HCOMP.out).mono ?_⟩
  rintro e w4 ⟨rfl, n4, rfl⟩
  have HB4 := Lib.hid ((HB3.out.trans (below_dr (Below.refl _ _) n4)).trans ((KX.set w.heap.size (w3.drewN n4) ⟨b3, 1, none⟩ (.int .u32 0)).below (Nat.le_refl _) HBB.out))
  gi_wp2_with fail
  exact ⟨_, results_tmp2 rfl _ _ _, rfl, HB4.out⟩
end Go.Proofs.Ythcmcjoenepkbaa
