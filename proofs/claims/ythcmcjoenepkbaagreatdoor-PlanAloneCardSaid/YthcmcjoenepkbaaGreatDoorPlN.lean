/- Contract: plan.May, where a call may be, and of a list. -/
import Derived.Test.YthcmcjoenepkbaaGreatDoorPlU
import Derived.Test.YthcmcjoenepkbaaGreatDoorSmM
import Derived.Lib.Hide
namespace Go.Proofs.YthcmcjoenepkbaaGreatDoor
open Go Go.RowKit Pth

abbrev callC (kind : Nat) (vR vE : Value) (pre : ByteArray) (f t tw : Nat) : Array Value := #[.int .u8 (kind : Int), vR, vE, .string pre, .int .u64 (f : Int), .int .u64 (t : Int), .int .u32 (tw : Int)]
theorem isl_shape {α : Type} {k : Nat} {C : α → List Value} {z : α} {w : World} {v : Value} {l : List α} (h : IsL k C z w v l) : ∃ a c, v = .slice a l.length c := by
  obtain ⟨a, c, rfl, _⟩ := h; exact ⟨a, c, rfl⟩

set_option maxRecDepth 100000 in
set_option maxHeartbeats 2000000 in
theorem may_ops (rds : List Rd) (eds : List Ed) (vR vE : Value) (pre : ByteArray) (f t tw : Nat) (w : World) (hR : IsRds w vR rds) (hE : IsEds w vE eds) (hm : MX w) (hsr : ∀ r ∈ rds, SmallRd r) (hse : ∀ x ∈ eds, SmallEd x)
    (h1 : 1 ≤ rds.length + eds.length) (h2 : rds.length + eds.length ≤ 16) (hb1 : rds.any badR = false) (hb2 : eds.any badE = false) (hb3 : eds.any longE = false) :
    Calls Tryz.prog 13 #[.agg (callC 1 vR vE pre f t tw)] w fun e w' => e = .returned (.int .i64 0) ∧ Below w.heap.size w w' := by
  obtain ⟨aR, cR, rfl⟩ := isl_shape hR
  obtain ⟨aE, cE, rfl⟩ := isl_shape hE
  have K1 := Lib.hid (fun (W : World) (hW : Below w.heap.size w W) => has_r rds _ W (hR.below hW (Nat.le_refl _)) (by omega) hsr (hm.below hW (Nat.le_refl _)))
  have K2 := Lib.hid (fun (W : World) (hW : Below w.heap.size w W) => has_e eds _ W (hE.below hW (Nat.le_refl _)) (by omega) hse (hm.below hW (Nat.le_refl _)))
  have K3 := Lib.hid (fun (W : World) (hW : Below w.heap.size w W) => has_l eds _ W (hE.below hW (Nat.le_refl _)) (by omega) hse (hm.below hW (Nat.le_refl _)))
  rw [hb1] at K1
  rw [hb2] at K2
  rw [hb3] at K3
  obtain ⟨nr, hnr⟩ : ∃ nr, rds.length = nr := ⟨_, rfl⟩
  obtain ⟨ne, hne⟩ : ∃ ne, eds.length = ne := ⟨_, rfl⟩
  rw [hnr] at K1 h1 h2 ⊢
  rw [hne] at K2 K3 h1 h2 ⊢
  have g1 : (1 : Int) ≤ (nr : Int) + (ne : Int) := by omega
  have g2 : (nr : Int) + (ne : Int) ≤ 16 := by omega
  clear hR hE hm hsr hse h1 h2 hb1 hb2 hb3 hnr hne
  obtain ⟨W0, hW0⟩ : ∃ W0, w.alloc (.cells (callC 1 (.slice aR nr cR) (.slice aE ne cE) pre f t tw) 30) = W0 := ⟨_, rfl⟩
  have hB0 : Below w.heap.size w W0 := by rw [← hW0]; exact (Below.refl _ _).alloc (Nat.le_refl _) _
  have hblk : W0.heap[w.heap.size]? = some (.cells (callC 1 (.slice aR nr cR) (.slice aE ne cE) pre f t tw) 30 (0, 0)) := by rw [← hW0]; exact (MapKept.heap_alloc _ _).1
  have hlt0 : w.heap.size < W0.heap.size := (Array.getElem?_eq_some_iff.1 hblk).1
  have KP := Lib.hid (fun (W : World) (h : Below W0.heap.size W0 W) => show W.cell? ⟨w.heap.size, 0, none⟩ = some (.int .u8 ((1 : Nat) : Int)) ∧ W.cell? ⟨w.heap.size, 1, none⟩ = some (.slice aR nr cR) ∧ W.cell? ⟨w.heap.size, 2, none⟩ = some (.slice aE ne cE) by
    have hb := (h.block _ hlt0).trans hblk
    exact ⟨cell_of hb 0, cell_of hb 1, cell_of hb 2⟩)
  obtain ⟨x0, x1, x2⟩ := KP.out W0 (Below.refl _ _)
  have HB0 := Lib.hid hB0
  clear hB0 hblk hlt0
  go_enter Tryz.func13, Tryz.ntmps13
  go_upto_region 1 with fail
  clear hW0
  go_wp2_with fail
  refine (K1.out W0 HB0.out).mono ?_
  rintro e w1 ⟨rfl, hb1⟩
  have HB1 := Lib.hid hb1
  obtain ⟨y0, y1, y2⟩ := KP.out w1 hb1
  clear hb1 x0 x1 x2 K1
  go_wp2_with fail
  have HB2 := Lib.hid (HB0.out.trans (HB1.out.mono HB0.out.size))
  refine (K2.out w1 HB2.out).mono ?_
  rintro e w2 ⟨rfl, hb2⟩
  have HB3 := Lib.hid (HB1.out.trans (hb2.mono HB1.out.size))
  obtain ⟨z0, z1, z2⟩ := KP.out w2 HB3.out
  clear hb2 y0 y1 y2 K2 HB2 HB1
  go_wp2_with fail
  have HB4 := Lib.hid (HB0.out.trans (HB3.out.mono HB0.out.size))
  refine (K3.out w2 HB4.out).mono ?_
  rintro e w3 ⟨rfl, hb3⟩
  have HB5 := Lib.hid (HB4.out.trans (hb3.mono HB4.out.size))
  clear hb3 z0 z1 z2
  go_wp2_with fail
  go_ret
  exact ⟨rfl, HB5.out⟩
set_option maxRecDepth 100000 in
set_option maxHeartbeats 2000000 in
theorem may_list (vR vE : Value) (pre : ByteArray) (f t tw : Nat) (w : World) (hm : MX w) (hs : pre.size ≤ 140737488351232) (_hR : vR.oneCell' = true) (_hE : vE.oneCell' = true) :
    Calls Tryz.prog 13 #[.agg (callC 2 vR vE pre f t tw)] w fun e w' => e = .returned (.int .i64 (if prefL pre.data.toList = true then 0 else 2)) ∧ Below w.heap.size w w' := by
  have K1 := Lib.hid (fun (W : World) (hW : Below w.heap.size w W) => path_prefix pre hs W (hm.below hW (Nat.le_refl _)))
  obtain ⟨b, hb⟩ : ∃ b, prefL pre.data.toList = b := ⟨_, rfl⟩
  rw [hb] at K1 ⊢
  clear hb hm hs
  obtain ⟨W0, hW0⟩ : ∃ W0, w.alloc (.cells (callC 2 vR vE pre f t tw) 30) = W0 := ⟨_, rfl⟩
  have hB0 : Below w.heap.size w W0 := by rw [← hW0]; exact (Below.refl _ _).alloc (Nat.le_refl _) _
  have hblk : W0.heap[w.heap.size]? = some (.cells (callC 2 vR vE pre f t tw) 30 (0, 0)) := by rw [← hW0]; exact (MapKept.heap_alloc _ _).1
  have x0 : W0.cell? ⟨w.heap.size, 0, none⟩ = some (.int .u8 ((2 : Nat) : Int)) := cell_of hblk 0
  have x3 : W0.cell? ⟨w.heap.size, 3, none⟩ = some (.string pre) := cell_of hblk 3
  have HB0 := Lib.hid hB0
  clear hB0 hblk
  go_enter Tryz.func13, Tryz.ntmps13
  go_upto_region 1 with fail
  clear hW0
  go_wp2_with fail
  refine (K1.out W0 HB0.out).mono ?_
  rintro e w1 ⟨rfl, hb1⟩
  have HB1 := Lib.hid (HB0.out.trans (hb1.mono HB0.out.size))
  clear hb1 x0 x3 K1
  cases b with
  | true =>
    go_wp2_with fail
    go_ret
    exact ⟨rfl, HB1.out⟩
  | false =>
    go_wp2_with fail
    go_ret
    exact ⟨rfl, HB1.out⟩
end Go.Proofs.YthcmcjoenepkbaaGreatDoor
