/- Law 26: works. -/
import Derived.Test.YthcmcjoenepkbaaL26a
import Derived.Test.YthcmcjoenepkbaaRingU
import Derived.Deep.RegionWith
namespace Go.Proofs.Ythcmcjoenepkbaa
open Go Go.RowKit Go.Maps

set_option maxRecDepth 100000 in
set_option maxHeartbeats 4000000 in
theorem law26_works (w : World) : Calls Try.prog 5 #[] w fun e w' => e = .returned (.bool true) ∧ Below w.heap.size w w' := by
  go_enter Try.func5, Try.ntmps5
  go_wp2_with fail
  have c0 : (w.alloc (.cells #[.int .u32 1] 27)).cell? ⟨w.heap.size, 0, none⟩ = some (.int .u32 1) := cell_of (MapKept.heap_alloc w (.cells #[.int .u32 1] 27)).1 0
  have h1 := ringNew [1] 8 w.heap.size 0 1 (w.alloc (.cells #[.int .u32 1] 27)) (by simp) (fun i hi => by obtain rfl : i = 0 := (by simp at hi; exact hi); exact c0) (by omega) (by omega) (by simp) (by simp) (by simp) (by simp)
  refine Calls.mono (show Calls Try.prog 7 #[.int .i64 8, .slice (some ⟨w.heap.size, 0, none⟩) 1 1] _ _ from h1) ?_
  rintro e w1 ⟨r, rfl, hR, hb1⟩
  have hB1 : Below w.heap.size w w1 := ((Below.refl _ _).alloc (Nat.le_refl _) _).trans (hb1.mono (by simp))
  have HR := Lib.hid hR; have HB1 := Lib.hid hB1
  clear hR hB1 hb1 h1 c0
  go_wp2_with fail
  refine (ringSpans r [1] 8 w1 HR.out).mono ?_
  rintro e w2 ⟨g, cp, sp, rfl, hrow, hsp, hl, hb2⟩
  obtain rfl := one_span (by omega) (by omega) hsp
  have HROW := Lib.hid hrow; have HB2 := Lib.hid hb2; have HR2 := Lib.hid (HR.out.below hb2)
  have hg2 : g < w2.heap.size := by
    have := World.ownsRow.cellAt hrow 0 (by simp)
    exact block_lt_of_cell (this.trans rfl)
  have HG2 := Lib.hid hg2
  clear hrow hb2 hsp hl hg2
  go_wp2_with fail
  have ct : ∀ i, i < 2 → (w2.alloc (.cells #[.int .u32 1, .int .u32 1] 27)).cell? ⟨w2.heap.size, 0 + i, none⟩ = some (.int .u32 1) := fun i hi => by
    rw [Nat.zero_add, cell_of (MapKept.heap_alloc w2 (.cells #[.int .u32 1, .int .u32 1] 27)).1 i]
    rcases (show i = 0 ∨ i = 1 by omega) with rfl | rfl <;> rfl
  refine (ring_New_twice w2.heap.size 0 2 (w2.alloc (.cells #[.int .u32 1, .int .u32 1] 27)) (by simp) ct).mono ?_
  rintro e w3 ⟨rfl, hb3⟩
  have hb23 : Below w2.heap.size w2 w3 := ((Below.refl _ _).alloc (Nat.le_refl _) _).trans (hb3.mono (by simp))
  have HR3 := Lib.hid (HR2.out.below hb23)
  have HB3 := Lib.hid ((HB1.out.trans (HB2.out.mono HB1.out.size)).trans (hb23.mono (by have := HB1.out.size; have := HB2.out.size; omega)))
  have g0 : w3.cell? ⟨g, 0, none⟩ = some (.int .u64 0) := (hb23.cell (p := ⟨g, 0, none⟩) HG2.out).trans (World.ownsRow.cellAt HROW.out 0 (by simp))
  have g1 : w3.cell? ⟨g, 1, none⟩ = some (.int .u32 1) := (hb23.cell (p := ⟨g, 1, none⟩) HG2.out).trans (World.ownsRow.cellAt HROW.out 1 (by simp))
  have hown : ownS [1] 8 5 = 1 := ownS_one (by omega) (by omega)
  have ho := fun w' (hb : Below w3.heap.size w3 w') => ringOwner r [1] 8 5 (by decide) w' (HR3.out.below hb)
  rw [hown] at ho
  have HO := Lib.hid ho; have HL := Lib.hid (fun w' (hb : Below w3.heap.size w3 w') => ringLen r [1] 8 w' (HR3.out.below hb))
  clear ho hown hb3 hb23 ct HROW HR2 HR HG2
  go_wp2_with fail
  refine Calls.mono (show Calls Try.prog 9 #[.pointer (some ⟨r, 0, none⟩), .int .u64 5] w3 _ from HO.out w3 (Below.refl _ _)) ?_
  rintro e w4 ⟨rfl, hb4⟩
  have HB4 := Lib.hid hb4
  clear hb4
  go_wp2_with fail
  refine (HL.out w4 HB4.out).mono ?_
  rintro e w5 ⟨n, rfl, hn1, hn2, _, hn4, hb5⟩
  obtain rfl := eight_of hn2 hn4
  have HB5 := Lib.hid hb5
  clear hn1 hn2 hn4 hb5
  go_wp2_with fail
  go_ret
  exact ⟨rfl, HB3.out.trans ((HB4.out.trans (HB5.out.mono HB4.out.size)).mono HB3.out.size)⟩
end Go.Proofs.Ythcmcjoenepkbaa
