/- scriniumlaw18.TableNone: the walk. -/
import Derived.Test.YtbmmabpglkojkaaDoorOpenT
namespace Go.Proofs.YtbmmabpglkojkaaDoor
open Go Go.RowKit

set_option maxRecDepth 100000 in
set_option maxHeartbeats 4000000 in
theorem law18_none (x : Edt) (p : ByteArray) (n : Int) (w : World) (hx : x.path.size ≤ 140737488351232 ∧ x.text.size ≤ 140737488351232) (hp : p.size ≤ 140737488351232) (hm : MX w) :
    Calls Tryd.prog 5 #[edtVal x, .string p, .int .u64 n] w fun e w' => e = .returned (.bool true) ∧ Below w.heap.size w w' := by
  have Hm := Lib.hid hm; clear hm
  obtain ⟨kd, pth, any, want, num, tx⟩ := x
  obtain ⟨hx1, hx2⟩ := hx
  simp only at hx1 hx2
  unfold edtVal
  go_enter Tryd.func5, Tryd.ntmps5
  go_upto_region 1 with fail
  refine wp_abs (F := fun W => One w.heap.size #[.int .u8 kd, .string pth, .bool any, .int .u64 want, .int .u64 num, .string tx] W ∧ Below w.heap.size w W) ⟨One.of _ _ _, (Below.refl _ _).alloc (Nat.le_refl _) _⟩ ?_
  rintro W ⟨h1, hb⟩
  have x0 := h1.c 0; have x1 := h1.c 1; have x2 := h1.c 2; have x3 := h1.c 3; have x4 := h1.c 4; have x5 := h1.c 5
  simp at x0 x1 x2 x3 x4 x5
  have H1 := Lib.hid h1; have Hb := Lib.hid hb; clear h1 hb
  by_cases hbig : 4096 < pth.size + tx.size + p.size
  · have hbig' : (4096 : Int) < (pth.size : Int) + (tx.size : Int) + (p.size : Int) := by omega
    go_wp2_with fail
    refine (law_works _ (Hm.out.below Hb.out (Nat.le_refl _))).mono ?_
    rintro e w1 ⟨rfl, hb1⟩
    have Hb1 := Lib.hid (Hb.out.trans (hb1.mono Hb.out.size)); clear hb1
    go_wp2_with fail
    go_ret
    exact ⟨rfl, Hb1.out⟩
  · have hbig' : ¬ (4096 : Int) < (pth.size : Int) + (tx.size : Int) + (p.size : Int) := by omega
    go_wp2_with fail
    refine (nil_try _ _).mono ?_
    rintro e w1 ⟨rfl, hb1⟩
    have Hb1 := Lib.hid ((Hb.out.alloc Hb.out.size _).trans (hb1.mono (Hb.out.alloc Hb.out.size _).size))
    have h2 := (H1.out.step ((Below.refl _ _).alloc (Nat.le_refl _) _)).step hb1
    clear x0 x1 x2 x3 x4 x5 hb1
    have x0 := h2.c 0; have x1 := h2.c 1; have x2 := h2.c 2; have x3 := h2.c 3; have x4 := h2.c 4; have x5 := h2.c 5
    simp at x0 x1 x2 x3 x4 x5
    clear h2
    go_wp2_with fail
    refine (nil_apply _ _).mono ?_
    rintro e w2 ⟨rfl, hb2⟩
    have Hb2 := Lib.hid ((Hb1.out.alloc Hb1.out.size _).trans (hb2.mono (Hb1.out.alloc Hb1.out.size _).size)); clear hb2 x0 x1 x2 x3 x4 x5
    go_wp2_with fail
    refine (nil_read p n _).mono ?_
    rintro e w3 ⟨rfl, hb3⟩
    have Hb3 := Lib.hid (Hb2.out.trans (hb3.mono Hb2.out.size)); clear hb3
    unfold verVal dV
    go_upto_region 7 with fail
    refine wp_abs (F := fun W => Below w.heap.size w W) ?_ ?_
    · refine Hb3.out.alloc Hb3.out.size _
    intro W3 hB
    have Hb3 := Lib.hid hB; clear hB
    go_wp2_with fail
    refine (nil_size _).mono ?_
    rintro e w4 ⟨rfl, hb4⟩
    have Hb4 := Lib.hid (Hb3.out.trans (hb4.mono Hb3.out.size)); clear hb4
    go_wp2_with fail
    refine (nil_now p _).mono ?_
    rintro e w5 ⟨rfl, hb5⟩
    have Hb5 := Lib.hid (Hb4.out.trans (hb5.mono Hb4.out.size)); clear hb5
    go_wp2_with fail
    refine (nil_last p _).mono ?_
    rintro e w6 ⟨rfl, hb6⟩
    have Hb6 := Lib.hid (Hb5.out.trans (hb6.mono Hb5.out.size)); clear hb6
    go_wp2_with fail
    refine (nil_list _ _).mono ?_
    rintro e w7 ⟨rfl, hb7⟩
    have Hb7 := Lib.hid (Hb6.out.trans (hb7.mono Hb6.out.size)); clear hb7
    go_wp2_with fail
    refine (nil_rows _).mono ?_
    rintro e w8 ⟨rfl, hb8⟩
    have Hb8 := Lib.hid (Hb7.out.trans (hb8.mono Hb7.out.size)); clear hb8
    go_wp2_with fail
    refine (nil_load _ _).mono ?_
    rintro e w9 ⟨rfl, hb9⟩
    have Hb9 := Lib.hid (Hb8.out.trans (hb9.mono Hb8.out.size)); clear hb9
    go_wp2_with fail
    refine (nil_drop _ _).mono ?_
    rintro e w10 ⟨rfl, hb10⟩
    have Hb10 := Lib.hid ((Hb9.out.alloc Hb9.out.size _).trans (hb10.mono (Hb9.out.alloc Hb9.out.size _).size)); clear hb10
    go_wp2_with fail
    refine (law_works _ (Hm.out.below Hb10.out (Nat.le_refl _))).mono ?_
    rintro e w11 ⟨rfl, hb11⟩
    have Hb11 := Lib.hid (Hb10.out.trans (hb11.mono Hb10.out.size)); clear hb11
    go_wp2_with fail
    go_ret
    exact ⟨rfl, Hb11.out⟩
end Go.Proofs.YtbmmabpglkojkaaDoor
