/- Contracts: what no table answers. -/
import Derived.Test.YtbmmabpglkojkaaDoorTab5
namespace Go.Proofs.YtbmmabpglkojkaaDoor
open Go Go.RowKit
set_option maxRecDepth 100000 in
theorem nil_tried (v : Value) (w : World) :
    Calls Tryd.prog 23 #[.pointer none, v] w fun e w' => e = .returned (.tuple #[.map none, .slice none 0 0, .int .i64 0, .int .i64 0, .int .i64 1]) ∧ Below w.heap.size w w' := by
  go_enter Tryd.func23, Tryd.ntmps23
  go_wp2_with fail
  refine (tab_made_nil _).mono ?_
  rintro e w1 ⟨rfl, hb⟩
  have Hb := Lib.hid hb; clear hb
  go_wp2_with fail
  exact bodyPost_ret (v := .tuple #[.map none, .slice none 0 0, .int .i64 0, .int .i64 0, .int .i64 1]) (by simp [results, Tryd.results23, go_sem]) rfl ⟨rfl, Hb.out⟩
set_option maxRecDepth 100000 in
theorem nil_try (v : Value) (w : World) :
    Calls Tryd.prog 16 #[.pointer none, v] w fun e w' => e = .returned (.tuple #[.int .i64 0, .int .i64 1]) ∧ Below w.heap.size w w' := by
  go_enter Tryd.func16, Tryd.ntmps16
  go_wp2_with fail
  refine (nil_tried v _).mono ?_
  rintro e w1 ⟨rfl, hb⟩
  have Hb := Lib.hid hb; clear hb
  go_wp2_with fail
  exact bodyPost_ret (v := .tuple #[.int .i64 0, .int .i64 1]) (by simp [results, Tryd.results16, go_sem]) rfl ⟨rfl, Hb.out⟩
set_option maxRecDepth 100000 in
theorem nil_apply (v : Value) (w : World) :
    Calls Tryd.prog 9 #[.pointer none, v] w fun e w' => e = .returned (.tuple #[.slice none 0 0, .int .i64 0, .int .i64 1]) ∧ Below w.heap.size w w' := by
  go_enter Tryd.func9, Tryd.ntmps9
  go_wp2_with fail
  refine (nil_tried v _).mono ?_
  rintro e w1 ⟨rfl, hb⟩
  have Hb := Lib.hid hb; clear hb
  go_wp2_with fail
  exact bodyPost_ret (v := .tuple #[.slice none 0 0, .int .i64 0, .int .i64 1]) (by simp [results, Tryd.results9, go_sem]) rfl ⟨rfl, Hb.out⟩
set_option maxRecDepth 100000 in
theorem nil_size (w : World) :
    Calls Tryd.prog 15 #[.pointer none] w fun e w' => e = .returned (.tuple #[.int .i64 0, .int .i64 0]) ∧ Below w.heap.size w w' := by
  go_enter Tryd.func15, Tryd.ntmps15
  go_wp2_with fail
  refine (tab_made_nil _).mono ?_
  rintro e w1 ⟨rfl, hb⟩
  have Hb := Lib.hid hb; clear hb
  go_wp2_with fail
  exact bodyPost_ret (v := .tuple #[.int .i64 0, .int .i64 0]) (by simp [results, Tryd.results15, go_sem]) rfl ⟨rfl, Hb.out⟩
set_option maxRecDepth 100000 in
theorem nil_now (p : ByteArray) (w : World) :
    Calls Tryd.prog 18 #[.pointer none, .string p] w fun e w' => e = .returned (.int .u64 0) ∧ Below w.heap.size w w' := by
  go_enter Tryd.func18, Tryd.ntmps18
  go_wp2_with fail
  refine (tab_made_nil _).mono ?_
  rintro e w1 ⟨rfl, hb⟩
  have Hb := Lib.hid hb; clear hb
  go_wp2_with fail
  go_ret
  exact ⟨rfl, Hb.out⟩
set_option maxRecDepth 100000 in
theorem nil_last (p : ByteArray) (w : World) :
    Calls Tryd.prog 19 #[.pointer none, .string p] w fun e w' => e = .returned (.int .u64 0) ∧ Below w.heap.size w w' := by
  go_enter Tryd.func19, Tryd.ntmps19
  go_wp2_with fail
  refine (tab_made_nil _).mono ?_
  rintro e w1 ⟨rfl, hb⟩
  have Hb := Lib.hid hb; clear hb
  go_wp2_with fail
  go_ret
  exact ⟨rfl, Hb.out⟩
set_option maxRecDepth 100000 in
theorem nil_list (p : ByteArray) (w : World) :
    Calls Tryd.prog 20 #[.pointer none, .string p] w fun e w' => e = .returned (.slice none 0 0) ∧ Below w.heap.size w w' := by
  go_enter Tryd.func20, Tryd.ntmps20
  go_wp2_with fail
  refine (tab_made_nil _).mono ?_
  rintro e w1 ⟨rfl, hb⟩
  have Hb := Lib.hid hb; clear hb
  go_wp2_with fail
  go_ret
  exact ⟨rfl, Hb.out⟩
set_option maxRecDepth 100000 in
theorem nil_rows (w : World) :
    Calls Tryd.prog 10 #[.pointer none] w fun e w' => e = .returned (.slice none 0 0) ∧ Below w.heap.size w w' := by
  go_enter Tryd.func10, Tryd.ntmps10
  go_wp2_with fail
  refine (tab_made_nil _).mono ?_
  rintro e w1 ⟨rfl, hb⟩
  have Hb := Lib.hid hb; clear hb
  go_wp2_with fail
  go_ret
  exact ⟨rfl, Hb.out⟩
set_option maxRecDepth 100000 in
theorem nil_load (v : Value) (w : World) :
    Calls Tryd.prog 13 #[.pointer none, v] w fun e w' => e = .returned (.int .i64 1) ∧ Below w.heap.size w w' := by
  go_enter Tryd.func13, Tryd.ntmps13
  go_wp2_with fail
  refine (tab_made_nil _).mono ?_
  rintro e w1 ⟨rfl, hb⟩
  have Hb := Lib.hid hb; clear hb
  go_wp2_with fail
  go_ret
  exact ⟨rfl, Hb.out⟩
set_option maxRecDepth 100000 in
theorem nil_drop (v : Value) (w : World) :
    Calls Tryd.prog 21 #[.pointer none, v] w fun e w' => e = .returned (.int .i64 0) ∧ Below w.heap.size w w' := by
  go_enter Tryd.func21, Tryd.ntmps21
  go_wp2_with fail
  refine (tab_made_nil _).mono ?_
  rintro e w1 ⟨rfl, hb⟩
  have Hb := Lib.hid hb; clear hb
  go_wp2_with fail
  go_ret
  exact ⟨rfl, Hb.out⟩
set_option maxRecDepth 100000 in
theorem nil_read (p : ByteArray) (n : Int) (w : World) :
    Calls Tryd.prog 17 #[.pointer none, .string p, .int .u64 n] w fun e w' => e = .returned (.tuple #[verVal dV, .int .i64 1]) ∧ Below w.heap.size w w' := by
  go_enter Tryd.func17, Tryd.ntmps17
  go_upto_region 1 with fail
  refine wp_abs (F := fun W => One w.heap.size #[.int .u64 0, .int .u8 0, .string ByteArray.empty] W ∧ Below w.heap.size w W) ⟨One.of _ _ _, (Below.refl _ _).alloc (Nat.le_refl _) _⟩ ?_
  rintro W ⟨h1, hb⟩
  have H1 := Lib.hid h1; have Hb := Lib.hid hb; clear h1 hb
  go_wp2_with fail
  refine (tab_made_nil _).mono ?_
  rintro e w1 ⟨rfl, hb1⟩
  have h2 := H1.out.step hb1
  have z0 := h2.c 0; have z1 := h2.c 1; have z2 := h2.c 2
  have g0 := h2.f 0; have g1 := h2.f 1; have g2 := h2.f 2
  simp at z0 z1 z2
  have Hb1 := Lib.hid (Hb.out.trans (hb1.mono Hb.out.size)); clear hb1 h2
  go_wp2_with fail
  refine bodyPost_ret (v := .tuple #[verVal dV, .int .i64 1]) ?_ rfl ⟨rfl, ?_⟩
  · simp [results, Tryd.results17, go_sem, verVal, dV, z0, z1, z2]; try rfl
  · refine ((Hb1.out.setCell ?_ _).setCell ?_ _).setCell ?_ _ <;> exact Nat.le_refl _
end Go.Proofs.YtbmmabpglkojkaaDoor
