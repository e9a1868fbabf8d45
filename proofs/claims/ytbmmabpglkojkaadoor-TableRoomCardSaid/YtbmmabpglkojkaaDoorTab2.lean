/- What a table is in memory; contracts: made, New, Size. -/
import Derived.Test.YtbmmabpglkojkaaDoorTab1
import Derived.Test.YtbmmabpglkojkaaDoorPath3
import Derived.Deep.QuietTactic
namespace Go.Proofs.YtbmmabpglkojkaaDoor
open Go Go.RowKit
open Go.Maps (has size Canon CanonK Tidy IsMap KeysOf Keyed Merged)

abbrev CelMap (w : World) (b : Nat) (M : DataW Cel) : Prop := HoldsMap Tryd.prog 9 (IsCel w) w b M
theorem CelMap.below {w w' : World} {b : Nat} {M : DataW Cel} (h : CelMap w b M) (hb : Below w.heap.size w w') : CelMap w' b M :=
  h.move (hb.block b h.lt) (fun _ _ g => g.below hb (Nat.le_refl _))

/-- Block t of w is a table: its quota, its map's block, what that holds, its bytes. -/
structure TabAt (w : World) (t b : Nat) (q1 q2 : Int) (M : DataW Cel) (B : Int) : Prop where
  c0 : w.cell? ⟨t, 0, none⟩ = some (.int .i64 q1)
  c1 : w.cell? ⟨t, 1, none⟩ = some (.int .i64 q2)
  c2 : w.cell? ⟨t, 2, none⟩ = some (.map (some b))
  c3 : w.cell? ⟨t, 3, none⟩ = some (.int .i64 B)
  c4 : ∀ j, w.cell? ⟨t, j + 4, none⟩ = none
  f3 : w.frozen? ⟨t, 3, none⟩ = false
  m : CelMap w b M
theorem TabAt.lt {w : World} {t b : Nat} {q1 q2 B : Int} {M : DataW Cel} (h : TabAt w t b q1 q2 M B) : t < w.heap.size := cell_lt h.c0
theorem TabAt.below {w w' : World} {t b : Nat} {q1 q2 B : Int} {M : DataW Cel} (h : TabAt w t b q1 q2 M B) (hb : Below w.heap.size w w') : TabAt w' t b q1 q2 M B := by
  have hl := h.lt
  exact ⟨(hb.cell hl).trans h.c0, (hb.cell hl).trans h.c1, (hb.cell hl).trans h.c2, (hb.cell hl).trans h.c3, fun j => (hb.cell hl).trans (h.c4 j), (hb.frozen hl).trans h.f3, h.m.below hb⟩
theorem belowDrewN (w : World) (n : Nat) : Below w.heap.size w (w.drewN n) := ⟨rfl, rfl, rfl, Nat.le_refl _, fun _ _ => rfl⟩
theorem TabAt.ne {w : World} {t b : Nat} {q1 q2 B : Int} {M : DataW Cel} (h : TabAt w t b q1 q2 M B) : t ≠ b := by
  intro e
  subst e
  obtain ⟨D, ⟨es, clock, hh, _⟩, _⟩ := h.m
  have := h.c0
  unfold World.cell? at this
  rw [hh] at this
  cases this

set_option maxRecDepth 100000 in
theorem tab_made (w : World) {t b : Nat} {q1 q2 B : Int} {M : DataW Cel} (h : TabAt w t b q1 q2 M B) :
    Calls Tryd.prog 25 #[.pointer (some ⟨t, 0, none⟩)] w fun e w' => e = .returned (.bool true) ∧ Below w.heap.size w w' := by
  have c2 := h.c2
  clear h
  have hne := fun (w : World) (m : Option Nat) => run_neq_map_nil (P := Tryd.prog) w 66 9 62 m Tryd.underlying66
  go_enter Tryd.func25, Tryd.ntmps25
  go_wp2_with fail
  go_ret
  exact ⟨rfl, Below.refl _ _⟩
theorem tab_made_nil (w : World) :
    Calls Tryd.prog 25 #[.pointer none] w fun e w' => e = .returned (.bool false) ∧ Below w.heap.size w w' := by
  go_enter Tryd.func25, Tryd.ntmps25
  go_wp2_with fail
  go_ret
  exact ⟨rfl, Below.refl _ _⟩

theorem zeroCel (w : World) : (zeroValue 62).run Tryd.prog w = .ok (.agg #[.int .u64 0, .slice none 0 0]) w := by kernel_rfl
theorem strKeyed : Keyed Tryd.prog 9 := Go.Maps.string_keyed Tryd.underlying9

set_option maxRecDepth 100000 in
set_option maxHeartbeats 1000000 in
theorem tab_new (q1 q2 : Int) (w : World) :
    Calls Tryd.prog 8 #[.agg #[.int .i64 q1, .int .i64 q2]] w fun e w' => ∃ t b, e = .returned (.pointer (some ⟨t, 0, none⟩)) ∧ w.heap.size ≤ t ∧ w.heap.size ≤ b ∧ TabAt w' t b q1 q2 (.map []) 0 ∧ Below w.heap.size w w' := by
  have hmm := @run_makeMap Tryd.prog
  go_enter Tryd.func8, Tryd.ntmps8
  go_wp2_with fail
  go_ret
  refine ⟨w.heap.size + 1 + 1, w.heap.size + 1, rfl, by omega, by omega, ?_, ?_⟩
  · obtain ⟨W1, hW1⟩ : ∃ W1, W1 = w.alloc (.cells #[.int .i64 q1, .int .i64 q2] 31) := ⟨_, rfl⟩
    rw [← hW1]
    have h1 : W1.heap.size = w.heap.size + 1 := by rw [hW1]; simp
    obtain ⟨W2, hW2⟩ : ∃ W2, W2 = W1.alloc (.map #[] 0) := ⟨_, rfl⟩
    have h2 : W2.heap.size = w.heap.size + 1 + 1 := by rw [hW2]; simp [h1]
    have hm := HoldsMap.made W1 Tryd.prog 9 (IsCel (W2.alloc (.cells #[.int .i64 q1, .int .i64 q2, .map (some (w.heap.size + 1)), .int .i64 0] 68)))
    rw [← hW2, h1] at hm
    rw [← hW2]
    have hh := (MapKept.heap_alloc W2 (.cells #[.int .i64 q1, .int .i64 q2, .map (some (w.heap.size + 1)), .int .i64 0] 68)).1
    rw [h2] at hh
    refine ⟨?_, ?_, ?_, ?_, fun j => ?_, ?_, hm.move (Below.heap_alloc _ _ _ (by omega)) (fun _ _ g => g)⟩
    all_goals first | (unfold World.cell?; rw [hh]; rfl) | (unfold World.cell?; rw [hh]; simp; done) | (unfold World.frozen?; rw [hh]; simp)
  · exact (((Below.refl _ _).alloc (Nat.le_refl _) _).alloc (by simp) _).alloc (by simp; omega) _

set_option maxRecDepth 100000 in
set_option maxHeartbeats 1000000 in
theorem tab_size (w : World) {t b : Nat} {q1 q2 B : Int} {M : DataW Cel} (h : TabAt w t b q1 q2 M B) :
    Calls Tryd.prog 15 #[.pointer (some ⟨t, 0, none⟩)] w fun e w' => e = .returned (.tuple #[.int .i64 (size M), .int .i64 B]) ∧ Below w.heap.size w w' := by
  have Hmade := Lib.hid (tab_made w h)
  have H := Lib.hid h; clear h
  go_enter Tryd.func15, Tryd.ntmps15
  go_wp2_with fail
  refine Hmade.out.mono ?_
  rintro e w1 ⟨rfl, hb1⟩
  have h1 := H.out.below hb1
  have c2 := h1.c2; have c3 := h1.c3
  have hlen := fun n => (h1.below (belowDrewN _ n)).m.len (t := 66) (e := 62) Tryd.underlying66 3
  have H1 := Lib.hid h1; have Hb1 := Lib.hid hb1; clear h1 hb1
  go_wp2_with fail
  go_quiet (fail)
  go_wp2_with fail
  exact bodyPost_ret (v := .tuple #[.int .i64 (size M), .int .i64 B]) (by simp [results, Tryd.results15, go_sem]) rfl ⟨rfl, Hb1.out.trans (((belowDrewN _ _)).mono Hb1.out.size)⟩
end Go.Proofs.YtbmmabpglkojkaaDoor
