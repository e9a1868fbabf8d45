/- Contracts: cell.Put, cell.Delete. -/
import Derived.Test.YtbmmabpglkojkaaDoorCell4
namespace Go.Proofs.YtbmmabpglkojkaaDoor
open Go Go.RowKit

/-- Two blocks of a call's own, as they were laid. -/
structure Two (w : World) (C1 C2 : Array Value) (W : World) : Prop where
  sz : w.heap.size + 1 < W.heap.size
  c1 : ∀ j, W.cell? ⟨w.heap.size, j, none⟩ = C1[j]?
  c2 : ∀ j, W.cell? ⟨w.heap.size + 1, j, none⟩ = C2[j]?
  f1 : ∀ j, W.frozen? ⟨w.heap.size, j, none⟩ = false
  f2 : ∀ j, W.frozen? ⟨w.heap.size + 1, j, none⟩ = false
  b : Below w.heap.size w W
theorem Two.of (w : World) (C1 C2 : Array Value) (t1 t2 : TypeId) : Two w C1 C2 ((w.alloc (.cells C1 t1)).alloc (.cells C2 t2)) := by
  obtain ⟨a, b, c, d⟩ := twoNew (w := w) (w1 := (w.alloc (.cells C1 t1)).alloc (.cells C2 t2)) (n := w.heap.size + 2) (Below.refl _ _) (Nat.le_refl _)
  exact ⟨by simp, a, b, c, d, ((Below.refl _ _).alloc (Nat.le_refl _) _).alloc (by simp) _⟩
theorem Two.step {w W w1 : World} {C1 C2 : Array Value} (h : Two w C1 C2 W) (hb : Below W.heap.size W w1) : Two w C1 C2 w1 := by
  have h1 := h.sz
  have h2 := hb.size
  exact ⟨by omega, fun j => (hb.cell (by dsimp only; omega)).trans (h.c1 j), fun j => (hb.cell (by dsimp only; omega)).trans (h.c2 j), fun j => (hb.frozen (by dsimp only; omega)).trans (h.f1 j), fun j => (hb.frozen (by dsimp only; omega)).trans (h.f2 j), h.b.trans (hb.mono h.b.size)⟩
/-- The end of a call that stores a cell into its second block. -/
theorem Two.celEnd {w W w2 : World} {C1 C2 : Array Value} (h : Two w C1 C2 W) (hb : Below W.heap.size W w2) {v : Value} {l : List Ver} (hv : IsVers w2 v l) (hf : ∀ k, v.ownBlock = some k → W.heap.size ≤ k) (u1 u2 : Value) :
    IsVers ((w2.setCell ⟨w.heap.size + 1, 0, none⟩ u1).setCell ⟨w.heap.size + 1, 1, none⟩ u2) v l ∧ (∀ k, v.ownBlock = some k → w.heap.size ≤ k) ∧ Below w.heap.size w ((w2.setCell ⟨w.heap.size + 1, 0, none⟩ u1).setCell ⟨w.heap.size + 1, 1, none⟩ u2) := by
  have h1 := h.sz
  refine ⟨(hv.setFar ?_ _).setFar ?_ _, fun k hk => Nat.le_trans (by omega) (hf k hk), (((h.step hb).b.setCell ?_ _).setCell ?_ _)⟩
  · intro k hk; have := hf k hk; dsimp only; omega
  · intro k hk; have := hf k hk; dsimp only; omega
  · dsimp only; omega
  · dsimp only; omega

theorem may_len {c : Cel} (h : mayC c = true) : c.l.length ≤ 8 := by
  unfold mayC at h
  split at h
  · cases h
  · simp only [Bool.and_eq_true, decide_eq_true_eq] at h; exact h.1

def putE (c : Cel) (any : Bool) (want : Nat) (tx : ByteArray) : Cel × Nat :=
  if mayC c = false then (c, 2) else if 4096 < tx.size then (c, 5) else comesC c any want ⟨0, 1, tx⟩
def deleteE (c : Cel) (any : Bool) (want : Nat) : Cel × Nat :=
  if mayC c = false then (c, 2) else if nowC c = 0 then (c, 3) else comesC c any want ⟨0, 2, ByteArray.empty⟩

set_option maxRecDepth 100000 in
set_option maxHeartbeats 2000000 in
theorem cell_put (c : Cel) (v : Value) (any : Bool) (want : Nat) (tx : ByteArray) (w : World) (hv : IsVers w v c.l) (hl : c.l.length ≤ 65536) (hlast : c.last < 18446744073709551616) (htx : tx.size ≤ 9223372036854775807) :
    Calls Tryd.prog 47 #[.agg #[.int .u64 c.last, v], .bool any, .int .u64 want, .string tx] w (CelErr (putE c any want tx) w) := by
  have Hr : Hid (putE c any want tx = if mayC c = false then (c, 2) else if 4096 < tx.size then (c, 5) else comesC c any want ⟨0, 1, tx⟩) := Lib.hid rfl
  generalize putE c any want tx = r at Hr
  have Hmay := Lib.hid (fun (v : Value) (w : World) (h : IsVers w v c.l) => (cell_may c v w h (by omega)))
  have Hkept := Lib.hid (fun (v : Value) (w : World) (h : IsVers w v c.l) => (cell_kept c v w h (by omega)))
  have Hcomes := Lib.hid (fun (hm : mayC c = true) (v : Value) (w : World) (h : IsVers w v c.l) => (cell_comes c v ⟨0, 1, tx⟩ any want w h (may_len hm) hlast))
  generalize comesC c any want ⟨0, 1, tx⟩ = r2 at Hr Hcomes
  unfold verVal at Hcomes
  generalize mayC c = m at Hr Hmay Hcomes
  obtain ⟨cl, L⟩ := c
  simp only at hv hl hlast Hmay Hkept Hcomes ⊢
  have hv2 := hv
  obtain ⟨a, cap, rfl, hc⟩ := hv2
  clear hc
  have Hv := Lib.hid hv; clear hv
  go_enter Tryd.func47, Tryd.ntmps47
  go_upto_region 1 with fail
  refine wp_abs (F := Two w #[.int .u64 cl, .slice a L.length cap] #[.int .u64 0, .slice none 0 0]) (Two.of w _ _ _ _) ?_
  intro W T
  have q0 := T.c1 0
  have q1 := T.c1 1
  have T := Lib.hid T
  simp at q0 q1
  go_wp2_with fail
  refine (Hmay.out _ _ ?_).mono ?_
  · exact Hv.out.below T.out.b (Nat.le_refl _)
  rintro e w1 ⟨rfl, hb1⟩
  have T1 := Lib.hid (T.out.step hb1)
  clear q0 q1 hb1
  have q0 := T1.out.c1 0
  have q1 := T1.out.c1 1
  simp at q0 q1
  cases m with
  | false =>
    obtain rfl : r = (⟨cl, L⟩, 2) := by rw [Hr.out]; rfl
    go_wp2_with fail
    refine (Hkept.out _ _ ?_).mono ?_
    · exact Hv.out.below T1.out.b (Nat.le_refl _)
    rintro e w2 ⟨v1, rfl, hown, hb2⟩
    obtain ⟨a1, c1, rfl⟩ := ownShape hown
    have T2 := T1.out.step hb2
    have z0 := T2.c2 0; have z1 := T2.c2 1; have g0 := T2.f2 0; have g1 := T2.f2 1
    simp at z0 z1
    have T2 := Lib.hid T2; have Hown := Lib.hid hown; have Hb2 := Lib.hid hb2; clear hown hb2
    go_wp2_with fail
    refine bodyPost_ret (v := .tuple #[.agg #[.int .u64 cl, .slice a1 L.length c1], .int .i64 2]) ?_ rfl ⟨_, rfl, ?_⟩
    · simp [results, Tryd.results47, go_sem, z0, z1, g0, g1]
    · exact T1.out.celEnd Hb2.out (IsVers.own Hown.out) (ownAbove Hown.out) _ _
  | true =>
    by_cases htl : 4096 < tx.size
    · obtain rfl : r = (⟨cl, L⟩, 5) := by rw [Hr.out, if_neg (by decide), if_pos htl]
      go_wp2_with fail
      refine (Hkept.out _ _ ?_).mono ?_
      · exact Hv.out.below T1.out.b (Nat.le_refl _)
      rintro e w2 ⟨v1, rfl, hown, hb2⟩
      obtain ⟨a1, c1, rfl⟩ := ownShape hown
      have T2 := T1.out.step hb2
      have z0 := T2.c2 0; have z1 := T2.c2 1; have g0 := T2.f2 0; have g1 := T2.f2 1
      simp at z0 z1
      have T2 := Lib.hid T2; have Hown := Lib.hid hown; have Hb2 := Lib.hid hb2; clear hown hb2
      go_wp2_with fail
      refine bodyPost_ret (v := .tuple #[.agg #[.int .u64 cl, .slice a1 L.length c1], .int .i64 5]) ?_ rfl ⟨_, rfl, ?_⟩
      · simp [results, Tryd.results47, go_sem, z0, z1, g0, g1]
      · exact T1.out.celEnd Hb2.out (IsVers.own Hown.out) (ownAbove Hown.out) _ _
    · obtain rfl : r = r2 := by rw [Hr.out, if_neg (by decide), if_neg htl]
      go_wp2_with fail
      refine (Hcomes.out trivial _ _ ?_).mono ?_
      · exact Hv.out.below T1.out.b (Nat.le_refl _)
      rintro e w2 ⟨v1, rfl, hv1, hf1, hb2⟩
      have hv1' := hv1
      obtain ⟨a1, c1, rfl, hc1⟩ := hv1'
      clear hc1
      have T2 := T1.out.step hb2
      have z0 := T2.c2 0; have z1 := T2.c2 1; have g0 := T2.f2 0; have g1 := T2.f2 1
      simp at z0 z1
      have T2 := Lib.hid T2; have Hv1 := Lib.hid hv1; have Hf1 := Lib.hid hf1; have Hb2 := Lib.hid hb2; clear hv1 hf1 hb2
      go_wp2_with fail
      refine bodyPost_ret (v := .tuple #[.agg #[.int .u64 r.1.last, .slice a1 r.1.l.length c1], .int .i64 r.2]) ?_ rfl ⟨_, rfl, ?_⟩
      · simp [results, Tryd.results47, go_sem, z0, z1, g0, g1]
      · exact T1.out.celEnd Hb2.out Hv1.out Hf1.out _ _
set_option maxRecDepth 100000 in
set_option maxHeartbeats 2000000 in
theorem cell_delete (c : Cel) (v : Value) (any : Bool) (want : Nat) (w : World) (hv : IsVers w v c.l) (hl : c.l.length ≤ 65536) (hlast : c.last < 18446744073709551616) :
    Calls Tryd.prog 48 #[.agg #[.int .u64 c.last, v], .bool any, .int .u64 want] w (CelErr (deleteE c any want) w) := by
  have Hr : Hid (deleteE c any want = if mayC c = false then (c, 2) else if nowC c = 0 then (c, 3) else comesC c any want ⟨0, 2, ByteArray.empty⟩) := Lib.hid rfl
  generalize deleteE c any want = r at Hr
  have Hmay := Lib.hid (fun (v : Value) (w : World) (h : IsVers w v c.l) => (cell_may c v w h (by omega)))
  have Hkept := Lib.hid (fun (v : Value) (w : World) (h : IsVers w v c.l) => (cell_kept c v w h (by omega)))
  have Hcomes := Lib.hid (fun (hm : mayC c = true) (v : Value) (w : World) (h : IsVers w v c.l) => (cell_comes c v ⟨0, 2, ByteArray.empty⟩ any want w h (may_len hm) hlast))
  generalize comesC c any want ⟨0, 2, ByteArray.empty⟩ = r2 at Hr Hcomes
  unfold verVal at Hcomes
  have Hnow := Lib.hid (fun (v : Value) (w : World) (h : IsVers w v c.l) => (cell_now c v w h (by omega)))
  generalize nowC c = n at Hr Hnow
  generalize mayC c = m at Hr Hmay Hcomes
  obtain ⟨cl, L⟩ := c
  simp only at hv hl hlast Hmay Hkept Hcomes Hnow ⊢
  have hv2 := hv
  obtain ⟨a, cap, rfl, hc⟩ := hv2
  clear hc
  have Hv := Lib.hid hv; clear hv
  go_enter Tryd.func48, Tryd.ntmps48
  go_upto_region 1 with fail
  refine wp_abs (F := Two w #[.int .u64 cl, .slice a L.length cap] #[.int .u64 0, .slice none 0 0]) (Two.of w _ _ _ _) ?_
  intro W T
  have q0 := T.c1 0
  have q1 := T.c1 1
  have T := Lib.hid T
  simp at q0 q1
  go_wp2_with fail
  refine (Hmay.out _ _ ?_).mono ?_
  · exact Hv.out.below T.out.b (Nat.le_refl _)
  rintro e w1 ⟨rfl, hb1⟩
  have T1 := Lib.hid (T.out.step hb1)
  clear q0 q1 hb1
  have q0 := T1.out.c1 0
  have q1 := T1.out.c1 1
  simp at q0 q1
  cases m with
  | false =>
    obtain rfl : r = (⟨cl, L⟩, 2) := by rw [Hr.out]; rfl
    go_wp2_with fail
    refine (Hkept.out _ _ ?_).mono ?_
    · exact Hv.out.below T1.out.b (Nat.le_refl _)
    rintro e w2 ⟨v1, rfl, hown, hb2⟩
    obtain ⟨a1, c1, rfl⟩ := ownShape hown
    have T2 := T1.out.step hb2
    have z0 := T2.c2 0; have z1 := T2.c2 1; have g0 := T2.f2 0; have g1 := T2.f2 1
    simp at z0 z1
    have T2 := Lib.hid T2; have Hown := Lib.hid hown; have Hb2 := Lib.hid hb2; clear hown hb2
    go_wp2_with fail
    refine bodyPost_ret (v := .tuple #[.agg #[.int .u64 cl, .slice a1 L.length c1], .int .i64 2]) ?_ rfl ⟨_, rfl, ?_⟩
    · simp [results, Tryd.results48, go_sem, z0, z1, g0, g1]
    · exact T1.out.celEnd Hb2.out (IsVers.own Hown.out) (ownAbove Hown.out) _ _
  | true =>
    by_cases htl : n = 0
    · have hB : ((n : Int) == 0) = true := by simp [htl]
      obtain rfl : r = (⟨cl, L⟩, 3) := by rw [Hr.out, if_neg (by decide), if_pos htl]
      go_wp2_with fail
      refine (Hnow.out _ _ ?_).mono ?_
      · exact Hv.out.below T1.out.b (Nat.le_refl _)
      rintro e w3 ⟨rfl, hb3⟩
      have T3 := Lib.hid (T1.out.step hb3)
      clear q0 q1 hb3
      have q0 := T3.out.c1 0
      have q1 := T3.out.c1 1
      simp at q0 q1
      go_wp2_with fail
      refine (Hkept.out _ _ ?_).mono ?_
      · exact Hv.out.below T3.out.b (Nat.le_refl _)
      rintro e w2 ⟨v1, rfl, hown, hb2⟩
      obtain ⟨a1, c1, rfl⟩ := ownShape hown
      have T2 := T3.out.step hb2
      have z0 := T2.c2 0; have z1 := T2.c2 1; have g0 := T2.f2 0; have g1 := T2.f2 1
      simp at z0 z1
      have T2 := Lib.hid T2; have Hown := Lib.hid hown; have Hb2 := Lib.hid hb2; clear hown hb2
      go_wp2_with fail
      refine bodyPost_ret (v := .tuple #[.agg #[.int .u64 cl, .slice a1 L.length c1], .int .i64 3]) ?_ rfl ⟨_, rfl, ?_⟩
      · simp [results, Tryd.results48, go_sem, z0, z1, g0, g1]
      · exact T3.out.celEnd Hb2.out (IsVers.own Hown.out) (ownAbove Hown.out) _ _
    · have hB : ((n : Int) == 0) = false := by rw [beq_eq_false_iff_ne]; omega
      obtain rfl : r = r2 := by rw [Hr.out, if_neg (by decide), if_neg htl]
      go_wp2_with fail
      refine (Hnow.out _ _ ?_).mono ?_
      · exact Hv.out.below T1.out.b (Nat.le_refl _)
      rintro e w3 ⟨rfl, hb3⟩
      have T3 := Lib.hid (T1.out.step hb3)
      clear q0 q1 hb3
      have q0 := T3.out.c1 0
      have q1 := T3.out.c1 1
      simp at q0 q1
      go_wp2_with fail
      refine (Hcomes.out trivial _ _ ?_).mono ?_
      · exact Hv.out.below T3.out.b (Nat.le_refl _)
      rintro e w2 ⟨v1, rfl, hv1, hf1, hb2⟩
      have hv1' := hv1
      obtain ⟨a1, c1, rfl, hc1⟩ := hv1'
      clear hc1
      have T2 := T3.out.step hb2
      have z0 := T2.c2 0; have z1 := T2.c2 1; have g0 := T2.f2 0; have g1 := T2.f2 1
      simp at z0 z1
      have T2 := Lib.hid T2; have Hv1 := Lib.hid hv1; have Hf1 := Lib.hid hf1; have Hb2 := Lib.hid hb2; clear hv1 hf1 hb2
      go_wp2_with fail
      refine bodyPost_ret (v := .tuple #[.agg #[.int .u64 r.1.last, .slice a1 r.1.l.length c1], .int .i64 r.2]) ?_ rfl ⟨_, rfl, ?_⟩
      · simp [results, Tryd.results48, go_sem, z0, z1, g0, g1]
      · exact T3.out.celEnd Hb2.out Hv1.out Hf1.out _ _
end Go.Proofs.YtbmmabpglkojkaaDoor
