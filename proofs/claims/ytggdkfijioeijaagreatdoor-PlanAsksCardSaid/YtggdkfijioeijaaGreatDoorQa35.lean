/- Contracts: scriniumref28: places, SameAsk, where both are one. Law 28: PlanAsks' walk. PlanAsks' walk, for the arguments as they come in. -/
import Derived.Test.YtggdkfijioeijaaGreatDoorQa05
import Derived.Test.YtggdkfijioeijaaGreatDoorQa18
import Derived.Test.YtggdkfijioeijaaGreatDoorQa22
import Derived.Test.YtggdkfijioeijaaGreatDoorQa24
import Derived.Test.YtggdkfijioeijaaGreatDoorQa34
import Derived.Deep.RegionHeld3
import Derived.Deep.CutBlock
namespace Go.Proofs.YtggdkfijioeijaaGreatDoor
open Go Go.RowKit
theorem isl_at4 {α : Type} {k : Nat} {C : α → List Value} {z : α} {w : World} {a : Option Addr} {n c j : Nat} {l : List α} (h : IsL k C z w (.slice a n c) l) (hj : j < l.length) : ∃ b off, a = some ⟨b, off, none⟩ ∧ ∀ q u, (C (l.getD j z))[q]? = some u → w.cell? ⟨b, off + j * k + q, none⟩ = some u := by
 obtain ⟨a', c', he, h⟩ := h
 cases he
 obtain ⟨b, off, rfl, _, hc⟩ := h.resolve_left (fun h => by rw [h] at hj; simp at hj)
 exact ⟨b, off, rfl, hc j hj⟩
set_option maxRecDepth 100000 in
set_option maxHeartbeats 2000000 in
theorem ref28_places (l : List Nat) (v1 v2 : Value) (w : World) (h1 : IsIxs w v1 l) (h2 : IsIxs w v2 l) (hl : l.length ≤ 1000) :
  Calls Tryz.prog 40 #[v1, v2] w fun e w' => e = .returned (.bool true) ∧ Below w.heap.size w w' := by
 obtain ⟨a1, c1, rfl⟩ := isl_shape h1
 obtain ⟨a2, c2, rfl⟩ := isl_shape h2
 obtain ⟨n, hn⟩ : ∃ n, l.length = n := ⟨_, rfl⟩
 rw [hn] at h1 h2 hl ⊢
 have H1 := Lib.hid h1; have H2 := Lib.hid h2; have HN := Lib.hid hn
 clear h1 h2 hn
 go_enter Tryz.func40, Tryz.ntmps40
 go_wp2_with fail
 go_loopw [5] (fun vi wr => ∃ k : Nat, k ≤ n ∧ vi = .int .i64 k ∧ Hid (Below w.heap.size w wr)) (fun vi _ => n - (intOf vi).toNat)
 case atStart => exact ⟨0, Nat.zero_le _, rfl, Lib.hid (Below.refl _ _)⟩
 case round =>
  obtain ⟨k, hk, rfl, HBr⟩ := hrel
  by_cases hlt : k < n
  ·have hki : (k : Int) < (n : Int) := by omega
   obtain ⟨b1, o1, rfl, s0⟩ := isl_at4 (H1.out.below HBr.out (Nat.le_refl _)) (j := k) (by rw [HN.out]; exact hlt)
   obtain ⟨b2, o2, rfl, t0⟩ := isl_at4 (H2.out.below HBr.out (Nat.le_refl _)) (j := k) (by rw [HN.out]; exact hlt)
   obtain ⟨x, hx⟩ : ∃ x, l.getD k 0 = x := ⟨_, rfl⟩
   rw [hx] at s0 t0
   have s1 : wr.cell? ⟨b1, o1 + k, none⟩ = some (.int .i64 (x : Int)) := by have h := s0 0 _ rfl; rw [Nat.mul_one, Nat.add_zero] at h; exact h
   have t1 : wr.cell? ⟨b2, o2 + k, none⟩ = some (.int .i64 (x : Int)) := by have h := t0 0 _ rfl; rw [Nat.mul_one, Nat.add_zero] at h; exact h
   clear s0 t0 hx
   go_wp2_with fail
   go_quiet (fail)
   go_wp2_with fail
   go_roundw
   case rel => exact ⟨k + 1, by omega, by go_num, Lib.hid (below_dr HBr.out _)⟩
   case measure => simp [intOf]; omega
  have hki : ¬ (k : Int) < (n : Int) := by omega
  go_wp2_with fail
  go_ret
  exact ⟨rfl, HBr.out⟩
structure AskV (w : World) (A : Ask) (v : Value) : Prop where
 ex : ∃ v1 v2 v3 v4, v = .agg (askV A v1 v2 v3 v4) ∧ IsRds w v1 A.reads ∧ IsIxs w v2 A.readAt ∧ IsEds w v3 A.edits ∧ IsIxs w v4 A.editAt
set_option maxRecDepth 100000 in
set_option maxHeartbeats 4000000 in
theorem ref28_same (A : Ask) (va vb : Value) (w : World) (ha : AskV w A va) (hb : AskV w A vb) (l1 : A.reads.length ≤ 1000) (l2 : A.readAt.length ≤ 1000) (l3 : A.edits.length ≤ 1000) (l4 : A.editAt.length ≤ 1000) :
  Calls Tryz.prog 15 #[va, vb] w fun e w' => e = .returned (.bool true) ∧ Below w.heap.size w w' := by
 obtain ⟨v1, v2, v3, v4, rfl, i1, i2, i3, i4⟩ := ha.ex
 obtain ⟨u1, u2, u3, u4, rfl, j1, j2, j3, j4⟩ := hb.ex
 obtain ⟨a1, c1, rfl⟩ := isl_shape i1
 obtain ⟨a2, c2, rfl⟩ := isl_shape i2
 obtain ⟨a3, c3, rfl⟩ := isl_shape i3
 obtain ⟨a4, c4, rfl⟩ := isl_shape i4
 obtain ⟨e1, d1, rfl⟩ := isl_shape j1
 obtain ⟨e2, d2, rfl⟩ := isl_shape j2
 obtain ⟨e3, d3, rfl⟩ := isl_shape j3
 obtain ⟨e4, d4, rfl⟩ := isl_shape j4
 have HP2 := Lib.hid (fun (W : World) (h : Below w.heap.size w W) => ref28_places A.readAt _ _ W (i2.below h (Nat.le_refl _)) (j2.below h (Nat.le_refl _)) l2)
 have HP4 := Lib.hid (fun (W : World) (h : Below w.heap.size w W) => ref28_places A.editAt _ _ W (i4.below h (Nat.le_refl _)) (j4.below h (Nat.le_refl _)) l4)
 obtain ⟨sh, rds, rat, eds, eat, lst, pre, gv, tk, f, t⟩ := A
 simp only at *
 obtain ⟨n1, h1⟩ : ∃ n, rds.length = n := ⟨_, rfl⟩
 obtain ⟨n2, h2⟩ : ∃ n, rat.length = n := ⟨_, rfl⟩
 obtain ⟨n3, h3⟩ : ∃ n, eds.length = n := ⟨_, rfl⟩
 obtain ⟨n4, h4⟩ : ∃ n, eat.length = n := ⟨_, rfl⟩
 rw [h1] at i1 j1 l1 ⊢
 rw [h2] at i2 j2 HP2 l2 ⊢
 rw [h3] at i3 j3 l3 ⊢
 rw [h4] at i4 j4 HP4 l4 ⊢
 have I1 := Lib.hid i1; have J1 := Lib.hid j1; have I3 := Lib.hid i3; have J3 := Lib.hid j3; have H1 := Lib.hid h1; have H3 := Lib.hid h3
 clear ha hb i1 i2 i3 i4 j1 j2 j3 j4 h1 h2 h3 h4
 obtain ⟨W0, hW0⟩ : ∃ W0, (w.alloc (.cells #[.int .u32 (sh : Int), .slice a1 n1 c1, .slice a2 n2 c2, .slice a3 n3 c3, .slice a4 n4 c4, .bool lst, .string pre, .bool gv, .bool tk, .int .u64 (f : Int), .int .u64 (t : Int)] 47)).alloc (.cells #[.int .u32 (sh : Int), .slice e1 n1 d1, .slice e2 n2 d2, .slice e3 n3 d3, .slice e4 n4 d4, .bool lst, .string pre, .bool gv, .bool tk, .int .u64 (f : Int), .int .u64 (t : Int)] 47) = W0 := ⟨_, rfl⟩
 obtain ⟨q, hq⟩ : ∃ q, w.heap.size = q := ⟨_, rfl⟩
 have hb0 : Below w.heap.size w W0 := by rw [← hW0]; exact ((Below.refl _ _).alloc (Nat.le_refl _) _).alloc (by simp) _
 have hg0 : W0.heap[q]? = some (.cells #[.int .u32 (sh : Int), .slice a1 n1 c1, .slice a2 n2 c2, .slice a3 n3 c3, .slice a4 n4 c4, .bool lst, .string pre, .bool gv, .bool tk, .int .u64 (f : Int), .int .u64 (t : Int)] 47 (0, 0)) := by
  rw [← hW0, ← hq]; exact (Below.heap_alloc _ _ _ (by simp)).trans (MapKept.heap_alloc _ _).1
 have hg1 : W0.heap[q + 1]? = some (.cells #[.int .u32 (sh : Int), .slice e1 n1 d1, .slice e2 n2 d2, .slice e3 n3 d3, .slice e4 n4 d4, .bool lst, .string pre, .bool gv, .bool tk, .int .u64 (f : Int), .int .u64 (t : Int)] 47 (0, 0)) := by
  rw [← hW0, ← hq]
  have h := (MapKept.heap_alloc (w.alloc (.cells #[.int .u32 (sh : Int), .slice a1 n1 c1, .slice a2 n2 c2, .slice a3 n3 c3, .slice a4 n4 c4, .bool lst, .string pre, .bool gv, .bool tk, .int .u64 (f : Int), .int .u64 (t : Int)] 47)) (.cells #[.int .u32 (sh : Int), .slice e1 n1 d1, .slice e2 n2 d2, .slice e3 n3 d3, .slice e4 n4 d4, .bool lst, .string pre, .bool gv, .bool tk, .int .u64 (f : Int), .int .u64 (t : Int)] 47)).1
  simpa using h
 have HKA := Lib.hid (fun (U : World) (h : Below W0.heap.size W0 U) => show U.cell? ⟨q, 1, none⟩ = some (.slice a1 n1 c1) ∧ U.cell? ⟨q, 2, none⟩ = some (.slice a2 n2 c2) ∧ U.cell? ⟨q, 3, none⟩ = some (.slice a3 n3 c3) ∧ U.cell? ⟨q, 4, none⟩ = some (.slice a4 n4 c4) ∧ U.cell? ⟨q + 1, 1, none⟩ = some (.slice e1 n1 d1) ∧ U.cell? ⟨q + 1, 2, none⟩ = some (.slice e2 n2 d2) ∧ U.cell? ⟨q + 1, 3, none⟩ = some (.slice e3 n3 d3) ∧ U.cell? ⟨q + 1, 4, none⟩ = some (.slice e4 n4 d4) from by
  have k0 := (h.block _ (Array.getElem?_eq_some_iff.1 hg0).1).trans hg0
  have k1 := (h.block _ (Array.getElem?_eq_some_iff.1 hg1).1).trans hg1
  exact ⟨cell_of k0 1, cell_of k0 2, cell_of k0 3, cell_of k0 4, cell_of k1 1, cell_of k1 2, cell_of k1 3, cell_of k1 4⟩)
 have x0 : W0.cell? ⟨q, 0, none⟩ = some (.int .u32 (sh : Int)) := cell_of hg0 0
 have x5 : W0.cell? ⟨q, 5, none⟩ = some (.bool lst) := cell_of hg0 5
 have x6 : W0.cell? ⟨q, 6, none⟩ = some (.string pre) := cell_of hg0 6
 have x7 : W0.cell? ⟨q, 7, none⟩ = some (.bool gv) := cell_of hg0 7
 have x8 : W0.cell? ⟨q, 8, none⟩ = some (.bool tk) := cell_of hg0 8
 have x9 : W0.cell? ⟨q, 9, none⟩ = some (.int .u64 (f : Int)) := cell_of hg0 9
 have x10 : W0.cell? ⟨q, 10, none⟩ = some (.int .u64 (t : Int)) := cell_of hg0 10
 have y0 : W0.cell? ⟨q + 1, 0, none⟩ = some (.int .u32 (sh : Int)) := cell_of hg1 0
 have y5 : W0.cell? ⟨q + 1, 5, none⟩ = some (.bool lst) := cell_of hg1 5
 have y6 : W0.cell? ⟨q + 1, 6, none⟩ = some (.string pre) := cell_of hg1 6
 have y7 : W0.cell? ⟨q + 1, 7, none⟩ = some (.bool gv) := cell_of hg1 7
 have y8 : W0.cell? ⟨q + 1, 8, none⟩ = some (.bool tk) := cell_of hg1 8
 have y9 : W0.cell? ⟨q + 1, 9, none⟩ = some (.int .u64 (f : Int)) := cell_of hg1 9
 have y10 : W0.cell? ⟨q + 1, 10, none⟩ = some (.int .u64 (t : Int)) := cell_of hg1 10
 obtain ⟨x1, x2, x3, x4, y1, y2, y3, y4⟩ := HKA.out W0 (Below.refl _ _)
 have HB0 := Lib.hid hb0
 clear hg0 hg1 hb0
 go_enter Tryz.func15, Tryz.ntmps15
 go_upto_region 1 with fail
 clear hW0 hq
 go_wp2_with fail
 clear x0 x5 x6 x7 x8 x9 x10 y0 y5 y6 y7 y8 y9 y10
 go_loopw [5] (fun vi wr => ∃ k : Nat, k ≤ n1 ∧ vi = .int .i64 k ∧ Hid (Below W0.heap.size W0 wr)) (fun vi _ => n1 - (intOf vi).toNat)
 case atStart => exact ⟨0, Nat.zero_le _, rfl, Lib.hid (Below.refl _ _)⟩
 case round =>
  clear x1 x2 x3 x4 y1 y2 y3 y4
  obtain ⟨k, hk, rfl, HBr⟩ := hrel
  obtain ⟨x1, x2, x3, x4, y1, y2, y3, y4⟩ := HKA.out wr HBr.out
  have HBE := Lib.hid (HB0.out.trans (HBr.out.mono HB0.out.size))
  by_cases hlt : k < n1
  ·have hki : (k : Int) < (n1 : Int) := by omega
   obtain ⟨b1, o1, rfl, s0⟩ := isl_at4 (I1.out.below HBE.out (Nat.le_refl _)) (j := k) (by rw [H1.out]; exact hlt)
   obtain ⟨b2, o2, rfl, t0⟩ := isl_at4 (J1.out.below HBE.out (Nat.le_refl _)) (j := k) (by rw [H1.out]; exact hlt)
   obtain ⟨x, hx⟩ : ∃ x, rds.getD k dRd = x := ⟨_, rfl⟩
   rw [hx] at s0 t0
   have s1 : wr.cell? ⟨b1, o1 + k * 2, none⟩ = some (.string x.path) := s0 0 _ rfl
   have t1 : wr.cell? ⟨b2, o2 + k * 2, none⟩ = some (.string x.path) := t0 0 _ rfl
   have s2 : wr.cell? ⟨b1, o1 + k * 2 + 1, none⟩ = some (.int .u64 (x.n : Int)) := s0 1 _ rfl
   have t2 : wr.cell? ⟨b2, o2 + k * 2 + 1, none⟩ = some (.int .u64 (x.n : Int)) := t0 1 _ rfl
   clear s0 t0 hx
   go_wp2_with fail
   go_quiet (fail)
   go_wp2_with fail
   go_roundw
   case rel => exact ⟨k + 1, by omega, by go_num, Lib.hid (below_dr HBr.out _)⟩
   case measure => simp [intOf]; omega
  have hki : ¬ (k : Int) < (n1 : Int) := by omega
  go_wp2_with fail
  go_loopw [6] (fun vi wr => ∃ k : Nat, k ≤ n3 ∧ vi = .int .i64 k ∧ Hid (Below W0.heap.size W0 wr)) (fun vi _ => n3 - (intOf vi).toNat)
  case atStart => exact ⟨0, Nat.zero_le _, rfl, HBr⟩
  case round =>
   clear x1 x2 x3 x4 y1 y2 y3 y4 HBr
   obtain ⟨k, hk, rfl, HBr⟩ := hrel
   obtain ⟨x1, x2, x3, x4, y1, y2, y3, y4⟩ := HKA.out wr HBr.out
   have HBE := Lib.hid (HB0.out.trans (HBr.out.mono HB0.out.size))
   by_cases hlt : k < n3
   ·have hki : (k : Int) < (n3 : Int) := by omega
    obtain ⟨b1, o1, rfl, s0⟩ := isl_at4 (I3.out.below HBE.out (Nat.le_refl _)) (j := k) (by rw [H3.out]; exact hlt)
    obtain ⟨b2, o2, rfl, t0⟩ := isl_at4 (J3.out.below HBE.out (Nat.le_refl _)) (j := k) (by rw [H3.out]; exact hlt)
    obtain ⟨x, hx⟩ : ∃ x, eds.getD k dEd = x := ⟨_, rfl⟩
    rw [hx] at s0 t0
    have s1 : wr.cell? ⟨b1, o1 + k * 6, none⟩ = some (.int .u8 (x.kind : Int)) := s0 0 _ rfl
    have t1 : wr.cell? ⟨b2, o2 + k * 6, none⟩ = some (.int .u8 (x.kind : Int)) := t0 0 _ rfl
    have s2 : wr.cell? ⟨b1, o1 + k * 6 + 1, none⟩ = some (.string x.path) := s0 1 _ rfl
    have t2 : wr.cell? ⟨b2, o2 + k * 6 + 1, none⟩ = some (.string x.path) := t0 1 _ rfl
    have s3 : wr.cell? ⟨b1, o1 + k * 6 + 2, none⟩ = some (.bool x.any) := s0 2 _ rfl
    have t3 : wr.cell? ⟨b2, o2 + k * 6 + 2, none⟩ = some (.bool x.any) := t0 2 _ rfl
    have s4 : wr.cell? ⟨b1, o1 + k * 6 + 3, none⟩ = some (.int .u64 (x.want : Int)) := s0 3 _ rfl
    have t4 : wr.cell? ⟨b2, o2 + k * 6 + 3, none⟩ = some (.int .u64 (x.want : Int)) := t0 3 _ rfl
    have s5 : wr.cell? ⟨b1, o1 + k * 6 + 4, none⟩ = some (.int .u64 (x.n : Int)) := s0 4 _ rfl
    have t5 : wr.cell? ⟨b2, o2 + k * 6 + 4, none⟩ = some (.int .u64 (x.n : Int)) := t0 4 _ rfl
    have s6 : wr.cell? ⟨b1, o1 + k * 6 + 5, none⟩ = some (.string x.text) := s0 5 _ rfl
    have t6 : wr.cell? ⟨b2, o2 + k * 6 + 5, none⟩ = some (.string x.text) := t0 5 _ rfl
    clear s0 t0 hx
    go_wp2_with fail
    go_quiet (fail)
    go_wp2_with fail
    go_roundw
    case rel => exact ⟨k + 1, by omega, by go_num, Lib.hid (below_dr HBr.out _)⟩
    case measure => simp [intOf]; omega
   have hki : ¬ (k : Int) < (n3 : Int) := by omega
   go_wp2_with fail
   refine (HP2.out _ HBE.out).mono ?_
   rintro e w1 ⟨rfl, hb1⟩
   have HB1 := Lib.hid (HBr.out.trans (hb1.mono HBr.out.size))
   clear x1 x2 x3 x4 y1 y2 y3 y4 hb1
   obtain ⟨x1, x2, x3, x4, y1, y2, y3, y4⟩ := HKA.out w1 HB1.out
   have HBF := Lib.hid (HB0.out.trans (HB1.out.mono HB0.out.size))
   go_wp2_with fail
   refine (HP4.out _ HBF.out).mono ?_
   rintro e w2 ⟨rfl, hb2⟩
   have HB2 := Lib.hid (HBF.out.trans (hb2.mono HBF.out.size))
   clear hb2
   go_wp2_with fail
   go_ret
   exact ⟨rfl, HB2.out⟩
end Go.Proofs.YtggdkfijioeijaaGreatDoor
namespace Go.Proofs.YtggdkfijioeijaaGreatDoor
open Go Go.RowKit Go.Maps
theorem askV_of {w : World} {b off i : Nat} {L : List Ask} {n c : Nat} (h : IsAsks w (.slice (some ⟨b, off, none⟩) n c) L) (hi : i < L.length) : ∃ v1 v2 v3 v4, AskV w (L.getD i dAsk) (.agg (askV (L.getD i dAsk) v1 v2 v3 v4)) ∧ ∀ j u, (askV (L.getD i dAsk) v1 v2 v3 v4)[j]? = some u → w.cell? ⟨b, off + i * 11 + j, none⟩ = some u := by
 obtain ⟨a', c', he, h⟩ := h
 cases he
 obtain ⟨b', off', hb, _, hc⟩ := h.resolve_left (fun h => by rw [h] at hi; simp at hi)
 cases hb
 obtain ⟨v1, v2, v3, v4, h1, h2⟩ := hc i hi
 exact ⟨v1, v2, v3, v4, ⟨v1, v2, v3, v4, rfl, h2⟩, h1⟩
theorem isAsks_shape {w : World} {v : Value} {L : List Ask} (h : IsAsks w v L) : ∃ a c, v = .slice a L.length c := by
 obtain ⟨a, c, rfl, _⟩ := h; exact ⟨a, c, rfl⟩
theorem isAsks_some {w : World} {a : Option Addr} {n c i : Nat} {L : List Ask} (h : IsAsks w (.slice a n c) L) (hi : i < L.length) : ∃ b off, a = some ⟨b, off, none⟩ := by
 obtain ⟨a', c', he, h⟩ := h
 cases he
 obtain ⟨b', off', hb, _⟩ := h.resolve_left (fun h => by rw [h] at hi; simp at hi)
 exact ⟨b', off', hb⟩
theorem AskV.below {w w' : World} {A : Ask} {v : Value} {B : Nat} (h : AskV w A v) (hb : Below B w w') (hB : w.heap.size ≤ B) : AskV w' A v := by
 obtain ⟨v1, v2, v3, v4, e, h1, h2, h3, h4⟩ := h.ex
 exact ⟨v1, v2, v3, v4, e, h1.below hb hB, h2.below hb hB, h3.below hb hB, h4.below hb hB⟩
theorem AskSpec.small {O : Nat → Nat} {sp : List (Nat × Nat)} {e1 kind : Nat} {rds : List Rd} {eds : List Ed} {pre : ByteArray} {f t tw : Nat} {z : Int} {L : List Ask} (h : AskSpec O sp e1 kind rds eds pre f t tw z L) (h1 : rds.length ≤ 1000) (h2 : eds.length ≤ 1000) : ∀ A ∈ L, A.reads.length ≤ 1000 ∧ A.readAt.length ≤ 1000 ∧ A.edits.length ≤ 1000 ∧ A.editAt.length ≤ 1000 := by
 intro A hA
 rcases h with ⟨_, _, rfl⟩ | ⟨_, _, _, ss, _, _, rfl⟩ | ⟨_, _, _, ss, _, _, rfl⟩ | ⟨_, _, _, ⟨_, rfl⟩ | ⟨_, ss, _, _, rfl⟩⟩
 ·simp at hA
 ·obtain ⟨s, _, rfl⟩ := List.mem_map.1 hA
  refine ⟨?_, ?_, ?_, ?_⟩
  ·show (rdsTo O rds rds.length s).length ≤ 1000
   exact Nat.le_trans (Nat.le_trans (List.length_filter_le _ _) (List.length_take_le _ _)) h1
  ·show (rAtTo O rds rds.length s).length ≤ 1000
   exact Nat.le_trans (Nat.le_trans (List.length_filter_le _ _) (by rw [List.length_range]; exact Nat.le_refl _)) h1
  ·show (edsTo O eds eds.length s).length ≤ 1000
   exact Nat.le_trans (Nat.le_trans (List.length_filter_le _ _) (List.length_take_le _ _)) h2
  ·show (eAtTo O eds eds.length s).length ≤ 1000
   exact Nat.le_trans (Nat.le_trans (List.length_filter_le _ _) (by rw [List.length_range]; exact Nat.le_refl _)) h2
 ·obtain ⟨s, _, rfl⟩ := List.mem_map.1 hA
  exact ⟨Nat.zero_le _, Nat.zero_le _, Nat.zero_le _, Nat.zero_le _⟩
 ·simp at hA
 ·obtain ⟨s, _, rfl⟩ := List.mem_map.1 hA
  exact ⟨Nat.zero_le _, Nat.zero_le _, Nat.zero_le _, Nat.zero_le _⟩
theorem rise_len : ∀ (ss : List Nat) (a N : Nat), ss.Pairwise (· < ·) → (∀ s ∈ ss, a ≤ s ∧ s < N) → ss.length ≤ N - a
 | [], _, _, _, _ => Nat.zero_le _
 | x :: t, a, N, h, hb => by
  have h1 := List.pairwise_cons.1 h
  have h2 := rise_len t (x + 1) N h1.2 (fun s hs => ⟨h1.1 s hs, (hb s (by simp [hs])).2⟩)
  have h3 := hb x (by simp)
  rw [List.length_cons]; omega
theorem AskSpec.len {O : Nat → Nat} {sp : List (Nat × Nat)} {e1 kind : Nat} {rds : List Rd} {eds : List Ed} {pre : ByteArray} {f t tw : Nat} {z : Int} {L : List Ask} (h : AskSpec O sp e1 kind rds eds pre f t tw z L) (hS : SpI O sp M64) (hO : ∀ u, 1 ≤ O u ∧ O u < 4294967296) (htw : tw < 4294967296) : L.length ≤ 4294967296 := by
 have h32 := hS.b32 (fun u => (hO u).2)
 rcases h with ⟨_, _, rfl⟩ | ⟨_, _, _, ss, h1, h2, rfl⟩ | ⟨_, _, _, ss, h1, h2, rfl⟩ | ⟨_, _, _, ⟨_, rfl⟩ | ⟨_, ss, h1, h2, rfl⟩⟩
 ·exact Nat.zero_le _
 ·rw [List.length_map]
  refine rise_len ss 0 4294967296 h1 (fun s hs => ⟨Nat.zero_le _, ?_⟩)
  rcases (h2 s).1 hs with ⟨_, _, rfl⟩ | ⟨_, _, rfl⟩
  ·exact (hO _).2
  ·exact (hO _).2
 ·rw [List.length_map]
  refine rise_len ss 0 4294967296 h1 (fun s hs => ⟨Nat.zero_le _, ?_⟩)
  obtain ⟨k, hk, rfl⟩ := (h2 s).1 hs
  exact h32 _ (by rw [List.getD_eq_getElem?_getD, List.getElem?_eq_getElem hk]; exact List.getElem_mem _)
 ·exact Nat.zero_le _
 ·rw [List.length_map]
  refine rise_len ss 0 4294967296 h1 (fun s hs => ⟨Nat.zero_le _, ?_⟩)
  rcases (h2 s).1 hs with rfl | rfl
  ·exact (hO _).2
  ·exact htw
set_option maxRecDepth 100000 in
set_option maxHeartbeats 4000000 in
theorem law28_asks (p s : Nat) (hp : p < 256) (hs : s < 256) (av0 : Option Addr) (LN cp0 : Nat) (lm : List Pmv) (kind : Nat) (rds : List Rd) (eds : List Ed) (aR : Option Addr) (nr cR : Nat) (aE : Option Addr) (ne cE : Nat) (pre : ByteArray) (f t tw : Nat) (w : World) (hv : IsPms w (.slice av0 LN cp0) lm) (hLN : lm.length = LN) (hok : ∀ y ∈ lm, y.Ok)
  (hk : kind < 256) (ht : t < M64) (htw : tw < 4294967296) (hnr : rds.length = nr) (hne : eds.length = ne) (hR : IsRds w (.slice aR nr cR) rds) (hE : IsEds w (.slice aE ne cE) eds) (hnR : NilOk (.slice aR nr cR)) (hnE : NilOk (.slice aE ne cE)) (hek : ∀ x ∈ eds, x.kind < 256)
  (hpz : pre.size ≤ 140737488351232) (hrz : ∀ r ∈ rds, r.path.size ≤ 140737488351232) (hez : ∀ x ∈ eds, x.path.size ≤ 140737488351232 ∧ x.text.size ≤ 140737488351232) (hm : MX w) :
  Calls Tryz.prog 3 #[.int .u8 (p : Int), .int .u8 (s : Int), .slice av0 LN cp0, .agg (callC kind (.slice aR nr cR) (.slice aE ne cE) pre f t tw)] w fun e w' => e = .returned (.bool true) ∧ Below w.heap.size w w' := by
 have HWK := Lib.hid (fun (w' : World) (h : Below w.heap.size w w') => law28_works w' (hm.below h (Nat.le_refl _)))
 have HMX := Lib.hid (fun (w' : World) (h : Below w.heap.size w w') => hm.below h (Nat.le_refl _))
 have HV := Lib.hid (fun (w' : World) (h : Below w.heap.size w w') => hv.below h (Nat.le_refl _))
 have HR := Lib.hid (fun (w' : World) (h : Below w.heap.size w w') => hR.below h (Nat.le_refl _))
 have HE := Lib.hid (fun (w' : World) (h : Below w.heap.size w w') => hE.below h (Nat.le_refl _))
 have hgetR : ∀ i, i < rds.length → rds.getD i dRd ∈ rds := fun i hi => by rw [List.getD_eq_getElem?_getD, List.getElem?_eq_getElem hi]; exact List.getElem_mem _
 have hgetE : ∀ i, i < eds.length → eds.getD i dEd ∈ eds := fun i hi => by rw [List.getD_eq_getElem?_getD, List.getElem?_eq_getElem hi]; exact List.getElem_mem _
 have HHV := Lib.hid (fun (w' : World) (h : Below w.heap.size w w') => law28_heavy kind rds eds (.slice aR nr cR) (.slice aE ne cE) pre f t tw av0 LN cp0 w' (hR.below h (Nat.le_refl _)) (hE.below h (Nat.le_refl _)) hpz (fun i hi => hrz _ (hgetR i hi)) (fun i hi => hez _ (hgetE i hi)))
 have HSR : Hid (∀ r ∈ rds, SmallRd r) := Lib.hid (fun r hr => ⟨hrz r hr⟩)
 have HSE : Hid (∀ x ∈ eds, SmallEd x) := Lib.hid (fun x hx => ⟨(hez x hx).1, (hez x hx).2, hek x hx⟩)
 have HLN := Lib.hid hLN; have HOK := Lib.hid hok; have HNR := Lib.hid hnr; have HNE := Lib.hid hne; have HNOR := Lib.hid hnR; have HNOE := Lib.hid hnE; have HPZ := Lib.hid hpz
 have HME : Hid (∀ (P : ByteArray → Prop), ((∀ i, i < rds.length → P (rds.getD i dRd).path) → ∀ r ∈ rds, P r.path) ∧ ((∀ i, i < eds.length → P (eds.getD i dEd).path) → ∀ x ∈ eds, P x.path)) := Lib.hid (fun P => ⟨fun h r hr => by
  obtain ⟨i, hi, rfl⟩ := List.mem_iff_getElem.1 hr
  have := h i hi
  rwa [List.getD_eq_getElem?_getD, List.getElem?_eq_getElem hi] at this, fun h r hr => by
  obtain ⟨i, hi, rfl⟩ := List.mem_iff_getElem.1 hr
  have := h i hi
  rwa [List.getD_eq_getElem?_getD, List.getElem?_eq_getElem hi] at this⟩)
 clear hv hLN hok hnr hne hR hE hnR hnE hek hpz hrz hez hm hgetR hgetE
 obtain ⟨W0, hW0⟩ : ∃ W0, w.alloc (.cells (callC kind (.slice aR nr cR) (.slice aE ne cE) pre f t tw) 30) = W0 := ⟨_, rfl⟩
 obtain ⟨hz0, hblk, hB0⟩ := alloc_keep hW0
 obtain ⟨B, hB⟩ : ∃ B, w.heap.size = B := ⟨_, rfl⟩
 have HKB := Lib.hid (fun (U : World) (h : Below W0.heap.size W0 U) => show U.cell? ⟨B, 0, none⟩ = some (.int .u8 (kind : Int)) ∧ U.cell? ⟨B, 1, none⟩ = some (.slice aR nr cR) ∧ U.cell? ⟨B, 2, none⟩ = some (.slice aE ne cE) ∧ U.cell? ⟨B, 3, none⟩ = some (.string pre) ∧ U.cell? ⟨B, 4, none⟩ = some (.int .u64 (f : Int)) ∧ U.cell? ⟨B, 5, none⟩ = some (.int .u64 (t : Int)) ∧ U.cell? ⟨B, 6, none⟩ = some (.int .u32 (tw : Int)) from by
  have k := (h.block _ (Array.getElem?_eq_some_iff.1 hblk).1).trans hblk
  rw [hB] at k
  exact ⟨cell_of k 0, cell_of k 1, cell_of k 2, cell_of k 3, cell_of k 4, cell_of k 5, cell_of k 6⟩)
 have HB0 := Lib.hid hB0
 obtain ⟨k0, k1, k2, k3, k4, k5, k6⟩ := HKB.out W0 (Below.refl _ _)
 clear hz0 hblk hB0
 go_enter Tryz.func3, Tryz.ntmps3
 go_upto_region 1 with fail
 clear hW0 hB
 go_wp2_with fail
 refine (HHV.out _ HB0.out).mono ?_
 rintro e w1 ⟨b, rfl, hsm, hb1⟩
 have HBW1 := Lib.hid (HB0.out.trans (hb1.mono HB0.out.size))
 have HB01 := Lib.hid hb1
 cases b with
 | true =>
  clear hsm hb1 k0 k1 k2 k3 k4 k5 k6
  go_wp2_with fail
  refine (HWK.out _ HBW1.out).mono ?_
  rintro e w2 ⟨rfl, hb2⟩
  have HB2 := Lib.hid (HBW1.out.trans (hb2.mono HBW1.out.size))
  clear hb2
  go_wp2_with fail
  go_ret
  exact ⟨rfl, HB2.out⟩
 | false =>
 obtain ⟨s1, s2, s3, s4, s5, s6⟩ := hsm rfl
 have HPR : Hid (∀ r ∈ rds, r.path.size ≤ 100000) := Lib.hid ((HME.out (fun x => x.size ≤ 100000)).1 (fun i hi => Nat.le_trans (s5 i hi) (by decide)))
 have HPE : Hid (∀ x ∈ eds, x.path.size ≤ 100000) := Lib.hid ((HME.out (fun x => x.size ≤ 100000)).2 (fun i hi => Nat.le_trans (s6 i hi).1 (by decide)))
 have HS1 : Hid (rds.length ≤ 1000) := Lib.hid (by omega)
 have HS2 : Hid (eds.length ≤ 1000) := Lib.hid (by omega)
 have HWD := Lib.hid (law28_worldM p s hp hs av0 LN cp0 lm w1 (HV.out _ HBW1.out) HLN.out HOK.out s3)
 clear hsm hb1 s1 s2 s3 s4 s5 s6 k0 k1 k2 k3 k4 k5 k6
 go_wp2_with fail
 refine HWD.out.mono ?_
 rintro e w2 ⟨m, r, ep, sp, O, rfl, hM, hD, hS, hl, hO, _, hb2⟩
 have HB02 := Lib.hid (HB01.out.trans (hb2.mono HB01.out.size))
 have HBW2 := Lib.hid (HB0.out.trans (HB02.out.mono HB0.out.size))
 have HM := Lib.hid (fun (U : World) (h : Below w2.heap.size w2 U) => hM.below h); have HD := Lib.hid (fun (U : World) (h : Below w2.heap.size w2 U) => hD.below h)
 have HS := Lib.hid hS; have HL := Lib.hid hl; have HO := Lib.hid hO
 have HCP := Lib.hid (fun (U : World) (h : Below w.heap.size w U) => law28_copied kind rds eds (.slice aR nr cR) (.slice aE ne cE) pre f t tw U (HR.out U h) (HE.out U h) HNOR.out HNOE.out HS1.out HS2.out)
 obtain ⟨k0, k1, k2, k3, k4, k5, k6⟩ := HKB.out w2 HB02.out
 clear hM hD hS hl hO hb2 HWD
 go_wp2_with fail
 refine (HCP.out _ HBW2.out).mono ?_
 rintro e w3 ⟨v1, v2, rfl, i1, i2, hb3⟩
 have HA1 := Lib.hid (asks_any m ep kind sp O rds eds v1 v2 pre f t tw w3 (HM.out _ hb3) (by have := HL.out; omega) HS.out HO.out ht htw hk i1 i2 (HMX.out _ (HBW2.out.trans (hb3.mono HBW2.out.size))) HSR.out HSE.out HS1.out HS2.out HPZ.out HPR.out HPE.out)
 have HB23 := Lib.hid hb3
 clear i1 i2 hb3 k0 k1 k2 k3 k4 k5 k6
 go_wp2_with fail
 refine HA1.out.mono ?_
 rintro e w4 ⟨va, z, L, rfl, ia, sa, hb4⟩
 have HB24 := Lib.hid (HB23.out.trans (hb4.mono HB23.out.size))
 have HB04 := Lib.hid (HB02.out.trans (HB24.out.mono HB02.out.size))
 have HBW4 := Lib.hid (HB0.out.trans (HB04.out.mono HB0.out.size))
 have HA2 := Lib.hid (ref28_asks_any r ep kind sp O rds eds (.slice aR nr cR) (.slice aE ne cE) pre f t tw w4 (HD.out _ HB24.out) HL.out HS.out HO.out ht (HR.out _ HBW4.out) (HE.out _ HBW4.out) HSR.out HSE.out HS1.out HS2.out HPZ.out HPR.out HPE.out)
 have HIA := Lib.hid ia; have HSA := Lib.hid sa
 obtain ⟨a1, c1, rfl⟩ := isAsks_shape ia
 obtain ⟨k0, k1, k2, k3, k4, k5, k6⟩ := HKB.out w4 HB04.out
 clear ia sa hb4 HA1
 go_wp2_with fail
 refine HA2.out.mono ?_
 rintro e w5 ⟨vb, z', L', rfl, ib, sb, hb5⟩
 obtain ⟨rfl, rfl⟩ := HSA.out.uniq sb
 have HB05 := Lib.hid (HB04.out.trans (hb5.mono HB04.out.size))
 have HBW5 := Lib.hid (HB0.out.trans (HB05.out.mono HB0.out.size))
 have HIA5 := Lib.hid (HIA.out.below hb5 (Nat.le_refl _)); have HIB5 := Lib.hid ib
 obtain ⟨a2, c2, rfl⟩ := isAsks_shape ib
 clear ib sb hb5 HA2 k0 k1 k2 k3 k4 k5 k6
 go_upto_region 8 with fail
 have hk61 : Hid (∀ (U : World), Below w5.heap.size w5 U → U.cell? ⟨B, 0, none⟩ = some (.int .u8 (kind : Int)) ∧ U.cell? ⟨B, 1, none⟩ = some (.slice aR nr cR) ∧ U.cell? ⟨B, 2, none⟩ = some (.slice aE ne cE) ∧ U.cell? ⟨B, 3, none⟩ = some (.string pre) ∧ U.cell? ⟨B, 4, none⟩ = some (.int .u64 (f : Int)) ∧ U.cell? ⟨B, 5, none⟩ = some (.int .u64 (t : Int)) ∧ U.cell? ⟨B, 6, none⟩ = some (.int .u32 (tw : Int)) ∧ Hid (Below w5.heap.size w5 U)) := Lib.hid (fun U h => by
  obtain ⟨k0, k1, k2, k3, k4, k5, k6⟩ := HKB.out U (HB05.out.trans (h.mono HB05.out.size))
  exact ⟨k0, k1, k2, k3, k4, k5, k6, Lib.hid h⟩)
 have keepB : Hid (∀ U : World, (U.cell? ⟨B, 0, none⟩ = some (.int .u8 (kind : Int)) ∧ U.cell? ⟨B, 1, none⟩ = some (.slice aR nr cR) ∧ U.cell? ⟨B, 2, none⟩ = some (.slice aE ne cE) ∧ U.cell? ⟨B, 3, none⟩ = some (.string pre) ∧ U.cell? ⟨B, 4, none⟩ = some (.int .u64 (f : Int)) ∧ U.cell? ⟨B, 5, none⟩ = some (.int .u64 (t : Int)) ∧ U.cell? ⟨B, 6, none⟩ = some (.int .u32 (tw : Int)) ∧ Hid (Below w5.heap.size w5 U)) → Below w5.heap.size w5 U) := Lib.hid (fun U h => h.2.2.2.2.2.2.2.out)
 have HRM := Lib.hid (fun (U : World) (h : Below w5.heap.size w5 U) => ref28_may kind rds eds (.slice aR nr cR) (.slice aE ne cE) pre f t tw U (HR.out _ (HBW5.out.trans (h.mono HBW5.out.size))) (HE.out _ (HBW5.out.trans (h.mono HBW5.out.size))) HSR.out HSE.out HS1.out HS2.out HPZ.out)
 have HTW : Hid (∀ U : World, Below w5.heap.size w5 U → Below w.heap.size w U) := Lib.hid (fun U h => HBW5.out.trans (h.mono HBW5.out.size))
 obtain ⟨zm, hzm⟩ : ∃ zm, mayZ kind rds eds pre f t tw = zm := ⟨_, rfl⟩
 obtain ⟨n, hn⟩ : ∃ n, L.length = n := ⟨_, rfl⟩
 rw [hn] at HIA5 HIB5 ⊢
 have HZM := Lib.hid hzm; have HN := Lib.hid hn
 rw [hzm] at HRM
 clear hzm hn
 obtain ⟨k0, k1, k2, k3, k4, k5, k6, _⟩ := hk61.out w5 (Below.refl _ _)
 go_cut [61] (fun v61 wx => v61 = .bool false ∧ Hid (Below w5.heap.size w5 wx))
 case first =>
  go_region_held3 (fun U => U.cell? ⟨B, 0, none⟩ = some (.int .u8 (kind : Int)) ∧ U.cell? ⟨B, 1, none⟩ = some (.slice aR nr cR) ∧ U.cell? ⟨B, 2, none⟩ = some (.slice aE ne cE) ∧ U.cell? ⟨B, 3, none⟩ = some (.string pre) ∧ U.cell? ⟨B, 4, none⟩ = some (.int .u64 (f : Int)) ∧ U.cell? ⟨B, 5, none⟩ = some (.int .u64 (t : Int)) ∧ U.cell? ⟨B, 6, none⟩ = some (.int .u32 (tw : Int)) ∧ Hid (Below w5.heap.size w5 U))
   (first
    | exact hk61.out _ HB58.out
    | exact hk61.out _ HB57.out
    | exact hk61.out _ HB56.out
    | exact hk61.out _ (Below.refl _ _).drew)
   (first
    | (go_at_call 14; refine (HRM.out _ (keepB.out _ (by assumption))).mono ?_; rintro e w8 ⟨rfl, hb8⟩; have HB58 := Lib.hid ((keepB.out _ (by assumption)).trans (hb8.mono (keepB.out _ (by assumption)).size)); clear hb8)
    | (go_at_call 13; refine HMY.out.mono ?_; rintro e w7 ⟨rfl, hb7⟩; have HB57 := Lib.hid (HB56.out.trans (hb7.mono HB56.out.size)); clear hb7)
    | (go_at_call 11; refine (HCP.out _ (HTW.out _ (keepB.out _ (by assumption)))).mono ?_; rintro e w6 ⟨v3, v4, rfl, i3, i4, hb6⟩; have HB56 := Lib.hid ((keepB.out _ (by assumption)).trans (hb6.mono (keepB.out _ (by assumption)).size)); have hmy := may_any kind rds eds v3 v4 pre f t tw w6 hk i3 i4 (HMX.out _ (HTW.out _ HB56.out)) HSR.out HSE.out HS1.out HS2.out HPZ.out; rw [HZM.out] at hmy; have HMY := Lib.hid hmy; clear i3 i4 hb6 hmy))
  all_goals (
   go_wp2_with fail
   go_meet
   case rel => first | exact ⟨rfl, HB58⟩ | exact ⟨by simp, HB58⟩)
 case rest =>
 obtain ⟨rfl, HB5c⟩ := hcut
 clear k0 k1 k2 k3 k4 k5 k6
 go_wp2_with fail
 go_loopw [15] (fun vi wr => ∃ i : Nat, i ≤ n ∧ vi = .int .i64 i ∧ Hid (Below w5.heap.size w5 wr)) (fun vi _ => n - (intOf vi).toNat)
 case atStart => exact ⟨0, Nat.zero_le _, rfl, HB5c⟩
 case round =>
  clear HB5c
  obtain ⟨i, hi, rfl, HBr⟩ := hrel
  by_cases hlt : i < n
  ·have hii : (i : Int) < (n : Int) := by omega
   have hil : i < L.length := by rw [HN.out]; exact hlt
   have hnb : n ≤ 4294967296 := by rw [← HN.out]; exact HSA.out.len HS.out HO.out htw
   obtain ⟨b1, o1, rfl⟩ := isAsks_some HIA5.out hil
   obtain ⟨b2, o2, rfl⟩ := isAsks_some HIB5.out hil
   obtain ⟨p1, p2, p3, p4, va, ca⟩ := askV_of (HIA5.out.below HBr.out (Nat.le_refl _)) hil
   obtain ⟨q1, q2, q3, q4, vb, cb⟩ := askV_of (HIB5.out.below HBr.out (Nat.le_refl _)) hil
   obtain ⟨l1, l2, l3, l4⟩ := HSA.out.small HS1.out HS2.out (L.getD i dAsk) (by rw [List.getD_eq_getElem?_getD, List.getElem?_eq_getElem hil]; exact List.getElem_mem _)
   obtain ⟨A, hA⟩ : ∃ A, L.getD i dAsk = A := ⟨_, rfl⟩
   rw [hA] at va ca vb cb l1 l2 l3 l4
   have hg1 := block_lt_of_cell (ca 0 _ rfl)
   have hg2 := block_lt_of_cell (cb 0 _ rfl)
   have HSM := Lib.hid (fun (U : World) (h : Below wr.heap.size wr U) => ref28_same A _ _ U (va.below h (Nat.le_refl _)) (vb.below h (Nat.le_refl _)) l1 l2 l3 l4)
   have HCA := Lib.hid (fun (U : World) (h : Below wr.heap.size wr U) (j : Nat) (u : Value) (hu : (askV A p1 p2 p3 p4)[j]? = some u) => (h.cell (p := ⟨b1, o1 + i * 11 + j, none⟩) hg1).trans (ca j u hu))
   have HCB := Lib.hid (fun (U : World) (h : Below wr.heap.size wr U) (j : Nat) (u : Value) (hu : (askV A q1 q2 q3 q4)[j]? = some u) => (h.cell (p := ⟨b2, o2 + i * 11 + j, none⟩) hg2).trans (cb j u hu))
   clear va vb ca cb l1 l2 l3 l4 hA hg1 hg2 hil
   go_wp2_with fail
   refine wp_region_quiet (C := fun w' => Hid (Below wr.heap.size wr w')) (by kernel_rfl) (by kernel_rfl) (Lib.hid (Below.drew (Below.refl _ _))) ?_
   refine quiet_plain (by rfl) (Value.slice (some ⟨b1, o1, none⟩) n c1) (fun w' hw' => ?_) ?_
   ·go_simp
   go_frame
   refine quiet_plain (by rfl) (Value.int .i64 (i : Int)) (fun w' hw' => ?_) ?_
   ·go_simp
   go_frame
   refine quiet_plain (by rfl) (Value.pointer (some ⟨b1, o1 + i * 11, none⟩)) (fun w' hw' => ?_) ?_
   ·go_simp
   go_frame
   refine quiet_plain (by rfl) (Value.agg #[.int .u32 (A.shard : Int), p1, p2, p3, p4, .bool A.list, .string A.pre, .bool A.give, .bool A.take, .int .u64 (A.f : Int), .int .u64 (A.t : Int)]) (fun w' hw' => ?_) ?_
   ·have f0 : w'.cell? ⟨b1, o1 + i * 11, none⟩ = some (.int .u32 (A.shard : Int)) := HCA.out w' hw'.out 0 _ rfl
    have f1 : w'.cell? ⟨b1, o1 + i * 11 + 1, none⟩ = some (p1) := HCA.out w' hw'.out 1 _ rfl
    have f2 : w'.cell? ⟨b1, o1 + i * 11 + 2, none⟩ = some (p2) := HCA.out w' hw'.out 2 _ rfl
    have f3 : w'.cell? ⟨b1, o1 + i * 11 + 3, none⟩ = some (p3) := HCA.out w' hw'.out 3 _ rfl
    have f4 : w'.cell? ⟨b1, o1 + i * 11 + 4, none⟩ = some (p4) := HCA.out w' hw'.out 4 _ rfl
    have f5 : w'.cell? ⟨b1, o1 + i * 11 + 5, none⟩ = some (.bool A.list) := HCA.out w' hw'.out 5 _ rfl
    have f6 : w'.cell? ⟨b1, o1 + i * 11 + 6, none⟩ = some (.string A.pre) := HCA.out w' hw'.out 6 _ rfl
    have f7 : w'.cell? ⟨b1, o1 + i * 11 + 7, none⟩ = some (.bool A.give) := HCA.out w' hw'.out 7 _ rfl
    have f8 : w'.cell? ⟨b1, o1 + i * 11 + 8, none⟩ = some (.bool A.take) := HCA.out w' hw'.out 8 _ rfl
    have f9 : w'.cell? ⟨b1, o1 + i * 11 + 9, none⟩ = some (.int .u64 (A.f : Int)) := HCA.out w' hw'.out 9 _ rfl
    have f10 : w'.cell? ⟨b1, o1 + i * 11 + 10, none⟩ = some (.int .u64 (A.t : Int)) := HCA.out w' hw'.out 10 _ rfl
    go_simp
   go_frame
   refine quiet_plain (by rfl) (Value.slice (some ⟨b2, o2, none⟩) n c2) (fun w' hw' => ?_) ?_
   ·go_simp
   go_frame
   refine quiet_plain (by rfl) (Value.int .i64 (i : Int)) (fun w' hw' => ?_) ?_
   ·go_simp
   go_frame
   refine quiet_plain (by rfl) (Value.pointer (some ⟨b2, o2 + i * 11, none⟩)) (fun w' hw' => ?_) ?_
   ·go_simp
   go_frame
   refine quiet_plain (by rfl) (Value.agg #[.int .u32 (A.shard : Int), q1, q2, q3, q4, .bool A.list, .string A.pre, .bool A.give, .bool A.take, .int .u64 (A.f : Int), .int .u64 (A.t : Int)]) (fun w' hw' => ?_) ?_
   ·have f0 : w'.cell? ⟨b2, o2 + i * 11, none⟩ = some (.int .u32 (A.shard : Int)) := HCB.out w' hw'.out 0 _ rfl
    have f1 : w'.cell? ⟨b2, o2 + i * 11 + 1, none⟩ = some (q1) := HCB.out w' hw'.out 1 _ rfl
    have f2 : w'.cell? ⟨b2, o2 + i * 11 + 2, none⟩ = some (q2) := HCB.out w' hw'.out 2 _ rfl
    have f3 : w'.cell? ⟨b2, o2 + i * 11 + 3, none⟩ = some (q3) := HCB.out w' hw'.out 3 _ rfl
    have f4 : w'.cell? ⟨b2, o2 + i * 11 + 4, none⟩ = some (q4) := HCB.out w' hw'.out 4 _ rfl
    have f5 : w'.cell? ⟨b2, o2 + i * 11 + 5, none⟩ = some (.bool A.list) := HCB.out w' hw'.out 5 _ rfl
    have f6 : w'.cell? ⟨b2, o2 + i * 11 + 6, none⟩ = some (.string A.pre) := HCB.out w' hw'.out 6 _ rfl
    have f7 : w'.cell? ⟨b2, o2 + i * 11 + 7, none⟩ = some (.bool A.give) := HCB.out w' hw'.out 7 _ rfl
    have f8 : w'.cell? ⟨b2, o2 + i * 11 + 8, none⟩ = some (.bool A.take) := HCB.out w' hw'.out 8 _ rfl
    have f9 : w'.cell? ⟨b2, o2 + i * 11 + 9, none⟩ = some (.int .u64 (A.f : Int)) := HCB.out w' hw'.out 9 _ rfl
    have f10 : w'.cell? ⟨b2, o2 + i * 11 + 10, none⟩ = some (.int .u64 (A.t : Int)) := HCB.out w' hw'.out 10 _ rfl
    go_simp
   go_frame
   refine quiet_call (by rfl) (Value.bool true) 15 #[.agg #[.int .u32 (A.shard : Int), p1, p2, p3, p4, .bool A.list, .string A.pre, .bool A.give, .bool A.take, .int .u64 (A.f : Int), .int .u64 (A.t : Int)], .agg #[.int .u32 (A.shard : Int), q1, q2, q3, q4, .bool A.list, .string A.pre, .bool A.give, .bool A.take, .int .u64 (A.f : Int), .int .u64 (A.t : Int)]] (fun w' hw' => ⟨?_, ?_⟩) ?_
   ·go_simp
   ·exact (HSM.out w' hw'.out).mono (fun e w6 ⟨he, hb⟩ => ⟨he, Lib.hid (hw'.out.trans (hb.mono hw'.out.size))⟩)
   go_frame
   refine quiet_plain (by rfl) (Value.bool false) (fun w' hw' => ?_) ?_
   ·go_simp
   go_frame
   refine wpQuiet_nil ?_
   intro W6 hW6
   have HB6 : Hid (Below w5.heap.size w5 W6) := Lib.hid (HBr.out.trans (hW6.out.mono HBr.out.size))
   clear hW6 HSM HCA HCB
   go_wp2_with fail
   go_roundw
   case rel => exact ⟨i + 1, by omega, by go_num, HB6⟩
   case measure => simp [intOf]; omega
  have hii : ¬ (i : Int) < (n : Int) := by omega
  obtain ⟨k0, k1, k2, k3, k4, k5, k6, _⟩ := hk61.out wr HBr.out
  have HNIL := Lib.hid (asks_nil kind (.slice aR nr cR) (.slice aE ne cE) pre f t tw wr)
  go_wp2_with fail
  refine HNIL.out.mono ?_
  rintro e w6 ⟨rfl, hb6⟩
  have HB6 := Lib.hid (HTW.out _ (HBr.out.trans (hb6.mono HBr.out.size)))
  clear hb6 HNIL k0 k1 k2 k3 k4 k5 k6
  go_wp2_with fail
  refine (HWK.out _ HB6.out).mono ?_
  rintro e w7 ⟨rfl, hb7⟩
  have HB7 := Lib.hid (HB6.out.trans (hb7.mono HB6.out.size))
  clear hb7
  go_wp2_with fail
  go_ret
  exact ⟨rfl, HB7.out⟩
end Go.Proofs.YtggdkfijioeijaaGreatDoor
namespace Go.Proofs.YtggdkfijioeijaaGreatDoor
open Go Go.RowKit
theorem law28_asks_in (p q : Int) (l : List Pmv) (v : Value) (kind : Nat) (vR vE : Value) (rds : List Rd) (eds : List Ed) (pre : ByteArray) (f t tw : Nat) (W : World) (hp : (Lit.int .u8 p).wf = true) (hq : (Lit.int .u8 q).wf = true) (hl : IsPms W v l) (hok : ∀ y ∈ l, y.Ok)
  (hk : kind < 256) (_hf : f < 18446744073709551616) (ht : t < 18446744073709551616) (htw : tw < 4294967296) (hR : IsRds W vR rds) (hE : IsEds W vE eds) (hnR : NilOk vR) (hnE : NilOk vE) (hek : ∀ x ∈ eds, x.kind < 256)
  (hpz : pre.size ≤ 140737488351232) (hrz : ∀ r ∈ rds, r.path.size ≤ 140737488351232) (hez : ∀ x ∈ eds, x.path.size ≤ 140737488351232 ∧ x.text.size ≤ 140737488351232) (hm : MX W) :
  Calls Tryz.prog 3 #[.int .u8 p, .int .u8 q, v, .agg (callC kind vR vE pre f t tw)] W fun e W' => e = .returned (.bool true) ∧ Below W.heap.size W W' := by
 obtain ⟨p, rfl, hp'⟩ := nat_of (M := 256) (wf_u8 hp)
 obtain ⟨q, rfl, hq'⟩ := nat_of (M := 256) (wf_u8 hq)
 obtain ⟨a, cp, rfl, hr⟩ := id hl
 obtain ⟨aR, cR, hvR⟩ := isl_shape hR
 obtain ⟨aE, cE, hvE⟩ := isl_shape hE
 subst hvR hvE
 exact law28_asks p q hp' hq' a l.length cp l kind rds eds aR rds.length cR aE eds.length cE pre f t tw W hl rfl hok hk ht htw rfl rfl hR hE hnR hnE hek hpz hrz hez hm
end Go.Proofs.YtggdkfijioeijaaGreatDoor
