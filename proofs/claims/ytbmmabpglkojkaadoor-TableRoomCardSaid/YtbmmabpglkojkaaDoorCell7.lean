/- Contract: cell.find. -/
import Derived.Test.YtbmmabpglkojkaaDoorCell6
namespace Go.Proofs.YtbmmabpglkojkaaDoor
open Go Go.RowKit

def findE (c : Cel) (n : Nat) : Nat × Nat :=
  if mayC c = false then (0, 2) else if idxV c.l n < 0 then (0, 3) else if (c.l.getD (idxV c.l n).toNat dV).st ≠ 1 then (0, 171) else ((idxV c.l n).toNat, 0)
theorem idxV_cases (l : List Ver) (n : Nat) : idxV l n = -1 ∨ ∃ k : Nat, idxV l n = k ∧ k < l.length := by
  unfold idxV
  split
  · rename_i h; exact Or.inr ⟨_, rfl, h⟩
  · exact Or.inl rfl

set_option maxRecDepth 100000 in
set_option maxHeartbeats 2000000 in
theorem cell_find (c : Cel) (v : Value) (n : Nat) (w : World) (hv : IsVers w v c.l) (hl : c.l.length ≤ 65536) :
    Calls Tryd.prog 43 #[.agg #[.int .u64 c.last, v], .int .u64 n] w fun e w' => e = .returned (.tuple #[.int .i64 (findE c n).1, .int .i64 (findE c n).2]) ∧ Below w.heap.size w w' := by
  have Hr : Hid (findE c n = if mayC c = false then (0, 2) else if idxV c.l n < 0 then (0, 3) else if (c.l.getD (idxV c.l n).toNat dV).st ≠ 1 then (0, 171) else ((idxV c.l n).toNat, 0)) := Lib.hid rfl
  generalize findE c n = r at Hr
  have Hmay := Lib.hid (fun (v : Value) (w : World) (h : IsVers w v c.l) => (cell_may c v w h (by omega)))
  have Hidx := Lib.hid (fun (q : Nat) (v : Value) (w : World) (h : IsVers w v c.l) (hb : w.cell? ⟨q, 0, none⟩ = some (.int .u64 n)) => (indexFunc_find c.l v n q w h (by omega) hb))
  generalize mayC c = m at Hr Hmay
  obtain ⟨i, hi⟩ : ∃ i, i = idxV c.l n := ⟨_, rfl⟩
  have hcs := idxV_cases c.l n
  rw [← hi] at Hr Hidx hcs
  clear hi
  obtain ⟨cl, L⟩ := c
  simp only at hv hl Hmay Hidx Hr hcs ⊢
  have hv2 := hv
  obtain ⟨a, cap, rfl, hc⟩ := hv2
  have HC := Lib.hid hc; clear hc
  have Hv := Lib.hid hv; clear hv
  have Hcs := Lib.hid hcs; clear hcs
  go_enter Tryd.func43, Tryd.ntmps43
  go_upto_region 1 with fail
  refine wp_abs (F := Two w #[.int .u64 cl, .slice a L.length cap] #[.int .u64 n]) (Two.of w _ _ _ _) ?_
  intro W T
  have q0 := T.c1 0
  have q1 := T.c1 1
  have p0 := T.c2 0
  have T := Lib.hid T
  simp at q0 q1 p0
  go_wp2_with fail
  refine (Hidx.out _ _ _ ?_ ?_).mono ?_
  · exact Hv.out.below T.out.b (Nat.le_refl _)
  · exact p0
  rintro e w1 ⟨rfl, hb1⟩
  have T1 := Lib.hid (T.out.step hb1)
  clear q0 q1 p0 hb1
  have q0 := T1.out.c1 0
  have q1 := T1.out.c1 1
  simp at q0 q1
  go_wp2_with fail
  refine (Hmay.out _ _ ?_).mono ?_
  · exact Hv.out.below T1.out.b (Nat.le_refl _)
  rintro e w2 ⟨rfl, hb2⟩
  have T2 := Lib.hid (T1.out.step hb2)
  clear q0 q1 hb2
  have q0 := T2.out.c1 0
  have q1 := T2.out.c1 1
  simp at q0 q1
  cases m with
  | false =>
    obtain rfl : r = (0, 2) := by rw [Hr.out]; rfl
    go_wp2_with fail
    exact bodyPost_ret (v := .tuple #[.int .i64 0, .int .i64 2]) (by simp [results, Tryd.results43, go_sem]) rfl ⟨rfl, T2.out.b⟩
  | true =>
    rcases Hcs.out with rfl | ⟨k, rfl, hk⟩
    · obtain rfl : r = (0, 3) := by rw [Hr.out]; rfl
      go_wp2_with fail
      exact bodyPost_ret (v := .tuple #[.int .i64 0, .int .i64 3]) (by simp [results, Tryd.results43, go_sem]) rfl ⟨rfl, T2.out.b⟩
    · have hk0 : ¬ ((k : Int) < 0) := by omega
      rcases HC.out with hn | ⟨b, off, rfl, hblt, hcc⟩
      · subst hn; simp at hk
      obtain ⟨h1, h2, h3⟩ := hcc k hk
      have g2 := (T2.out.b.cell (p := ⟨b, off + k * 3 + 1, none⟩) hblt).trans h2
      clear h1 h2 h3 hcc
      have hr2 : Hid (r = if (L.getD k dV).st ≠ 1 then (0, 171) else (k, 0)) := Lib.hid (by rw [Hr.out, if_neg (by decide), if_neg hk0]; rfl)
      clear Hr
      generalize L.getD k dV = x at g2 hr2
      by_cases hs : x.st = 1
      · have hB : ((x.st : Int) == 1) = true := by simp [hs]
        have hs1 : 1 ≤ x.st ∧ x.st ≤ 1 := by omega
        obtain rfl : r = (k, 0) := by rw [hr2.out, if_neg (by simpa using hs)]
        clear hs
        go_wp2_with fail
        exact bodyPost_ret (v := .tuple #[.int .i64 (k : Int), .int .i64 0]) (by simp [results, Tryd.results43, go_sem]) rfl ⟨rfl, T2.out.b⟩
      · have hB : ((x.st : Int) == 1) = false := by rw [beq_eq_false_iff_ne]; omega
        have hN : ¬ (x.st : Int) = 1 := by omega
        obtain rfl : r = (0, 171) := by rw [hr2.out, if_pos hs]
        clear hs
        go_wp2_with fail
        exact bodyPost_ret (v := .tuple #[.int .i64 0, .int .i64 171]) (by simp [results, Tryd.results43, go_sem]) rfl ⟨rfl, T2.out.b⟩
end Go.Proofs.YtbmmabpglkojkaaDoor
