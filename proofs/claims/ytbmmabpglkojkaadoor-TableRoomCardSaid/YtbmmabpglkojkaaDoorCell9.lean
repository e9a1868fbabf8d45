/- Contract: cell.Destroy. -/
import Derived.Test.YtbmmabpglkojkaaDoorCell8
namespace Go.Proofs.YtbmmabpglkojkaaDoor
open Go Go.RowKit

/-- An own row of versions in which one is set. -/
theorem ownSet3 {w : World} {B e g cap i : Nat} {l : List Ver} (h : w.ownsRow B e 3 (.slice (some ⟨g, 0, none⟩) l.length cap) l.length (flat l)) (hi : i < l.length) (x : Ver) :
    IsVers (((w.setCell ⟨g, i * 3, none⟩ (.int .u64 x.n)).setCell ⟨g, i * 3 + 1, none⟩ (.int .u8 x.st)).setCell ⟨g, i * 3 + 2, none⟩ (.string x.tx)) (.slice (some ⟨g, 0, none⟩) l.length cap) (l.set i x) := by
  have hg : g < w.heap.size := by
    rcases h.2 with ⟨hv, _⟩ | ⟨g', cap'', cur, hv, hB, hg, _⟩
    · cases hv
    · cases hv; exact lt_of_block hg
  refine ⟨some ⟨g, 0, none⟩, cap, by simp, Or.inr ⟨g, 0, rfl, by simpa using hg, fun j hj => ?_⟩⟩
  rw [List.length_set] at hj
  obtain ⟨f1, f2, f3⟩ := flat_at l j hj
  obtain ⟨a1, a2, a3⟩ := flat_at l i hi
  have c1 := World.ownsRow.cellAt h (j * 3) (by omega)
  have c2 := World.ownsRow.cellAt h (j * 3 + 1) (by omega)
  have c3 := World.ownsRow.cellAt h (j * 3 + 2) (by omega)
  have b1 := World.ownsRow.cellAt h (i * 3) (by omega)
  have b2 := World.ownsRow.cellAt h (i * 3 + 1) (by omega)
  have b3 := World.ownsRow.cellAt h (i * 3 + 2) (by omega)
  rw [f1] at c1; rw [f2] at c2; rw [f3] at c3
  rw [a1] at b1; rw [a2] at b2; rw [a3] at b3
  clear f1 f2 f3 a1 a2 a3
  simp only [Nat.zero_add]
  have no : ∀ (W : World) (p q : Nat) (v : Value), p ≠ q → (W.setCell ⟨g, p, none⟩ v).cell? ⟨g, q, none⟩ = W.cell? ⟨g, q, none⟩ := fun W p q v hpq => World.cell?_setCell_other _ _ _ _ (by intro e; injection e with _ e; exact hpq e)
  by_cases e : i = j
  · subst e
    have hs : (l.set i x).getD i dV = x := by simp [List.getD_eq_getElem?_getD, hi]
    rw [hs]
    refine ⟨?_, ?_, ?_⟩
    · rw [no _ _ _ _ (by omega), no _ _ _ _ (by omega)]
      exact World.cell?_setCell_same' _ _ _ (by rw [b1]; rfl)
    · rw [no _ _ _ _ (by omega)]
      exact World.cell?_setCell_same' _ _ _ (by rw [no _ _ _ _ (by omega), b2]; rfl)
    · exact World.cell?_setCell_same' _ _ _ (by rw [no _ _ _ _ (by omega), no _ _ _ _ (by omega), b3]; rfl)
  · have hs : (l.set i x).getD j dV = l.getD j dV := by simp [List.getD_eq_getElem?_getD, e]
    rw [hs]
    refine ⟨?_, ?_, ?_⟩
    · rw [no _ _ _ _ (by omega), no _ _ _ _ (by omega), no _ _ _ _ (by omega)]; exact c1
    · rw [no _ _ _ _ (by omega), no _ _ _ _ (by omega), no _ _ _ _ (by omega)]; exact c2
    · rw [no _ _ _ _ (by omega), no _ _ _ _ (by omega), no _ _ _ _ (by omega)]; exact c3
theorem ownFrozen {w : World} {B e g cap n k : Nat} {xs : List Value} (h : w.ownsRow B e k (.slice (some ⟨g, 0, none⟩) n cap) n xs) (j : Nat) : w.frozen? ⟨g, j, none⟩ = false := by
  rcases h.2 with ⟨hv, _⟩ | ⟨g', cap'', cur, hv, hB, hg, _⟩
  · cases hv
  · cases hv; unfold World.frozen?; rw [hg]; simp

set_option maxRecDepth 100000 in
set_option maxHeartbeats 2000000 in
theorem cell_destroy (c : Cel) (v : Value) (n : Nat) (w : World) (hv : IsVers w v c.l) (hl : c.l.length ≤ 65536) :
    Calls Tryd.prog 49 #[.agg #[.int .u64 c.last, v], .int .u64 n] w (CelErr (destroyE c n) w) := by
  have Hr : Hid (destroyE c n = if (findE c n).2 ≠ 0 then (c, (findE c n).2) else (⟨c.last, c.l.set (findE c n).1 ⟨n, 3, ByteArray.empty⟩⟩, 0)) := Lib.hid rfl
  generalize destroyE c n = r at Hr
  have Hkept := Lib.hid (fun (v : Value) (w : World) (h : IsVers w v c.l) => (cell_kept c v w h (by omega)))
  have Hfind := Lib.hid (fun (v : Value) (w : World) (h : IsVers w v c.l) => (cell_find c v n w h hl))
  have Hlt := Lib.hid (fun (h : (findE c n).2 = 0) => findE_lt h)
  generalize findE c n = p at Hr Hfind Hlt
  obtain ⟨i, e0⟩ := p
  obtain ⟨cl, L⟩ := c
  simp only at hv hl Hkept Hfind Hlt Hr ⊢
  have hv2 := hv
  obtain ⟨a, cap, rfl, hc⟩ := hv2
  clear hc
  have Hv := Lib.hid hv; clear hv
  go_enter Tryd.func49, Tryd.ntmps49
  go_upto_region 1 with fail
  refine wp_abs (F := Two w #[.int .u64 cl, .slice a L.length cap] #[.int .u64 0, .slice none 0 0]) (Two.of w _ _ _ _) ?_
  intro W T
  have q0 := T.c1 0
  have q1 := T.c1 1
  have T := Lib.hid T
  simp at q0 q1
  go_wp2_with fail
  refine (Hfind.out _ _ ?_).mono ?_
  · exact Hv.out.below T.out.b (Nat.le_refl _)
  rintro e w1 ⟨rfl, hb1⟩
  have T1 := Lib.hid (T.out.step hb1)
  clear q0 q1 hb1
  have q0 := T1.out.c1 0
  have q1 := T1.out.c1 1
  have f0 := T1.out.f1 0
  have f1 := T1.out.f1 1
  simp at q0 q1
  by_cases he : e0 = 0
  · have hE : ((e0 : Int) != 0) = false := by simp [he]
    have hi := Hlt.out he
    obtain rfl : r = (⟨cl, L.set i ⟨n, 3, ByteArray.empty⟩⟩, 0) := by rw [Hr.out, if_neg (by simp [he])]
    clear he
    go_wp2_with fail
    refine (Hkept.out _ _ ?_).mono ?_
    · exact Hv.out.below T1.out.b (Nat.le_refl _)
    rintro e w2 ⟨v1, rfl, hown, hb2⟩
    obtain ⟨g, c1, rfl⟩ : ∃ g c1, v1 = .slice (some ⟨g, 0, none⟩) L.length c1 := by
      rcases hown.2 with ⟨hv, hn⟩ | ⟨g', cap'', cur, hv, _⟩
      · simp only at hn; rw [hn] at hi; simp at hi
      · exact ⟨_, _, hv⟩
    have T2 := T1.out.step hb2
    have hsz1 := T1.out.sz
    have hgB : w1.heap.size ≤ g := ownAbove hown g rfl
    have q0 := T2.c1 0; have q1 := T2.c1 1
    have f0 := T2.f1 0; have f1 := T2.f1 1
    have z0 := T2.c2 0; have z1 := T2.c2 1; have g0 := T2.f2 0; have g1 := T2.f2 1
    simp at q0 q1 z0 z1
    obtain ⟨x1, x2, x3⟩ := flat_at L i hi
    have k1 := World.ownsRow.cellAt hown (i * 3) (by omega)
    have k2 := World.ownsRow.cellAt hown (i * 3 + 1) (by omega)
    have k3 := World.ownsRow.cellAt hown (i * 3 + 2) (by omega)
    rw [x1] at k1; rw [x2] at k2; rw [x3] at k3
    clear x1 x2 x3
    have y1 := ownFrozen hown (i * 3)
    have y2 := ownFrozen hown (i * 3 + 1)
    have y3 := ownFrozen hown (i * 3 + 2)
    have hne : ¬ g = w.heap.size := by omega
    have hne1 : ¬ g = w.heap.size + 1 := by omega
    have hne2 : ¬ w.heap.size = g := by omega
    have hne3 : ¬ w.heap.size + 1 = g := by omega
    have hi2 : (i : Int) < (L.length : Int) := by omega
    have Hown := Lib.hid hown; clear hown
    have T2 := Lib.hid T2; have Hb2 := Lib.hid hb2; clear hb2
    go_wp2_with fail
    refine bodyPost_ret (v := .tuple #[.agg #[.int .u64 cl, .slice (some ⟨g, 0, none⟩) L.length c1], .int .i64 0]) ?_ rfl ⟨.slice (some ⟨g, 0, none⟩) L.length c1, rfl, ?_, ?_, ?_⟩
    · simp [results, Tryd.results49, go_sem, z0, z1, g0, g1, hne, hne1, hne2, hne3]
    · have o3 := ownsRow_setCell_below (ownsRow_setCell_below Hown.out (a := ⟨w.heap.size, 0, none⟩) (by dsimp only; omega) (.int .u64 cl)) (a := ⟨w.heap.size, 1, none⟩) (by dsimp only; omega) (.slice (some ⟨g, 0, none⟩) L.length c1)
      refine ((ownSet3 o3 hi ⟨n, 3, ByteArray.empty⟩).setFar (p := ⟨w.heap.size + 1, 0, none⟩) ?_ _).setFar (p := ⟨w.heap.size + 1, 1, none⟩) ?_ _ <;> (intro k hk; cases hk; dsimp only; omega)
    · intro k hk; cases hk; dsimp only; omega
    · refine (((((((T2.out.b.setCell ?_ _).setCell ?_ _).setCell ?_ _).setCell ?_ _).setCell ?_ _).setCell ?_ _).setCell ?_ _) <;> dsimp only <;> omega
  · have hE : ((e0 : Int) != 0) = true := by simp [bne, he]
    have hE2 : ¬ (e0 : Int) = 0 := by omega
    obtain rfl : r = (⟨cl, L⟩, e0) := by rw [Hr.out, if_pos he]
    go_wp2_with fail
    refine (Hkept.out _ _ ?_).mono ?_
    · exact Hv.out.below T1.out.b (Nat.le_refl _)
    rintro e w2 ⟨v1, rfl, hown, hb2⟩
    obtain ⟨a1, c1, rfl⟩ := ownShape hown
    have T2 := T1.out.step hb2
    have z0 := T2.c2 0; have z1 := T2.c2 1; have g0 := T2.f2 0; have g1 := T2.f2 1
    simp at z0 z1
    have T2 := Lib.hid T2; have Hown := Lib.hid hown; have Hb2 := Lib.hid hb2; clear hown hb2
    go_wp2_with fail
    refine bodyPost_ret (v := .tuple #[.agg #[.int .u64 cl, .slice a1 L.length c1], .int .i64 e0]) ?_ rfl ⟨_, rfl, ?_⟩
    · simp [results, Tryd.results49, go_sem, z0, z1, g0, g1]
    · exact T1.out.celEnd Hb2.out (IsVers.own Hown.out) (ownAbove Hown.out) _ _
end Go.Proofs.YtbmmabpglkojkaaDoor
