/- Contracts: table.weight, table.outcome, table.New, made. -/
import Derived.Test.YtbmmabpglkojkaaDoorTab0
namespace Go.Proofs.YtbmmabpglkojkaaDoor
open Go Go.RowKit

set_option maxRecDepth 100000 in
set_option maxHeartbeats 2000000 in
theorem tab_weight (p : ByteArray) (c : Cel) (v : Value) (w : World) (hv : IsVers w v c.l) (hl : c.l.length ≤ 65536) (hs : ∀ i, i < c.l.length → (c.l.getD i dV).tx.size ≤ 140737488351232) (hz : sizeL c.l ≤ 140737488351232) (hp : p.size ≤ 140737488351232) :
    Calls Tryd.prog 32 #[.string p, .agg #[.int .u64 c.last, v]] w fun e w' => e = .returned (.int .i64 (weightE p c)) ∧ Below w.heap.size w w' := by
  have Hr : Hid (weightE p c = if c.l.length = 0 then 0 else p.size + sizeL c.l) := Lib.hid rfl
  generalize weightE p c = r at Hr
  have Hsize := Lib.hid (fun (v : Value) (w : World) (h : IsVers w v c.l) => (cell_size c v w h hl hs))
  generalize sizeL c.l = z at Hr Hsize hz
  clear hs
  obtain ⟨cl, L⟩ := c
  simp only at hv hl Hsize Hr ⊢
  have hv2 := hv
  obtain ⟨a, cap, rfl, hc⟩ := hv2
  clear hc
  have Hv := Lib.hid hv; clear hv
  by_cases h0 : L.length = 0
  · have hB : ((L.length : Int) == 0) = true := by simp [h0]
    obtain rfl : r = 0 := by rw [Hr.out, if_pos h0]
    have H0 := Lib.hid h0; clear h0
    go_enter Tryd.func32, Tryd.ntmps32
    go_wp2_with fail
    go_ret
    exact ⟨rfl, (Below.refl _ _).alloc (Nat.le_refl _) _⟩
  · have hB : ((L.length : Int) == 0) = false := by rw [beq_eq_false_iff_ne]; omega
    obtain rfl : r = p.size + z := by rw [Hr.out, if_neg h0]
    have H0 := Lib.hid h0; clear h0
    have hi : (p.size : Int) + (z : Int) ≤ 9223372036854775807 := by omega
    have hi0 : -9223372036854775808 ≤ (p.size : Int) + (z : Int) := by omega
    go_enter Tryd.func32, Tryd.ntmps32
    go_wp2_with fail
    refine (Hsize.out _ _ ?_).mono ?_
    · exact Hv.out.below ((Below.refl _ _).alloc (Nat.le_refl _) _) (Nat.le_refl _)
    rintro e w1 ⟨rfl, hb1⟩
    have Hb1 := Lib.hid hb1; clear hb1
    go_wp2_with fail
    go_ret
    exact ⟨ret_int (by push_cast; rfl), ((Below.refl _ _).alloc (Nat.le_refl _) _).trans (Hb1.out.mono (by simp))⟩

set_option maxRecDepth 100000 in
set_option maxHeartbeats 2000000 in
theorem tab_outcome (c : Cel) (v : Value) (x : Edt) (w : World) (hv : IsVers w v c.l) (hl : c.l.length ≤ 65536) (hlast : c.last < 18446744073709551616) (htx : x.text.size ≤ 9223372036854775807) :
    Calls Tryd.prog 36 #[.agg #[.int .u64 c.last, v], edtVal x] w (CelErr (outcomeE c x) w) := by
  have Hr : Hid (outcomeE c x = if x.kind = 1 then putE c x.any x.want x.text else if x.kind = 2 then deleteE c x.any x.want else destroyE c x.n) := Lib.hid rfl
  generalize outcomeE c x = r at Hr
  have Hput := Lib.hid (fun (v : Value) (w : World) (h : IsVers w v c.l) => (cell_put c v x.any x.want x.text w h hl hlast htx))
  have Hdel := Lib.hid (fun (v : Value) (w : World) (h : IsVers w v c.l) => (cell_delete c v x.any x.want w h hl hlast))
  have Hdes := Lib.hid (fun (v : Value) (w : World) (h : IsVers w v c.l) => (cell_destroy c v x.n w h hl))
  generalize putE c x.any x.want x.text = r1 at Hr Hput
  generalize deleteE c x.any x.want = r2 at Hr Hdel
  generalize destroyE c x.n = r3 at Hr Hdes
  obtain ⟨cl, L⟩ := c
  obtain ⟨kd, pth, any, want, n, tx⟩ := x
  simp only at hv hl hlast htx Hput Hdel Hdes Hr ⊢
  have hv2 := hv
  obtain ⟨a, cap, rfl, hc⟩ := hv2
  clear hc
  have Hv := Lib.hid hv; clear hv
  unfold edtVal
  go_enter Tryd.func36, Tryd.ntmps36
  go_upto_region 1 with fail
  refine wp_abs (F := fun W => W.heap.size = w.heap.size + 3 ∧ (∀ j, W.cell? ⟨w.heap.size, j, none⟩ = (#[Value.int .u64 cl, .slice a L.length cap])[j]?) ∧ (∀ j, W.cell? ⟨w.heap.size + 1, j, none⟩ = (#[Value.int .u8 kd, .string pth, .bool any, .int .u64 want, .int .u64 n, .string tx])[j]?) ∧ (∀ j, W.cell? ⟨w.heap.size + 2, j, none⟩ = (#[Value.int .u64 0, .slice none 0 0])[j]?) ∧ (∀ j, W.frozen? ⟨w.heap.size + 1, j, none⟩ = false) ∧ (∀ j, W.frozen? ⟨w.heap.size + 2, j, none⟩ = false) ∧ Below w.heap.size w W) (threeNew w _ _ _ _ _ _ rfl) ?_
  rintro W ⟨hsz, n0, n1, n2, fr1, fr, hb⟩
  have q0 := n0 0
  have q1 := n0 1
  have k0 := n1 0
  have k2 := n1 2
  have k3 := n1 3
  have k4 := n1 4
  have k5 := n1 5
  simp at q0 q1 k0 k2 k3 k4 k5
  have HvW : Hid (IsVers W (.slice a L.length cap) L) := Lib.hid (Hv.out.below hb (Nat.le_refl _))
  have Hsz := Lib.hid hsz; have N2 := Lib.hid n2; have Fr := Lib.hid fr; have Hb := Lib.hid hb; clear hsz n0 n1 n2 fr1 fr hb
  have Hend : Hid (∀ (r : Cel × Nat) (w2 : World) (v1 : Value), IsVers w2 v1 r.1.l → (∀ k, v1.ownBlock = some k → W.heap.size ≤ k) → Below W.heap.size W w2 → ∀ u1 u2,
      IsVers ((w2.setCell ⟨w.heap.size + 1 + 1, 0, none⟩ u1).setCell ⟨w.heap.size + 1 + 1, 1, none⟩ u2) v1 r.1.l ∧ (∀ k, v1.ownBlock = some k → w.heap.size ≤ k) ∧ Below w.heap.size w ((w2.setCell ⟨w.heap.size + 1 + 1, 0, none⟩ u1).setCell ⟨w.heap.size + 1 + 1, 1, none⟩ u2)) := Lib.hid (by
    intro r w2 v1 hv1 hf hb2 u1 u2
    have hsz := Hsz.out
    refine ⟨(hv1.setFar ?_ _).setFar ?_ _, fun k hk => Nat.le_trans (by omega) (hf k hk), (((Hb.out.trans (hb2.mono (by omega))).setCell ?_ _).setCell ?_ _)⟩
    · intro k hk; have := hf k hk; dsimp only; omega
    · intro k hk; have := hf k hk; dsimp only; omega
    · dsimp only; omega
    · dsimp only; omega)
  by_cases h1 : kd = 1
  · have hB1 : ((kd : Int) == 1) = true := by simp [h1]
    obtain rfl : r = r1 := by rw [Hr.out, if_pos h1]
    clear h1
    go_wp2_with fail
    refine (Hput.out _ _ ?_).mono ?_
    · exact HvW.out
    rintro e w2 ⟨v1, rfl, hv1, hf1, hb2⟩
    have hv1' := hv1
    obtain ⟨a1, c1, rfl, hc1⟩ := hv1'
    clear hc1
    have hsz := Hsz.out
    have z0 : w2.cell? ⟨w.heap.size + 1 + 1, 0, none⟩ = some (.int .u64 0) := (hb2.cell (by dsimp only; omega)).trans (N2.out 0)
    have z1 : w2.cell? ⟨w.heap.size + 1 + 1, 1, none⟩ = some (.slice none 0 0) := (hb2.cell (by dsimp only; omega)).trans (N2.out 1)
    have g0 : w2.frozen? ⟨w.heap.size + 1 + 1, 0, none⟩ = false := (hb2.frozen (by dsimp only; omega)).trans (Fr.out 0)
    have g1 : w2.frozen? ⟨w.heap.size + 1 + 1, 1, none⟩ = false := (hb2.frozen (by dsimp only; omega)).trans (Fr.out 1)
    have Hv1 := Lib.hid hv1; have Hf1 := Lib.hid hf1; have Hb2 := Lib.hid hb2; clear hv1 hf1 hb2 hsz
    go_wp2_with fail
    refine bodyPost_ret (v := .tuple #[.agg #[.int .u64 r.1.last, .slice a1 r.1.l.length c1], .int .i64 r.2]) ?_ rfl ⟨_, rfl, ?_⟩
    · simp [results, Tryd.results36, go_sem, z0, z1, g0, g1]
    · exact Hend.out _ _ _ Hv1.out Hf1.out Hb2.out _ _
  · have hB1 : ((kd : Int) == 1) = false := by rw [beq_eq_false_iff_ne]; omega
    by_cases h2 : kd = 2
    · have hB2 : ((kd : Int) == 2) = true := by simp [h2]
      obtain rfl : r = r2 := by rw [Hr.out, if_neg h1, if_pos h2]
      clear h1 h2
      go_wp2_with fail
      refine (Hdel.out _ _ ?_).mono ?_
      · exact HvW.out
      rintro e w2 ⟨v1, rfl, hv1, hf1, hb2⟩
      have hv1' := hv1
      obtain ⟨a1, c1, rfl, hc1⟩ := hv1'
      clear hc1
      have hsz := Hsz.out
      have z0 : w2.cell? ⟨w.heap.size + 1 + 1, 0, none⟩ = some (.int .u64 0) := (hb2.cell (by dsimp only; omega)).trans (N2.out 0)
      have z1 : w2.cell? ⟨w.heap.size + 1 + 1, 1, none⟩ = some (.slice none 0 0) := (hb2.cell (by dsimp only; omega)).trans (N2.out 1)
      have g0 : w2.frozen? ⟨w.heap.size + 1 + 1, 0, none⟩ = false := (hb2.frozen (by dsimp only; omega)).trans (Fr.out 0)
      have g1 : w2.frozen? ⟨w.heap.size + 1 + 1, 1, none⟩ = false := (hb2.frozen (by dsimp only; omega)).trans (Fr.out 1)
      have Hv1 := Lib.hid hv1; have Hf1 := Lib.hid hf1; have Hb2 := Lib.hid hb2; clear hv1 hf1 hb2 hsz
      go_wp2_with fail
      refine bodyPost_ret (v := .tuple #[.agg #[.int .u64 r.1.last, .slice a1 r.1.l.length c1], .int .i64 r.2]) ?_ rfl ⟨_, rfl, ?_⟩
      · simp [results, Tryd.results36, go_sem, z0, z1, g0, g1]
      · exact Hend.out _ _ _ Hv1.out Hf1.out Hb2.out _ _
    · have hB2 : ((kd : Int) == 2) = false := by rw [beq_eq_false_iff_ne]; omega
      obtain rfl : r = r3 := by rw [Hr.out, if_neg h1, if_neg h2]
      clear h1 h2
      go_wp2_with fail
      refine (Hdes.out _ _ ?_).mono ?_
      · exact HvW.out
      rintro e w2 ⟨v1, rfl, hv1, hf1, hb2⟩
      have hv1' := hv1
      obtain ⟨a1, c1, rfl, hc1⟩ := hv1'
      clear hc1
      have hsz := Hsz.out
      have z0 : w2.cell? ⟨w.heap.size + 1 + 1, 0, none⟩ = some (.int .u64 0) := (hb2.cell (by dsimp only; omega)).trans (N2.out 0)
      have z1 : w2.cell? ⟨w.heap.size + 1 + 1, 1, none⟩ = some (.slice none 0 0) := (hb2.cell (by dsimp only; omega)).trans (N2.out 1)
      have g0 : w2.frozen? ⟨w.heap.size + 1 + 1, 0, none⟩ = false := (hb2.frozen (by dsimp only; omega)).trans (Fr.out 0)
      have g1 : w2.frozen? ⟨w.heap.size + 1 + 1, 1, none⟩ = false := (hb2.frozen (by dsimp only; omega)).trans (Fr.out 1)
      have Hv1 := Lib.hid hv1; have Hf1 := Lib.hid hf1; have Hb2 := Lib.hid hb2; clear hv1 hf1 hb2 hsz
      go_wp2_with fail
      refine bodyPost_ret (v := .tuple #[.agg #[.int .u64 r.1.last, .slice a1 r.1.l.length c1], .int .i64 r.2]) ?_ rfl ⟨_, rfl, ?_⟩
      · simp [results, Tryd.results36, go_sem, z0, z1, g0, g1]
      · exact Hend.out _ _ _ Hv1.out Hf1.out Hb2.out _ _
end Go.Proofs.YtbmmabpglkojkaaDoor
