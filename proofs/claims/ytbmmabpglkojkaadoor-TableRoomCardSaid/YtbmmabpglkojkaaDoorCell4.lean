/- Contract: cell.comes. -/
import Derived.Test.YtbmmabpglkojkaaDoorCell3
import Derived.Deep.RegionHeld3
import Derived.Deep.AppendLies
import Derived.Deep.RegionWith
import Derived.Deep.DeepCutAuto
namespace Go.Proofs.YtbmmabpglkojkaaDoor
open Go Go.RowKit

/-- The world at hand becomes a letter: what is kept of it is F. -/
theorem wp_abs {P : Program} {c : Code} {Q : Exit → Act → World → Prop} {a : Act} {W : World} {F : World → Prop} (h : F W) (k : ∀ W', F W' → c.wp P Q a W') : c.wp P Q a W := k W h

theorem threeNew (w : World) (C1 C2 C3 : Array Value) (t1 t2 t3 : TypeId) {W : World} (hW : W = ((w.alloc (.cells C1 t1)).alloc (.cells C2 t2)).alloc (.cells C3 t3)) :
    W.heap.size = w.heap.size + 3 ∧ (∀ j, W.cell? ⟨w.heap.size, j, none⟩ = C1[j]?) ∧ (∀ j, W.cell? ⟨w.heap.size + 1, j, none⟩ = C2[j]?) ∧ (∀ j, W.cell? ⟨w.heap.size + 2, j, none⟩ = C3[j]?) ∧ (∀ j, W.frozen? ⟨w.heap.size + 1, j, none⟩ = false) ∧ (∀ j, W.frozen? ⟨w.heap.size + 2, j, none⟩ = false) ∧ Below w.heap.size w W := by
  subst hW
  have b1 : (((w.alloc (.cells C1 t1)).alloc (.cells C2 t2)).alloc (.cells C3 t3)).heap[w.heap.size]? = some (.cells C1 t1 (0, 0)) := by
    rw [Below.heap_alloc _ _ _ (by simp; omega), Below.heap_alloc _ _ _ (by simp)]; exact (MapKept.heap_alloc w _).1
  have b2 : (((w.alloc (.cells C1 t1)).alloc (.cells C2 t2)).alloc (.cells C3 t3)).heap[w.heap.size + 1]? = some (.cells C2 t2 (0, 0)) := by
    rw [Below.heap_alloc _ _ _ (by simp)]
    have := (MapKept.heap_alloc (w.alloc (.cells C1 t1)) (.cells C2 t2)).1
    simpa using this
  have b3 : (((w.alloc (.cells C1 t1)).alloc (.cells C2 t2)).alloc (.cells C3 t3)).heap[w.heap.size + 2]? = some (.cells C3 t3 (0, 0)) := by
    have := (MapKept.heap_alloc ((w.alloc (.cells C1 t1)).alloc (.cells C2 t2)) (.cells C3 t3)).1
    simpa using this
  refine ⟨by simp, fun j => ?_, fun j => ?_, fun j => ?_, fun j => ?_, fun j => ?_, (((Below.refl _ _).alloc (Nat.le_refl _) _).alloc (by simp) _).alloc (by simp; omega) _⟩
  · unfold World.cell?; rw [b1]; rfl
  · unfold World.cell?; rw [b2]; rfl
  · unfold World.cell?; rw [b3]; rfl
  · unfold World.frozen?; rw [b2]; simp
  · unfold World.frozen?; rw [b3]; simp

theorem oneSet {w W2 : World} {v1 : Value} {s : Int} {tx : ByteArray} {r0 : Int} (hb : Below w.heap.size w W2) (q1 : W2.cell? ⟨w.heap.size, 1, none⟩ = some v1) (k1 : ∀ j, W2.cell? ⟨w.heap.size + 1, j, none⟩ = (#[Value.int .u64 r0, .int .u8 s, .string tx])[j]?)
    (k2 : ∀ j, W2.cell? ⟨w.heap.size + 2, j, none⟩ = (#[Value.int .u64 0, .slice none 0 0])[j]?) (f2 : ∀ j, W2.frozen? ⟨w.heap.size + 2, j, none⟩ = false) {u : Int} :
    let W := W2.setCell ⟨w.heap.size + 1, 0, none⟩ (.int .u64 u)
    W.heap.size = W2.heap.size ∧ W.cell? ⟨w.heap.size, 1, none⟩ = some v1 ∧ W.cell? ⟨w.heap.size + 1, 0, none⟩ = some (.int .u64 u) ∧ W.cell? ⟨w.heap.size + 1, 1, none⟩ = some (.int .u8 s) ∧ W.cell? ⟨w.heap.size + 1, 2, none⟩ = some (.string tx) ∧ (∀ j, W.cell? ⟨w.heap.size + 2, j, none⟩ = (#[Value.int .u64 0, .slice none 0 0])[j]?) ∧ (∀ j, W.frozen? ⟨w.heap.size + 2, j, none⟩ = false) ∧ Below w.heap.size w W := by
  have k0 := k1 0
  have k11 := k1 1
  have k12 := k1 2
  refine ⟨by simp, ?_, ?_, ?_, ?_, fun j => ?_, fun j => ?_, hb.setCell (by dsimp only; omega) _⟩
  · rw [World.cell?_setCell_far _ _ _ _ (by simp)]; exact q1
  · exact World.cell?_setCell_same' _ _ _ (by rw [k0]; rfl)
  · refine (World.cell?_setCell_other _ _ _ _ ?_).trans k11; simp
  · refine (World.cell?_setCell_other _ _ _ _ ?_).trans k12; simp
  · rw [World.cell?_setCell_far _ _ _ _ (by simp)]; exact k2 j
  · rw [World.frozen?_setCell]; exact f2 j

theorem ownCap {w : World} {B e n k g cap : Nat} {xs : List Value} (h : w.ownsRow B e k (.slice (some ⟨g, 0, none⟩) n cap) n xs) : n ≤ cap := by
  rcases h.2 with ⟨hv, _⟩ | ⟨g', cap', cur, hv, hB, hg, hn, hcap, hsz, htake⟩
  · cases hv
  · cases hv; exact hn

/-- What a slice of an own row reads as. -/
theorem IsVers.ownDrop {w : World} {B e g cap : Nat} {l : List Ver} (h : w.ownsRow B e 3 (.slice (some ⟨g, 0, none⟩) l.length cap) l.length (flat l)) (d cap' : Nat) : IsVers w (.slice (some ⟨g, d * 3, none⟩) (l.drop d).length cap') (l.drop d) := by
  have hg : g < w.heap.size := by
    rcases h.2 with ⟨hv, _⟩ | ⟨g', cap'', cur, hv, hB, hg, _⟩
    · cases hv
    · cases hv; exact lt_of_block hg
  refine ⟨_, _, rfl, Or.inr ⟨g, d * 3, rfl, hg, fun i hi => ?_⟩⟩
  rw [List.length_drop] at hi
  have hgd : (l.drop d).getD i dV = l.getD (d + i) dV := by simp [List.getD_eq_getElem?_getD]
  rw [hgd]
  obtain ⟨f1, f2, f3⟩ := flat_at l (d + i) (by omega)
  have c1 := World.ownsRow.cellAt h ((d + i) * 3) (by omega)
  have c2 := World.ownsRow.cellAt h ((d + i) * 3 + 1) (by omega)
  have c3 := World.ownsRow.cellAt h ((d + i) * 3 + 2) (by omega)
  rw [f1] at c1; rw [f2] at c2; rw [f3] at c3
  rw [Nat.add_mul] at c1 c2 c3
  exact ⟨c1, c2, c3⟩

theorem IsVers.setFar {w : World} {v : Value} {l : List Ver} (h : IsVers w v l) {p : Addr} (hp : ∀ k, v.ownBlock = some k → k ≠ p.block) (u : Value) : IsVers (w.setCell p u) v l := by
  obtain ⟨a, cap, rfl, h⟩ := h
  refine ⟨a, cap, rfl, ?_⟩
  rcases h with h | ⟨b, off, rfl, hlt, hc⟩
  · exact Or.inl h
  · have hb := hp b rfl
    refine Or.inr ⟨b, off, rfl, by simpa using hlt, fun i hi => ?_⟩
    obtain ⟨h1, h2, h3⟩ := hc i hi
    exact ⟨(World.cell?_setCell_far _ _ _ _ (fun e => hb e.symm)).trans h1, (World.cell?_setCell_far _ _ _ _ (fun e => hb e.symm)).trans h2, (World.cell?_setCell_far _ _ _ _ (fun e => hb e.symm)).trans h3⟩

theorem neNat (a b : Nat) : ((a : Int) != (b : Int)) = !decide (a = b) := by
  by_cases h : a = b
  · subst h; simp
  · have : ¬ (a : Int) = b := by omega
    simp [bne, h]
    exact this

theorem ownDropSet {wc : World} {B e b g cap : Nat} {l : List Ver} (h : wc.ownsRow B e 3 (.slice (some ⟨g, 0, none⟩) l.length cap) l.length (flat l)) (hb : b + 2 < B) (u1 u2 : Value) (d cap' : Nat) :
    IsVers ((wc.setCell ⟨b + 1 + 1, 0, none⟩ u1).setCell ⟨b + 1 + 1, 1, none⟩ u2).drew (.slice (some ⟨g, d * 3, none⟩) (l.drop d).length cap') (l.drop d) :=
  (IsVers.ownDrop (ownsRow_setCell_below (ownsRow_setCell_below h (by dsimp only; omega) u1) (by dsimp only; omega) u2) d cap').below (Below.drew (Below.refl _ _)) (Nat.le_refl _)

def putC (c : Cel) (x : Ver) : Cel := ⟨c.last + 1, (c.l ++ [(⟨c.last + 1, x.st, x.tx⟩ : Ver)]).drop (c.l.length + 1 - 8)⟩
def stale (c : Cel) (any : Bool) (want : Nat) : Bool := !any && !decide (want = nowC c)
def comesC (c : Cel) (any : Bool) (want : Nat) (x : Ver) : Cel × Nat :=
  if stale c any want then (c, 170) else if c.last + 1 = 18446744073709551616 then (c, 4) else (putC c x, 0)
/-- What a call leaves that answers a cell and an error. -/
def CelErr (r : Cel × Nat) (w : World) (e : Ending) (w' : World) : Prop :=
  ∃ v, e = .returned (.tuple #[.agg #[.int .u64 r.1.last, v], .int .i64 r.2]) ∧ IsVers w' v r.1.l ∧ (∀ k, v.ownBlock = some k → w.heap.size ≤ k) ∧ Below w.heap.size w w'

set_option maxRecDepth 100000 in
set_option maxHeartbeats 2000000 in
theorem cell_comes (c : Cel) (v : Value) (x : Ver) (any : Bool) (want : Nat) (w : World) (hv : IsVers w v c.l) (hl : c.l.length ≤ 8) (hlast : c.last < 18446744073709551616) :
    Calls Tryd.prog 63 #[.agg #[.int .u64 c.last, v], .bool any, .int .u64 want, verVal x] w (CelErr (comesC c any want x) w) := by
  have ht : stale c any want = (!any && !decide (want = nowC c)) := rfl
  have Hr : Hid (comesC c any want x = if stale c any want then (c, 170) else if c.last + 1 = 18446744073709551616 then (c, 4) else (putC c x, 0)) := Lib.hid rfl
  generalize comesC c any want x = r at Hr
  have Hp : Hid (putC c x = ⟨c.last + 1, (c.l ++ [(⟨c.last + 1, x.st, x.tx⟩ : Ver)]).drop (c.l.length + 1 - 8)⟩) := Lib.hid rfl
  generalize putC c x = pc at Hr Hp
  generalize stale c any want = t at ht Hr
  obtain ⟨n, hn⟩ : ∃ n, n = nowC c := ⟨_, rfl⟩
  rw [← hn] at ht
  have Hnow := Lib.hid (fun (v : Value) (w : World) (h : IsVers w v c.l) => (cell_now c v w h (by omega))); rw [← hn] at Hnow
  have Hkept := Lib.hid (fun (v : Value) (w : World) (h : IsVers w v c.l) => (cell_kept c v w h (by omega)))
  clear hn
  obtain ⟨cl, L⟩ := c
  simp only at hv hl hlast Hnow Hkept Hr Hp ⊢
  have hv2 := hv
  obtain ⟨a, cap, rfl, hc⟩ := hv2
  clear hc
  have Hv := Lib.hid hv; clear hv
  have Ht := Lib.hid ht; clear ht
  unfold verVal
  go_enter Tryd.func63, Tryd.ntmps63
  go_upto_region 1 with fail
  refine wp_abs (F := fun W => W.heap.size = w.heap.size + 3 ∧ (∀ j, W.cell? ⟨w.heap.size, j, none⟩ = (#[Value.int .u64 cl, .slice a L.length cap])[j]?) ∧ (∀ j, W.cell? ⟨w.heap.size + 1, j, none⟩ = (#[Value.int .u64 x.n, .int .u8 x.st, .string x.tx])[j]?) ∧ (∀ j, W.cell? ⟨w.heap.size + 2, j, none⟩ = (#[Value.int .u64 0, .slice none 0 0])[j]?) ∧ (∀ j, W.frozen? ⟨w.heap.size + 1, j, none⟩ = false) ∧ (∀ j, W.frozen? ⟨w.heap.size + 2, j, none⟩ = false) ∧ Below w.heap.size w W) (threeNew w _ _ _ _ _ _ rfl) ?_
  rintro W ⟨hsz, n0, n1, n2, fr1, fr, hb⟩
  have q0 : W.cell? ⟨w.heap.size, 0, none⟩ = some (.int .u64 cl) := n0 0
  have q1 : W.cell? ⟨w.heap.size, 1, none⟩ = some (.slice a L.length cap) := n0 1
  have Hsz := Lib.hid hsz; have N0 := Lib.hid n0; have N1 := Lib.hid n1; have N2 := Lib.hid n2; have Fr1 := Lib.hid fr1; have Fr := Lib.hid fr; have Hb := Lib.hid hb; clear hsz n0 n1 n2 fr1 fr hb
  have HvW : Hid (IsVers W (.slice a L.length cap) L) := Lib.hid (Hv.out.below Hb.out (Nat.le_refl _))
  go_cut [11] (fun s11 wx => s11 = .bool t ∧ Hid (Below W.heap.size W wx))
  case first =>
    cases any with
    | true =>
      go_wp2_with fail
      go_meet
      case rel => exact ⟨by rw [Ht.out]; rfl, Lib.hid (Below.refl _ _)⟩
    | false =>
      go_wp2_with fail
      refine (Hnow.out _ _ ?_).mono ?_
      · exact HvW.out.below (Below.refl _ _) (Nat.le_refl _)
      rintro e w1 ⟨rfl, hb1⟩
      have Hb1 := Lib.hid hb1; clear hb1
      go_wp2_with fail
      go_meet
      case rel =>
        refine ⟨?_, Lib.hid Hb1.out⟩
        rw [Ht.out]
        simp only [Bool.not_false, Bool.true_and]
        exact congrArg _ (neNat _ _)
  case rest =>
    obtain ⟨rfl, HX⟩ := hcut
    obtain ⟨W2, hW2⟩ : ∃ W2, W2 = wc := ⟨_, rfl⟩
    rw [← hW2] at HX ⊢
    clear hW2
    have HB2 : Hid (Below w.heap.size w W2) := Lib.hid (Hb.out.trans (HX.out.mono Hb.out.size))
    have Hv2 : Hid (IsVers W2 (.slice a L.length cap) L) := Lib.hid (Hv.out.below HB2.out (Nat.le_refl _))
    have K0 : Hid (∀ j, W2.cell? ⟨w.heap.size, j, none⟩ = (#[Value.int .u64 cl, .slice a L.length cap])[j]?) := Lib.hid (fun j => (HX.out.cell (by show _ < _; rw [Hsz.out]; simp)).trans (N0.out j))
    have K1 : Hid (∀ j, W2.cell? ⟨w.heap.size + 1, j, none⟩ = (#[Value.int .u64 x.n, .int .u8 x.st, .string x.tx])[j]?) := Lib.hid (fun j => (HX.out.cell (by show _ < _; rw [Hsz.out]; simp)).trans (N1.out j))
    have K2 : Hid (∀ j, W2.cell? ⟨w.heap.size + 2, j, none⟩ = (#[Value.int .u64 0, .slice none 0 0])[j]?) := Lib.hid (fun j => (HX.out.cell (by show _ < _; rw [Hsz.out]; simp)).trans (N2.out j))
    have F1 : Hid (∀ j, W2.frozen? ⟨w.heap.size + 1, j, none⟩ = false) := Lib.hid (fun j => (HX.out.frozen (by show _ < _; rw [Hsz.out]; simp)).trans (Fr1.out j))
    have F2 : Hid (∀ j, W2.frozen? ⟨w.heap.size + 2, j, none⟩ = false) := Lib.hid (fun j => (HX.out.frozen (by show _ < _; rw [Hsz.out]; simp)).trans (Fr.out j))
    have HZ : Hid (w.heap.size + 2 < W2.heap.size) := Lib.hid (by have := HX.out.size; have := Hsz.out; omega)
    clear q0 q1 N0 N1 N2 Fr Fr1 HvW HX Hb
    have q0 : W2.cell? ⟨w.heap.size, 0, none⟩ = some (.int .u64 cl) := K0.out 0
    have q1 : W2.cell? ⟨w.heap.size, 1, none⟩ = some (.slice a L.length cap) := K0.out 1
    cases t with
    | true =>
      have z0 : W2.cell? ⟨w.heap.size + 1 + 1, 0, none⟩ = some (.int .u64 0) := K2.out 0
      have z1 : W2.cell? ⟨w.heap.size + 1 + 1, 1, none⟩ = some (.slice none 0 0) := K2.out 1
      have g0 : W2.frozen? ⟨w.heap.size + 1 + 1, 0, none⟩ = false := F2.out 0
      have g1 : W2.frozen? ⟨w.heap.size + 1 + 1, 1, none⟩ = false := F2.out 1
      obtain rfl : r = (⟨cl, L⟩, 170) := by rw [Hr.out]; rfl
      go_wp2_with fail
      refine (Hkept.out _ _ ?_).mono ?_
      · exact Hv2.out
      rintro e w1 ⟨v1, rfl, hown, hb1⟩
      obtain ⟨a1, c1, rfl⟩ := ownShape hown
      have HZ2 := HZ.out
      replace z0 := (hb1.cell (p := ⟨w.heap.size + 1 + 1, 0, none⟩) (by show _ < _; omega)).trans z0
      replace z1 := (hb1.cell (p := ⟨w.heap.size + 1 + 1, 1, none⟩) (by show _ < _; omega)).trans z1
      replace g0 := (hb1.frozen (p := ⟨w.heap.size + 1 + 1, 0, none⟩) (by show _ < _; omega)).trans g0
      replace g1 := (hb1.frozen (p := ⟨w.heap.size + 1 + 1, 1, none⟩) (by show _ < _; omega)).trans g1
      have Hown := Lib.hid hown; have Hb1 := Lib.hid hb1; clear hown hb1
      go_wp2_with fail
      refine bodyPost_ret (v := .tuple #[.agg #[.int .u64 cl, .slice a1 L.length c1], .int .i64 170]) ?_ rfl ⟨_, rfl, ?_, fun k hk => Nat.le_trans (by omega) (ownAbove Hown.out k hk), ?_⟩
      · simp [results, Tryd.results63, go_sem, z0, z1, g0, g1]
      · exact IsVers.own (B := w.heap.size) (ownBase (ownsRow_setCell_below (ownsRow_setCell_below Hown.out (by show _ < _; omega) _) (by show _ < _; omega) _) (by omega))
      · refine ((HB2.out.trans (Hb1.out.mono ?_)).setCell ?_ _).setCell ?_ _ <;> first | omega | (show w.heap.size ≤ w.heap.size + 1 + 1; omega)
    | false =>
      by_cases hfull : cl + 1 = 18446744073709551616
      · have hw1 : IntKind.u64.wrap ((cl : Int) + 1) = 0 := by rw [show ((cl : Int) + 1) = 18446744073709551616 by omega]; decide
        have z0 : W2.cell? ⟨w.heap.size + 1 + 1, 0, none⟩ = some (.int .u64 0) := K2.out 0
        have z1 : W2.cell? ⟨w.heap.size + 1 + 1, 1, none⟩ = some (.slice none 0 0) := K2.out 1
        have g0 : W2.frozen? ⟨w.heap.size + 1 + 1, 0, none⟩ = false := F2.out 0
        have g1 : W2.frozen? ⟨w.heap.size + 1 + 1, 1, none⟩ = false := F2.out 1
        obtain rfl : r = (⟨cl, L⟩, 4) := by rw [Hr.out, if_neg (by decide), if_pos hfull]
        go_wp2_with fail
        refine (Hkept.out _ _ ?_).mono ?_
        · exact Hv2.out
        rintro e w1 ⟨v1, rfl, hown, hb1⟩
        obtain ⟨a1, c1, rfl⟩ := ownShape hown
        have HZ2 := HZ.out
        replace z0 := (hb1.cell (p := ⟨w.heap.size + 1 + 1, 0, none⟩) (by show _ < _; omega)).trans z0
        replace z1 := (hb1.cell (p := ⟨w.heap.size + 1 + 1, 1, none⟩) (by show _ < _; omega)).trans z1
        replace g0 := (hb1.frozen (p := ⟨w.heap.size + 1 + 1, 0, none⟩) (by show _ < _; omega)).trans g0
        replace g1 := (hb1.frozen (p := ⟨w.heap.size + 1 + 1, 1, none⟩) (by show _ < _; omega)).trans g1
        have Hown := Lib.hid hown; have Hb1 := Lib.hid hb1; clear hown hb1
        go_wp2_with fail
        refine bodyPost_ret (v := .tuple #[.agg #[.int .u64 cl, .slice a1 L.length c1], .int .i64 4]) ?_ rfl ⟨_, rfl, ?_, fun k hk => Nat.le_trans (by omega) (ownAbove Hown.out k hk), ?_⟩
        · simp [results, Tryd.results63, go_sem, z0, z1, g0, g1]
        · exact IsVers.own (B := w.heap.size) (ownBase (ownsRow_setCell_below (ownsRow_setCell_below Hown.out (by show _ < _; omega) _) (by show _ < _; omega) _) (by omega))
        · refine ((HB2.out.trans (Hb1.out.mono ?_)).setCell ?_ _).setCell ?_ _ <;> first | omega | (show w.heap.size ≤ w.heap.size + 1 + 1; omega)
      · have hlast2 : cl + 1 < 18446744073709551616 := by omega
        have hne : (((cl : Int) + 1) == 0) = false := by rw [beq_eq_false_iff_ne]; omega
        have y0 : W2.cell? ⟨w.heap.size + 1, 0, none⟩ = some (.int .u64 x.n) := K1.out 0
        have y1 : W2.frozen? ⟨w.heap.size + 1, 0, none⟩ = false := F1.out 0
        go_upto_region 6 with fail
        refine wp_abs (F := fun W => W.heap.size = W2.heap.size ∧ W.cell? ⟨w.heap.size, 1, none⟩ = some (.slice a L.length cap) ∧ W.cell? ⟨w.heap.size + 1, 0, none⟩ = some (.int .u64 (cl + 1)) ∧ W.cell? ⟨w.heap.size + 1, 1, none⟩ = some (.int .u8 x.st) ∧ W.cell? ⟨w.heap.size + 1, 2, none⟩ = some (.string x.tx) ∧ (∀ j, W.cell? ⟨w.heap.size + 2, j, none⟩ = (#[Value.int .u64 0, .slice none 0 0])[j]?) ∧ (∀ j, W.frozen? ⟨w.heap.size + 2, j, none⟩ = false) ∧ Below w.heap.size w W) (oneSet HB2.out q1 K1.out K2.out F2.out) ?_
        rintro W3 ⟨hsz, q3, x0, x1, x2, n2, fr, hb⟩
        clear q0 q1 y0 y1
        have HZ3 : Hid (w.heap.size + 2 < W3.heap.size) := Lib.hid (by rw [hsz]; exact HZ.out)
        have N2 := Lib.hid n2; have Fr := Lib.hid fr; have Hb := Lib.hid hb; clear hsz n2 fr hb
        have HvW : Hid (IsVers W3 (.slice a L.length cap) L) := Lib.hid (Hv.out.below Hb.out (Nat.le_refl _))
        have keepS : Hid (∀ w', Below W3.heap.size W3 w' → w'.cell? ⟨w.heap.size, 1, none⟩ = some (.slice a L.length cap) ∧ w'.cell? ⟨w.heap.size + 1, 0, none⟩ = some (.int .u64 (cl + 1)) ∧ w'.cell? ⟨w.heap.size + 1, 1, none⟩ = some (.int .u8 x.st) ∧ w'.cell? ⟨w.heap.size + 1, 2, none⟩ = some (.string x.tx) ∧ Hid (Below W3.heap.size W3 w')) := Lib.hid (fun w' h => by
          have hz := HZ3.out
          refine ⟨(h.cell (p := ⟨w.heap.size, 1, none⟩) ?_).trans q3, (h.cell (p := ⟨w.heap.size + 1, 0, none⟩) ?_).trans x0, (h.cell (p := ⟨w.heap.size + 1, 1, none⟩) ?_).trans x1, (h.cell (p := ⟨w.heap.size + 1, 2, none⟩) ?_).trans x2, Lib.hid h⟩ <;> (dsimp only; omega))
        go_cut [10] (fun s10 wx => ∃ a1 c1, s10 = .slice a1 (L.length + 1) c1 ∧ Hid (wx.ownsRow W3.heap.size 53 3 s10 (L.length + 1) (flat L ++ verCells ⟨cl + 1, x.st, x.tx⟩) ∧ Below W3.heap.size W3 wx))
        case first =>
          have keepB : Hid (∀ w' : World, (w'.cell? ⟨w.heap.size, 1, none⟩ = some (.slice a L.length cap) ∧ w'.cell? ⟨w.heap.size + 1, 0, none⟩ = some (.int .u64 (cl + 1)) ∧ w'.cell? ⟨w.heap.size + 1, 1, none⟩ = some (.int .u8 x.st) ∧ w'.cell? ⟨w.heap.size + 1, 2, none⟩ = some (.string x.tx) ∧ Hid (Below W3.heap.size W3 w')) → Below W3.heap.size W3 w') := Lib.hid (fun w' h => h.2.2.2.2.out)
          obtain ⟨i0, hi, hz0, hz1, hz2⟩ := info_parts infoVer
          have Hi := Lib.hid hi; have Hz0 := Lib.hid hz0; have Hz1 := Lib.hid hz1; have Hz2 := Lib.hid hz2; clear hi hz0 hz1 hz2
          have HLT : Hid (∀ o, W3.heap.size < (W3.alloc o).heap.size) := Lib.hid (fun o => by simp)
          have HLE : Hid (∀ o, W3.heap.size ≤ (W3.alloc o).heap.size) := Lib.hid (fun o => by simp)
          go_region_held3 (fun w' => w'.cell? ⟨w.heap.size, 1, none⟩ = some (.slice a L.length cap) ∧ w'.cell? ⟨w.heap.size + 1, 0, none⟩ = some (.int .u64 (cl + 1)) ∧ w'.cell? ⟨w.heap.size + 1, 1, none⟩ = some (.int .u8 x.st) ∧ w'.cell? ⟨w.heap.size + 1, 2, none⟩ = some (.string x.tx) ∧ Hid (Below W3.heap.size W3 w'))
            (first
              | exact keepS.out _ HBd.out
              | exact keepS.out _ HBc.out
              | exact keepS.out _ (HBc.out.alloc HBc.out.size _)
              | exact keepS.out _ (((Below.refl _ _).drew).alloc (Nat.le_refl _) _)
              | exact keepS.out _ (Below.drew (Below.refl _ _)))
            (first
              | (go_at_call 40; refine (clone_vers L _ _ (HvW.out.below (keepB.out _ (by assumption)) (Nat.le_refl _)) (by omega)).mono ?_; rintro e w1 ⟨v1, rfl, hown, hb⟩; obtain ⟨a1, c1, rfl⟩ := ownShape hown; have HBc := Lib.hid ((keepB.out _ (by assumption)).trans (hb.mono (keepB.out _ (by assumption)).size)); have Hown := Lib.hid hown; have Hc := Lib.hid hb; clear hown hb)
              | (refine step_append_lies (hgd := rfl) (s := .tmp 35) (x := .tmp 37) (t := 60) (ho := rfl) (base := _) (e := 53) (i := i0) (z := .agg #[.int .u64 0, .int .u8 0, .string ByteArray.empty]) (size := 3) (bytes := 32) (ht := Tryd.underlying60) (hi := Hi.out) (hz := Hz0.out) (hsize := Hz1.out) (hby := Hz2.out) (hzs := rfl) (hsz := by decide) (v := _) (n := L.length) (xs := flat L) (hs := rfl) (hown := (ownBelow Hown.out ((Below.refl _ _).alloc (Nat.le_refl _) _))) (ad := _) (m := 1) (c := _) (news := verCells ⟨cl + 1, x.st, x.tx⟩) (hx := rfl) (hl := rfl) (hnews := World.news_of_block (MapKept.heap_alloc _ _).1) (h1 := flat_one [⟨cl + 1, x.st, x.tx⟩]) (hm := Nat.zero_lt_one) (h63 := ?h63) (hbytes := ?hby) (hbase := ?hbase) (H := _) (hH := rfl) (h := ?go); (case h63 => unfold maxLen; omega); (case hby => omega); (case hbase => exact Nat.le_trans Hc.out.size (Below.size ((Below.refl _ _).alloc (Nat.le_refl _) _))); intro g c2 w2 hown2 hgrow hat hlt; have HBd := Lib.hid ((HBc.out.alloc HBc.out.size _).grown hgrow (HBc.out.alloc HBc.out.size _).size (ownAbove Hown.out)); have Hown2 := Lib.hid hown2; clear hown2 hgrow hat hlt)
              | (refine step_append_lies (hgd := rfl) (s := .tmp 35) (x := .tmp 37) (t := 60) (ho := rfl) (base := _) (e := 53) (i := i0) (z := .agg #[.int .u64 0, .int .u8 0, .string ByteArray.empty]) (size := 3) (bytes := 32) (ht := Tryd.underlying60) (hi := Hi.out) (hz := Hz0.out) (hsize := Hz1.out) (hby := Hz2.out) (hzs := rfl) (hsz := by decide) (v := _) (n := L.length) (xs := flat L) (hs := rfl) (hown := Hown.out) (ad := _) (m := 1) (c := _) (news := verCells ⟨cl + 1, x.st, x.tx⟩) (hx := rfl) (hl := rfl) (hnews := World.news_of_block ((Hc.out.block W3.heap.size (HLT.out _)).trans (MapKept.heap_alloc W3 _).1)) (h1 := flat_one [⟨cl + 1, x.st, x.tx⟩]) (hm := Nat.zero_lt_one) (h63 := ?h63B) (hbytes := ?hbyB) (hbase := ?hbaseB) (H := _) (hH := rfl) (h := ?goB); (case h63B => unfold maxLen; omega); (case hbyB => omega); (case hbaseB => exact Hc.out.size); intro g c2 w2 hown2 hgrow hat hlt; have HBd := Lib.hid (HBc.out.grown hgrow HBc.out.size (fun k hk => Nat.le_trans (HLE.out _) (ownAbove Hown.out k hk))); have Hown2 := Lib.hid hown2; clear hown2 hgrow hat hlt))
          all_goals (
            go_wp2_with fail
            go_meet
            case rel => exact ⟨_, _, rfl, Lib.hid ⟨ownBase Hown2.out (by first | exact Nat.le_refl _ | exact HLE.out _), HBd.out⟩⟩)
        case rest =>
          obtain ⟨a1, c1, rfl, HX⟩ := hcut
          obtain ⟨g, cp, hform, hgB, hgl⟩ := HX.out.1.form (Nat.succ_pos _)
          obtain ⟨rfl, rfl⟩ : a1 = some ⟨g, 0, none⟩ ∧ c1 = cp := by simpa using hform
          have hcap := ownCap HX.out.1
          clear hform
          have hz := HZ3.out
          obtain ⟨y0, z0, z1, g0, g1⟩ : wc.cell? ⟨w.heap.size + 1, 0, none⟩ = some (.int .u64 (cl + 1)) ∧ wc.cell? ⟨w.heap.size + 1 + 1, 0, none⟩ = some (.int .u64 0) ∧ wc.cell? ⟨w.heap.size + 1 + 1, 1, none⟩ = some (.slice none 0 0) ∧ wc.frozen? ⟨w.heap.size + 1 + 1, 0, none⟩ = false ∧ wc.frozen? ⟨w.heap.size + 1 + 1, 1, none⟩ = false := by
            refine ⟨(HX.out.2.cell (by dsimp only; omega)).trans x0, (HX.out.2.cell (by dsimp only; omega)).trans (N2.out 0), (HX.out.2.cell (by dsimp only; omega)).trans (N2.out 1), (HX.out.2.frozen (by dsimp only; omega)).trans (Fr.out 0), (HX.out.2.frozen (by dsimp only; omega)).trans (Fr.out 1)⟩
          have HgB := Lib.hid hgB; have Hgl := Lib.hid hgl; clear hgB hgl
          obtain rfl : r = (pc, 0) := by rw [Hr.out, if_neg (by decide), if_neg hfull]
          have HX1 : Hid (wc.ownsRow W3.heap.size 53 3 (.slice (some ⟨g, 0, none⟩) (L ++ [(⟨cl + 1, x.st, x.tx⟩ : Ver)]).length c1) (L ++ [(⟨cl + 1, x.st, x.tx⟩ : Ver)]).length (flat (L ++ [(⟨cl + 1, x.st, x.tx⟩ : Ver)]))) := Lib.hid (by rw [flat_append, List.length_append]; exact HX.out.1)
          have HBf : Hid (Below w.heap.size w wc) := Lib.hid (Hb.out.trans (HX.out.2.mono (by omega)))
          by_cases h7 : L.length + 1 ≤ 8
          · have hm : max 0 ((L.length : Int) + 1 - 8) = 0 := by omega
            have h0 : L.length + 1 - 8 = 0 := by omega
            have H0 := Lib.hid h0; clear h0
            go_wp2_with fail
            go_region
            all_goals go_wp2_with fail
            refine bodyPost_ret (v := .tuple #[.agg #[.int .u64 (cl + 1), .slice (some ⟨g, 0, none⟩) (L.length + 1) c1], .int .i64 0]) ?_ rfl ⟨.slice (some ⟨g, 0, none⟩) (L.length + 1) c1, ?_, ?_, fun k hk => by cases hk; exact Nat.le_trans (by omega) HgB.out, ?_⟩
            · simp [results, Tryd.results63, go_sem, z0, z1, g1]
            · rw [Hp.out]; rfl
            · rw [Hp.out]
              simp only
              rw [H0.out]
              simpa using ownDropSet HX1.out hz (.int .u64 (cl + 1)) (.slice (some ⟨g, 0, none⟩) (L.length + 1) c1) 0 c1
            · refine ((HBf.out.setCell ?_ _).setCell ?_ _).drew <;> dsimp only <;> omega
          · have h8 : L.length = 8 := by omega
            have hm : max 0 ((L.length : Int) + 1 - 8) = 1 := by omega
            have h0 : L.length + 1 - 8 = 1 := by omega
            have H0 := Lib.hid h0; clear h0
            have H8 := Lib.hid h8; clear h8
            go_wp2_with fail
            go_region
            all_goals go_wp2_with fail
            refine bodyPost_ret (v := .tuple #[.agg #[.int .u64 (cl + 1), .slice (some ⟨g, (L.length - 7) * 3, none⟩) (L.length + 1 - (L.length - 7)) (c1 - (L.length - 7))], .int .i64 0]) ?_ rfl ⟨.slice (some ⟨g, (L.length - 7) * 3, none⟩) (L.length + 1 - (L.length - 7)) (c1 - (L.length - 7)), ?_, ?_, fun k hk => by cases hk; exact Nat.le_trans (by omega) HgB.out, ?_⟩
            · simp [results, Tryd.results63, go_sem, z0, z1, g1]
            · rw [Hp.out]; rfl
            · have e : L.length - 7 = 1 := by have := H8.out; omega
              rw [Hp.out, e]
              simp only
              rw [H0.out]
              simpa using ownDropSet HX1.out hz (.int .u64 (cl + 1)) (.slice (some ⟨g, 1 * 3, none⟩) (L.length + 1 - 1) (c1 - 1)) 1 (c1 - 1)
            · refine ((HBf.out.setCell ?_ _).setCell ?_ _).drew <;> dsimp only <;> omega
end Go.Proofs.YtbmmabpglkojkaaDoor
