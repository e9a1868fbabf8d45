/- Contract: plan.Moves. Contract: ref28.Moves. Contract: the document's Of. scriniumref28.Asks, of reads and edits: the row of asks that is filled one behind the other; the box of the one under way. -/
import Derived.Test.YtggdkfijioeijaaGreatDoorQa15
import Derived.Test.YtggdkfijioeijaaGreatDoorQa19
import Derived.Test.YtggdkfijioeijaaGreatDoorQa20
import Derived.Test.YtggdkfijioeijaaGreatDoorQa23
import Derived.Test.YtggdkfijioeijaaGreatDoorQa30
import Derived.Test.YtggdkfijioeijaaGreatDoorQa31
namespace Go.Proofs.YtggdkfijioeijaaGreatDoor
open Go Go.RowKit Go.Maps
end Go.Proofs.YtggdkfijioeijaaGreatDoor
namespace Go.Proofs.YtggdkfijioeijaaGreatDoor
open Go Go.RowKit Go.Maps
end Go.Proofs.YtggdkfijioeijaaGreatDoor
namespace Go.Proofs.YtggdkfijioeijaaGreatDoor
open Go Go.RowKit Go.Maps
set_option maxHeartbeats 1000000 in
theorem d27_Of (m e : Nat) (sp : List (Nat × Nat)) (s : ByteArray) (hs : s.size ≤ 100000) (w : World) (hD : DocAt w m e sp) (hl : sp.length ≤ 10000) (O : Nat → Nat) (hS : SpI O sp M64) :
    Calls Tryz.prog 23 #[.pointer (some ⟨m, 0, none⟩), .string s] w fun en w' => en = .returned (.int .u32 (ownP O s : Nat)) ∧ Below w.heap.size w w' := by
  have HH := Lib.hid (ref26_Hash s hs w)
  have HO := Lib.hid (fun (w' : World) (h : Below w.heap.size w w') => d27_Owner m e (Sh.hash (nb s)) sp w' (hD.below h) hl)
  rw [lastO_law hS (hash_lt _)] at HO
  unfold ownP
  clear hs hD hl hS
  go_enter Tryz.func23, Tryz.ntmps23
  go_wp2_with fail
  refine HH.out.mono ?_
  rintro en w1 ⟨rfl, hb1⟩
  have HB1 := Lib.hid hb1; clear hb1
  go_wp2_with fail
  refine (HO.out w1 HB1.out).mono ?_
  rintro en w2 ⟨rfl, rfl⟩
  go_wp2_with fail
  go_ret
  exact ⟨rfl, HB1.out⟩
end Go.Proofs.YtggdkfijioeijaaGreatDoor

namespace Go.Proofs.YtggdkfijioeijaaGreatDoor
open Go Go.RowKit
theorem mayZ_one {rds : List Rd} {eds : List Ed} {pre : ByteArray} {f t tw : Nat} (h : mayZ 1 rds eds pre f t tw = 0) : 1 ≤ rds.length + eds.length ∧ rds.length + eds.length ≤ 16 ∧ rds.any badR = false ∧ eds.any badE = false ∧ eds.any longE = false := by
  have e : mayZ 1 rds eds pre f t tw = (if (1 ≤ rds.length + eds.length ∧ rds.length + eds.length ≤ 16) ∧ rds.any badR = false ∧ eds.any badE = false then (if eds.any longE = true then 5 else 0) else 2) := if_pos rfl
  rw [e] at h
  by_cases c : (1 ≤ rds.length + eds.length ∧ rds.length + eds.length ≤ 16) ∧ rds.any badR = false ∧ eds.any badE = false
  · rw [if_pos c] at h
    refine ⟨c.1.1, c.1.2, c.2.1, c.2.2, ?_⟩
    cases hl : eds.any longE with
    | false => rfl
    | true => rw [hl, if_pos rfl] at h; cases h
  · rw [if_neg c] at h; cases h
theorem genL_put {C C' : Nat → List Value} {ss : List Nat} {i : Nat} {c : List Value} (h : i < ss.length) (hC : ∀ x ∈ ss.take i, C' x = C x) (hc : C' (ss.getD i 0) = c) : (genL C ss i).set i c = genL C' ss (i + 1) := by
  have h1 : genL C ss i = genL C' ss i := by
    unfold genL; rw [List.map_congr_left (fun x hx => (hC x hx).symm)]
  rw [h1, ← hc]; exact genL_succ C' ss i h
def V4 (v0 v1 v2 v3 : Value) : Nat → Value := fun t => if t = 0 then v0 else if t = 1 then v1 else if t = 2 then v2 else v3
def Vs (V : Nat → Nat → Value) (s : Nat) (f : Nat → Value) : Nat → Nat → Value := fun x => if x = s then f else V x
theorem Vs_eq (V : Nat → Nat → Value) (s : Nat) (f : Nat → Value) : Vs V s f s = f := if_pos rfl
theorem Vs_ne (V : Nat → Nat → Value) {s x : Nat} (f : Nat → Value) (h : x ≠ s) : Vs V s f x = V x := if_neg h
theorem askCs_ne (V : Nat → Nat → Value) (A : Nat → Ask) {s x : Nat} (f : Nat → Value) (h : x ≠ s) : askCs (Vs V s f) A x = askCs V A x := by unfold askCs; rw [Vs_ne V f h]
theorem askCs_eq (V : Nat → Nat → Value) (A : Nat → Ask) (s : Nat) (v0 v1 v2 v3 : Value) : askCs (Vs V s (V4 v0 v1 v2 v3)) A s = (askV (A s) v0 v1 v2 v3).toList := by unfold askCs; rw [Vs_eq]; rfl
theorem but11 (w : World) (g o : Nat) (u0 u1 u2 u3 u4 u5 u6 u7 u8 u9 u10 : Value) : ButS (fun k => k = g) w (((((((((((w.setCell ⟨g, o, none⟩ u0).setCell ⟨g, o + 1, none⟩ u1).setCell ⟨g, o + 2, none⟩ u2).setCell ⟨g, o + 3, none⟩ u3).setCell ⟨g, o + 4, none⟩ u4).setCell ⟨g, o + 5, none⟩ u5).setCell ⟨g, o + 6, none⟩ u6).setCell ⟨g, o + 7, none⟩ u7).setCell ⟨g, o + 8, none⟩ u8).setCell ⟨g, o + 9, none⟩ u9).setCell ⟨g, o + 10, none⟩ u10) := by
  refine ButS.trans ?_ (ButS.set (S := fun k => k = g) _ (p := ⟨g, _, none⟩) rfl _)
  refine ButS.trans ?_ (ButS.set (S := fun k => k = g) _ (p := ⟨g, _, none⟩) rfl _)
  refine ButS.trans ?_ (ButS.set (S := fun k => k = g) _ (p := ⟨g, _, none⟩) rfl _)
  refine ButS.trans ?_ (ButS.set (S := fun k => k = g) _ (p := ⟨g, _, none⟩) rfl _)
  refine ButS.trans ?_ (ButS.set (S := fun k => k = g) _ (p := ⟨g, _, none⟩) rfl _)
  refine ButS.trans ?_ (ButS.set (S := fun k => k = g) _ (p := ⟨g, _, none⟩) rfl _)
  refine ButS.trans ?_ (ButS.set (S := fun k => k = g) _ (p := ⟨g, _, none⟩) rfl _)
  refine ButS.trans ?_ (ButS.set (S := fun k => k = g) _ (p := ⟨g, _, none⟩) rfl _)
  refine ButS.trans ?_ (ButS.set (S := fun k => k = g) _ (p := ⟨g, _, none⟩) rfl _)
  refine ButS.trans ?_ (ButS.set (S := fun k => k = g) _ (p := ⟨g, _, none⟩) rfl _)
  exact ButS.set (S := fun k => k = g) _ (p := ⟨g, _, none⟩) rfl _
structure OpI (B g n cap : Nat) (A : Nat → Ask) (V : Nat → Nat → Value) (ss : List Nat) (i : Nat) (w : World) : Prop where
  row : w.ownsRow B 47 11 (.slice (some ⟨g, 0, none⟩) n cap) n (genL (askCs V A) ss i).flatten
  rows : ∀ s ∈ ss.take i, RowsU B w (V s) (A s)
theorem OpI.start {B g n cap : Nat} {A : Nat → Ask} {V : Nat → Nat → Value} {ss : List Nat} {w : World} (h : w.ownsRow B 47 11 (.slice (some ⟨g, 0, none⟩) n cap) n (ss.flatMap newC)) : OpI B g n cap A V ss 0 w :=
  ⟨by rw [genL_none]; exact h, fun s hs => by simp at hs⟩
theorem rows_off {B g n cap : Nat} {w w' : World} {V : Nat → Value} {A : Ask} {xs : List Value} (h : RowsU B w V A) (hrow : w.ownsRow B 47 11 (.slice (some ⟨g, 0, none⟩) n cap) n xs) (hb : ButS (fun k => k = g) w w') : RowsU B w' V A :=
  h.but hb fun i hi k hk e => by
    subst e
    obtain ⟨_, C, e, h1, h2⟩ := h.block hi hk
    obtain ⟨_, C', h3⟩ := own_block hrow (g := k) rfl
    rw [h1] at h3
    have := Option.some.inj h3
    injection this with _ h4 _
    exact h2 h4
theorem take_lt {ss : List Nat} (hr : ss.Pairwise (· < ·)) {i : Nat} (h : i < ss.length) : ∀ x ∈ ss.take i, x ≠ ss.getD i 0 := fun x hx e => by
  obtain ⟨j, hj, hl, rfl⟩ := mem_take_i hx
  have := getD_lt hr hj h
  omega
theorem OpI.step {B g n cap : Nat} {A : Nat → Ask} {V : Nat → Nat → Value} {ss : List Nat} {i o : Nat} {wr W : World} (h : OpI B g n cap A V ss i wr) (hr : ss.Pairwise (· < ·)) (hi : i < ss.length) (ho : o = i * 11) (hb : Below wr.heap.size wr W) {s : Nat} (hs : ss.getD i 0 = s) {v0 v1 v2 v3 : Value} (hR : RowsU B W (V4 v0 v1 v2 v3) (A s))
    {u0 u1 u2 u3 u4 u5 u6 u7 u8 u9 u10 : Value} (hu : [u0, u1, u2, u3, u4, u5, u6, u7, u8, u9, u10] = (askV (A s) v0 v1 v2 v3).toList) :
    OpI B g n cap A (Vs V s (V4 v0 v1 v2 v3)) ss (i + 1) (((((((((((W.setCell ⟨g, o, none⟩ u0).setCell ⟨g, o + 1, none⟩ u1).setCell ⟨g, o + 2, none⟩ u2).setCell ⟨g, o + 3, none⟩ u3).setCell ⟨g, o + 4, none⟩ u4).setCell ⟨g, o + 5, none⟩ u5).setCell ⟨g, o + 6, none⟩ u6).setCell ⟨g, o + 7, none⟩ u7).setCell ⟨g, o + 8, none⟩ u8).setCell ⟨g, o + 9, none⟩ u9).setCell ⟨g, o + 10, none⟩ u10) := by
  subst hs
  have hne := take_lt hr hi
  have hrW := ownBelow h.row hb
  have hbt := but11 W g o u0 u1 u2 u3 u4 u5 u6 u7 u8 u9 u10
  refine ⟨?_, fun x hx => ?_⟩
  · have h1 := row_put11 hrW (genL_11 (askCs_len V A) ss i) (by rw [genL_len]; exact hi) ho u0 u1 u2 u3 u4 u5 u6 u7 u8 u9 u10
    rw [genL_put hi (fun x hx => askCs_ne V A _ (hne x hx)) ((askCs_eq V A _ v0 v1 v2 v3).trans hu.symm)] at h1
    exact h1
  · have h2 : ss.take (i + 1) = ss.take i ++ [ss.getD i 0] := by
      rw [List.take_succ_eq_append_getElem hi, List.getD_eq_getElem?_getD, List.getElem?_eq_getElem hi]; rfl
    rw [h2] at hx
    rcases List.mem_append.1 hx with hx | hx
    · rw [Vs_ne V _ (hne x hx)]
      refine rows_off ?_ hrW hbt
      exact (h.rows x hx).but (ButS.of hb (S := fun _ => False)) (fun _ _ _ _ hf => hf)
    · obtain rfl : x = ss.getD i 0 := by simpa using hx
      rw [Vs_eq]
      exact rows_off hR hrW hbt
theorem OpI.asks {B g n cap : Nat} {A : Nat → Ask} {V : Nat → Nat → Value} {ss : List Nat} {i : Nat} {w : World} (h : OpI B g n cap A V ss i w) (hn : ss.length = n) (hin : i = n) : IsAsks w (.slice (some ⟨g, 0, none⟩) n cap) (ss.map A) := by
  subst hin; subst hn
  obtain ⟨h1, h2⟩ := h
  rw [genL_all] at h1
  rw [List.take_length] at h2
  refine ⟨_, cap, by rw [List.length_map], Or.inr ⟨g, 0, rfl, own_lt h1, fun i hi => ?_⟩⟩
  rw [List.length_map] at hi
  have hx : (ss.map A).getD i dAsk = A (ss.getD i 0) := by
    rw [List.getD_eq_getElem?_getD, List.getElem?_map, List.getElem?_eq_getElem hi, List.getD_eq_getElem?_getD, List.getElem?_eq_getElem hi]; rfl
  rw [hx]
  obtain ⟨r0, r1, r2, r3⟩ := (h2 _ (getD_mem hi)).reads
  refine ⟨_, _, _, _, fun j u hu => ?_, r0, r1, r2, r3⟩
  have hj : j < 11 := (Array.getElem?_eq_some_iff.1 hu).1
  rw [Nat.zero_add, World.ownsRow.cellAt h1 (i * 11 + j) (by omega)]
  refine flatten_at (fun x hx => by obtain ⟨_, _, rfl⟩ := List.mem_map.1 hx; rfl) i (askCs V A (ss.getD i 0)) (by rw [List.getElem?_map, List.getElem?_eq_getElem hi, List.getD_eq_getElem?_getD, List.getElem?_eq_getElem hi]; rfl) j u ?_
  have hu2 : (askCs V A (ss.getD i 0)).toArray[j]? = some u := hu
  simpa using hu2
def AKX (q s : Nat) (v0 v1 v2 v3 : Value) (w : World) : Prop := w.heap[q]? = some (.cells #[.int .u32 (s : Int), v0, v1, v2, v3, .bool false, .string ⟨#[]⟩, .bool false, .bool false, .int .u64 0, .int .u64 0] 47 (0, 0))
theorem AKX.cells {q s : Nat} {v0 v1 v2 v3 : Value} {w : World} (h : AKX q s v0 v1 v2 v3 w) : w.cell? ⟨q, 0, none⟩ = some (.int .u32 (s : Int)) ∧ w.cell? ⟨q, 1, none⟩ = some v0 ∧ w.cell? ⟨q, 2, none⟩ = some v1 ∧ w.cell? ⟨q, 3, none⟩ = some v2 ∧ w.cell? ⟨q, 4, none⟩ = some v3 ∧ w.cell? ⟨q, 5, none⟩ = some (.bool false) ∧ w.cell? ⟨q, 6, none⟩ = some (.string ⟨#[]⟩) ∧ w.cell? ⟨q, 7, none⟩ = some (.bool false) ∧ w.cell? ⟨q, 8, none⟩ = some (.bool false) ∧ w.cell? ⟨q, 9, none⟩ = some (.int .u64 0) ∧ w.cell? ⟨q, 10, none⟩ = some (.int .u64 0) :=
  ⟨cell_of h 0, cell_of h 1, cell_of h 2, cell_of h 3, cell_of h 4, cell_of h 5, cell_of h 6, cell_of h 7, cell_of h 8, cell_of h 9, cell_of h 10⟩
theorem AKX.frozen {q s : Nat} {v0 v1 v2 v3 : Value} {w : World} (h : AKX q s v0 v1 v2 v3 w) (j : Nat) : w.frozen? ⟨q, j, none⟩ = false := frozen_of h j
theorem AKX.below {q s B : Nat} {v0 v1 v2 v3 : Value} {w w' : World} (h : AKX q s v0 v1 v2 v3 w) (hC : q < B) (hb : Below B w w') : AKX q s v0 v1 v2 v3 w' := (hb.block q hC).trans h
theorem AKX.set1 {q s : Nat} {v0 v1 v2 v3 v : Value} {w : World} (h : AKX q s v0 v1 v2 v3 w) : AKX q s v v1 v2 v3 (w.setCell ⟨q, 1, none⟩ v) := setCell_block h _
theorem AKX.set2 {q s : Nat} {v0 v1 v2 v3 v : Value} {w : World} (h : AKX q s v0 v1 v2 v3 w) : AKX q s v0 v v2 v3 (w.setCell ⟨q, 2, none⟩ v) := setCell_block h _
theorem AKX.set3 {q s : Nat} {v0 v1 v2 v3 v : Value} {w : World} (h : AKX q s v0 v1 v2 v3 w) : AKX q s v0 v1 v v3 (w.setCell ⟨q, 3, none⟩ v) := setCell_block h _
theorem AKX.set4 {q s : Nat} {v0 v1 v2 v3 v : Value} {w : World} (h : AKX q s v0 v1 v2 v3 w) : AKX q s v0 v1 v2 v (w.setCell ⟨q, 4, none⟩ v) := setCell_block h _
theorem akx_app {q s B k e n : Nat} {wr w1 w8 : World} {v0 v1 v2 v3 v : Value} {xs : List Value} {o : Option Nat} (hC : q < B) (hcb : AKX q s v0 v1 v2 v3 wr) (hb1 : Below wr.heap.size wr w1) (hB : B ≤ wr.heap.size) (hg : w1.grownBy w8 o) (ho : ∀ j, o = some j → B ≤ j) (hrow : w8.ownsRow B e k v n xs) :
    AKX q s v0 v1 v2 v3 w8 ∧ KX q B wr w8 ∧ (∃ X, w8.setCell ⟨q, 1, none⟩ v = X ∧ AKX q s v v1 v2 v3 X ∧ X.ownsRow B e k v n xs ∧ KX q B wr X) ∧ (∃ X, w8.setCell ⟨q, 2, none⟩ v = X ∧ AKX q s v0 v v2 v3 X ∧ X.ownsRow B e k v n xs ∧ KX q B wr X)
    ∧ (∃ X, w8.setCell ⟨q, 3, none⟩ v = X ∧ AKX q s v0 v1 v v3 X ∧ X.ownsRow B e k v n xs ∧ KX q B wr X) ∧ (∃ X, w8.setCell ⟨q, 4, none⟩ v = X ∧ AKX q s v0 v1 v2 v X ∧ X.ownsRow B e k v n xs ∧ KX q B wr X) := by
  have h1 : AKX q s v0 v1 v2 v3 w1 := (hb1.block q (by omega)).trans hcb
  have h8 : AKX q s v0 v1 v2 v3 w8 := (hg.block q (lt_of_block h1) (fun e => by have := ho q e.symm; omega)).trans h1
  have hk : KX q B wr w8 := (KX.of (hb1.mono hB)).trans (KX.row hg ho (Nat.le_trans hB hb1.size))
  exact ⟨h8, hk, ⟨_, rfl, h8.set1, ownsRow_setCell_below hrow (by dsimp only; omega) _, hk.trans (KX.set B w8 ⟨q, 1, none⟩ _)⟩, ⟨_, rfl, h8.set2, ownsRow_setCell_below hrow (by dsimp only; omega) _, hk.trans (KX.set B w8 ⟨q, 2, none⟩ _)⟩, ⟨_, rfl, h8.set3, ownsRow_setCell_below hrow (by dsimp only; omega) _, hk.trans (KX.set B w8 ⟨q, 3, none⟩ _)⟩, ⟨_, rfl, h8.set4, ownsRow_setCell_below hrow (by dsimp only; omega) _, hk.trans (KX.set B w8 ⟨q, 4, none⟩ _)⟩⟩
theorem row_aside {w w8 : World} {q B k e n k' e' n' : Nat} {v v' u : Value} {xs xs' : List Value} {f : Nat} (h : w.ownsRow B e k v n xs) (h' : w.ownsRow B e' k' v' n' xs') (he : e ≠ e') (hg : w.grownBy w8 v'.ownBlock) (hq : q < B) : (w8.setCell ⟨q, f, none⟩ u).ownsRow B e k v n xs := by
  refine ownsRow_setCell_below (row_but h (grown_but hg) (fun g hv hv' => ?_)) (by dsimp only; omega) _
  obtain ⟨_, C, h1⟩ := own_block h hv
  obtain ⟨_, C', h2⟩ := own_block h' hv'
  rw [h1] at h2
  have := Option.some.inj h2
  injection this with _ h4 _
  exact he h4
theorem row_kept {q B k e n : Nat} {W2 W : World} {v : Value} {xs : List Value} (h : W2.ownsRow B e k v n xs) (hk : KX q W2.heap.size W2 W) (hq : q < B) : W.ownsRow B e k v n xs := by
  refine ⟨h.1, ?_⟩
  rcases h.2 with hn | ⟨g, cap, cur, hv, hBg, hg, rest⟩
  · exact Or.inl hn
  · exact Or.inr ⟨g, cap, cur, hv, hBg, (hk.same g (lt_of_block hg) (by omega)).trans hg, rest⟩
theorem rowsU_of {B B1 B2 B3 B4 n0 n1 n2 n3 : Nat} {w : World} {v0 v1 v2 v3 : Value} {A : Ask} (h0 : w.ownsRow B1 56 2 v0 n0 (A.reads.flatMap rdC)) (h1 : w.ownsRow B2 3 1 v1 n1 (A.readAt.flatMap ixC)) (h2 : w.ownsRow B3 63 6 v2 n2 (A.edits.flatMap edC)) (h3 : w.ownsRow B4 3 1 v3 n3 (A.editAt.flatMap ixC)) (hB1 : B ≤ B1) (hB2 : B ≤ B2) (hB3 : B ≤ B3) (hB4 : B ≤ B4) : RowsU B w (V4 v0 v1 v2 v3) A := by
  have e0 : n0 = A.reads.length := by have := h0.1; rw [flat_length rdC_len] at this; omega
  have e1 : n1 = A.readAt.length := by have := h1.1; rw [flat_length ixC_len] at this; omega
  have e2 : n2 = A.edits.length := by have := h2.1; rw [flat_length edC_len] at this; omega
  have e3 : n3 = A.editAt.length := by have := h3.1; rw [flat_length ixC_len] at this; omega
  subst e0 e1 e2 e3
  exact ⟨ownBase h0 hB1, ownBase h1 hB2, ownBase h2 hB3, ownBase h3 hB4⟩
theorem rdsTo_put {O : Nat → Nat} {rds : List Rd} {k s : Nat} {r : Rd} (hk : k < rds.length) (hr : rds.getD k dRd = r) :
    (ownP O r.path = s → (rdsTo O rds (k + 1) s).flatMap rdC = (rdsTo O rds k s).flatMap rdC ++ rdC r ∧ (rAtTo O rds (k + 1) s).flatMap ixC = (rAtTo O rds k s).flatMap ixC ++ ixC k) ∧ (ownP O r.path ≠ s → rdsTo O rds (k + 1) s = rdsTo O rds k s ∧ rAtTo O rds (k + 1) s = rAtTo O rds k s) := by
  have ht : rds.take (k + 1) = rds.take k ++ [r] := by
    rw [List.take_succ_eq_append_getElem hk, ← hr, List.getD_eq_getElem?_getD, List.getElem?_eq_getElem hk]; rfl
  unfold rdsTo rAtTo
  refine ⟨fun e => ?_, fun e => ?_⟩
  · rw [ht, List.range_succ, List.filter_append, List.filter_append, List.filter_cons_of_pos (by simpa using e), List.filter_cons_of_pos (by rw [hr]; simpa using e), List.filter_nil, List.filter_nil, flat_snoc, flat_snoc]; exact ⟨rfl, rfl⟩
  · rw [ht, List.range_succ, List.filter_append, List.filter_append, List.filter_cons_of_neg (by simpa using e), List.filter_cons_of_neg (by rw [hr]; simpa using e), List.filter_nil, List.append_nil, List.filter_nil, List.append_nil]; exact ⟨rfl, rfl⟩
theorem edsTo_put {O : Nat → Nat} {eds : List Ed} {k s : Nat} {r : Ed} (hk : k < eds.length) (hr : eds.getD k dEd = r) :
    (ownP O r.path = s → (edsTo O eds (k + 1) s).flatMap edC = (edsTo O eds k s).flatMap edC ++ edC r ∧ (eAtTo O eds (k + 1) s).flatMap ixC = (eAtTo O eds k s).flatMap ixC ++ ixC k) ∧ (ownP O r.path ≠ s → edsTo O eds (k + 1) s = edsTo O eds k s ∧ eAtTo O eds (k + 1) s = eAtTo O eds k s) := by
  have ht : eds.take (k + 1) = eds.take k ++ [r] := by
    rw [List.take_succ_eq_append_getElem hk, ← hr, List.getD_eq_getElem?_getD, List.getElem?_eq_getElem hk]; rfl
  unfold edsTo eAtTo
  refine ⟨fun e => ?_, fun e => ?_⟩
  · rw [ht, List.range_succ, List.filter_append, List.filter_append, List.filter_cons_of_pos (by simpa using e), List.filter_cons_of_pos (by rw [hr]; simpa using e), List.filter_nil, List.filter_nil, flat_snoc, flat_snoc]; exact ⟨rfl, rfl⟩
  · rw [ht, List.range_succ, List.filter_append, List.filter_append, List.filter_cons_of_neg (by simpa using e), List.filter_cons_of_neg (by rw [hr]; simpa using e), List.filter_nil, List.append_nil, List.filter_nil, List.append_nil]; exact ⟨rfl, rfl⟩
end Go.Proofs.YtggdkfijioeijaaGreatDoor
