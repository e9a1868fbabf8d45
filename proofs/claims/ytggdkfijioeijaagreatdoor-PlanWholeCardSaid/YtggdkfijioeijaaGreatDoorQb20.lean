/- Contract: scriniumref28.May, of any call. Contract: scriniumref28.ask: a shard more among rising ones. A struct stored into one's own row. Contract: scriniumref28.Asks, of a split. Contract: plan.Merge, where what is told fits and each read and edit is there: the walk. scriniumref28.Asks, of reads and edits: the row of asks that is filled one behind the other; the box of the one under way. plan.Asks and scriniumref28.Asks, of any call: told in one form, which leaves one answer. -/
import Derived.Test.YtggdkfijioeijaaGreatDoorQb10
import Derived.Test.YtggdkfijioeijaaGreatDoorQb13
import Derived.Test.YtggdkfijioeijaaGreatDoorQb14
import Derived.Test.YtggdkfijioeijaaGreatDoorQb16
import Derived.Test.YtggdkfijioeijaaGreatDoorQb17
import Derived.Test.YtggdkfijioeijaaGreatDoorQb18
import Derived.Test.YtggdkfijioeijaaGreatDoorQb19
import Derived.BigQuiet
namespace Go.Proofs.YtggdkfijioeijaaGreatDoor
open Go Go.RowKit
theorem isl_at3 {α : Type} {k : Nat} {C : α → List Value} {z : α} {w : World} {a : Option Addr} {n c j : Nat} {l : List α} (h : IsL k C z w (.slice a n c) l) (hj : j < l.length) : ∃ b off, a = some ⟨b, off, none⟩ ∧ ∀ q u, (C (l.getD j z))[q]? = some u → w.cell? ⟨b, off + j * k + q, none⟩ = some u := by
 obtain ⟨a', c', he, h⟩ := h
 cases he
 obtain ⟨b, off, rfl, _, hc⟩ := h.resolve_left (fun h => by rw [h] at hj; simp at hj)
 exact ⟨b, off, rfl, hc j hj⟩
end Go.Proofs.YtggdkfijioeijaaGreatDoor
namespace Go.Proofs.YtggdkfijioeijaaGreatDoor
open Go Go.RowKit
def newC (s : Nat) : List Value := [.int .u32 (s : Int), .slice none 0 0, .slice none 0 0, .slice none 0 0, .slice none 0 0, .bool false, .string ⟨#[]⟩, .bool false, .bool false, .int .u64 0, .int .u64 0]
structure InsAt (ss : List Nat) (s k : Nat) : Prop where
 le : k ≤ ss.length
 lo : ∀ i, i < k → ss.getD i 0 < s
 hi : k < ss.length → s < ss.getD k 0
theorem getD_lt {ss : List Nat} (h : ss.Pairwise (· < ·)) {i j : Nat} (hij : i < j) (hj : j < ss.length) : ss.getD i 0 < ss.getD j 0 := by
 have := List.pairwise_iff_getElem.1 h i j (by omega) hj hij
 rw [List.getD_eq_getElem?_getD, List.getD_eq_getElem?_getD, List.getElem?_eq_getElem (by omega), List.getElem?_eq_getElem hj]; exact this
theorem mem_take_i {ss : List Nat} {x k : Nat} (h : x ∈ ss.take k) : ∃ i, i < k ∧ i < ss.length ∧ ss.getD i 0 = x := by
 obtain ⟨i, hi, rfl⟩ := List.mem_iff_getElem.1 h
 rw [List.length_take] at hi
 exact ⟨i, by omega, by omega, by rw [List.getElem_take, List.getD_eq_getElem?_getD, List.getElem?_eq_getElem (by omega)]; rfl⟩
theorem mem_drop_i {ss : List Nat} {x k : Nat} (h : x ∈ ss.drop k) : ∃ i, k ≤ i ∧ i < ss.length ∧ ss.getD i 0 = x := by
 obtain ⟨i, hi, rfl⟩ := List.mem_iff_getElem.1 h
 rw [List.length_drop] at hi
 exact ⟨k + i, by omega, by omega, by rw [List.getElem_drop, List.getD_eq_getElem?_getD, List.getElem?_eq_getElem (by omega)]; rfl⟩
theorem InsAt.rise {ss : List Nat} {s k : Nat} (h : InsAt ss s k) (hr : ss.Pairwise (· < ·)) : (ss.take k ++ [s] ++ ss.drop k).Pairwise (· < ·) := by
 have hlo : ∀ x ∈ ss.take k, x < s := fun x hx => by
  obtain ⟨i, hi, _, rfl⟩ := mem_take_i hx; exact h.lo i hi
 have hhi : ∀ x ∈ ss.drop k, s < x := fun x hx => by
  obtain ⟨i, hi, hl, rfl⟩ := mem_drop_i hx
  have h0 := h.hi (by omega)
  by_cases e : i = k
  ·subst e; exact h0
  ·exact Nat.lt_trans h0 (getD_lt hr (by omega) hl)
 rw [List.pairwise_append, List.pairwise_append]
 refine ⟨⟨hr.sublist (List.take_sublist _ _), by simp, fun x hx y hy => by rw [List.mem_singleton.1 hy]; exact hlo x hx⟩, hr.sublist (List.drop_sublist _ _), fun x hx y hy => ?_⟩
 rcases List.mem_append.1 hx with hx | hx
 ·exact Nat.lt_trans (hlo x hx) (hhi y hy)
 ·rw [List.mem_singleton.1 hx]; exact hhi y hy
theorem InsAt.mem {ss : List Nat} {s k : Nat} (_h : InsAt ss s k) (x : Nat) : x ∈ ss.take k ++ [s] ++ ss.drop k ↔ x ∈ ss ∨ x = s := by
 conv => rhs; lhs; rw [← List.take_append_drop k ss]
 rw [List.mem_append, List.mem_append, List.mem_append, List.mem_singleton]
 constructor
 ·rintro ((h | h) | h)
  ·exact Or.inl (Or.inl h)
  ·exact Or.inr h
  ·exact Or.inl (Or.inr h)
 ·rintro ((h | h) | h)
  ·exact Or.inl (Or.inl h)
  ·exact Or.inr h
  ·exact Or.inl (Or.inr h)
theorem ownBase {w : World} {B B' e n k : Nat} {v : Value} {xs : List Value} (h : w.ownsRow B e k v n xs) (hB : B' ≤ B) : w.ownsRow B' e k v n xs := by
 refine ⟨h.1, ?_⟩
 rcases h.2 with hn | ⟨g, cap, cur, hv, hBg, rest⟩
 ·exact Or.inl hn
 ·exact Or.inr ⟨g, cap, cur, hv, Nat.le_trans hB hBg, rest⟩
theorem own_lt {w : World} {B e n k g c : Nat} {xs : List Value} (h : w.ownsRow B e k (.slice (some ⟨g, 0, none⟩) n c) n xs) : g < w.heap.size := by
 rcases h.2 with ⟨hv, _⟩ | ⟨g', cap', cur, hv, _, hg, _⟩
 ·cases hv
 ·cases hv; exact (Array.getElem?_eq_some_iff.1 hg).1
end Go.Proofs.YtggdkfijioeijaaGreatDoor
namespace Go.Proofs.YtggdkfijioeijaaGreatDoor
open Go Go.RowKit
theorem row_set {w : World} {B k g n cap : Nat} {e : TypeId} {xs : List Value} (h : w.ownsRow B e k (.slice (some ⟨g, 0, none⟩) n cap) n xs) (q : Nat) (u : Value) : (w.setCell ⟨g, q, none⟩ u).ownsRow B e k (.slice (some ⟨g, 0, none⟩) n cap) n (xs.set q u) := by
 refine ⟨by rw [List.length_set]; exact h.1, Or.inr ?_⟩
 rcases h.2 with ⟨hv, _⟩ | ⟨g', cap', cur, hv, hB, hg, hn, hcap, hsz, htake⟩
 ·cases hv
 ·cases hv
  refine ⟨g, cap, cur.setIfInBounds q u, rfl, hB, setCell_block hg u, hn, hcap, by rw [Array.size_setIfInBounds]; exact hsz, ?_⟩
  rw [Array.toList_setIfInBounds, List.take_set, htake]
def setN (xs : List Value) : Nat → List Value → List Value
 | _, [] => xs
 | o, u :: us => setN (xs.set o u) (o + 1) us
theorem setN_skip (a : List Value) : ∀ (us y : List Value) (o : Nat), setN (a ++ y) (a.length + o) us = a ++ setN y o us
 | [], _, _ => rfl
 | u :: us, y, o => by
  unfold setN
  rw [List.set_append_right _ _ (by omega), Nat.add_sub_cancel_left, Nat.add_assoc]
  exact setN_skip a us (y.set o u) (o + 1)
theorem setN_head : ∀ (us a y : List Value), us.length = a.length → setN (a ++ y) 0 us = us ++ y
 | [], [], _, _ => rfl
 | [], _ :: _, _, h => by simp at h
 | _ :: _, [], _, h => by simp at h
 | u :: us, x :: a, y, h => by
  have h2 : us.length = a.length := by simpa using h
  show setN ((x :: (a ++ y)).set 0 u) 1 us = u :: (us ++ y)
  rw [List.set_cons_zero]
  have := setN_skip [u] us (a ++ y) 0
  rw [show [u] ++ (a ++ y) = u :: (a ++ y) from rfl, show [u].length + 0 = 1 from rfl] at this
  rw [this, setN_head us a y h2]; rfl
theorem setN_flat {us : List Value} : ∀ (L : List (List Value)) (i : Nat), i < L.length → (∀ x ∈ L, x.length = us.length) → setN L.flatten (i * us.length) us = (L.set i us).flatten
 | [], i, h, _ => by simp at h
 | a :: t, 0, _, hl => by
  rw [Nat.zero_mul, List.flatten_cons, List.set_cons_zero, List.flatten_cons]
  exact setN_head us a _ (hl a (by simp)).symm
 | a :: t, i + 1, h, hl => by
  have ha : a.length = us.length := hl a (by simp)
  rw [List.flatten_cons, List.set_cons_succ, List.flatten_cons, ← setN_flat t i (by simpa using h) (fun x hx => hl x (by simp [hx])), show (i + 1) * us.length = a.length + i * us.length by rw [ha, Nat.add_mul]; omega]
  exact setN_skip a us _ _
theorem row_put11 {w : World} {B g n cap i o : Nat} {e : TypeId} {L : List (List Value)} (h : w.ownsRow B e 11 (.slice (some ⟨g, 0, none⟩) n cap) n L.flatten) (hL : ∀ x ∈ L, x.length = 11) (hi : i < L.length) (ho : o = i * 11) (u0 u1 u2 u3 u4 u5 u6 u7 u8 u9 u10 : Value) :
  (((((((((((w.setCell ⟨g, o, none⟩ u0).setCell ⟨g, o + 1, none⟩ u1).setCell ⟨g, o + 2, none⟩ u2).setCell ⟨g, o + 3, none⟩ u3).setCell ⟨g, o + 4, none⟩ u4).setCell ⟨g, o + 5, none⟩ u5).setCell ⟨g, o + 6, none⟩ u6).setCell ⟨g, o + 7, none⟩ u7).setCell ⟨g, o + 8, none⟩ u8).setCell ⟨g, o + 9, none⟩ u9).setCell ⟨g, o + 10, none⟩ u10).ownsRow B e 11 (.slice (some ⟨g, 0, none⟩) n cap) n (L.set i [u0, u1, u2, u3, u4, u5, u6, u7, u8, u9, u10]).flatten := by
 have h2 := row_set (row_set (row_set (row_set (row_set (row_set (row_set (row_set (row_set (row_set (row_set h o u0) (o + 1) u1) (o + 2) u2) (o + 3) u3) (o + 4) u4) (o + 5) u5) (o + 6) u6) (o + 7) u7) (o + 8) u8) (o + 9) u9) (o + 10) u10
 have h3 := setN_flat (us := [u0, u1, u2, u3, u4, u5, u6, u7, u8, u9, u10]) L i hi hL
 rw [← h3, show i * [u0, u1, u2, u3, u4, u5, u6, u7, u8, u9, u10].length = o from ho.symm]
 exact h2
end Go.Proofs.YtggdkfijioeijaaGreatDoor
namespace Go.Proofs.YtggdkfijioeijaaGreatDoor
open Go Go.RowKit
def genL (C : Nat → List Value) (ss : List Nat) (i : Nat) : List (List Value) := (ss.take i).map C ++ (ss.drop i).map newC
theorem genL_len (C : Nat → List Value) (ss : List Nat) (i : Nat) : (genL C ss i).length = ss.length := by
 unfold genL; rw [List.length_append, List.length_map, List.length_map, ← List.length_append, List.take_append_drop]
theorem genL_11 {C : Nat → List Value} (hC : ∀ s, (C s).length = 11) (ss : List Nat) (i : Nat) : ∀ x ∈ genL C ss i, x.length = 11 := fun x hx => by
 rcases List.mem_append.1 hx with h | h
 ·obtain ⟨s, _, rfl⟩ := List.mem_map.1 h; exact hC s
 ·obtain ⟨_, _, rfl⟩ := List.mem_map.1 h; rfl
theorem genL_succ (C : Nat → List Value) (ss : List Nat) (i : Nat) (h : i < ss.length) : (genL C ss i).set i (C (ss.getD i 0)) = genL C ss (i + 1) := by
 unfold genL
 have h1 : ss.drop i = ss.getD i 0 :: ss.drop (i + 1) := by
  rw [List.drop_eq_getElem_cons h, List.getD_eq_getElem?_getD, List.getElem?_eq_getElem h]; rfl
 have h2 : ss.take (i + 1) = ss.take i ++ [ss.getD i 0] := by
  rw [List.take_succ_eq_append_getElem h, List.getD_eq_getElem?_getD, List.getElem?_eq_getElem h]; rfl
 have hl : ((ss.take i).map C).length = i := by rw [List.length_map, List.length_take]; omega
 rw [h1, h2, List.set_append_right _ _ (by omega), hl, Nat.sub_self, List.map_cons, List.set_cons_zero, List.map_append, List.append_assoc]; rfl
theorem genL_none (C : Nat → List Value) (ss : List Nat) : (genL C ss 0).flatten = ss.flatMap newC := by
 unfold genL; rw [List.take_zero, List.map_nil, List.nil_append, List.drop_zero, List.flatMap_def]
end Go.Proofs.YtggdkfijioeijaaGreatDoor
namespace Go.Proofs.YtggdkfijioeijaaGreatDoor
open Go Go.RowKit Go.Maps Go.Sort
theorem ownShape' {w : World} {B e n k : Nat} {v : Value} {xs : List Value} (h : w.ownsRow B e k v n xs) : ∃ a c, v = .slice a n c := by
 rcases h.2 with ⟨hv, h0⟩ | ⟨g, cap, cur, hv, _⟩
 ·exact ⟨none, 0, by rw [hv, h0]⟩
 ·exact ⟨_, _, hv⟩
theorem but_own {X Y : Nat → Prop} {a b c : World} (h : ButS X a b) (h2 : ButS Y b c) (hY : ∀ k, Y k → a.heap.size ≤ k) : ButS X a c :=
 ⟨h2.os.trans h.os, h2.tape.trans h.tape, h2.output.trans h.output, Nat.le_trans h.size h2.size, fun k hk hn => (h2.block k (Nat.lt_of_lt_of_le hk h.size) (fun hy => by have := hY k hy; omega)).trans (h.block k hk hn)⟩
theorem nam_own {W : World} {B e nl c : Nat} {a : Option Addr} {ss : List (List UInt8)} (h : W.ownsRow B e 1 (.slice a nl c) nl ((ss.mergeSort (fun x y => decide (x ≤ y))).map encStr)) (hl : ss.length = nl) : IsNas W (.slice a nl c) ((ss.mergeSort (fun x y => decide (x ≤ y))).map bs) := by
 have hll : (ss.mergeSort (fun x y => decide (x ≤ y))).length = nl := by rw [List.length_mergeSort, hl]
 generalize ss.mergeSort (fun x y => decide (x ≤ y)) = l at h hll ⊢
 have h2 : (l.map bs).flatMap naC = l.map encStr := by
  clear h hll
  induction l with
  | nil => rfl
  | cons x l ih => rw [List.map_cons, List.flatMap_cons, ih]; rfl
 refine IsL.own (B := B) (e := e) naC_len (by decide) _ ?_
 rw [h2, List.length_map, hll]; exact h
theorem names_up {ss l : List (List UInt8)} (hp : ss.Perm l) (hn : l.Nodup) : ((ss.mergeSort (fun x y => decide (x ≤ y))).map bs).Pairwise (fun a b => a.data.toList < b.data.toList) := by
 have h1 := List.pairwise_mergeSort (le := fun x y : List UInt8 => decide (x ≤ y)) (fun a b c h1 h2 => by simp only [decide_eq_true_eq] at *; exact List.le_trans h1 h2) (fun a b => by simp only [Bool.or_eq_true, decide_eq_true_eq]; exact List.le_total a b) ss
 have h2 : (ss.mergeSort (fun x y => decide (x ≤ y))).Nodup := (List.mergeSort_perm _ _).nodup_iff.2 (hp.nodup_iff.2 hn)
 have h3 := h1.and h2
 refine List.pairwise_map.2 (h3.imp ?_)
 rintro a b ⟨hab, hne⟩
 simp only [decide_eq_true_eq] at hab
 rcases List.le_iff_lt_or_eq.1 hab with h | h
 ·exact h
 ·exact absurd h hne
theorem reply_set {wr : World} {b : Nat} {z0 z1 z2 : Value} {T : TypeId} (h : wr.heap[b]? = some (.cells #[z0, z1, z2] T (0, 0))) (v0 v1 v2 : Value) :
  ∃ Wz, ((wr.setCell ⟨b, 0, none⟩ v0).setCell ⟨b, 1, none⟩ v1).setCell ⟨b, 2, none⟩ v2 = Wz ∧ Wz.heap[b]? = some (.cells #[v0, v1, v2] T (0, 0)) ∧ ButS (fun x => x = b) wr Wz := by
 have e1 : (wr.setCell ⟨b, 0, none⟩ v0).heap[b]? = some (.cells #[v0, z1, z2] T (0, 0)) := setCell_block (i := 0) h v0
 have e2 : ((wr.setCell ⟨b, 0, none⟩ v0).setCell ⟨b, 1, none⟩ v1).heap[b]? = some (.cells #[v0, v1, z2] T (0, 0)) := setCell_block (i := 1) e1 v1
 have e3 : (((wr.setCell ⟨b, 0, none⟩ v0).setCell ⟨b, 1, none⟩ v1).setCell ⟨b, 2, none⟩ v2).heap[b]? = some (.cells #[v0, v1, v2] T (0, 0)) := setCell_block (i := 2) e2 v2
 refine ⟨_, rfl, e3, ?_⟩
 have b1 := ButS.set (S := fun x => x = b) wr (p := ⟨b, 0, none⟩) rfl v0
 have b2 := ButS.set (S := fun x => x = b) (wr.setCell ⟨b, 0, none⟩ v0) (p := ⟨b, 1, none⟩) rfl v1
 have b3 := ButS.set (S := fun x => x = b) ((wr.setCell ⟨b, 0, none⟩ v0).setCell ⟨b, 1, none⟩ v1) (p := ⟨b, 2, none⟩) rfl v2
 exact (b1.trans b2).trans b3
abbrev noneF : Nat → Option Value := fun _ => none
theorem infoGt : (Tryz.prog.info? 61).map (fun i => (i.zero, i.size, i.bytes)) = some (some (.agg #[.int .u64 0, .int .u8 0, .string ByteArray.empty, .int .i64 0]), 4, 40) := by kernel_rfl
theorem infoW64 : (Tryz.prog.info? 25).map (fun i => (i.zero, i.size, i.bytes)) = some (some (.int .u64 0), 1, 8) := by kernel_rfl
def MergeG (nr ne : Nat) (gs : Nat → Gt) (ns : Nat → Nat) (w : World) (e : Ending) (w' : World) : Prop :=
 ∃ (u1 u2 u3 : Value) (nm : List ByteArray), e = .returned (.tuple #[.agg #[u1, u2, u3], .int .i64 0]) ∧ IsGts w' u1 ((List.range nr).map gs) ∧ IsNus w' u2 ((List.range ne).map ns) ∧ IsNas w' u3 nm ∧ nm.Pairwise (fun a b => a.data.toList < b.data.toList) ∧ nm.length ≤ 1000000 ∧ Below w.heap.size w w'
theorem zip_take {α β : Type} (l : List α) (m : List β) (j : Nat) (hl : j < l.length) (hm : j < m.length) : (l.zip m).take (j + 1) = (l.zip m).take j ++ [(l[j], m[j])] := by
 rw [List.take_succ_eq_append_getElem (by rw [List.length_zip]; omega), List.getElem_zip]
set_option maxRecDepth 100000 in
set_option maxHeartbeats 8000000 in
theorem merge_ok (kind f t tw nr ne cR cE n cA cT : Nat) (aR aE aA aT : Option Addr) (pre : ByteArray) (asks : List Ask) (ts : List Tl) (gs : Nat → Gt) (ns : Nat → Nat) (w : World)
    (hA : IsAsks w (.slice aA n cA) asks) (hT : IsTold w (.slice aT n cT) ts) (hla : asks.length = n) (hlt : ts.length = n) (hn : n ≤ 5000) (hfit : ∀ i, i < n → FitsT (asks.getD i dAsk) (ts.getD i dTl))
    (hr1 : ∀ i, (asks.getD i dAsk).readAt.length ≤ 1000) (he1 : ∀ i, (asks.getD i dAsk).editAt.length ≤ 1000) (hn1 : ∀ i, (ts.getD i dTl).names.length ≤ 100)
    (hr2 : ∀ i, ∀ x ∈ (asks.getD i dAsk).readAt, x < 4611686018427387904) (he2 : ∀ i, ∀ x ∈ (asks.getD i dAsk).editAt, x < 4611686018427387904) (hn2 : ∀ i, ∀ x ∈ (ts.getD i dTl).names, x.size ≤ 140737488351232)
    (hcr : (allG asks ts n).length = nr) (hce : (allE asks ts n).length = ne) (hG : ∀ i, i < nr → putAll noneF (allG asks ts n) i = some (gtV (gs i))) (hE : ∀ i, i < ne → putAll noneF (allE asks ts n) i = some (.int .u64 (ns i : Int))) :
    Calls Tryz.prog 18 #[.agg (callC kind (.slice aR nr cR) (.slice aE ne cE) pre f t tw), .slice aA n cA, .slice aT n cT] w (MergeG nr ne gs ns w) := by
  have hgl := fun k => allG_le (ts := ts) hr1 k
  have hel := fun k => allE_le (ts := ts) he1 k
  have HGL := Lib.hid hgl; have HEL := Lib.hid hel; have HA := Lib.hid hA; have HT := Lib.hid hT; have HLA := Lib.hid hla; have HLT := Lib.hid hlt; have HFIT := Lib.hid hfit
  have HR1 := Lib.hid hr1; have HE1 := Lib.hid he1; have HN1 := Lib.hid hn1; have HR2 := Lib.hid hr2; have HE2 := Lib.hid he2; have HN2 := Lib.hid hn2; have HCR := Lib.hid hcr; have HCE := Lib.hid hce; have HGG := Lib.hid hG; have HEE := Lib.hid hE
  clear hgl hel hA hT hla hlt hfit hr1 he1 hn1 hr2 he2 hn2 hcr hce hG hE
  have hmm := @run_makeMap Tryz.prog
  go_enter Tryz.func18, Tryz.ntmps18
  go_upto_region 5 with fail
  obtain ⟨W2, hW2⟩ : ∃ W2, ((((w.alloc (.cells (callC kind (.slice aR nr cR) (.slice aE ne cE) pre f t tw) 30)).alloc (.cells #[.slice none 0 0, .slice none 0 0, .slice none 0 0] 67)).alloc (.map #[] 0)).alloc (.map #[] 0)).alloc (.map #[] 0) = W2 := ⟨_, rfl⟩
  obtain ⟨hz2, hb2, hk0, hk1, _, _, _⟩ := five hW2
  have hB0 : ByF 0 (w.heap.size + 1 + 1) W2 noneF ∧ ByF 0 (w.heap.size + 1 + 1 + 1) W2 noneF ∧ NmF 0 (w.heap.size + 1 + 1 + 1 + 1) W2 := by
    obtain ⟨U, hU⟩ : ∃ U, (w.alloc (.cells (callC kind (.slice aR nr cR) (.slice aE ne cE) pre f t tw) 30)).alloc (.cells #[.slice none 0 0, .slice none 0 0, .slice none 0 0] 67) = U := ⟨_, rfl⟩
    have hUz : U.heap.size = w.heap.size + 1 + 1 := by rw [← hU]; simp
    rw [hU] at hW2
    have s1 : (U.alloc (.map #[] 0)).heap.size = w.heap.size + 1 + 1 + 1 := by simp [hUz]
    have s2 : ((U.alloc (.map #[] 0)).alloc (.map #[] 0)).heap.size = w.heap.size + 1 + 1 + 1 + 1 := by simp [hUz]
    rw [← hW2]
    refine ⟨?_, ?_, ?_⟩
    · have h := ByF.made U
      rw [hUz] at h
      exact (h.below ((Below.refl _ _).alloc (Nat.le_refl _) _)).below ((Below.refl _ _).alloc (Nat.le_refl _) _)
    · have h := ByF.made (U.alloc (.map #[] 0))
      rw [s1] at h
      exact h.below ((Below.refl _ _).alloc (Nat.le_refl _) _)
    · have h := NmF.made ((U.alloc (.map #[] 0)).alloc (.map #[] 0))
      rw [s2] at h; exact h
  obtain ⟨m3, hm3⟩ : ∃ m, w.heap.size + 1 + 1 + 1 + 1 = m := ⟨_, rfl⟩
  obtain ⟨m2, hm2⟩ : ∃ m, w.heap.size + 1 + 1 + 1 = m := ⟨_, rfl⟩
  obtain ⟨m1, hm1⟩ : ∃ m, w.heap.size + 1 + 1 = m := ⟨_, rfl⟩
  rw [hW2, hm3, hm2, hm1]
  rw [hm3, hm2, hm1] at hB0
  have HB0 := Lib.hid hB0; have HZ2 := Lib.hid (show W2.heap.size = m1 + 3 ∧ m2 = m1 + 1 ∧ m3 = m1 + 2 ∧ m1 = w.heap.size + 2 by omega)
  have HB2 := Lib.hid hb2; have HK0 := Lib.hid hk0; have HK1 := Lib.hid hk1
  clear hW2 hz2 hb2 hk0 hk1 hB0 hm1 hm2 hm3 hmm
  go_wp2_with fail
  go_loopw [11, 12, 39] (fun v11 v12 vi wr => ∃ k : Nat, k ≤ n ∧ v11 = .int .i64 (((allG asks ts k).length : Nat) : Int) ∧ v12 = .int .i64 (((allE asks ts k).length : Nat) : Int) ∧ vi = .int .i64 k ∧ Hid (ByF (allG asks ts k).length m1 wr (putAll noneF (allG asks ts k))) ∧ Hid (ByF (allE asks ts k).length m2 wr (putAll noneF (allE asks ts k))) ∧ Hid (NmF (k * 100) m3 wr) ∧ Hid (Below m1 W2 wr)) (fun _ _ vi _ => n - (intOf vi).toNat)
  case atStart => exact ⟨0, Nat.zero_le _, rfl, rfl, rfl, Lib.hid HB0.out.1, Lib.hid HB0.out.2.1, Lib.hid HB0.out.2.2, Lib.hid (Below.refl _ _)⟩
  case round =>
    obtain ⟨k, hk, rfl, rfl, rfl, HM1, HM2, HM3, HB⟩ := hrel
    by_cases hlt : k < n
    · have hgk := HGL.out k; have hek := HEL.out k
      have HBW : Hid (Below w.heap.size w wr) := Lib.hid (HB2.out.trans (HB.out.mono (by have := HZ2.out; omega)))
      obtain ⟨aA', cA', hv, hA2⟩ := HA.out
      simp only [Value.slice.injEq] at hv
      obtain ⟨rfl, hnl, rfl⟩ := hv
      obtain ⟨b1, o1, rfl, hb1, hcA⟩ := hA2.resolve_left (fun h => by rw [h] at hnl; simp at hnl; omega)
      obtain ⟨p1, p2, p3, p4, hc0, hi1, hi2, hi3, hi4⟩ := hcA k (by omega)
      obtain ⟨aT', cT', hv, hT2⟩ := HT.out
      simp only [Value.slice.injEq] at hv
      obtain ⟨rfl, hnt, rfl⟩ := hv
      obtain ⟨b2, o2, rfl, hb2, hcT⟩ := hT2.resolve_left (fun h => by rw [h] at hnt; simp at hnt; omega)
      obtain ⟨q1, q2, q3, hc1, hj1, hj2, hj3⟩ := hcT k (by omega)
      have hf := HFIT.out k hlt
      have hr2 := HR2.out k; have he2 := HE2.out k; have hn2 := HN2.out k; have hr1 := HR1.out k; have he1 := HE1.out k; have hn1 := HN1.out k
      have hgs : allG asks ts (k + 1) = allG asks ts k ++ gP (asks.getD k dAsk) (ts.getD k dTl) := rfl
      have hes : allE asks ts (k + 1) = allE asks ts k ++ eP (asks.getD k dAsk) (ts.getD k dTl) := rfl
      obtain ⟨A, hAe⟩ : ∃ A, asks.getD k dAsk = A := ⟨_, rfl⟩
      obtain ⟨T, hTe⟩ : ∃ T, ts.getD k dTl = T := ⟨_, rfl⟩
      rw [hAe] at hc0 hi1 hi2 hi3 hi4 hf hr2 he2 hr1 he1 hgs hes
      rw [hTe] at hc1 hj1 hj2 hj3 hf hn2 hn1 hgs hes
      obtain ⟨e1, d1, rfl, _⟩ := hi1
      obtain ⟨e2, d2, rfl, hRA⟩ := hi2
      obtain ⟨e3, d3, rfl, _⟩ := hi3
      obtain ⟨e4, d4, rfl, hEA⟩ := hi4
      obtain ⟨g1, z1, rfl, hGO⟩ := hj1
      obtain ⟨g2, z2, rfl, hNU⟩ := hj2
      obtain ⟨g3, z3, rfl, hNA⟩ := hj3
      have hsh := hf.sh; have hfna := hf.na
      rw [hf.g1] at hc0
      rw [hf.g2] at hc0 hRA hr1
      rw [hf.e1] at hc0
      rw [hf.e2] at hc0 hEA he1
      obtain ⟨ng, hng⟩ : ∃ ng, T.got.length = ng := ⟨_, rfl⟩
      obtain ⟨nu, hnu⟩ : ∃ nu, T.nums.length = nu := ⟨_, rfl⟩
      obtain ⟨nm, hnm⟩ : ∃ nm, T.names.length = nm := ⟨_, rfl⟩
      have hgl2 := hf.g2; have hel2 := hf.e2
      rw [hng] at hc0 hc1 hRA hr1 hGO hgl2
      rw [hnu] at hc0 hc1 hEA he1 hNU hel2
      rw [hnm] at hc1 hn1 hNA hfna
      have hcw := fun j u h => (HBW.out.cell (p := ⟨b1, o1 + k * 11 + j, none⟩) hb1).trans (hc0 j u h)
      have x0 : wr.cell? ⟨b1, o1 + k * 11, none⟩ = some (.int .u32 (A.shard : Int)) := hcw 0 _ rfl
      have x1 : wr.cell? ⟨b1, o1 + k * 11 + 1, none⟩ = some (.slice e1 ng d1) := hcw 1 _ rfl
      have x2 : wr.cell? ⟨b1, o1 + k * 11 + 2, none⟩ = some (.slice e2 ng d2) := hcw 2 _ rfl
      have x3 : wr.cell? ⟨b1, o1 + k * 11 + 3, none⟩ = some (.slice e3 nu d3) := hcw 3 _ rfl
      have x4 : wr.cell? ⟨b1, o1 + k * 11 + 4, none⟩ = some (.slice e4 nu d4) := hcw 4 _ rfl
      have x5 : wr.cell? ⟨b1, o1 + k * 11 + 5, none⟩ = some (.bool A.list) := hcw 5 _ rfl
      have x6 : wr.cell? ⟨b1, o1 + k * 11 + 6, none⟩ = some (.string A.pre) := hcw 6 _ rfl
      have x7 : wr.cell? ⟨b1, o1 + k * 11 + 7, none⟩ = some (.bool A.give) := hcw 7 _ rfl
      have x8 : wr.cell? ⟨b1, o1 + k * 11 + 8, none⟩ = some (.bool A.take) := hcw 8 _ rfl
      have x9 : wr.cell? ⟨b1, o1 + k * 11 + 9, none⟩ = some (.int .u64 (A.f : Int)) := hcw 9 _ rfl
      have x10 : wr.cell? ⟨b1, o1 + k * 11 + 10, none⟩ = some (.int .u64 (A.t : Int)) := hcw 10 _ rfl
      have HTC := Lib.hid (fun (W : World) (h : Below w.heap.size w W) => show W.cell? ⟨b2, o2 + k * 4, none⟩ = some (.int .u32 (T.shard : Int)) ∧ W.cell? ⟨b2, o2 + k * 4 + 1, none⟩ = some (.slice g1 ng z1) ∧ W.cell? ⟨b2, o2 + k * 4 + 2, none⟩ = some (.slice g2 nu z2) ∧ W.cell? ⟨b2, o2 + k * 4 + 3, none⟩ = some (.slice g3 nm z3) from
        ⟨(h.cell (p := ⟨b2, o2 + k * 4, none⟩) hb2).trans (hc1 0 _ rfl), (h.cell (p := ⟨b2, o2 + k * 4 + 1, none⟩) hb2).trans (hc1 1 _ rfl), (h.cell (p := ⟨b2, o2 + k * 4 + 2, none⟩) hb2).trans (hc1 2 _ rfl), (h.cell (p := ⟨b2, o2 + k * 4 + 3, none⟩) hb2).trans (hc1 3 _ rfl)⟩)
      rw [hsh] at x0
      have HRA := Lib.hid hRA; have HEA := Lib.hid hEA; have HGO := Lib.hid hGO; have HNU := Lib.hid hNU; have HNA := Lib.hid hNA; have HGS := Lib.hid hgs; have HES := Lib.hid hes; have HR2k := Lib.hid hr2; have HE2k := Lib.hid he2; have HN2k := Lib.hid hn2; have HFNA := Lib.hid hfna; have HGL2 := Lib.hid hgl2; have HEL2 := Lib.hid hel2; have HNG := Lib.hid hng; have HNU2 := Lib.hid hnu; have HNM := Lib.hid hnm
      have hki : (k : Int) < (n : Int) := by omega
      obtain ⟨sh, hsh2⟩ : ∃ sh, T.shard = sh := ⟨_, rfl⟩
      obtain ⟨rc, hrc⟩ : ∃ rc, (allG asks ts k).length = rc := ⟨_, rfl⟩
      obtain ⟨ec, hec⟩ : ∃ ec, (allE asks ts k).length = ec := ⟨_, rfl⟩
      rw [hsh2] at x0 HTC
      rw [hrc] at hgk HM1
      rw [hec] at hek HM2
      rw [hrc, hec]
      have HRC := Lib.hid hrc; have HEC := Lib.hid hec
      have hrci : (rc : Int) ≤ 5000000 := by omega
      have heci : (ec : Int) ≤ 5000000 := by omega
      clear hcw hA2 hcA hT2 hcT hf hgs hes hRA hEA hGO hNU hNA hc0 hc1 hr2 he2 hn2 hsh hfna hgl2 hel2 hng hnu hnm hrc hec hsh2 hAe hTe hnl hnt hgk hek
      go_upto_region 8 with fail
      obtain ⟨W3, hW3⟩ : ∃ W3, wr.alloc (.cells #[.int .u32 (sh : Int), .slice e1 ng d1, .slice e2 ng d2, .slice e3 nu d3, .slice e4 nu d4, .bool A.list, .string A.pre, .bool A.give, .bool A.take, .int .u64 (A.f : Int), .int .u64 (A.t : Int)] 47) = W3 := ⟨_, rfl⟩
      obtain ⟨hz3, hq3, hb3⟩ := alloc_keep hW3
      obtain ⟨q, hq⟩ : ∃ q, wr.heap.size = q := ⟨_, rfl⟩
      rw [hW3, hq]
      have HB3 := Lib.hid hb3
      rw [hq] at hz3 hq3
      have hql : q < W3.heap.size := by omega
      have HKC := Lib.hid (fun (W : World) (h : Below W3.heap.size W3 W) => show W.cell? ⟨q, 0, none⟩ = some (.int .u32 (sh : Int)) ∧ W.cell? ⟨q, 1, none⟩ = some (.slice e1 ng d1) ∧ W.cell? ⟨q, 2, none⟩ = some (.slice e2 ng d2) ∧ W.cell? ⟨q, 3, none⟩ = some (.slice e3 nu d3) ∧ W.cell? ⟨q, 4, none⟩ = some (.slice e4 nu d4) ∧ W.cell? ⟨q, 5, none⟩ = some (.bool A.list) ∧ W.cell? ⟨q, 6, none⟩ = some (.string A.pre) ∧ W.cell? ⟨q, 7, none⟩ = some (.bool A.give) ∧ W.cell? ⟨q, 8, none⟩ = some (.bool A.take) ∧ W.cell? ⟨q, 9, none⟩ = some (.int .u64 (A.f : Int)) ∧ W.cell? ⟨q, 10, none⟩ = some (.int .u64 (A.t : Int)) ∧ W.cell? ⟨b2, o2 + k * 4, none⟩ = some (.int .u32 (sh : Int)) ∧ W.cell? ⟨b2, o2 + k * 4 + 1, none⟩ = some (.slice g1 ng z1) ∧ W.cell? ⟨b2, o2 + k * 4 + 2, none⟩ = some (.slice g2 nu z2) ∧ W.cell? ⟨b2, o2 + k * 4 + 3, none⟩ = some (.slice g3 nm z3) by
        have hb := (h.block q hql).trans hq3
        exact ⟨cell_of hb 0, cell_of hb 1, cell_of hb 2, cell_of hb 3, cell_of hb 4, cell_of hb 5, cell_of hb 6, cell_of hb 7, cell_of hb 8, cell_of hb 9, cell_of hb 10, HTC.out W (HBW.out.trans ((HB3.out.trans (h.mono HB3.out.size)).mono HBW.out.size))⟩)
      have HQ := Lib.hid hq; have HZ3 := Lib.hid hz3; have HQ3 := Lib.hid hq3
      clear x0 x1 x2 x3 x4 x5 x6 x7 x8 x9 x10 hz3 hb3 hq hW3 hq3 hql
      refine wp_region_quiet (C := fun w' => Hid (Below W3.heap.size W3 w')) (by kernel_rfl) (by kernel_rfl) (Lib.hid (Below.drew (Below.refl _ _))) ?_
      refine quiet_plain rfl (Value.agg #[.int .u32 (sh : Int), .slice e1 ng d1, .slice e2 ng d2, .slice e3 nu d3, .slice e4 nu d4, .bool A.list, .string A.pre, .bool A.give, .bool A.take, .int .u64 (A.f : Int), .int .u64 (A.t : Int)]) (fun w' hw' => ?_) ?_
      · obtain ⟨f0, f1, f2, f3, f4, f5, f6, f7, f8, f9, f10, y0, y1, y2, y3⟩ := HKC.out w' hw'.out
        go_simp
      go_frame
      refine quiet_plain rfl (Value.slice (some ⟨b2, o2, none⟩) n cT) (fun w' hw' => ?_) ?_
      · obtain ⟨f0, f1, f2, f3, f4, f5, f6, f7, f8, f9, f10, y0, y1, y2, y3⟩ := HKC.out w' hw'.out
        go_simp
      go_frame
      refine quiet_plain rfl (Value.int .i64 (k : Int)) (fun w' hw' => ?_) ?_
      · obtain ⟨f0, f1, f2, f3, f4, f5, f6, f7, f8, f9, f10, y0, y1, y2, y3⟩ := HKC.out w' hw'.out
        go_simp
      go_frame
      refine quiet_plain rfl (Value.pointer (some ⟨b2, o2 + k * 4, none⟩)) (fun w' hw' => ?_) ?_
      · obtain ⟨f0, f1, f2, f3, f4, f5, f6, f7, f8, f9, f10, y0, y1, y2, y3⟩ := HKC.out w' hw'.out
        go_simp
      go_frame
      refine quiet_plain rfl (Value.agg #[.int .u32 (sh : Int), .slice g1 ng z1, .slice g2 nu z2, .slice g3 nm z3]) (fun w' hw' => ?_) ?_
      · obtain ⟨f0, f1, f2, f3, f4, f5, f6, f7, f8, f9, f10, y0, y1, y2, y3⟩ := HKC.out w' hw'.out
        go_simp
      go_frame
      refine quiet_call rfl (Value.bool true) 46 #[.agg #[.int .u32 (sh : Int), .slice e1 ng d1, .slice e2 ng d2, .slice e3 nu d3, .slice e4 nu d4, .bool A.list, .string A.pre, .bool A.give, .bool A.take, .int .u64 (A.f : Int), .int .u64 (A.t : Int)], .agg #[.int .u32 (sh : Int), .slice g1 ng z1, .slice g2 nu z2, .slice g3 nm z3]] (fun w' hw' => ⟨?_, ?_⟩) ?_
      · go_simp
      · exact (fits_ok sh ng nu nm d1 d2 d3 d4 z1 z2 z3 A.f A.t e1 e2 e3 e4 g1 g2 g3 A.list A.give A.take A.pre HFNA.out w').mono (fun e w6 ⟨he, hb⟩ => ⟨he, Lib.hid (hw'.out.trans (hb.mono hw'.out.size))⟩)
      go_frame
      refine quiet_plain rfl (Value.bool false) (fun w' hw' => ?_) ?_
      · obtain ⟨f0, f1, f2, f3, f4, f5, f6, f7, f8, f9, f10, y0, y1, y2, y3⟩ := HKC.out w' hw'.out
        go_simp
      go_frame
      refine wpQuiet_nil ?_
      intro W4 hW4
      have HB4 : Hid (Below W3.heap.size W3 W4) := hW4
      clear hW4
      obtain ⟨f0, f1, f2, f3, f4, f5, f6, f7, f8, f9, f10, y0, y1, y2, y3⟩ := HKC.out W4 HB4.out
      have HBR4 : Hid (Below wr.heap.size wr W4) := Lib.hid (HB3.out.trans (HB4.out.mono (by have := HZ3.out; have := HQ.out; omega)))
      have HM1b := Lib.hid (HM1.out.below HBR4.out); have HM2b := Lib.hid (HM2.out.below HBR4.out); have HM3b := Lib.hid (HM3.out.below HBR4.out)
      have HBW4 := Lib.hid (HBW.out.trans (HBR4.out.mono HBW.out.size))
      have HBm4 := Lib.hid (HB.out.trans (HBR4.out.mono (by have := HM1.out.lt; omega)))
      have HKQ : Hid (∀ U : World, ButS (fun x => x = m1 ∨ x = m2 ∨ x = m3) W4 U → U.cell? ⟨q, 4, none⟩ = some (.slice e4 nu d4)) := Lib.hid (fun U h => by
        have hq4 := (HB4.out.block q (Array.getElem?_eq_some_iff.1 HQ3.out).1).trans HQ3.out
        have hm := HM3.out.lt; have hz := HZ2.out; have hqe := HQ.out
        exact cell_of ((h.block q (Array.getElem?_eq_some_iff.1 hq4).1 (by omega)).trans hq4) 4)
      clear HM1 HM2 HM3 HB
      go_wp2_with fail
      go_loopw [11, 55] (fun v11 vi wr2 => ∃ j : Nat, j ≤ ng ∧ v11 = .int .i64 ((rc + j : Nat) : Int) ∧ vi = .int .i64 j ∧ Hid (ByF (rc + j) m1 wr2 (putAll noneF (allG asks ts k ++ (gP A T).take j))) ∧ Hid (ButS (fun x => x = m1) W4 wr2)) (fun _ vi _ => ng - (intOf vi).toNat)
      case atStart => exact ⟨0, Nat.zero_le _, rfl, rfl, Lib.hid (by rw [List.take_zero, List.append_nil]; exact HM1b.out), Lib.hid (ButS.refl _)⟩
      case round =>
        clear f0 f1 f2 f3 f4 f5 f6 f7 f8 f9 f10 y0 y1 y2 y3
        obtain ⟨j, hj, rfl, rfl, HM1c, HBT⟩ := hrel
        have HBW5 : Hid (Below w.heap.size w wr) := Lib.hid (HBW4.out.trans (HBT.out.below (fun x hx => by have h : x = m1 := hx; have := HZ2.out; omega) HBW4.out.size))
        have HBT4 : Hid (∀ b, b < W4.heap.size → b ≠ m1 → wr.heap[b]? = W4.heap[b]?) := Lib.hid (fun b hb hne => HBT.out.block b hb hne)
        by_cases hlt2 : j < ng
        · have hjr : j < A.readAt.length := by have := HGL2.out; have := HNG.out; omega
          have hjg : j < T.got.length := by have := HNG.out; omega
          obtain ⟨b3, o3, rfl, hb3, hc3⟩ := HRA.out.resolve_left (fun h => by rw [h] at hjr; simp at hjr)
          obtain ⟨b4, o4, rfl, hb4, hc4⟩ := HGO.out.resolve_left (fun h => by rw [h] at hjg; simp at hjg)
          have hx3 := hc3 j hlt2 0 _ rfl
          rw [Nat.mul_one, Nat.add_zero] at hx3
          have h4 := hc4 j hlt2
          have hxm : A.readAt.getD j 0 < 4611686018427387904 := HR2k.out _ (by rw [List.getD_eq_getElem?_getD, List.getElem?_eq_getElem hjr]; exact List.getElem_mem _)
          have htk : (gP A T).take (j + 1) = (gP A T).take j ++ [(A.readAt.getD j 0, gtV (T.got.getD j dGt))] := by
            unfold gP
            rw [zip_take _ _ j hjr (by rw [List.length_map]; exact hjg), List.getD_eq_getElem?_getD, List.getElem?_eq_getElem hjr, List.getD_eq_getElem?_getD, List.getElem?_eq_getElem hjg, List.getElem_map]
            rfl
          obtain ⟨x, hx⟩ : ∃ x, A.readAt.getD j 0 = x := ⟨_, rfl⟩
          obtain ⟨g, hg⟩ : ∃ g, T.got.getD j dGt = g := ⟨_, rfl⟩
          rw [hx] at hx3 hxm htk
          rw [hg] at h4 htk
          have z0 : wr.cell? ⟨b3, o3 + j, none⟩ = some (.int .i64 (x : Int)) := (HBW5.out.cell (p := ⟨b3, o3 + j, none⟩) hb3).trans hx3
          have z1 : wr.cell? ⟨b4, o4 + j * 4, none⟩ = some (.int .u64 (g.n : Int)) := (HBW5.out.cell (p := ⟨b4, o4 + j * 4, none⟩) hb4).trans (h4 0 _ rfl)
          have z2 : wr.cell? ⟨b4, o4 + j * 4 + 1, none⟩ = some (.int .u8 (g.st : Int)) := (HBW5.out.cell (p := ⟨b4, o4 + j * 4 + 1, none⟩) hb4).trans (h4 1 _ rfl)
          have z3 : wr.cell? ⟨b4, o4 + j * 4 + 2, none⟩ = some (.string g.tx) := (HBW5.out.cell (p := ⟨b4, o4 + j * 4 + 2, none⟩) hb4).trans (h4 2 _ rfl)
          have z4 : wr.cell? ⟨b4, o4 + j * 4 + 3, none⟩ = some (.int .i64 g.er) := (HBW5.out.cell (p := ⟨b4, o4 + j * 4 + 3, none⟩) hb4).trans (h4 3 _ rfl)
          obtain ⟨_, y1, _, _⟩ := HTC.out wr HBW5.out
          obtain ⟨rj, hrj⟩ : ∃ rj, rc + j = rj := ⟨_, rfl⟩
          have hrb : (rj : Int) ≤ 9000000 := by omega
          have hjb : (j : Int) ≤ 1000 := by omega
          rw [hrj] at HM1c ⊢
          obtain ⟨w2, hrun, hby, hgr⟩ := HM1c.out.put (by omega) Tryz.underlying113 x hxm (gtV g)
          have HBY2 : Hid (ByF (rc + (j + 1)) m1 w2 (putAll noneF (allG asks ts k ++ (gP A T).take (j + 1)))) := Lib.hid (by
            rw [htk, ← List.append_assoc, putAll_snoc, show rc + (j + 1) = rj + 1 by omega]; exact hby)
          have HBT2 : Hid (ButS (fun x => x = m1) W4 w2) := Lib.hid (HBT.out.trans (ButS.grown hgr rfl))
          have hjn : (j : Int) < (ng : Int) := by omega
          have HRJ := Lib.hid hrj
          unfold gtV at hrun
          clear hx3 h4 hxm htk hx hg hc3 hc4 hby hgr hrj hjr hjg HBT HBT4
          go_wp2_with fail
          go_roundw
          case rel => exact ⟨j + 1, by omega, by rw [show rc + (j + 1) = rj + 1 by have := HRJ.out; omega]; go_num, by go_num, HBY2, HBT2⟩
          case measure => simp [intOf]; omega
        · have hjn : ¬ (j : Int) < (ng : Int) := by omega
          obtain rfl : j = ng := by omega
          have hlg : (gP A T).length = j := by
            unfold gP; rw [List.length_zip, List.length_map]; have := HGL2.out; have := HNG.out; omega
          have HM1d : Hid (ByF (allG asks ts (k + 1)).length m1 wr (putAll noneF (allG asks ts (k + 1)))) := Lib.hid (by
            have h := HM1c.out
            rw [List.take_of_length_le (by omega)] at h
            rw [HGS.out, List.length_append, HRC.out, hlg]; exact h)
          have HLG : Hid ((allG asks ts (k + 1)).length = rc + j) := Lib.hid (by rw [HGS.out, List.length_append, HRC.out, hlg])
          have HM2d := Lib.hid (HM2b.out.but HBT.out (by have := HZ2.out; omega)); have HM3d := Lib.hid (HM3b.out.but HBT.out (by have := HZ2.out; omega))
          have HU2 : Hid (ButS (fun x => x = m1 ∨ x = m2 ∨ x = m3) W4 wr) := Lib.hid (HBT.out.mono (fun x hx => Or.inl hx))
          have x4 := HKQ.out wr HU2.out
          clear hlg HM1c HBT4 HM1b HM2b HM3b HBT
          obtain ⟨U2, hU2⟩ : ∃ U, wr = U := ⟨_, rfl⟩
          subst wr
          go_wp2_with fail
          go_loopw [12, 76] (fun v12 vi wr2 => ∃ i : Nat, i ≤ nu ∧ v12 = .int .i64 ((ec + i : Nat) : Int) ∧ vi = .int .i64 i ∧ Hid (ByF (ec + i) m2 wr2 (putAll noneF (allE asks ts k ++ (eP A T).take i))) ∧ Hid (ButS (fun x => x = m2) U2 wr2)) (fun _ vi _ => nu - (intOf vi).toNat)
          case atStart => exact ⟨0, Nat.zero_le _, rfl, rfl, Lib.hid (by rw [List.take_zero, List.append_nil]; exact HM2d.out), Lib.hid (ButS.refl _)⟩
          case round =>
            clear x4
            obtain ⟨i, hi, rfl, rfl, HM2c, HBT⟩ := hrel
            have HBW6 : Hid (Below w.heap.size w wr) := Lib.hid (HBW5.out.trans (HBT.out.below (fun x hx => by have h : x = m2 := hx; have := HZ2.out; omega) HBW5.out.size))
            by_cases hlt3 : i < nu
            · have hjr : i < A.editAt.length := by have := HEL2.out; have := HNU2.out; omega
              have hjg : i < T.nums.length := by have := HNU2.out; omega
              obtain ⟨b3, o3, rfl, hb3, hc3⟩ := HEA.out.resolve_left (fun h => by rw [h] at hjr; simp at hjr)
              obtain ⟨b4, o4, rfl, hb4, hc4⟩ := HNU.out.resolve_left (fun h => by rw [h] at hjg; simp at hjg)
              have hx3 := hc3 i hlt3 0 _ rfl
              rw [Nat.mul_one, Nat.add_zero] at hx3
              have h4 := hc4 i hlt3 0 _ rfl
              rw [Nat.mul_one, Nat.add_zero] at h4
              have hxm : A.editAt.getD i 0 < 4611686018427387904 := HE2k.out _ (by rw [List.getD_eq_getElem?_getD, List.getElem?_eq_getElem hjr]; exact List.getElem_mem _)
              have htk : (eP A T).take (i + 1) = (eP A T).take i ++ [(A.editAt.getD i 0, .int .u64 ((T.nums.getD i 0 : Nat) : Int))] := by
                unfold eP
                rw [zip_take _ _ i hjr (by rw [List.length_map]; exact hjg), List.getD_eq_getElem?_getD, List.getElem?_eq_getElem hjr, List.getD_eq_getElem?_getD, List.getElem?_eq_getElem hjg, List.getElem_map]
                rfl
              obtain ⟨x, hx⟩ : ∃ x, A.editAt.getD i 0 = x := ⟨_, rfl⟩
              obtain ⟨g, hg⟩ : ∃ g, T.nums.getD i 0 = g := ⟨_, rfl⟩
              rw [hx] at hx3 hxm htk
              rw [hg] at h4 htk
              have z0 : wr.cell? ⟨b3, o3 + i, none⟩ = some (.int .i64 (x : Int)) := (HBW6.out.cell (p := ⟨b3, o3 + i, none⟩) hb3).trans hx3
              have z1 : wr.cell? ⟨b4, o4 + i, none⟩ = some (.int .u64 (g : Int)) := (HBW6.out.cell (p := ⟨b4, o4 + i, none⟩) hb4).trans h4
              obtain ⟨_, _, y1, _⟩ := HTC.out wr HBW6.out
              obtain ⟨rj, hrj⟩ : ∃ rj, ec + i = rj := ⟨_, rfl⟩
              have hrb : (rj : Int) ≤ 9000000 := by omega
              have hjb : (i : Int) ≤ 1000 := by omega
              rw [hrj] at HM2c ⊢
              obtain ⟨w2, hrun, hby, hgr⟩ := HM2c.out.put (by omega) Tryz.underlying114 x hxm (.int .u64 (g : Int))
              have HBY2 : Hid (ByF (ec + (i + 1)) m2 w2 (putAll noneF (allE asks ts k ++ (eP A T).take (i + 1)))) := Lib.hid (by
                rw [htk, ← List.append_assoc, putAll_snoc, show ec + (i + 1) = rj + 1 by omega]; exact hby)
              have HBT2 : Hid (ButS (fun x => x = m2) U2 w2) := Lib.hid (HBT.out.trans (ButS.grown hgr rfl))
              have hjn : (i : Int) < (nu : Int) := by omega
              have HRJ := Lib.hid hrj
              clear hx3 h4 hxm htk hx hg hc3 hc4 hby hgr hrj hjr hjg HBT
              go_wp2_with fail
              go_roundw
              case rel => exact ⟨i + 1, by omega, by rw [show ec + (i + 1) = rj + 1 by have := HRJ.out; omega]; go_num, by go_num, HBY2, HBT2⟩
              case measure => simp [intOf]; omega
            · have hin : ¬ (i : Int) < (nu : Int) := by omega
              obtain rfl : i = nu := by omega
              have hlg : (eP A T).length = i := by
                unfold eP; rw [List.length_zip, List.length_map]; have := HEL2.out; have := HNU2.out; omega
              have HM2e : Hid (ByF (allE asks ts (k + 1)).length m2 wr (putAll noneF (allE asks ts (k + 1)))) := Lib.hid (by
                have h := HM2c.out
                rw [List.take_of_length_le (by omega)] at h
                rw [HES.out, List.length_append, HEC.out, hlg]; exact h)
              have HLE : Hid ((allE asks ts (k + 1)).length = ec + i) := Lib.hid (by rw [HES.out, List.length_append, HEC.out, hlg])
              have HM1e := Lib.hid (HM1d.out.but HBT.out (by have := HZ2.out; omega)); have HM3e := Lib.hid (HM3d.out.but HBT.out (by have := HZ2.out; omega))
              have HU3 : Hid (ButS (fun x => x = m1 ∨ x = m2 ∨ x = m3) W4 wr) := Lib.hid (HU2.out.trans (HBT.out.mono (fun x hx => Or.inr (Or.inl hx))))
              obtain ⟨_, _, _, y3⟩ := HTC.out wr HBW6.out
              clear hlg HM2c HM1d HM2d HM3d HBT
              obtain ⟨U3, hU3⟩ : ∃ U, wr = U := ⟨_, rfl⟩
              subst wr
              go_wp2_with fail
              go_loopw [100] (fun vi wr2 => ∃ u : Nat, u ≤ nm ∧ vi = .int .i64 u ∧ Hid (NmF (k * 100 + u) m3 wr2) ∧ Hid (ButS (fun x => x = m3) U3 wr2)) (fun vi _ => nm - (intOf vi).toNat)
              case atStart => exact ⟨0, Nat.zero_le _, rfl, HM3e, Lib.hid (ButS.refl _)⟩
              case round =>
                clear y3
                obtain ⟨u, hu, rfl, HM3c, HBT⟩ := hrel
                have HBW7 : Hid (Below w.heap.size w wr) := Lib.hid (HBW6.out.trans (HBT.out.below (fun x hx => by have h : x = m3 := hx; have := HZ2.out; omega) HBW6.out.size))
                by_cases hlt4 : u < nm
                · have hun : u < T.names.length := by have := HNM.out; omega
                  obtain ⟨b3, o3, rfl, hb3, hc3⟩ := HNA.out.resolve_left (fun h => by rw [h] at hun; simp at hun)
                  have hx3 := hc3 u hlt4 0 _ rfl
                  rw [Nat.mul_one, Nat.add_zero] at hx3
                  have hxm : (T.names.getD u ByteArray.empty).size ≤ 140737488351232 := HN2k.out _ (by rw [List.getD_eq_getElem?_getD, List.getElem?_eq_getElem hun]; exact List.getElem_mem _)
                  obtain ⟨s, hs⟩ : ∃ s, T.names.getD u ByteArray.empty = s := ⟨_, rfl⟩
                  rw [hs] at hx3 hxm
                  have z0 : wr.cell? ⟨b3, o3 + u, none⟩ = some (.string s) := (HBW7.out.cell (p := ⟨b3, o3 + u, none⟩) hb3).trans hx3
                  obtain ⟨c, hl, hmore⟩ := HM3c.out.more (by omega) s hxm
                  obtain ⟨w2, hrun, hnmf, hgr⟩ := hmore (wrap64 (c + 1))
                  have HNM2 : Hid (NmF (k * 100 + (u + 1)) m3 w2) := Lib.hid hnmf
                  have HBT2 : Hid (ButS (fun x => x = m3) U3 w2) := Lib.hid (HBT.out.trans (ButS.grown hgr rfl))
                  have hui : (u : Int) < (nm : Int) := by omega
                  have hub : (u : Int) ≤ 100 := by omega
                  clear hx3 hxm hs hc3 hmore hnmf hgr hun HBT
                  go_wp2_with fail
                  go_roundw
                  case rel => exact ⟨u + 1, by omega, by go_num, HNM2, HBT2⟩
                  case measure => simp [intOf]; omega
                · have hui : ¬ (u : Int) < (nm : Int) := by omega
                  have HM1f := Lib.hid (HM1e.out.but HBT.out (by have := HZ2.out; omega)); have HM2f := Lib.hid (HM2e.out.but HBT.out (by have := HZ2.out; omega))
                  have HM3f : Hid (NmF ((k + 1) * 100) m3 wr) := Lib.hid (by
                    obtain ⟨D, nn, h1, h2, h3⟩ := HM3c.out
                    exact ⟨D, nn, h1, by omega, h3⟩)
                  have HBf : Hid (Below m1 W2 wr) := Lib.hid (HBm4.out.trans ((HU3.out.trans (HBT.out.mono (fun x hx => Or.inr (Or.inr hx)))).below (fun x hx => by have := HZ2.out; omega) (by have := HBm4.out.size; have := HZ2.out; omega)))
                  go_wp2_with fail
                  go_roundw
                  case rel => exact ⟨k + 1, by omega, by rw [HLG.out, Int.natCast_add], by rw [HLE.out, Int.natCast_add], by go_num, HM1f, HM2f, HM3f, HBf⟩
                  case measure => simp [intOf]; omega
    · have hki : ¬ (k : Int) < (n : Int) := by omega
      obtain rfl : k = n := by omega
      have HBW : Hid (Below w.heap.size w wr) := Lib.hid (HB2.out.trans (HB.out.mono (by have := HZ2.out; omega)))
      have HNN : Hid (∃ (D : DataW Value) (nn : Nat), wr.ownsMap Tryz.prog 9 heldR m3 nn D ∧ nn ≤ 1000000) := Lib.hid (by
        obtain ⟨D, nn, h1, h2, _⟩ := HM3.out
        exact ⟨D, nn, h1, by omega⟩)
      rw [HCR.out, HCE.out]
      have HMr : Hid (ByF nr m1 wr (putAll noneF (allG asks ts k))) := Lib.hid (by have h := HM1.out; rw [HCR.out] at h; exact h)
      have HMe : Hid (ByF ne m2 wr (putAll noneF (allE asks ts k))) := Lib.hid (by have h := HM2.out; rw [HCE.out] at h; exact h)
      obtain ⟨D, nn, hown, hnn⟩ := HNN.out
      have hsz := hown.size_le
      have hK := callsIn_wide.1 (Tryz.maps_Keys_48 (some m3) wr)
      have hS := callsIn_wide.1 (Tryz.slices_Sorted_keys_47_48 m3 nn D _ wr hown (by unfold maxLen; omega) (by omega))
      have HKN : Hid ((strKeys D).Nodup) := Lib.hid (by
        obtain ⟨es, hD, hpw, _⟩ := hown.entries (string_keyed Tryz.underlying9)
        obtain ⟨es', hD', hko⟩ := hown.keysOf
        obtain rfl : es = es' := by rw [hD] at hD'; simpa using hD'
        subst hD
        show (es.map fun p => strOf p.1).Nodup
        refine List.pairwise_map.2 (hpw.imp_of_mem fun {p q} hp' hq' hne e => hne ?_)
        obtain ⟨x, hx⟩ := hko p hp'
        obtain ⟨y, hy⟩ := hko q hq'
        obtain ⟨a, _, ha, _⟩ := Maps.keyOf_str Tryz.underlying9 hx
        obtain ⟨b, _, hb, _⟩ := Maps.keyOf_str Tryz.underlying9 hy
        rw [ha, hb] at e ⊢
        exact congrArg _ e)
      have HSZ : Hid ((strKeys D).length ≤ 1000000) := Lib.hid (by
        obtain ⟨es, hD, _, _⟩ := hown.entries (string_keyed Tryz.underlying9)
        subst hD
        show (es.map fun p => strOf p.1).length ≤ 1000000
        rw [List.length_map]
        have h : es.length ≤ nn := hsz
        omega)
      have HKK := Lib.hid hK; have HSS := Lib.hid hS
      clear hown hnn hsz hK hS HM1 HM2 HM3 HNN
      go_wp2_with fail
      refine HKK.out.mono ?_
      rintro en w5 ⟨rfl, rfl⟩
      go_wp2_with fail
      refine HSS.out.mono ?_
      rintro en w6 ⟨u3, ss, rfl, hperm, hrow, hnil, hb6⟩
      have HB6 : Hid (Below wr.heap.size wr w6) := Lib.hid (((Below.refl _ wr).alloc (Nat.le_refl _) _).trans (hb6.mono (by simp)))
      have HB3 : Hid (w.heap.size + 1 < (wr.alloc (.cells #[.map (some m3)] 115)).heap.size) := Lib.hid (by
        have := HMr.out.lt; have := HZ2.out; simp; omega)
      obtain ⟨B3, hB3⟩ : ∃ B3, (wr.alloc (.cells #[.map (some m3)] 115)).heap.size = B3 := ⟨_, rfl⟩
      rw [hB3] at hrow HB3
      obtain ⟨a3, c3, rfl⟩ := ownShape' hrow
      obtain ⟨nl, hnl⟩ : ∃ nl, ss.length = nl := ⟨_, rfl⟩
      have HRW3 := Lib.hid hrow
      have HNL := Lib.hid hnl
      rw [hnl] at HRW3 ⊢
      have HPERM := Lib.hid hperm
      clear hperm hrow hnil hb6 HKK HSS hnl hB3
      go_upto_region 29 with fail
      obtain ⟨W7, hW7⟩ : ∃ W7, w6.alloc (.cells #[.slice none 0 0, .slice none 0 0, .slice a3 nl c3] 67) = W7 := ⟨_, rfl⟩
      obtain ⟨hz7, hr7, hb7⟩ := alloc_keep hW7
      obtain ⟨R, hR⟩ : ∃ R, w6.heap.size = R := ⟨_, rfl⟩
      rw [hW7, hR]
      rw [hR] at hz7 hr7 hb7
      have HBW6 : Hid (Below w.heap.size w w6) := Lib.hid (HBW.out.trans (HB6.out.mono HBW.out.size))
      have HMr6 := Lib.hid (HMr.out.below HB6.out); have HMe6 := Lib.hid (HMe.out.below HB6.out)
      have HKK0 : Hid (∀ U : World, Below R w6 U → U.cell? ⟨w.heap.size, 1, none⟩ = some (.slice aR nr cR) ∧ U.cell? ⟨w.heap.size, 2, none⟩ = some (.slice aE ne cE) ∧ w.heap.size + 1 < R ∧ U.heap[w.heap.size + 1]? = some (.cells #[.slice none 0 0, .slice none 0 0, .slice none 0 0] 67 (0, 0))) := Lib.hid (fun U h => by
        have hz := HZ2.out
        have e1 : wr.heap[w.heap.size]? = _ := (HB.out.block _ (by omega)).trans HK0.out
        have e2 := (HB6.out.block _ (Array.getElem?_eq_some_iff.1 e1).1).trans e1
        have e3 := (h.block _ (by rw [← hR]; exact (Array.getElem?_eq_some_iff.1 e2).1)).trans e2
        have f1 : wr.heap[w.heap.size + 1]? = _ := (HB.out.block _ (by omega)).trans HK1.out
        have f2 := (HB6.out.block _ (Array.getElem?_eq_some_iff.1 f1).1).trans f1
        have f3 := (h.block _ (by rw [← hR]; exact (Array.getElem?_eq_some_iff.1 f2).1)).trans f2
        exact ⟨cell_of e3 1, cell_of e3 2, by rw [← hR]; exact (Array.getElem?_eq_some_iff.1 f2).1, f3⟩)
      have HBWU : Hid (∀ U : World, Below R w6 U → Below w.heap.size w U) := Lib.hid (fun U h => HBW6.out.trans (h.mono (by rw [← hR]; exact HBW6.out.size)))
      have HR7 := Lib.hid hr7; have HB7 := Lib.hid hb7; have HRS := Lib.hid hR; have HZ7 := Lib.hid hz7
      obtain ⟨y1, _, _, _⟩ := HKK0.out W7 HB7.out
      have hnr : (nr : Int) ≤ 9000000 := by have := HGL.out k; have := HCR.out; omega
      have hne : (ne : Int) ≤ 9000000 := by have := HEL.out k; have := HCE.out; omega
      obtain ⟨iG, hG0, hG1, hG2, hG3⟩ := info_parts infoGt
      have HG0 := Lib.hid hG0; have HG1 := Lib.hid hG1; have HG2 := Lib.hid hG2; have HG3 := Lib.hid hG3
      obtain ⟨iU, hU0, hU1, hU2, hU3⟩ := info_parts infoW64
      have HU0 := Lib.hid hU0; have HU1 := Lib.hid hU1; have HU2 := Lib.hid hU2; have HU3 := Lib.hid hU3
      clear hz7 hr7 hb7 hW7 hR hG0 hG1 hG2 hG3 hU0 hU1 hU2 hU3
      go_wp2_with fail
      go_loopw [117] (fun vi wr => ∃ (i : Nat) (a : Option Addr) (c : Nat), i ≤ nr ∧ vi = .int .i64 i ∧ Hid (wr.heap[R]? = some (.cells #[.slice a i c, .slice none 0 0, .slice a3 nl c3] 67 (0, 0))) ∧ Hid (wr.ownsRow (R + 1) 61 4 (.slice a i c) i (((List.range i).map gs).flatMap gtC)) ∧ Hid (Below R w6 wr)) (fun vi _ => nr - (intOf vi).toNat)
      case atStart => exact ⟨0, none, 0, Nat.zero_le _, rfl, HR7, Lib.hid (World.ownsRow_nil _ _ _ _), HB7⟩
      case round =>
        clear y1
        obtain ⟨i, a, c, hi, rfl, HRB, HROW, HBU⟩ := hrel
        by_cases hlt5 : i < nr
        · have hlk := (HMr6.out.below (HRS.out ▸ HBU.out)).look Tryz.underlying113 (z := .agg #[.int .u64 0, .int .u8 0, .string ⟨#[]⟩, .int .i64 0]) (by kernel_rfl) i (by omega) (HGG.out i hlt5)
          unfold gtV at hlk
          obtain ⟨g, hg⟩ : ∃ g, gs i = g := ⟨_, rfl⟩
          rw [hg] at hlk
          have r0 : wr.cell? ⟨R, 0, none⟩ = some (.slice a i c) := cell_of HRB.out 0
          have hRl : R < wr.heap.size := (Array.getElem?_eq_some_iff.1 HRB.out).1
          have HX := Lib.hid (show ((List.range (i + 1)).map gs).flatMap gtC = ((List.range i).map gs).flatMap gtC ++ gtC g by rw [List.range_succ, List.map_append, List.flatMap_append, ← hg]; simp)
          have hii : (i : Int) < (nr : Int) := by omega
          have HAL : Hid (Below wr.heap.size wr ((wr.alloc (.cells #[.int .u64 (g.n : Int), .int .u8 (g.st : Int), .string g.tx, .int .i64 g.er] 61)).alloc (.cells #[.int .u64 (g.n : Int), .int .u8 (g.st : Int), .string g.tx, .int .i64 g.er] 61)) ∧ ((wr.alloc (.cells #[.int .u64 (g.n : Int), .int .u8 (g.st : Int), .string g.tx, .int .i64 g.er] 61)).alloc (.cells #[.int .u64 (g.n : Int), .int .u8 (g.st : Int), .string g.tx, .int .i64 g.er] 61)).heap[wr.heap.size + 1]? = some (.cells #[.int .u64 (g.n : Int), .int .u8 (g.st : Int), .string g.tx, .int .i64 g.er] 61 (0, 0)) ∧ ((wr.alloc (.cells #[.int .u64 (g.n : Int), .int .u8 (g.st : Int), .string g.tx, .int .i64 g.er] 61)).alloc (.cells #[.int .u64 (g.n : Int), .int .u8 (g.st : Int), .string g.tx, .int .i64 g.er] 61)).heap.size = wr.heap.size + 2) := Lib.hid (by
            refine ⟨((Below.refl _ _).alloc (Nat.le_refl _) _).alloc (by simp) _, ?_, by simp⟩
            have h := (MapKept.heap_alloc (wr.alloc (.cells #[.int .u64 (g.n : Int), .int .u8 (g.st : Int), .string g.tx, .int .i64 g.er] 61)) (.cells #[.int .u64 (g.n : Int), .int .u8 (g.st : Int), .string g.tx, .int .i64 g.er] 61)).1
            rwa [show (wr.alloc (.cells #[.int .u64 (g.n : Int), .int .u8 (g.st : Int), .string g.tx, .int .i64 g.er] 61)).heap.size = wr.heap.size + 1 by simp] at h)
          clear hg
          go_wp2_with (at_builtin; refine wpList_append_lies _ rfl (.tmp 130) (.tmp 132) 51 rfl (R + 1) 61 iG (.agg #[.int .u64 0, .int .u8 0, .string ByteArray.empty, .int .i64 0]) 4 40 Tryz.underlying51 HG0.out HG1.out HG2.out HG3.out rfl (by decide) _ i (((List.range i).map gs).flatMap gtC) rfl (ownBelow HROW.out HAL.out.1) ⟨wr.heap.size + 1, 0, none⟩ 1 1 [.int .u64 (g.n : Int), .int .u8 (g.st : Int), .string g.tx, .int .i64 g.er] rfl rfl (World.news_of_block HAL.out.2.1) (by intro u hu; simp only [List.mem_cons, List.mem_nil_iff, or_false] at hu; rcases hu with rfl | rfl | rfl | rfl <;> rfl) (by decide) (by unfold maxLen; omega) (by omega) (by rw [HAL.out.2.2]; omega) (wr.heap.size + 2) HAL.out.2.2 ?go; intro g8 cp8 w8 hown8 hg8 hat8 hlt8; have hR8 : w8.heap[R]? = some (.cells #[.slice a i c, .slice none 0 0, .slice a3 nl c3] 67 (0, 0)) := ((grown_but hg8).block R (by rw [HAL.out.2.2]; omega) (fun e => by have := own_above2 HROW.out R e; omega)).trans ((HAL.out.1.block R hRl).trans HRB.out); have r1 : w8.cell? ⟨R, 0, none⟩ = some (.slice a i c) := cell_of hR8 0; have rf : w8.frozen? ⟨R, 0, none⟩ = false := frozen_of hR8 0; have HO8 := Lib.hid hown8; have HR8 := Lib.hid hR8; have HB8 : Hid (Below R w6 w8) := Lib.hid ((HBU.out.trans (HAL.out.1.mono (by omega))).trans ((grown_but hg8).below (fun k hk => by have := own_above2 HROW.out k hk; omega) (by rw [HAL.out.2.2]; omega))); clear hown8 hg8 hat8 hlt8 hR8)
          have HRN : Hid ((w8.setCell ⟨R, 0, none⟩ (.slice (some ⟨g8, 0, none⟩) (i + 1) cp8)).heap[R]? = some (.cells #[.slice (some ⟨g8, 0, none⟩) (i + 1) cp8, .slice none 0 0, .slice a3 nl c3] 67 (0, 0))) := Lib.hid (setCell_block HR8.out _)
          have HON : Hid ((w8.setCell ⟨R, 0, none⟩ (.slice (some ⟨g8, 0, none⟩) (i + 1) cp8)).ownsRow (R + 1) 61 4 (.slice (some ⟨g8, 0, none⟩) (i + 1) cp8) (i + 1) (((List.range (i + 1)).map gs).flatMap gtC)) := Lib.hid (by
            rw [HX.out]
            exact row_but HO8.out (ButS.set (S := fun j => j = R) w8 (p := ⟨R, 0, none⟩) rfl _) (fun g' hg' e => by have := (own_block HO8.out hg').1; omega))
          have HBN : Hid (Below R w6 (w8.setCell ⟨R, 0, none⟩ (.slice (some ⟨g8, 0, none⟩) (i + 1) cp8))) := Lib.hid (HB8.out.setCell (Nat.le_refl _) _)
          go_roundw
          case rel => exact ⟨i + 1, _, _, by omega, by go_num, HRN, HON, HBN⟩
          case measure => simp [intOf]; omega
        · have hii : ¬ (i : Int) < (nr : Int) := by omega
          obtain rfl : i = nr := by omega
          have HBU5 := HBU
          obtain ⟨_, y2, hw1R, hrep⟩ := HKK0.out wr HBU5.out
          have HREP := Lib.hid hrep
          have HG5 : Hid (IsGts wr (.slice a i c) ((List.range i).map gs)) := Lib.hid (IsL.own gtC_len (by decide) _ (by rw [List.length_map, List.length_range]; exact HROW.out))
          have HOWN5 := HROW; have HRB5 := HRB
          have HMe5 : Hid (ByF ne m2 wr (putAll noneF (allE asks ts k))) := Lib.hid (HMe6.out.below (HRS.out ▸ HBU5.out))
          have hmR : m2 ≠ R := fun e => by have := HMe6.out.lt; have := HRS.out; omega
          clear hrep
          obtain ⟨U6, hU6⟩ : ∃ U, wr = U := ⟨_, rfl⟩
          subst wr
          have hRU : R < U6.heap.size := (Array.getElem?_eq_some_iff.1 HRB5.out).1
          go_wp2_with fail
          go_loopw [139] (fun vi wr => ∃ (j : Nat) (a6 : Option Addr) (c6 : Nat), j ≤ ne ∧ vi = .int .i64 j ∧ Hid (wr.heap[R]? = some (.cells #[.slice a i c, .slice a6 j c6, .slice a3 nl c3] 67 (0, 0))) ∧ Hid (wr.ownsRow U6.heap.size 25 1 (.slice a6 j c6) j (((List.range j).map ns).flatMap nuC)) ∧ Hid (ButS (fun x => x = R) U6 wr)) (fun vi _ => ne - (intOf vi).toNat)
          case atStart => exact ⟨0, none, 0, Nat.zero_le _, rfl, HRB5, Lib.hid (World.ownsRow_nil _ _ _ _), Lib.hid (ButS.refl _)⟩
          case round =>
            clear y2
            obtain ⟨j, a6, c6, hj, rfl, HRB, HROW, HBU⟩ := hrel
            by_cases hlt6 : j < ne
            · have hlk := (HMe5.out.but HBU.out hmR).look Tryz.underlying114 (z := .int .u64 0) (by kernel_rfl) j (by omega) (HEE.out j hlt6)
              obtain ⟨g, hg⟩ : ∃ g, ns j = g := ⟨_, rfl⟩
              rw [hg] at hlk
              have r0 : wr.cell? ⟨R, 1, none⟩ = some (.slice a6 j c6) := cell_of HRB.out 1
              have hRl : R < wr.heap.size := (Array.getElem?_eq_some_iff.1 HRB.out).1
              have HX := Lib.hid (show ((List.range (j + 1)).map ns).flatMap nuC = ((List.range j).map ns).flatMap nuC ++ nuC g by rw [List.range_succ, List.map_append, List.flatMap_append, ← hg]; simp)
              have hii : (j : Int) < (ne : Int) := by omega
              have HAL : Hid (Below wr.heap.size wr (wr.alloc (.cells #[.int .u64 (g : Int)] 25)) ∧ (wr.alloc (.cells #[.int .u64 (g : Int)] 25)).heap[wr.heap.size]? = some (.cells #[.int .u64 (g : Int)] 25 (0, 0)) ∧ (wr.alloc (.cells #[.int .u64 (g : Int)] 25)).heap.size = wr.heap.size + 1) := Lib.hid (by
                exact ⟨(Below.refl _ _).alloc (Nat.le_refl _) _, (MapKept.heap_alloc wr (.cells #[.int .u64 (g : Int)] 25)).1, by simp⟩)
              have hUs := HBU.out.size
              clear hg
              go_wp2_with (at_builtin; refine wpList_append_lies _ rfl (.tmp 152) (.tmp 154) 52 rfl U6.heap.size 25 iU (.int .u64 0) 1 8 Tryz.underlying52 HU0.out HU1.out HU2.out HU3.out rfl (by decide) _ j (((List.range j).map ns).flatMap nuC) rfl (ownBelow HROW.out HAL.out.1) ⟨wr.heap.size, 0, none⟩ 1 1 [.int .u64 (g : Int)] rfl rfl (World.news_of_block HAL.out.2.1) (by intro u hu; simp only [List.mem_cons, List.mem_nil_iff, or_false] at hu; rcases hu with rfl; rfl) (by decide) (by unfold maxLen; omega) (by omega) (by rw [HAL.out.2.2]; omega) (wr.heap.size + 1) HAL.out.2.2 ?go6; intro g8 cp8 w8 hown8 hg8 hat8 hlt8; have hR8 : w8.heap[R]? = some (.cells #[.slice a i c, .slice a6 j c6, .slice a3 nl c3] 67 (0, 0)) := ((grown_but hg8).block R (by rw [HAL.out.2.2]; omega) (fun e => by have := own_above2 HROW.out R e; omega)).trans ((HAL.out.1.block R hRl).trans HRB.out); have r1 : w8.cell? ⟨R, 1, none⟩ = some (.slice a6 j c6) := cell_of hR8 1; have rf : w8.frozen? ⟨R, 1, none⟩ = false := frozen_of hR8 1; have HO8 := Lib.hid hown8; have HR8 := Lib.hid hR8; have HB8 : Hid (ButS (fun x => x = R) U6 w8) := Lib.hid (but_own (HBU.out.trans (ButS.of HAL.out.1)) (grown_but hg8) (fun k hk => own_above2 HROW.out k hk)); clear hown8 hg8 hat8 hlt8 hR8)
              have HRN : Hid ((w8.setCell ⟨R, 1, none⟩ (.slice (some ⟨g8, 0, none⟩) (j + 1) cp8)).heap[R]? = some (.cells #[.slice a i c, .slice (some ⟨g8, 0, none⟩) (j + 1) cp8, .slice a3 nl c3] 67 (0, 0))) := Lib.hid (setCell_block HR8.out _)
              have HON : Hid ((w8.setCell ⟨R, 1, none⟩ (.slice (some ⟨g8, 0, none⟩) (j + 1) cp8)).ownsRow U6.heap.size 25 1 (.slice (some ⟨g8, 0, none⟩) (j + 1) cp8) (j + 1) (((List.range (j + 1)).map ns).flatMap nuC)) := Lib.hid (by
                rw [HX.out]
                exact row_but HO8.out (ButS.set (S := fun j => j = R) w8 (p := ⟨R, 1, none⟩) rfl _) (fun g' hg' e => by have := (own_block HO8.out hg').1; omega))
              have HBN : Hid (ButS (fun x => x = R) U6 (w8.setCell ⟨R, 1, none⟩ (.slice (some ⟨g8, 0, none⟩) (j + 1) cp8))) := Lib.hid (HB8.out.trans (ButS.set (S := fun j => j = R) w8 (p := ⟨R, 1, none⟩) rfl _))
              go_roundw
              case rel => exact ⟨j + 1, _, _, by omega, by go_num, HRN, HON, HBN⟩
              case measure => simp [intOf]; omega
            · have hii : ¬ (j : Int) < (ne : Int) := by omega
              obtain rfl : j = ne := by omega
              have hbR : Below R w6 wr := HBU5.out.trans (HBU.out.below (fun k hk => by have h : k = R := hk; omega) (by omega))
              obtain ⟨y1, y2, _, _⟩ := HKK0.out wr hbR
              have r0 : wr.cell? ⟨R, 0, none⟩ = some (.slice a i c) := cell_of HRB.out 0
              have r1 : wr.cell? ⟨R, 1, none⟩ = some (.slice a6 j c6) := cell_of HRB.out 1
              have r2 : wr.cell? ⟨R, 2, none⟩ = some (.slice a3 nl c3) := cell_of HRB.out 2
              have HBR := Lib.hid hbR
              have s0 : wr.cell? ⟨w.heap.size + 1, 0, none⟩ = some (.slice none 0 0) := cell_of (HKK0.out wr hbR).2.2.2 0
              have s1 : wr.cell? ⟨w.heap.size + 1, 1, none⟩ = some (.slice none 0 0) := cell_of (HKK0.out wr hbR).2.2.2 1
              have s2 : wr.cell? ⟨w.heap.size + 1, 2, none⟩ = some (.slice none 0 0) := cell_of (HKK0.out wr hbR).2.2.2 2
              have t0 : wr.frozen? ⟨w.heap.size + 1, 0, none⟩ = false := frozen_of (HKK0.out wr hbR).2.2.2 0
              have t1 : wr.frozen? ⟨w.heap.size + 1, 1, none⟩ = false := frozen_of (HKK0.out wr hbR).2.2.2 1
              have t2 : wr.frozen? ⟨w.heap.size + 1, 2, none⟩ = false := frozen_of (HKK0.out wr hbR).2.2.2 2
              clear hbR
              go_wp2_with fail
              obtain ⟨Wz, hWz, hrepz, hbz⟩ := reply_set (HKK0.out wr HBR.out).2.2.2 (.slice a i c) (.slice a6 j c6) (.slice a3 nl c3)
              rw [hWz]
              have q0 : Wz.cell? ⟨w.heap.size + 1, 0, none⟩ = some (.slice a i c) := cell_of hrepz 0
              have q1 : Wz.cell? ⟨w.heap.size + 1, 1, none⟩ = some (.slice a6 j c6) := cell_of hrepz 1
              have q2 : Wz.cell? ⟨w.heap.size + 1, 2, none⟩ = some (.slice a3 nl c3) := cell_of hrepz 2
              have hfb : Below w.heap.size w Wz := (HBWU.out wr HBR.out).trans (hbz.below (fun k hk => by have h : k = w.heap.size + 1 := hk; omega) (HBWU.out wr HBR.out).size)
              have hgot : IsGts Wz (.slice a i c) ((List.range i).map gs) := by
                have h1 := row_but (row_but HOWN5.out HBU.out (fun g hg e => by have := (own_block HOWN5.out hg).1; have h : g = R := e; omega)) hbz (fun g hg e => by have := (own_block HOWN5.out hg).1; have h : g = w.heap.size + 1 := e; omega)
                exact IsL.own gtC_len (by decide) _ (by rw [List.length_map, List.length_range]; exact h1)
              have hnum : IsNus Wz (.slice a6 j c6) ((List.range j).map ns) := by
                have h1 := row_but HROW.out hbz (fun g hg e => by have := (own_block HROW.out hg).1; have h : g = w.heap.size + 1 := e; omega)
                exact IsL.own nuC_len (by decide) _ (by rw [List.length_map, List.length_range]; exact h1)
              have hnam : IsNas Wz (.slice a3 nl c3) ((ss.mergeSort (fun x y => decide (x ≤ y))).map bs) := by
                have hbr3 : Below w6.heap.size w6 wr := by rw [HRS.out]; exact HBR.out
                have h1 := row_but (ownBelow HRW3.out hbr3) hbz (fun g hg e => by have := (own_block HRW3.out hg).1; have := HB3.out; have h : g = w.heap.size + 1 := e; omega)
                exact nam_own h1 HNL.out
              refine bodyPost_ret (v := .tuple #[.agg #[.slice a i c, .slice a6 j c6, .slice a3 nl c3], .int .i64 0]) (by simp [results, Tryz.results18, go_sem, q0, q1, q2]) rfl ⟨_, _, _, _, rfl, hgot, hnum, hnam, names_up HPERM.out HKN.out, (by rw [List.length_map, List.length_mergeSort, HPERM.out.length_eq]; exact HSZ.out), hfb⟩
end Go.Proofs.YtggdkfijioeijaaGreatDoor
namespace Go.Proofs.YtggdkfijioeijaaGreatDoor
open Go Go.RowKit
theorem mayZ_one {rds : List Rd} {eds : List Ed} {pre : ByteArray} {f t tw : Nat} (h : mayZ 1 rds eds pre f t tw = 0) : 1 ≤ rds.length + eds.length ∧ rds.length + eds.length ≤ 16 ∧ rds.any badR = false ∧ eds.any badE = false ∧ eds.any longE = false := by
 have e : mayZ 1 rds eds pre f t tw = (if (1 ≤ rds.length + eds.length ∧ rds.length + eds.length ≤ 16) ∧ rds.any badR = false ∧ eds.any badE = false then (if eds.any longE = true then 5 else 0) else 2) := if_pos rfl
 rw [e] at h
 by_cases c : (1 ≤ rds.length + eds.length ∧ rds.length + eds.length ≤ 16) ∧ rds.any badR = false ∧ eds.any badE = false
 ·rw [if_pos c] at h
  refine ⟨c.1.1, c.1.2, c.2.1, c.2.2, ?_⟩
  cases hl : eds.any longE with
  | false => rfl
  | true => rw [hl, if_pos rfl] at h; cases h
 ·rw [if_neg c] at h; cases h
theorem genL_put {C C' : Nat → List Value} {ss : List Nat} {i : Nat} {c : List Value} (h : i < ss.length) (hC : ∀ x ∈ ss.take i, C' x = C x) (hc : C' (ss.getD i 0) = c) : (genL C ss i).set i c = genL C' ss (i + 1) := by
 have h1 : genL C ss i = genL C' ss i := by
  unfold genL; rw [List.map_congr_left (fun x hx => (hC x hx).symm)]
 rw [h1, ← hc]; exact genL_succ C' ss i h
def V4 (v0 v1 v2 v3 : Value) : Nat → Value := fun t => if t = 0 then v0 else if t = 1 then v1 else if t = 2 then v2 else v3
def Vs (V : Nat → Nat → Value) (s : Nat) (f : Nat → Value) : Nat → Nat → Value := fun x => if x = s then f else V x
theorem Vs_eq (V : Nat → Nat → Value) (s : Nat) (f : Nat → Value) : Vs V s f s = f := if_pos rfl
theorem Vs_ne (V : Nat → Nat → Value) {s x : Nat} (f : Nat → Value) (h : x ≠ s) : Vs V s f x = V x := if_neg h
theorem askCs_ne (V : Nat → Nat → Value) (A : Nat → Ask) {s x : Nat} (f : Nat → Value) (h : x ≠ s) : askCs (Vs V s f) A x = askCs V A x := by unfold askCs; rw [Vs_ne V f h]
theorem askCs_eq (V : Nat → Nat → Value) (A : Nat → Ask) (s : Nat) (v0 v1 v2 v3 : Value) : askCs (Vs V s (V4 v0 v1 v2 v3)) A s = (askV (A s) v0 v1 v2 v3).toList := by unfold askCs; rw [Vs_eq]; rfl
theorem but11 (w : World) (g o : Nat) (u0 u1 u2 u3 u4 u5 u6 u7 u8 u9 u10 : Value) : ButS (fun k => k = g) w (((((((((((w.setCell ⟨g, o, none⟩ u0).setCell ⟨g, o + 1, none⟩ u1).setCell ⟨g, o + 2, none⟩ u2).setCell ⟨g, o + 3, none⟩ u3).setCell ⟨g, o + 4, none⟩ u4).setCell ⟨g, o + 5, none⟩ u5).setCell ⟨g, o + 6, none⟩ u6).setCell ⟨g, o + 7, none⟩ u7).setCell ⟨g, o + 8, none⟩ u8).setCell ⟨g, o + 9, none⟩ u9).setCell ⟨g, o + 10, none⟩ u10) := by
 refine ButS.trans ?_ (ButS.set (S := fun k => k = g) _ (p := ⟨g, _, none⟩) rfl _)
 refine ButS.trans ?_ (ButS.set (S := fun k => k = g) _ (p := ⟨g, _, none⟩) rfl _)
 refine ButS.trans ?_ (ButS.set (S := fun k => k = g) _ (p := ⟨g, _, none⟩) rfl _)
 refine ButS.trans ?_ (ButS.set (S := fun k => k = g) _ (p := ⟨g, _, none⟩) rfl _)
 refine ButS.trans ?_ (ButS.set (S := fun k => k = g) _ (p := ⟨g, _, none⟩) rfl _)
 refine ButS.trans ?_ (ButS.set (S := fun k => k = g) _ (p := ⟨g, _, none⟩) rfl _)
 refine ButS.trans ?_ (ButS.set (S := fun k => k = g) _ (p := ⟨g, _, none⟩) rfl _)
 refine ButS.trans ?_ (ButS.set (S := fun k => k = g) _ (p := ⟨g, _, none⟩) rfl _)
 refine ButS.trans ?_ (ButS.set (S := fun k => k = g) _ (p := ⟨g, _, none⟩) rfl _)
 refine ButS.trans ?_ (ButS.set (S := fun k => k = g) _ (p := ⟨g, _, none⟩) rfl _)
 exact ButS.set (S := fun k => k = g) _ (p := ⟨g, _, none⟩) rfl _
structure OpI (B g n cap : Nat) (A : Nat → Ask) (V : Nat → Nat → Value) (ss : List Nat) (i : Nat) (w : World) : Prop where
 row : w.ownsRow B 47 11 (.slice (some ⟨g, 0, none⟩) n cap) n (genL (askCs V A) ss i).flatten
 rows : ∀ s ∈ ss.take i, RowsU B w (V s) (A s)
theorem OpI.start {B g n cap : Nat} {A : Nat → Ask} {V : Nat → Nat → Value} {ss : List Nat} {w : World} (h : w.ownsRow B 47 11 (.slice (some ⟨g, 0, none⟩) n cap) n (ss.flatMap newC)) : OpI B g n cap A V ss 0 w :=
 ⟨by rw [genL_none]; exact h, fun s hs => by simp at hs⟩
theorem rows_off {B g n cap : Nat} {w w' : World} {V : Nat → Value} {A : Ask} {xs : List Value} (h : RowsU B w V A) (hrow : w.ownsRow B 47 11 (.slice (some ⟨g, 0, none⟩) n cap) n xs) (hb : ButS (fun k => k = g) w w') : RowsU B w' V A :=
 h.but hb fun i hi k hk e => by
  subst e
  obtain ⟨_, C, e, h1, h2⟩ := h.block hi hk
  obtain ⟨_, C', h3⟩ := own_block hrow (g := k) rfl
  rw [h1] at h3
  have := Option.some.inj h3
  injection this with _ h4 _
  exact h2 h4
theorem take_lt {ss : List Nat} (hr : ss.Pairwise (· < ·)) {i : Nat} (h : i < ss.length) : ∀ x ∈ ss.take i, x ≠ ss.getD i 0 := fun x hx e => by
 obtain ⟨j, hj, hl, rfl⟩ := mem_take_i hx
 have := getD_lt hr hj h
 omega
theorem OpI.step {B g n cap : Nat} {A : Nat → Ask} {V : Nat → Nat → Value} {ss : List Nat} {i o : Nat} {wr W : World} (h : OpI B g n cap A V ss i wr) (hr : ss.Pairwise (· < ·)) (hi : i < ss.length) (ho : o = i * 11) (hb : Below wr.heap.size wr W) {s : Nat} (hs : ss.getD i 0 = s) {v0 v1 v2 v3 : Value} (hR : RowsU B W (V4 v0 v1 v2 v3) (A s))
  {u0 u1 u2 u3 u4 u5 u6 u7 u8 u9 u10 : Value} (hu : [u0, u1, u2, u3, u4, u5, u6, u7, u8, u9, u10] = (askV (A s) v0 v1 v2 v3).toList) :
  OpI B g n cap A (Vs V s (V4 v0 v1 v2 v3)) ss (i + 1) (((((((((((W.setCell ⟨g, o, none⟩ u0).setCell ⟨g, o + 1, none⟩ u1).setCell ⟨g, o + 2, none⟩ u2).setCell ⟨g, o + 3, none⟩ u3).setCell ⟨g, o + 4, none⟩ u4).setCell ⟨g, o + 5, none⟩ u5).setCell ⟨g, o + 6, none⟩ u6).setCell ⟨g, o + 7, none⟩ u7).setCell ⟨g, o + 8, none⟩ u8).setCell ⟨g, o + 9, none⟩ u9).setCell ⟨g, o + 10, none⟩ u10) := by
 subst hs
 have hne := take_lt hr hi
 have hrW := ownBelow h.row hb
 have hbt := but11 W g o u0 u1 u2 u3 u4 u5 u6 u7 u8 u9 u10
 refine ⟨?_, fun x hx => ?_⟩
 ·have h1 := row_put11 hrW (genL_11 (askCs_len V A) ss i) (by rw [genL_len]; exact hi) ho u0 u1 u2 u3 u4 u5 u6 u7 u8 u9 u10
  rw [genL_put hi (fun x hx => askCs_ne V A _ (hne x hx)) ((askCs_eq V A _ v0 v1 v2 v3).trans hu.symm)] at h1
  exact h1
 ·have h2 : ss.take (i + 1) = ss.take i ++ [ss.getD i 0] := by
   rw [List.take_succ_eq_append_getElem hi, List.getD_eq_getElem?_getD, List.getElem?_eq_getElem hi]; rfl
  rw [h2] at hx
  rcases List.mem_append.1 hx with hx | hx
  ·rw [Vs_ne V _ (hne x hx)]
   refine rows_off ?_ hrW hbt
   exact (h.rows x hx).but (ButS.of hb (S := fun _ => False)) (fun _ _ _ _ hf => hf)
  ·obtain rfl : x = ss.getD i 0 := by simpa using hx
   rw [Vs_eq]
   exact rows_off hR hrW hbt
def AKX (q s : Nat) (v0 v1 v2 v3 : Value) (w : World) : Prop := w.heap[q]? = some (.cells #[.int .u32 (s : Int), v0, v1, v2, v3, .bool false, .string ⟨#[]⟩, .bool false, .bool false, .int .u64 0, .int .u64 0] 47 (0, 0))
theorem AKX.cells {q s : Nat} {v0 v1 v2 v3 : Value} {w : World} (h : AKX q s v0 v1 v2 v3 w) : w.cell? ⟨q, 0, none⟩ = some (.int .u32 (s : Int)) ∧ w.cell? ⟨q, 1, none⟩ = some v0 ∧ w.cell? ⟨q, 2, none⟩ = some v1 ∧ w.cell? ⟨q, 3, none⟩ = some v2 ∧ w.cell? ⟨q, 4, none⟩ = some v3 ∧ w.cell? ⟨q, 5, none⟩ = some (.bool false) ∧ w.cell? ⟨q, 6, none⟩ = some (.string ⟨#[]⟩) ∧ w.cell? ⟨q, 7, none⟩ = some (.bool false) ∧ w.cell? ⟨q, 8, none⟩ = some (.bool false) ∧ w.cell? ⟨q, 9, none⟩ = some (.int .u64 0) ∧ w.cell? ⟨q, 10, none⟩ = some (.int .u64 0) :=
 ⟨cell_of h 0, cell_of h 1, cell_of h 2, cell_of h 3, cell_of h 4, cell_of h 5, cell_of h 6, cell_of h 7, cell_of h 8, cell_of h 9, cell_of h 10⟩
theorem AKX.frozen {q s : Nat} {v0 v1 v2 v3 : Value} {w : World} (h : AKX q s v0 v1 v2 v3 w) (j : Nat) : w.frozen? ⟨q, j, none⟩ = false := frozen_of h j
theorem AKX.below {q s B : Nat} {v0 v1 v2 v3 : Value} {w w' : World} (h : AKX q s v0 v1 v2 v3 w) (hC : q < B) (hb : Below B w w') : AKX q s v0 v1 v2 v3 w' := (hb.block q hC).trans h
theorem AKX.set1 {q s : Nat} {v0 v1 v2 v3 v : Value} {w : World} (h : AKX q s v0 v1 v2 v3 w) : AKX q s v v1 v2 v3 (w.setCell ⟨q, 1, none⟩ v) := setCell_block h _
theorem AKX.set2 {q s : Nat} {v0 v1 v2 v3 v : Value} {w : World} (h : AKX q s v0 v1 v2 v3 w) : AKX q s v0 v v2 v3 (w.setCell ⟨q, 2, none⟩ v) := setCell_block h _
theorem AKX.set3 {q s : Nat} {v0 v1 v2 v3 v : Value} {w : World} (h : AKX q s v0 v1 v2 v3 w) : AKX q s v0 v1 v v3 (w.setCell ⟨q, 3, none⟩ v) := setCell_block h _
theorem row_kept {q B k e n : Nat} {W2 W : World} {v : Value} {xs : List Value} (h : W2.ownsRow B e k v n xs) (hk : KX q W2.heap.size W2 W) (hq : q < B) : W.ownsRow B e k v n xs := by
 refine ⟨h.1, ?_⟩
 rcases h.2 with hn | ⟨g, cap, cur, hv, hBg, hg, rest⟩
 ·exact Or.inl hn
 ·exact Or.inr ⟨g, cap, cur, hv, hBg, (hk.same g (lt_of_block hg) (by omega)).trans hg, rest⟩
end Go.Proofs.YtggdkfijioeijaaGreatDoor
namespace Go.Proofs.YtggdkfijioeijaaGreatDoor
open Go Go.RowKit
def AskSpec (O : Nat → Nat) (sp : List (Nat × Nat)) (e1 kind : Nat) (rds : List Rd) (eds : List Ed) (pre : ByteArray) (f t tw : Nat) (z : Int) (L : List Ask) : Prop :=
 (mayZ kind rds eds pre f t tw ≠ 0 ∧ z = mayZ kind rds eds pre f t tw ∧ L = []) ∨
 (mayZ kind rds eds pre f t tw = 0 ∧ kind = 1 ∧ z = 0 ∧ ∃ ss : List Nat, ss.Pairwise (· < ·) ∧ (∀ s, s ∈ ss ↔ Sk O rds eds rds.length eds.length s) ∧ L = ss.map (askTo O rds eds rds.length eds.length)) ∨
 (mayZ kind rds eds pre f t tw = 0 ∧ kind = 2 ∧ z = 0 ∧ ∃ ss : List Nat, ss.Pairwise (· < ·) ∧ (∀ s, s ∈ ss ↔ ∃ k, k < sp.length ∧ (sp.getD k d0).2 = s) ∧ L = ss.map (lstA pre)) ∨
 (mayZ kind rds eds pre f t tw = 0 ∧ kind = 3 ∧ SplitC O f t tw e1 (splitL sp f t tw).length z ∧ ((z ≠ 0 ∧ L = []) ∨ (z = 0 ∧ ∃ ss : List Nat, ss.Pairwise (· < ·) ∧ (∀ s, s ∈ ss ↔ s = O f ∨ s = tw) ∧ L = ss.map (splA (O f) tw f t))))
theorem AskSpec.uniq {O : Nat → Nat} {sp : List (Nat × Nat)} {e1 kind : Nat} {rds : List Rd} {eds : List Ed} {pre : ByteArray} {f t tw : Nat} {z z' : Int} {L L' : List Ask} (h : AskSpec O sp e1 kind rds eds pre f t tw z L) (h' : AskSpec O sp e1 kind rds eds pre f t tw z' L') : z = z' ∧ L = L' := by
 rcases h with ⟨a, rfl, rfl⟩ | ⟨a, k, rfl, ss, h1, h2, rfl⟩ | ⟨a, k, rfl, ss, h1, h2, rfl⟩ | ⟨a, k, hc, h⟩ <;> rcases h' with ⟨a', rfl, rfl⟩ | ⟨a', k', rfl, ss', h1', h2', rfl⟩ | ⟨a', k', rfl, ss', h1', h2', rfl⟩ | ⟨a', k', hc', h'⟩
 all_goals first | exact absurd a' a | exact absurd a a' | (exfalso; omega) | skip
 ·exact ⟨rfl, rfl⟩
 ·exact ⟨rfl, by rw [rise_eq h1 h1' (fun x => (h2 x).trans (h2' x).symm)]⟩
 ·exact ⟨rfl, by rw [rise_eq h1 h1' (fun x => (h2 x).trans (h2' x).symm)]⟩
 ·obtain rfl : z = z' := SplitC.same hc hc' (fun _ => Iff.rfl) Iff.rfl
  refine ⟨rfl, ?_⟩
  rcases h with ⟨n, rfl⟩ | ⟨n, ss, h1, h2, rfl⟩ <;> rcases h' with ⟨n', rfl⟩ | ⟨n', ss', h1', h2', rfl⟩
  ·rfl
  ·exact absurd n' n
  ·exact absurd n n'
  ·rw [rise_eq h1 h1' (fun x => (h2 x).trans (h2' x).symm)]
theorem mayZ_kind {kind : Nat} {rds : List Rd} {eds : List Ed} {pre : ByteArray} {f t tw : Nat} (h : mayZ kind rds eds pre f t tw = 0) : kind = 1 ∨ kind = 2 ∨ kind = 3 := by
 by_cases h1 : kind = 1
 ·exact Or.inl h1
 ·by_cases h2 : kind = 2
  ·exact Or.inr (Or.inl h2)
  ·by_cases h3 : kind = 3
   ·exact Or.inr (Or.inr h3)
   ·unfold mayZ at h; rw [if_neg h1, if_neg h2, if_neg h3] at h; cases h
def AskAny (O : Nat → Nat) (sp : List (Nat × Nat)) (e1 kind : Nat) (rds : List Rd) (eds : List Ed) (pre : ByteArray) (f t tw : Nat) (w : World) (e : Ending) (w' : World) : Prop :=
 ∃ (v : Value) (z : Int) (L : List Ask), e = .returned (.tuple #[v, .int .i64 z]) ∧ IsAsks w' v L ∧ AskSpec O sp e1 kind rds eds pre f t tw z L ∧ Below w.heap.size w w'
theorem isAsks_nil (w : World) : IsAsks w (.slice none 0 0) [] := ⟨none, 0, rfl, Or.inl rfl⟩
theorem mayZ_two {rds : List Rd} {eds : List Ed} {pre : ByteArray} {f t tw : Nat} (h : mayZ 2 rds eds pre f t tw = 0) : Pth.prefL pre.data.toList = true := by
 have e : mayZ 2 rds eds pre f t tw = (if Pth.prefL pre.data.toList = true then 0 else 2) := (if_neg (by decide)).trans (if_pos rfl)
 rw [e] at h
 by_cases c : Pth.prefL pre.data.toList = true
 ·exact c
 ·rw [if_neg c] at h; cases h
theorem mayZ_three {rds : List Rd} {eds : List Ed} {pre : ByteArray} {f t tw : Nat} (h : mayZ 3 rds eds pre f t tw = 0) : f ≤ t ∧ 0 < tw := by
 have e : mayZ 3 rds eds pre f t tw = (if f ≤ t ∧ 0 < tw then 0 else 2) := (if_neg (by decide)).trans ((if_neg (by decide)).trans (if_pos rfl))
 rw [e] at h
 by_cases c : f ≤ t ∧ 0 < tw
 ·exact c
 ·rw [if_neg c] at h; cases h
theorem asks_any (m e kind : Nat) (sp : List (Nat × Nat)) (O : Nat → Nat) (rds : List Rd) (eds : List Ed) (vR vE : Value) (pre : ByteArray) (f t tw : Nat) (w : World) (hM : MapAt w m e sp) (hl : sp.length ≤ 10000) (hS : SpI O sp M64) (hO : ∀ u, 1 ≤ O u ∧ O u < 4294967296) (ht : t < M64) (htw : tw < 4294967296) (hk : kind < 256)
  (hR : IsRds w vR rds) (hE : IsEds w vE eds) (hm : MX w) (hsr : ∀ r ∈ rds, SmallRd r) (hse : ∀ x ∈ eds, SmallEd x) (hlr : rds.length ≤ 1000) (hle : eds.length ≤ 1000) (hp : pre.size ≤ 140737488351232) (hpr : ∀ r ∈ rds, r.path.size ≤ 100000) (hpe : ∀ x ∈ eds, x.path.size ≤ 100000) :
  Calls Tryz.prog 10 #[.pointer (some ⟨m, 0, none⟩), .agg (callC kind vR vE pre f t tw)] w (AskAny O sp ((e + 1) % M64) kind rds eds pre f t tw w) := by
 by_cases hz : mayZ kind rds eds pre f t tw = 0
 ·obtain ⟨aR, cR, hvR⟩ := isl_shape hR
  obtain ⟨aE, cE, hvE⟩ := isl_shape hE
  rcases mayZ_kind hz with rfl | rfl | rfl
  ·obtain ⟨h1, h2, h3, h4, h5⟩ := mayZ_one hz
   exact (asks_ops m e sp O rds eds vR vE pre f t tw w hM (by omega) hS (fun u => (hO u).2) hR hE hm hsr hse h1 h2 h3 h4 h5 hpr hpe).mono fun en w' ⟨v, ss, he, g1, g2, g3, g4⟩ => ⟨v, 0, _, he, g3, Or.inr (Or.inl ⟨hz, rfl, rfl, ss, g1, g2, rfl⟩), g4⟩
  ·subst hvR hvE
   exact (asks_list m e sp O aR _ cR aE _ cE pre f t tw w hM hl hS (fun u => (hO u).2) hm hp (mayZ_two hz)).mono fun en w' ⟨v, ss, he, g1, g2, g3, g4⟩ => ⟨v, 0, _, he, g3, Or.inr (Or.inr (Or.inl ⟨hz, rfl, rfl, ss, g1, g2, rfl⟩)), g4⟩
  ·subst hvR hvE
   obtain ⟨h1, h2⟩ := mayZ_three hz
   refine (asks_split m e sp O aR _ cR aE _ cE pre f t tw w hM hl hS hO ht htw h1 h2).mono fun en w' ⟨c, hc, hb, h⟩ => ?_
   rcases h with ⟨g1, g2⟩ | ⟨rfl, v, ss, he, g1, g2, g3⟩
   ·exact ⟨_, c, [], g2, isAsks_nil _, Or.inr (Or.inr (Or.inr ⟨hz, rfl, hc, Or.inl ⟨g1, rfl⟩⟩)), hb⟩
   ·exact ⟨v, 0, _, he, g3, Or.inr (Or.inr (Or.inr ⟨hz, rfl, hc, Or.inr ⟨rfl, ss, g1, g2, rfl⟩⟩)), hb⟩
 ·exact (asks_no m kind rds eds vR vE pre f t tw w hk hR hE hm hsr hse hlr hle hp hz).mono fun en w' ⟨h1, h2⟩ => ⟨_, _, [], h1, isAsks_nil _, Or.inl ⟨hz, rfl, rfl⟩, h2⟩
end Go.Proofs.YtggdkfijioeijaaGreatDoor
