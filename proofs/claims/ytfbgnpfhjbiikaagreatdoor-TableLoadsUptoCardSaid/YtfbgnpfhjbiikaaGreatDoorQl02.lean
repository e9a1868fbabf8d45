/- Contracts: table.weight, table.outcome, table.New, made. DERIVED. MADE BY PROGRAM (lay-iter.mjs) off ytfbgnpfhjbiikaagreatdoor.cut.gsa: THE SHELF's CONTRACTS ON 'slices.Sorted(maps.Keys(m))' LAID AT THIS DUMP: 2 map types. NO WALK OF THE LIBRARY's TEXT: each is one application of a contract over any P and ρ (Derived/Shelf/SlIter/, Derived/Shelf/SortM/). Contract for path.Names: the children, each once, sorted. What a table is in memory; contracts: made, New, Size. Small facts for the walk of table.tried: boxes, edits in memory, maps under a store. Contract: Table.tried. -/
import Derived.Test.YtfbgnpfhjbiikaaGreatDoorQl01
import Derived.Shelf.SlIter.Nil
import Derived.Shelf.SortM.Plain
import Derived.Shelf.SortM.SortNone
import Derived.Ground.GgzProg
import Derived.Ground.SlgmProg
import Derived.Maps.OwnOps
import Derived.Maps.Views
import Derived.Deep.QuietTactic
import Derived.Deep.Quiet
import Derived.Deep.RegionHeld3
import Derived.Deep.AppendLies
import Derived.Deep.RegionWith
import Derived.Deep.DeepCutAuto
import Derived.Maps.OwnSet
import Derived.Maps.RangeWalk
import Derived.Laws.BitsLemmas
namespace Go.Proofs.YtfbgnpfhjbiikaaGreatDoor
open Go Go.RowKit
set_option maxRecDepth 100000 in
set_option maxHeartbeats 2000000 in
theorem tab_weight (p : ByteArray) (c : Cel) (v : Value) (w : World) (hv : IsVers w v c.l) (hl : c.l.length ≤ 65536) (hs : ∀ i, i < c.l.length → (c.l.getD i dV).tx.size ≤ 140737488351232) (hz : sizeL c.l ≤ 140737488351232) (hp : p.size ≤ 140737488351232) :
    Calls Tryz.prog 49 #[.string p, .agg #[.int .u64 c.last, v]] w fun e w' => e = .returned (.int .i64 (weightE p c)) ∧ Below w.heap.size w w' := by
  have Hr : Hid (weightE p c = if c.l.length = 0 then 0 else p.size + sizeL c.l) := Lib.hid rfl
  generalize weightE p c = r at Hr
  have Hsize := Lib.hid (fun (v : Value) (w : World) (h : IsVers w v c.l) => (cell_size c v w h hl hs))
  generalize sizeL c.l = z at Hr Hsize hz
  clear hs
  obtain ⟨cl, L⟩ := c
  simp only at hv hl Hsize Hr ⊢
  have hv2 := hv
  obtain ⟨a, cap, rfl, hc⟩ := hv2
  clear hc
  have Hv := Lib.hid hv; clear hv
  by_cases h0 : L.length = 0
  · have hB : ((L.length : Int) == 0) = true := by simp [h0]
    obtain rfl : r = 0 := by rw [Hr.out, if_pos h0]
    have H0 := Lib.hid h0; clear h0
    go_enter Tryz.func49, Tryz.ntmps49
    go_wp2_with fail
    go_ret
    exact ⟨rfl, (Below.refl _ _).alloc (Nat.le_refl _) _⟩
  · have hB : ((L.length : Int) == 0) = false := by rw [beq_eq_false_iff_ne]; omega
    obtain rfl : r = p.size + z := by rw [Hr.out, if_neg h0]
    have H0 := Lib.hid h0; clear h0
    have hi : (p.size : Int) + (z : Int) ≤ 9223372036854775807 := by omega
    have hi0 : -9223372036854775808 ≤ (p.size : Int) + (z : Int) := by omega
    go_enter Tryz.func49, Tryz.ntmps49
    go_wp2_with fail
    refine (Hsize.out _ _ ?_).mono ?_
    · exact Hv.out.below ((Below.refl _ _).alloc (Nat.le_refl _) _) (Nat.le_refl _)
    rintro e w1 ⟨rfl, hb1⟩
    have Hb1 := Lib.hid hb1; clear hb1
    go_wp2_with fail
    go_ret
    exact ⟨ret_int (by push_cast; rfl), ((Below.refl _ _).alloc (Nat.le_refl _) _).trans (Hb1.out.mono (by simp))⟩

set_option maxRecDepth 100000 in
set_option maxHeartbeats 2000000 in
theorem tab_outcome (c : Cel) (v : Value) (x : Edt) (w : World) (hv : IsVers w v c.l) (hl : c.l.length ≤ 65536) (hlast : c.last < 18446744073709551616) (htx : x.text.size ≤ 9223372036854775807) :
    Calls Tryz.prog 81 #[.agg #[.int .u64 c.last, v], edtVal x] w (CelErr (outcomeE c x) w) := by
  have Hr : Hid (outcomeE c x = if x.kind = 1 then putE c x.any x.want x.text else if x.kind = 2 then deleteE c x.any x.want else destroyE c x.n) := Lib.hid rfl
  generalize outcomeE c x = r at Hr
  have Hput := Lib.hid (fun (v : Value) (w : World) (h : IsVers w v c.l) => (cell_put c v x.any x.want x.text w h hl hlast htx))
  have Hdel := Lib.hid (fun (v : Value) (w : World) (h : IsVers w v c.l) => (cell_delete c v x.any x.want w h hl hlast))
  have Hdes := Lib.hid (fun (v : Value) (w : World) (h : IsVers w v c.l) => (cell_destroy c v x.n w h hl))
  generalize putE c x.any x.want x.text = r1 at Hr Hput
  generalize deleteE c x.any x.want = r2 at Hr Hdel
  generalize destroyE c x.n = r3 at Hr Hdes
  obtain ⟨cl, L⟩ := c
  obtain ⟨kd, pth, any, want, n, tx⟩ := x
  simp only at hv hl hlast htx Hput Hdel Hdes Hr ⊢
  have hv2 := hv
  obtain ⟨a, cap, rfl, hc⟩ := hv2
  clear hc
  have Hv := Lib.hid hv; clear hv
  unfold edtVal
  go_enter Tryz.func81, Tryz.ntmps81
  go_upto_region 1 with fail
  refine wp_abs (F := fun W => W.heap.size = w.heap.size + 3 ∧ (∀ j, W.cell? ⟨w.heap.size, j, none⟩ = (#[Value.int .u64 cl, .slice a L.length cap])[j]?) ∧ (∀ j, W.cell? ⟨w.heap.size + 1, j, none⟩ = (#[Value.int .u8 kd, .string pth, .bool any, .int .u64 want, .int .u64 n, .string tx])[j]?) ∧ (∀ j, W.cell? ⟨w.heap.size + 2, j, none⟩ = (#[Value.int .u64 0, .slice none 0 0])[j]?) ∧ (∀ j, W.frozen? ⟨w.heap.size + 1, j, none⟩ = false) ∧ (∀ j, W.frozen? ⟨w.heap.size + 2, j, none⟩ = false) ∧ Below w.heap.size w W) (threeNew w _ _ _ _ _ _ rfl) ?_
  rintro W ⟨hsz, n0, n1, n2, fr1, fr, hb⟩
  have q0 := n0 0
  have q1 := n0 1
  have k0 := n1 0
  have k2 := n1 2
  have k3 := n1 3
  have k4 := n1 4
  have k5 := n1 5
  simp at q0 q1 k0 k2 k3 k4 k5
  have HvW : Hid (IsVers W (.slice a L.length cap) L) := Lib.hid (Hv.out.below hb (Nat.le_refl _))
  have Hsz := Lib.hid hsz; have N2 := Lib.hid n2; have Fr := Lib.hid fr; have Hb := Lib.hid hb; clear hsz n0 n1 n2 fr1 fr hb
  have Hend : Hid (∀ (r : Cel × Nat) (w2 : World) (v1 : Value), IsVers w2 v1 r.1.l → (∀ k, v1.ownBlock = some k → W.heap.size ≤ k) → Below W.heap.size W w2 → ∀ u1 u2,
      IsVers ((w2.setCell ⟨w.heap.size + 1 + 1, 0, none⟩ u1).setCell ⟨w.heap.size + 1 + 1, 1, none⟩ u2) v1 r.1.l ∧ (∀ k, v1.ownBlock = some k → w.heap.size ≤ k) ∧ Below w.heap.size w ((w2.setCell ⟨w.heap.size + 1 + 1, 0, none⟩ u1).setCell ⟨w.heap.size + 1 + 1, 1, none⟩ u2)) := Lib.hid (by
    intro r w2 v1 hv1 hf hb2 u1 u2
    have hsz := Hsz.out
    refine ⟨(hv1.setFar ?_ _).setFar ?_ _, fun k hk => Nat.le_trans (by omega) (hf k hk), (((Hb.out.trans (hb2.mono (by omega))).setCell ?_ _).setCell ?_ _)⟩
    · intro k hk; have := hf k hk; dsimp only; omega
    · intro k hk; have := hf k hk; dsimp only; omega
    · dsimp only; omega
    · dsimp only; omega)
  by_cases h1 : kd = 1
  · have hB1 : ((kd : Int) == 1) = true := by simp [h1]
    obtain rfl : r = r1 := by rw [Hr.out, if_pos h1]
    clear h1
    go_wp2_with fail
    refine (Hput.out _ _ ?_).mono ?_
    · exact HvW.out
    rintro e w2 ⟨v1, rfl, hv1, hf1, hb2⟩
    have hv1' := hv1
    obtain ⟨a1, c1, rfl, hc1⟩ := hv1'
    clear hc1
    have hsz := Hsz.out
    have z0 : w2.cell? ⟨w.heap.size + 1 + 1, 0, none⟩ = some (.int .u64 0) := (hb2.cell (by dsimp only; omega)).trans (N2.out 0)
    have z1 : w2.cell? ⟨w.heap.size + 1 + 1, 1, none⟩ = some (.slice none 0 0) := (hb2.cell (by dsimp only; omega)).trans (N2.out 1)
    have g0 : w2.frozen? ⟨w.heap.size + 1 + 1, 0, none⟩ = false := (hb2.frozen (by dsimp only; omega)).trans (Fr.out 0)
    have g1 : w2.frozen? ⟨w.heap.size + 1 + 1, 1, none⟩ = false := (hb2.frozen (by dsimp only; omega)).trans (Fr.out 1)
    have Hv1 := Lib.hid hv1; have Hf1 := Lib.hid hf1; have Hb2 := Lib.hid hb2; clear hv1 hf1 hb2 hsz
    go_wp2_with fail
    refine bodyPost_ret (v := .tuple #[.agg #[.int .u64 r.1.last, .slice a1 r.1.l.length c1], .int .i64 r.2]) ?_ rfl ⟨_, rfl, ?_⟩
    · simp [results, Tryz.results81, go_sem, z0, z1]
    · exact Hend.out _ _ _ Hv1.out Hf1.out Hb2.out _ _
  · have hB1 : ((kd : Int) == 1) = false := by rw [beq_eq_false_iff_ne]; omega
    by_cases h2 : kd = 2
    · have hB2 : ((kd : Int) == 2) = true := by simp [h2]
      obtain rfl : r = r2 := by rw [Hr.out, if_neg h1, if_pos h2]
      clear h1 h2
      go_wp2_with fail
      refine (Hdel.out _ _ ?_).mono ?_
      · exact HvW.out
      rintro e w2 ⟨v1, rfl, hv1, hf1, hb2⟩
      have hv1' := hv1
      obtain ⟨a1, c1, rfl, hc1⟩ := hv1'
      clear hc1
      have hsz := Hsz.out
      have z0 : w2.cell? ⟨w.heap.size + 1 + 1, 0, none⟩ = some (.int .u64 0) := (hb2.cell (by dsimp only; omega)).trans (N2.out 0)
      have z1 : w2.cell? ⟨w.heap.size + 1 + 1, 1, none⟩ = some (.slice none 0 0) := (hb2.cell (by dsimp only; omega)).trans (N2.out 1)
      have g0 : w2.frozen? ⟨w.heap.size + 1 + 1, 0, none⟩ = false := (hb2.frozen (by dsimp only; omega)).trans (Fr.out 0)
      have g1 : w2.frozen? ⟨w.heap.size + 1 + 1, 1, none⟩ = false := (hb2.frozen (by dsimp only; omega)).trans (Fr.out 1)
      have Hv1 := Lib.hid hv1; have Hf1 := Lib.hid hf1; have Hb2 := Lib.hid hb2; clear hv1 hf1 hb2 hsz
      go_wp2_with fail
      refine bodyPost_ret (v := .tuple #[.agg #[.int .u64 r.1.last, .slice a1 r.1.l.length c1], .int .i64 r.2]) ?_ rfl ⟨_, rfl, ?_⟩
      · simp [results, Tryz.results81, go_sem, z0, z1]
      · exact Hend.out _ _ _ Hv1.out Hf1.out Hb2.out _ _
    · have hB2 : ((kd : Int) == 2) = false := by rw [beq_eq_false_iff_ne]; omega
      obtain rfl : r = r3 := by rw [Hr.out, if_neg h1, if_neg h2]
      clear h1 h2
      go_wp2_with fail
      refine (Hdes.out _ _ ?_).mono ?_
      · exact HvW.out
      rintro e w2 ⟨v1, rfl, hv1, hf1, hb2⟩
      have hv1' := hv1
      obtain ⟨a1, c1, rfl, hc1⟩ := hv1'
      clear hc1
      have hsz := Hsz.out
      have z0 : w2.cell? ⟨w.heap.size + 1 + 1, 0, none⟩ = some (.int .u64 0) := (hb2.cell (by dsimp only; omega)).trans (N2.out 0)
      have z1 : w2.cell? ⟨w.heap.size + 1 + 1, 1, none⟩ = some (.slice none 0 0) := (hb2.cell (by dsimp only; omega)).trans (N2.out 1)
      have g0 : w2.frozen? ⟨w.heap.size + 1 + 1, 0, none⟩ = false := (hb2.frozen (by dsimp only; omega)).trans (Fr.out 0)
      have g1 : w2.frozen? ⟨w.heap.size + 1 + 1, 1, none⟩ = false := (hb2.frozen (by dsimp only; omega)).trans (Fr.out 1)
      have Hv1 := Lib.hid hv1; have Hf1 := Lib.hid hf1; have Hb2 := Lib.hid hb2; clear hv1 hf1 hb2 hsz
      go_wp2_with fail
      refine bodyPost_ret (v := .tuple #[.agg #[.int .u64 r.1.last, .slice a1 r.1.l.length c1], .int .i64 r.2]) ?_ rfl ⟨_, rfl, ?_⟩
      · simp [results, Tryz.results81, go_sem, z0, z1]
      · exact Hend.out _ _ _ Hv1.out Hf1.out Hb2.out _ _
end Go.Proofs.YtfbgnpfhjbiikaaGreatDoor

namespace Go.Proofs
open Go.RowKit Go.Maps Go.Sort Go.Shelf
-- maps.Keys[map[string]scrinium/api.Cell,string,scrinium/api.Cell] (function 45; its iterator 77) · slices.Sorted[string] (44) · slices.Sort[[]string,string] (76) · the map's type 103, the keys' 9
theorem Tryz.sorts44 (m : Nat) : AnyZ.SortsIn Tryz.prog Tryz.sorted44_ren Fence.wide m :=
  ⟨fun blk off cap ss W hH hblk hsz => callsIn_wide.2 (AnyM.slices_Sort_string Tryz.sort76 blk off cap ss W hH hblk hsz),
   fun p cap W => callsIn_wide.2 (AnyM.slices_Sort_string_none Tryz.sort76 p cap W)⟩

theorem Tryz.maps_Keys_45 (mb : Option Nat) (W : World) : CallsIn Fence.wide 5 Tryz.prog 45 #[.map mb] W fun e w' => e = .returned (.func (.func 77) #[] #[.pointer (some ⟨W.heap.size, 0, none⟩)]) ∧ w' = W.alloc (.cells #[.map mb] 103) :=
  AnyZ.keys_in Tryz.keys45 Fence.wide 5 trivial rfl mb W

set_option maxHeartbeats 1000000 in
theorem Tryz.slices_Sorted_keys_44_45 {H : Type} (b nn : Nat) (D0 : DataW H) (R : Value → Option (DataW H × List MemPlace)) (w : World) (hown : w.ownsMap Tryz.prog 9 R b nn D0) (hmax : Maps.size D0 ≤ maxLen) (hbytes : Maps.size D0 * 16 ≤ 140737488355328) :
    CallsIn Fence.wide 5 Tryz.prog 44 #[.func (.func 77) #[] #[.pointer (some ⟨w.heap.size, 0, none⟩)]] (w.alloc (.cells #[.map (some b)] 103)) fun e w' => ∃ (v : Value) (ss : List (List UInt8)), e = .returned v ∧ ss.Perm (strKeys D0) ∧
      w'.ownsRow (w.alloc (.cells #[.map (some b)] 103)).heap.size 9 1 v ss.length ((ss.mergeSort (fun x y => decide (x ≤ y))).map encStr) ∧ (v = .slice none 0 0 ↔ ss = []) ∧ Below (w.alloc (.cells #[.map (some b)] 103)).heap.size (w.alloc (.cells #[.map (some b)] 103)) w' := by
  have hbl := hown.lt
  have hseq : SeqGives Fence.wide 2 Tryz.prog 77 #[.pointer (some ⟨w.heap.size, 0, none⟩)] encStr (fun ss => ss.Perm (strKeys D0)) (Maps.size D0) (w.alloc (.cells #[.map (some b)] 103)) :=
    AnyZ.keys_gives (ρ := Tryz.keys45_ren) { Tryz.keys45 with } Fence.wide _ trivial rfl (by omega) w.heap.size b nn D0 _ (by simp) (by simp) (by
      obtain ⟨es, clock, hb, Ft, hs, hD⟩ := hown
      exact ⟨es, clock, (Below.heap_alloc _ _ b hbl).trans hb, Ft, hs, hD⟩)
  exact AnyZ.sorted_in Tryz.sorted44 Fence.wide 5 trivial trivial trivial trivial rfl (by omega) (Tryz.sorts44 _) (enters_of Tryz.func76 (by kernel_rfl) rfl) 77 #[.pointer (some ⟨w.heap.size, 0, none⟩)] trivial (enters_of Tryz.func77 (by kernel_rfl) rfl) _ _ hmax hbytes _ hseq

theorem Tryz.maps_Keys_89 (mb : Option Nat) (W : World) : CallsIn Fence.wide 5 Tryz.prog 89 #[.map mb] W fun e w' => e = .returned (.func (.func 117) #[] #[.pointer (some ⟨W.heap.size, 0, none⟩)]) ∧ w' = W.alloc (.cells #[.map mb] 116) :=
  AnyZ.keys_in Tryz.keys89 Fence.wide 5 trivial rfl mb W

set_option maxHeartbeats 1000000 in
theorem Tryz.slices_Sorted_keys_44_89 {H : Type} (b nn : Nat) (D0 : DataW H) (R : Value → Option (DataW H × List MemPlace)) (w : World) (hown : w.ownsMap Tryz.prog 9 R b nn D0) (hmax : Maps.size D0 ≤ maxLen) (hbytes : Maps.size D0 * 16 ≤ 140737488355328) :
    CallsIn Fence.wide 5 Tryz.prog 44 #[.func (.func 117) #[] #[.pointer (some ⟨w.heap.size, 0, none⟩)]] (w.alloc (.cells #[.map (some b)] 116)) fun e w' => ∃ (v : Value) (ss : List (List UInt8)), e = .returned v ∧ ss.Perm (strKeys D0) ∧
      w'.ownsRow (w.alloc (.cells #[.map (some b)] 116)).heap.size 9 1 v ss.length ((ss.mergeSort (fun x y => decide (x ≤ y))).map encStr) ∧ (v = .slice none 0 0 ↔ ss = []) ∧ Below (w.alloc (.cells #[.map (some b)] 116)).heap.size (w.alloc (.cells #[.map (some b)] 116)) w' := by
  have hbl := hown.lt
  have hseq : SeqGives Fence.wide 2 Tryz.prog 117 #[.pointer (some ⟨w.heap.size, 0, none⟩)] encStr (fun ss => ss.Perm (strKeys D0)) (Maps.size D0) (w.alloc (.cells #[.map (some b)] 116)) :=
    AnyZ.keys_gives (ρ := Tryz.keys89_ren) { Tryz.keys89 with } Fence.wide _ trivial rfl (by omega) w.heap.size b nn D0 _ (by simp) (by simp) (by
      obtain ⟨es, clock, hb, Ft, hs, hD⟩ := hown
      exact ⟨es, clock, (Below.heap_alloc _ _ b hbl).trans hb, Ft, hs, hD⟩)
  exact AnyZ.sorted_in Tryz.sorted44 Fence.wide 5 trivial trivial trivial trivial rfl (by omega) (Tryz.sorts44 _) (enters_of Tryz.func76 (by kernel_rfl) rfl) 117 #[.pointer (some ⟨w.heap.size, 0, none⟩)] trivial (enters_of Tryz.func117 (by kernel_rfl) rfl) _ _ hmax hbytes _ hseq

end Go.Proofs

namespace Go.Proofs.YtfbgnpfhjbiikaaGreatDoor
open Go Go.RowKit Pth Go.Maps Go.Sort
def nub : List (List UInt8) → List (List UInt8)
  | [] => []
  | a :: t => if a ∈ nub t then nub t else a :: nub t
theorem mem_nub {x : List UInt8} {l : List (List UInt8)} : x ∈ nub l ↔ x ∈ l := by
  induction l with
  | nil => simp [nub]
  | cons a t ih =>
    unfold nub
    split
    · rename_i h
      rw [ih, List.mem_cons]
      constructor
      · exact Or.inr
      · rintro (rfl | h2)
        · exact ih.1 h
        · exact h2
    · rw [List.mem_cons, List.mem_cons, ih]
theorem nub_nodup (l : List (List UInt8)) : (nub l).Nodup := by
  induction l with
  | nil => simp [nub]
  | cons a t ih =>
    unfold nub
    split
    · exact ih
    · rename_i h; exact List.nodup_cons.2 ⟨h, ih⟩
def kidsL (p : List UInt8) (l : List (List UInt8)) : List (List UInt8) := (l.filter (underL p)).map (childL p)
def namesL (p : List UInt8) (l : List (List UInt8)) : List (List UInt8) := (nub (kidsL p l)).mergeSort (fun x y => decide (x ≤ y))

theorem isKey {x : List UInt8} : WideAt.IsKeyLit (.string x) := by simp [WideAt.IsKeyLit]
def NamesRel (p : List UInt8) (l : List ByteArray) (k : Nat) (D : DataW Unit) : Prop :=
  Tidy D ∧ ∀ x, Maps.has D (.string x) = true ↔ x ∈ kidsL p ((l.take k).map (·.data.toList))
theorem kids_snoc (p s : List UInt8) (l : List (List UInt8)) : kidsL p (l ++ [s]) = if underL p s then kidsL p l ++ [childL p s] else kidsL p l := by
  unfold kidsL
  rw [List.filter_append, List.map_append]
  cases h : underL p s <;> simp [h]
theorem take_map_snoc (l : List ByteArray) (k : Nat) (hk : k < l.length) : (l.take (k + 1)).map (·.data.toList) = (l.take k).map (·.data.toList) ++ [(l.getD k ByteArray.empty).data.toList] := by
  rw [List.take_succ_eq_append_getElem hk, List.map_append, List.getD_eq_getElem?_getD, List.getElem?_eq_getElem hk]; rfl
theorem NamesRel.start (p : List UInt8) (l : List ByteArray) : NamesRel p l 0 (.map []) := ⟨tidy_empty, fun x => by simp [kidsL, has]⟩
theorem NamesRel.skip {p : List UInt8} {l : List ByteArray} {k : Nat} {D : DataW Unit} (h : NamesRel p l k D) (hk : k < l.length) {s : ByteArray} (hs : s = l.getD k ByteArray.empty) (hu : underL p s.data.toList = false) : NamesRel p l (k + 1) D := by
  refine ⟨h.1, fun x => ?_⟩
  rw [take_map_snoc l k hk, kids_snoc, ← hs, hu]; exact h.2 x
theorem NamesRel.step {p : List UInt8} {l : List ByteArray} {k : Nat} {D : DataW Unit} (h : NamesRel p l k D) (hk : k < l.length) {s : ByteArray} (hs : s = l.getD k ByteArray.empty) (hu : underL p s.data.toList = true) (d : DataW Unit) : NamesRel p l (k + 1) (D.put (.string (childL p s.data.toList)) d) := by
  refine ⟨h.1.put isKey d, fun x => ?_⟩
  rw [take_map_snoc l k hk, kids_snoc, ← hs, hu, if_pos rfl, List.mem_append, List.mem_singleton]
  by_cases hx : x = childL p s.data.toList
  · subst hx; rw [has_put_same h.1.isMap isKey]; simp
  · rw [has_put_other (by simpa using hx), h.2 x]; simp [hx]
theorem strKeys_names {p : List UInt8} {l : List ByteArray} {D : DataW Unit} (h : NamesRel p l l.length D) (hk : ∀ es, D = .map es → ∀ q ∈ es, ∃ x, q.1 = .string x) : (nub (kidsL p (l.map (·.data.toList)))).Perm (strKeys D) := by
  obtain ⟨⟨es, rfl, hp⟩, h2⟩ := h
  refine perm_strKeys hp (hk es rfl) (nub_nodup _) fun x => ?_
  rw [mem_nub, h2 x, List.take_length]

theorem keyLaw : Keyed Tryz.prog 9 := string_keyed Tryz.underlying9
theorem zeroInt (w : World) : (zeroValue 3).run Tryz.prog w = .ok (.int .i64 0) w := by kernel_rfl

theorem head_le (r : List UInt8) : (headL r).length ≤ r.length := by
  unfold headL; split
  · rw [List.length_take]; omega
  · exact Nat.le_refl _
theorem rest_le (p s : List UInt8) : (restL p s).length ≤ s.length := by
  unfold restL; split
  · exact Nat.le_refl _
  · rw [List.length_drop]; omega
theorem child_le (p s : List UInt8) : (childL p s).length ≤ s.length := by
  unfold childL; split
  · exact Nat.le_trans (head_le _) (rest_le _ _)
  · exact Nat.zero_le _
theorem ownsMap_below {H : Type} {w w' : World} {P : Program} {k : TypeId} {R : Value → Option (DataW H × List MemPlace)} {b n : Nat} {D : DataW H} {B : Nat} (h : w.ownsMap P k R b n D) (hb : Below B w w') (hB : b < B) : w'.ownsMap P k R b n D := by
  obtain ⟨es, clock, h1, F, hs, hD⟩ := h
  exact ⟨es, clock, (hb.block b hB).trans h1, F, hs, hD⟩

def NamesGives (p : List UInt8) (l : List ByteArray) (w : World) (e : Ending) (w' : World) : Prop :=
  ∃ v, e = .returned v ∧ IsStrs w' v ((namesL p (l.map (·.data.toList))).map bs) ∧ Below w.heap.size w w'

theorem names_end {p : List UInt8} {l : List ByteArray} {w wr w' : World} {B e0 : Nat} {D : DataW Unit} {b n : Nat} {v : Value} {ss : List (List UInt8)} (h : NamesRel p l l.length D)
    (hown : wr.ownsMap Tryz.prog 9 (plainElem Tryz.prog 3) b n D) (hperm : ss.Perm (strKeys D)) (hrow : w'.ownsRow B e0 1 v ss.length ((ss.mergeSort (fun x y => decide (x ≤ y))).map encStr)) (hb : Below w.heap.size w w') :
    NamesGives p l w (.returned v) w' := by
  refine ⟨v, rfl, IsStrs.own (B := B) (e := e0) ?_, hb⟩
  obtain ⟨es0, he0, hk0⟩ := hown.keysOf
  have hp := strKeys_names h (fun es he q hq => by
    rw [he0] at he
    obtain rfl : es0 = es := by injection he
    obtain ⟨x, hx⟩ := hk0 q hq
    obtain ⟨y, _, hy, _⟩ := Maps.keyOf_str Tryz.underlying9 hx
    exact ⟨y, hy⟩)
  have e1 : namesL p (l.map (·.data.toList)) = ss.mergeSort (fun x y => decide (x ≤ y)) := mergeSort_of_perm (hp.trans hperm.symm)
  rw [e1, List.length_map, List.length_mergeSort, List.map_map]
  exact hrow

set_option maxHeartbeats 2000000 in
theorem path_names (p : ByteArray) (l : List ByteArray) (v : Value) (w : World) (hp : p.size ≤ 140737488351232) (hl : l.length * 16 ≤ 140737488351232) (hls : ∀ i, i < l.length → (l.getD i ByteArray.empty).size ≤ 140737488351232)
    (hv : IsStrs w v l) (hm : MX w) :
    Calls Tryz.prog 60 #[.string p, v] w (NamesGives p.data.toList l w) := by
  obtain ⟨a, cap, rfl, hcells⟩ := hv
  have hcells := Lib.hid hcells
  have hls := Lib.hid hls
  have hm := Lib.hid hm
  have hmm := @run_makeMap Tryz.prog
  go_enter Tryz.func60, Tryz.ntmps60
  go_wp2
  go_loopw [13] (fun i wr => ∃ (k : Nat) (D : DataW Unit), k ≤ l.length ∧ i = .int .i64 k ∧ wr.ownsMap Tryz.prog 9 (plainElem Tryz.prog 3) w.heap.size k D ∧ Hid (NamesRel p.data.toList l k D) ∧ Below w.heap.size w wr) (fun i _ => l.length - (intOf i).toNat)
  case atStart => exact ⟨0, _, Nat.zero_le _, rfl, World.ownsMap_made _ _ _ _, Lib.hid (NamesRel.start _ _), (Below.refl _ _).alloc (Nat.le_refl _) _⟩
  case round =>
    obtain ⟨k, D, hk, rfl, hown, hrl, hbw⟩ := hrel
    by_cases hlt : k < l.length
    · rcases hcells.out with hn | ⟨b, off, rfl, hblt, hc⟩
      · subst hn; simp at hlt
      have hcell : wr.cell? ⟨b, off + k, none⟩ = some (.string (l.getD k ByteArray.empty)) := (hbw.cell (p := ⟨b, off + k, none⟩) hblt).trans (hc k hlt)
      have hsz := hls.out k hlt
      obtain ⟨s, hs⟩ : ∃ s, s = l.getD k ByteArray.empty := ⟨_, rfl⟩
      rw [← hs] at hcell hsz
      have Hs := Lib.hid hs; clear hs hc
      have hc2 := path_child p s hp hsz wr (hm.out.below hbw (Nat.le_refl _))
      cases hu : underL p.data.toList s.data.toList with
      | false =>
        rw [hu] at hc2
        have HC := Lib.hid hc2; clear hc2
        have HU := Lib.hid hu; clear hu
        have hown := Lib.hid hown
        go_wp2_with (go_at_call 88; refine (HC.out).mono ?_; rintro e w' ⟨rfl, hb⟩; have Hb := Lib.hid hb; clear hb)
        go_roundw
        case rel => exact ⟨k + 1, D, by omega, by go_num, (ownsMap_below hown.out Hb.out (by exact hown.out.lt)).mono (by omega), Lib.hid (hrl.out.skip hlt Hs.out HU.out), hbw.trans (Hb.out.mono hbw.size)⟩
        case measure => simp [intOf]; omega
      | true =>
        rw [hu] at hc2
        have HC := Lib.hid hc2; clear hc2
        have HU := Lib.hid hu; clear hu
        have hcs := child_le p.data.toList s.data.toList
        have e0 : s.data.toList.length = s.size := rfl
        obtain ⟨c, hcc⟩ : ∃ c, c = childL p.data.toList s.data.toList := ⟨_, rfl⟩
        rw [← hcc] at HC hcs
        have Hcc := Lib.hid hcc; clear hcc
        have hkey : keyOf Tryz.prog 9 (.string (bs c)) = some (.string c) := Go.WideMaps.keyOf_string_mk Tryz.underlying9 (s := bs c) (by rw [bs_size]; unfold maxLen; omega)
        clear e0 hcs
        have hkl : l.length < maxLen := by unfold maxLen; omega
        go_wp2_with (first
          | (go_at_call 88; refine (HC.out).mono ?_; rintro e w' ⟨rfl, hb⟩; have hown1 := ownsMap_below hown hb (by exact hown.lt); have Hb := Lib.hid hb; clear hb)
          | (at_lookup; refine wpList_lookup_own_int _ rfl _ _ 116 rfl 9 3 .i64 keyLaw Tryz.underlying116 Tryz.underlying3 (zeroInt _) w.heap.size k _ rfl hown1 _ _ rfl hkey ?_; intro cc hat hwc; have Hat := Lib.hid hat; have Hwc := Lib.hid hwc; clear hat hwc)
          | (at_mapUpdate; refine wpList_mapUpdate_own _ rfl _ _ _ 116 rfl 9 3 keyLaw Tryz.underlying116 _ w.heap.size k _ rfl hown1 (by omega) _ _ _ rfl rfl hkey _ [] (plainElem_int Tryz.underlying3 (wrap64_wf _)) ?_; intro w2 hown2 hgrow2))
        go_roundw
        case rel => exact ⟨k + 1, _, by omega, by go_num, hown2, Lib.hid (by rw [Hcc.out]; exact hrl.out.step hlt Hs.out HU.out _), (hbw.trans (Hb.out.mono hbw.size)).grown hgrow2 (by have := hbw.size; have := Hb.out.size; omega) (fun j hj => by cases hj; exact Nat.le_refl _)⟩
        case measure => simp [intOf]; omega
    · have hown := Lib.hid hown
      obtain rfl : k = l.length := by omega
      have hsz : Maps.size D ≤ l.length := by
        obtain ⟨es, clock, h1, F, hs, rfl⟩ := hown.out
        rw [size_eq, length_sorted]; simpa using hs
      have hK := callsIn_wide.1 (Tryz.maps_Keys_89 (some w.heap.size) wr)
      have hS := callsIn_wide.1 (Tryz.slices_Sorted_keys_44_89 w.heap.size l.length D _ wr hown.out (by unfold maxLen; omega) (by omega))
      have HK := Lib.hid hK; clear hK
      have HS := Lib.hid hS; clear hS
      go_wp2_with fail
      refine (HK.out).mono ?_
      rintro e w' ⟨rfl, rfl⟩
      go_wp2_with fail
      refine (HS.out).mono ?_
      rintro e w' ⟨v, ss, rfl, hperm, hrow, hnil, hb⟩
      go_wp2
      go_ret
      exact names_end hrl.out hown.out hperm hrow (hbw.trans (((Below.refl _ wr).alloc (Nat.le_refl _) _).trans (hb.mono (by simp)) |>.mono hbw.size))
end Go.Proofs.YtfbgnpfhjbiikaaGreatDoor

namespace Go.Proofs.YtfbgnpfhjbiikaaGreatDoor
open Go Go.RowKit
open Go.Maps (has size Canon CanonK Tidy IsMap KeysOf Keyed Merged)
abbrev CelMap (w : World) (b : Nat) (M : DataW Cel) : Prop := HoldsMap Tryz.prog 9 (IsCel w) w b M
theorem CelMap.below {w w' : World} {b : Nat} {M : DataW Cel} (h : CelMap w b M) (hb : Below w.heap.size w w') : CelMap w' b M :=
  h.move (hb.block b h.lt) (fun _ _ g => g.below hb (Nat.le_refl _))

structure TabAt (w : World) (t b : Nat) (q1 q2 : Int) (M : DataW Cel) (B : Int) : Prop where
  c0 : w.cell? ⟨t, 0, none⟩ = some (.int .i64 q1)
  c1 : w.cell? ⟨t, 1, none⟩ = some (.int .i64 q2)
  c2 : w.cell? ⟨t, 2, none⟩ = some (.map (some b))
  c3 : w.cell? ⟨t, 3, none⟩ = some (.int .i64 B)
  c4 : ∀ j, w.cell? ⟨t, j + 4, none⟩ = none
  f3 : w.frozen? ⟨t, 3, none⟩ = false
  m : CelMap w b M
theorem TabAt.lt {w : World} {t b : Nat} {q1 q2 B : Int} {M : DataW Cel} (h : TabAt w t b q1 q2 M B) : t < w.heap.size := cell_lt h.c0
theorem TabAt.below {w w' : World} {t b : Nat} {q1 q2 B : Int} {M : DataW Cel} (h : TabAt w t b q1 q2 M B) (hb : Below w.heap.size w w') : TabAt w' t b q1 q2 M B := by
  have hl := h.lt
  exact ⟨(hb.cell hl).trans h.c0, (hb.cell hl).trans h.c1, (hb.cell hl).trans h.c2, (hb.cell hl).trans h.c3, fun j => (hb.cell hl).trans (h.c4 j), (hb.frozen hl).trans h.f3, h.m.below hb⟩
theorem belowDrewN (w : World) (n : Nat) : Below w.heap.size w (w.drewN n) := ⟨rfl, rfl, rfl, Nat.le_refl _, fun _ _ => rfl⟩
theorem TabAt.ne {w : World} {t b : Nat} {q1 q2 B : Int} {M : DataW Cel} (h : TabAt w t b q1 q2 M B) : t ≠ b := by
  intro e
  subst e
  obtain ⟨D, ⟨es, clock, hh, _⟩, _⟩ := h.m
  have := h.c0
  unfold World.cell? at this
  rw [hh] at this
  cases this

set_option maxRecDepth 100000 in
theorem tab_made (w : World) {t b : Nat} {q1 q2 B : Int} {M : DataW Cel} (h : TabAt w t b q1 q2 M B) :
    Calls Tryz.prog 43 #[.pointer (some ⟨t, 0, none⟩)] w fun e w' => e = .returned (.bool true) ∧ Below w.heap.size w w' := by
  have c2 := h.c2
  clear h
  have hne := fun (w : World) (m : Option Nat) => run_neq_map_nil (P := Tryz.prog) w 103 9 46 m Tryz.underlying103
  go_enter Tryz.func43, Tryz.ntmps43
  go_wp2_with fail
  go_ret
  exact ⟨rfl, Below.refl _ _⟩
theorem zeroCel (w : World) : (zeroValue 46).run Tryz.prog w = .ok (.agg #[.int .u64 0, .slice none 0 0]) w := by kernel_rfl
theorem strKeyed : Keyed Tryz.prog 9 := Go.Maps.string_keyed Tryz.underlying9

set_option maxRecDepth 100000 in
set_option maxHeartbeats 1000000 in
theorem tab_new (q1 q2 : Int) (w : World) :
    Calls Tryz.prog 10 #[.agg #[.int .i64 q1, .int .i64 q2]] w fun e w' => ∃ t b, e = .returned (.pointer (some ⟨t, 0, none⟩)) ∧ w.heap.size ≤ t ∧ w.heap.size ≤ b ∧ TabAt w' t b q1 q2 (.map []) 0 ∧ Below w.heap.size w w' := by
  have hmm := @run_makeMap Tryz.prog
  go_enter Tryz.func10, Tryz.ntmps10
  go_wp2_with fail
  go_ret
  refine ⟨w.heap.size + 1 + 1, w.heap.size + 1, rfl, by omega, by omega, ?_, ?_⟩
  · obtain ⟨W1, hW1⟩ : ∃ W1, W1 = w.alloc (.cells #[.int .i64 q1, .int .i64 q2] 31) := ⟨_, rfl⟩
    rw [← hW1]
    have h1 : W1.heap.size = w.heap.size + 1 := by rw [hW1]; simp
    obtain ⟨W2, hW2⟩ : ∃ W2, W2 = W1.alloc (.map #[] 0) := ⟨_, rfl⟩
    have h2 : W2.heap.size = w.heap.size + 1 + 1 := by rw [hW2]; simp [h1]
    have hm := HoldsMap.made W1 Tryz.prog 9 (IsCel (W2.alloc (.cells #[.int .i64 q1, .int .i64 q2, .map (some (w.heap.size + 1)), .int .i64 0] 105)))
    rw [← hW2, h1] at hm
    rw [← hW2]
    have hh := (MapKept.heap_alloc W2 (.cells #[.int .i64 q1, .int .i64 q2, .map (some (w.heap.size + 1)), .int .i64 0] 105)).1
    rw [h2] at hh
    refine ⟨?_, ?_, ?_, ?_, fun j => ?_, ?_, hm.move (Below.heap_alloc _ _ _ (by omega)) (fun _ _ g => g)⟩
    all_goals first | (unfold World.cell?; rw [hh]; rfl) | (unfold World.cell?; rw [hh]; simp; done) | (unfold World.frozen?; rw [hh]; simp)
  · exact (((Below.refl _ _).alloc (Nat.le_refl _) _).alloc (by simp) _).alloc (by simp; omega) _

set_option maxRecDepth 100000 in
set_option maxHeartbeats 1000000 in
theorem tab_size (w : World) {t b : Nat} {q1 q2 B : Int} {M : DataW Cel} (h : TabAt w t b q1 q2 M B) :
    Calls Tryz.prog 39 #[.pointer (some ⟨t, 0, none⟩)] w fun e w' => e = .returned (.tuple #[.int .i64 (size M), .int .i64 B]) ∧ Below w.heap.size w w' := by
  have Hmade := Lib.hid (tab_made w h)
  have H := Lib.hid h; clear h
  go_enter Tryz.func39, Tryz.ntmps39
  go_wp2_with fail
  refine Hmade.out.mono ?_
  rintro e w1 ⟨rfl, hb1⟩
  have h1 := H.out.below hb1
  have c2 := h1.c2; have c3 := h1.c3
  have hlen := fun n => (h1.below (belowDrewN _ n)).m.len (t := 103) (e := 46) Tryz.underlying103 3
  have H1 := Lib.hid h1; have Hb1 := Lib.hid hb1; clear h1 hb1
  go_wp2_with fail
  go_quiet (fail)
  go_wp2_with fail
  exact bodyPost_ret (v := .tuple #[.int .i64 (size M), .int .i64 B]) (by simp [results, Tryz.results39, go_sem]) rfl ⟨rfl, Hb1.out.trans (((belowDrewN _ _)).mono Hb1.out.size)⟩
end Go.Proofs.YtfbgnpfhjbiikaaGreatDoor

namespace Go.Proofs.YtfbgnpfhjbiikaaGreatDoor
open Go Go.RowKit
open Go.Maps (has size Canon CanonK Tidy IsMap KeysOf Keyed Merged)
structure One (n : Nat) (C : Array Value) (W : World) : Prop where
  lt : n < W.heap.size
  c : ∀ j, W.cell? ⟨n, j, none⟩ = C[j]?
  f : ∀ j, W.frozen? ⟨n, j, none⟩ = false
theorem One.step {n : Nat} {C : Array Value} {W W' : World} (h : One n C W) (hb : Below W.heap.size W W') : One n C W' :=
  ⟨by have := hb.size; have := h.lt; omega, fun j => (hb.cell h.lt).trans (h.c j), fun j => (hb.frozen h.lt).trans (h.f j)⟩
theorem One.of (w : World) (C : Array Value) (t : TypeId) : One w.heap.size C (w.alloc (.cells C t)) := by
  have hh := (MapKept.heap_alloc w (.cells C t)).1
  refine ⟨by simp, fun j => ?_, fun j => ?_⟩
  · unfold World.cell?; rw [hh]; rfl
  · unfold World.frozen?; rw [hh]; simp
theorem One.far {n : Nat} {C : Array Value} {W : World} (h : One n C W) {p : Addr} (hp : p.block ≠ n) (u : Value) : One n C (W.setCell p u) := by
  refine ⟨by simpa using h.lt, fun j => ?_, fun j => ?_⟩
  · rw [World.cell?_setCell_far _ _ _ _ hp]; exact h.c j
  · rw [World.frozen?_setCell]; exact h.f j
theorem One.set {n : Nat} {C : Array Value} {W : World} (h : One n C W) {i : Nat} (hi : i < C.size) (u : Value) : One n (C.set i u hi) (W.setCell ⟨n, i, none⟩ u) := by
  refine ⟨by simpa using h.lt, fun j => ?_, fun j => ?_⟩
  · by_cases e : i = j
    · subst e
      rw [World.cell?_setCell_same' _ _ _ (by rw [h.c i]; simp [hi])]; simp
    · rw [World.cell?_setCell_other _ _ _ _ (by intro x; injection x with _ x; exact e x), h.c j]
      simp [e]
  · rw [World.frozen?_setCell]; exact h.f j
theorem One.grown {n : Nat} {C : Array Value} {W W' : World} {b : Nat} (h : One n C W) (hg : W.grownBy W' (some b)) (hb : n ≠ b) : One n C W' :=
  ⟨by have := hg.size; have := h.lt; omega, fun j => (hg.cell_far ⟨n, j, none⟩ h.lt (by simpa using hb)).trans (h.c j), fun j => (hg.frozen_far ⟨n, j, none⟩ h.lt (by simpa using hb)).trans (h.f j)⟩

def dE : Edt := ⟨0, ByteArray.empty, false, 0, 0, ByteArray.empty⟩
def IsEdts (w : World) (v : Value) (l : List Edt) : Prop :=
  ∃ a cap, v = .slice a l.length cap ∧ (l = [] ∨ ∃ b off, a = some ⟨b, off, none⟩ ∧ b < w.heap.size ∧ ∀ i, i < l.length →
    w.cell? ⟨b, off + i * 6, none⟩ = some (.int .u8 (l.getD i dE).kind) ∧ w.cell? ⟨b, off + i * 6 + 1, none⟩ = some (.string (l.getD i dE).path) ∧ w.cell? ⟨b, off + i * 6 + 2, none⟩ = some (.bool (l.getD i dE).any) ∧
    w.cell? ⟨b, off + i * 6 + 3, none⟩ = some (.int .u64 (l.getD i dE).want) ∧ w.cell? ⟨b, off + i * 6 + 4, none⟩ = some (.int .u64 (l.getD i dE).n) ∧ w.cell? ⟨b, off + i * 6 + 5, none⟩ = some (.string (l.getD i dE).text))
theorem IsEdts.below {w w' : World} {v : Value} {l : List Edt} {B : Nat} (h : IsEdts w v l) (hb : Below B w w') (hB : w.heap.size ≤ B) : IsEdts w' v l := by
  obtain ⟨a, cap, hv, h⟩ := h
  refine ⟨a, cap, hv, ?_⟩
  rcases h with h | ⟨b, off, ha, hlt, hc⟩
  · exact Or.inl h
  · refine Or.inr ⟨b, off, ha, by have := hb.size; omega, fun i hi => ?_⟩
    obtain ⟨h0, h1, h2, h3, h4, h5⟩ := hc i hi
    exact ⟨(hb.cell (by dsimp only; omega)).trans h0, (hb.cell (by dsimp only; omega)).trans h1, (hb.cell (by dsimp only; omega)).trans h2, (hb.cell (by dsimp only; omega)).trans h3, (hb.cell (by dsimp only; omega)).trans h4, (hb.cell (by dsimp only; omega)).trans h5⟩

theorem IsVers.grown {w w' : World} {v : Value} {l : List Ver} {b : Nat} (h : IsVers w v l) (hg : w.grownBy w' (some b)) (hm : ∀ j, w.cell? ⟨b, j, none⟩ = none) : IsVers w' v l := by
  obtain ⟨a, cap, hv, h⟩ := h
  refine ⟨a, cap, hv, ?_⟩
  rcases h with h | ⟨b2, off, ha, hlt, hc⟩
  · exact Or.inl h
  · refine Or.inr ⟨b2, off, ha, by have := hg.size; omega, fun i hi => ?_⟩
    obtain ⟨h1, h2, h3⟩ := hc i hi
    have hne : b2 ≠ b := by intro e; subst e; rw [hm] at h1; cases h1
    exact ⟨(hg.cell_far _ hlt (by simpa using hne)).trans h1, (hg.cell_far _ hlt (by simpa using hne)).trans h2, (hg.cell_far _ hlt (by simpa using hne)).trans h3⟩
theorem ownsMap_none {P : Program} {ks : TypeId} {w : World} {b n : Nat} {D : DataW Value} (h : w.ownsMap P ks heldR b n D) : ∀ j, w.cell? ⟨b, j, none⟩ = none := by
  obtain ⟨es, clock, hh, _⟩ := h
  intro j; unfold World.cell?; rw [hh]
theorem IsCel.grown {w w' : World} {v : Value} {c : Cel} {b : Nat} (h : IsCel w v c) (hg : w.grownBy w' (some b)) (hm : ∀ j, w.cell? ⟨b, j, none⟩ = none) : IsCel w' v c := by
  obtain ⟨s, hv, h⟩ := h; exact ⟨s, hv, h.grown hg hm⟩
theorem merged_none {C : Type} (M : DataW C) : Merged M M (.map []) (fun _ => false) := by
  refine ⟨fun k => ?_, fun k z => ?_⟩
  · show has M k = (has M k || (false && _)); simp
  · rfl
theorem merged_put {C : Type} {N M F : DataW C} (h : Merged N M F (fun _ => false)) (hN : IsMap N) (hF : IsMap F) {k : Lit} (hk : WideAt.IsKeyLit k) (d : DataW C) : Merged (N.put k d) M (F.put k d) (fun _ => false) := by
  refine ⟨fun k' => ?_, fun k' z => ?_⟩
  · by_cases e : k' = k
    · subst e; rw [Maps.has_put_same hN hk, Maps.has_put_same hF hk]; simp
    · rw [Maps.has_put_other e, Maps.has_put_other e]; exact h.1 k'
  · by_cases e : k' = k
    · subst e; rw [Maps.atKey_put_same hN hk, Maps.has_put_same hF hk, Maps.atKey_put_same hF hk]; simp
    · rw [Maps.atKey_put_other e, Maps.has_put_other e, Maps.atKey_put_other e]; exact h.2 k' z
theorem merged_cellAt {N M F : DataW Cel} (h : Merged N M F (fun _ => false)) (p : ByteArray) : cellAt N p = if has F (kS p) = true then cellAt F p else cellAt M p := by
  unfold cellAt
  rw [h.2 (kS p) .nil]
  cases has F (kS p) <;> simp
theorem cellAt_of {M : DataW Cel} {p : ByteArray} {c : Cel} (h : M.atKey (kS p) .nil = .held c) : cellAt M p = c := by unfold cellAt; rw [h]
theorem cellAt_none {M : DataW Cel} {p : ByteArray} (h : has M (kS p) = false) : cellAt M p = ⟨0, []⟩ := by unfold cellAt; rw [Maps.atKey_of_not_has h]
theorem runT_stop {N : DataW Cel} {vv : List Nat} {B : Int} {k : Nat} {x : Edt} {l : List Edt} (he : (editE N x).2 ≠ 0) : runT N vv B k (x :: l) = ((k, (editE N x).2), N, vv, B) := by rw [runT, if_pos he]
theorem runT_go {N : DataW Cel} {vv : List Nat} {B : Int} {k : Nat} {x : Edt} {l : List Edt} (he : (editE N x).2 = 0) : runT N vv B k (x :: l) =
    runT (stepM N x) (vv ++ [(editE N x).1.last]) (B + ((weightE x.path (editE N x).1 : Int) - (weightE x.path (cellAt N x.path) : Int))) (k + 1) l := by rw [runT, if_neg (by simp [he])]
theorem edit_bad {N : DataW Cel} {x : Edt} (h : x.kind < 1 ∨ 3 < x.kind ∨ mayP x.path = false) : editE N x = (cellAt N x.path, 2) := by unfold editE; rw [if_pos h]
theorem edit_fit {N : DataW Cel} {x : Edt} (h1 : 1 ≤ x.kind) (h2 : x.kind ≤ 3) (h3 : mayP x.path = true) : editE N x = outcomeE (cellAt N x.path) x := by
  unfold editE; rw [if_neg (by rintro (h | h | h); (· omega); (· omega); (· rw [h3] at h; cases h))]
theorem CelMap.look2 {w : World} {b : Nat} {M : DataW Cel} (h : CelMap w b M) (p : ByteArray) (hp : p.size ≤ maxLen) : ∃ s is, is = has M (kS p) ∧ IsVers w s (cellAt M p).l ∧
    (Instr.lookup 103 (.map (some b)) (.string p) true).run Tryz.prog w = .ok (.tuple #[.agg #[.int .u64 (cellAt M p).last, s], .bool is]) w ∧
    (Instr.lookup 103 (.map (some b)) (.string p) false).run Tryz.prog w = .ok (.agg #[.int .u64 (cellAt M p).last, s]) w := by
  rcases HoldsMap.look h strKeyed (t := 103) (e := 46) Tryz.underlying103 (zeroCel w) (keyS Tryz.underlying9 hp) with ⟨hh, vc, c, hat, ⟨s, rfl, hs⟩, hl1, hl2⟩ | ⟨hh, hl1, hl2⟩
  · rw [cellAt_of hat]; exact ⟨s, true, hh.symm, hs, hl1, hl2⟩
  · rw [cellAt_none hh]; exact ⟨.slice none 0 0, false, hh.symm, IsVers.nil w, hl1, hl2⟩
def OffMap (w : World) (fb : Nat) (F : DataW Cel) (o : Option Nat) : Prop :=
  HoldsMap Tryz.prog 9 (fun v c => ∃ s, v = .agg #[.int .u64 c.last, s] ∧ IsVers w s c.l ∧ (c.l ≠ [] → ∀ kb, s.ownBlock = some kb → o ≠ some kb)) w fb F
theorem OffMap.map {w : World} {fb : Nat} {F : DataW Cel} {o : Option Nat} (h : OffMap w fb F o) : CelMap w fb F := h.move rfl (fun _ _ ⟨s, e, hs, _⟩ => ⟨s, e, hs⟩)
theorem OffMap.below {w w' : World} {fb : Nat} {F : DataW Cel} {o : Option Nat} (h : OffMap w fb F o) (hb : Below w.heap.size w w') : OffMap w' fb F o :=
  HoldsMap.move h (hb.block fb (HoldsMap.lt h)) (fun _ _ ⟨s, e, hs, ho⟩ => ⟨s, e, hs.below hb (Nat.le_refl _), ho⟩)
theorem IsVers.row {w w' : World} {v : Value} {l : List Ver} {o : Option Nat} (h : IsVers w v l) (hg : w.grownBy w' o) (ho : l ≠ [] → ∀ kb, v.ownBlock = some kb → o ≠ some kb) : IsVers w' v l := by
  obtain ⟨a, cap, hv, h⟩ := h
  refine ⟨a, cap, hv, ?_⟩
  rcases h with h | ⟨b2, off, ha, hlt, hc⟩
  · exact Or.inl h
  · by_cases hl : l = []
    · exact Or.inl hl
    have hne : some b2 ≠ o := fun e => ho hl b2 (by rw [hv, ha]; rfl) e.symm
    refine Or.inr ⟨b2, off, ha, by have := hg.size; omega, fun i hi => ?_⟩
    obtain ⟨h1, h2, h3⟩ := hc i hi
    exact ⟨(hg.cell_far _ hlt hne).trans h1, (hg.cell_far _ hlt hne).trans h2, (hg.cell_far _ hlt hne).trans h3⟩
theorem IsVers.own_lt {w : World} {v : Value} {l : List Ver} (h : IsVers w v l) (hl : l ≠ []) {kb : Nat} (hk : v.ownBlock = some kb) : kb < w.heap.size := by
  obtain ⟨a, cap, hv, h⟩ := h
  rcases h with h | ⟨b2, off, ha, hlt, hc⟩
  · exact absurd h hl
  · rw [hv, ha] at hk; cases hk; exact hlt
theorem OffMap.row {w w' : World} {fb : Nat} {F : DataW Cel} {o o' : Option Nat} (h : OffMap w fb F o) (hg : w.grownBy w' o) (hf : some fb ≠ o) (ho : o' = o ∨ o' = some w.heap.size) : OffMap w' fb F o' := by
  refine HoldsMap.move h (hg.block fb (HoldsMap.lt h) hf) (fun _ c ⟨s, e, hs, hoff⟩ => ⟨s, e, hs.row hg hoff, fun hl kb hk => ?_⟩)
  rcases ho with rfl | rfl
  · exact hoff hl kb hk
  · intro e'
    have := hs.own_lt hl hk
    cases e'; omega
theorem OffMap.put {w : World} {fb : Nat} {F : DataW Cel} {o : Option Nat} (h : OffMap w fb F o) : ∃ D, w.ownsMap Tryz.prog 9 heldR fb (size F) D ∧
    ∀ (w' : World) (n : Nat) (p : ByteArray) (c : Cel) (s : Value), p.size ≤ maxLen → IsVers w s c.l → (c.l ≠ [] → ∀ kb, s.ownBlock = some kb → o ≠ some kb) →
      w'.ownsMap Tryz.prog 9 heldR fb n (D.put (kS p) (.held (.agg #[.int .u64 c.last, s]))) → w.grownBy w' (some fb) → OffMap w' fb (F.put (kS p) (.held c)) o := by
  obtain ⟨D, ho, ha⟩ := h
  refine ⟨D, ho, fun w' n p c s hp hs hso ho' hg => ?_⟩
  have hnone := ownsMap_none ho
  exact HoldsMap.of ho' ((ha.mono (fun v c ⟨s, e, hs, hoff⟩ => ⟨s, e, hs.grown hg hnone, hoff⟩)).put strKeyed (ho.tidy strKeyed) ⟨_, keyS Tryz.underlying9 hp⟩ ⟨s, rfl, hs.grown hg hnone, hso⟩)
theorem ownGrown {w w' : World} {B e n k b : Nat} {v : Value} {xs : List Value} (h : w.ownsRow B e k v n xs) (hg : w.grownBy w' (some b)) (hb : b < B) : w'.ownsRow B e k v n xs := by
  refine ⟨h.1, ?_⟩
  rcases h.2 with hn | ⟨g, cap, cur, hv, hBg, hh, rest⟩
  · exact Or.inl hn
  · exact Or.inr ⟨g, cap, cur, hv, hBg, (hg.block g (lt_of_block hh) (by intro e; injection e with e; omega)).trans hh, rest⟩
theorem IsVers.notOne {W : World} {s : Value} {l : List Ver} {n : Nat} {x : Int} {a : Option Addr} {m c : Nat} (h : IsVers W s l) (h1 : One n #[.int .u64 x, .slice a m c] W) {p : Addr} (hp : p.block = n) (u : Value) : IsVers (W.setCell p u) s l := by
  obtain ⟨a, cap, hv, h⟩ := h
  refine ⟨a, cap, hv, ?_⟩
  rcases h with h | ⟨b2, off, ha, hlt, hc⟩
  · exact Or.inl h
  · by_cases hl : l = []
    · exact Or.inl hl
    have hne : b2 ≠ n := by
      intro e
      subst e
      obtain ⟨_, h2, h3⟩ := hc 0 (List.length_pos_iff.2 hl)
      rw [Nat.zero_mul, Nat.add_zero] at h2 h3
      rw [h1.c] at h2 h3
      rcases Nat.lt_or_ge off 1 with ho | ho
      · obtain rfl : off = 0 := by omega
        simp at h2
      · have : (#[Value.int .u64 x, .slice a m c] : Array Value)[off + 1]? = none := Array.getElem?_eq_none (by simp; omega)
        rw [Array.getElem?_eq_none (by simp; omega)] at h2; cases h2
    refine Or.inr ⟨b2, off, ha, by simpa using hlt, fun i hi => ?_⟩
    obtain ⟨h1, h2, h3⟩ := hc i hi
    exact ⟨(World.cell?_setCell_far _ _ _ _ (by rw [hp]; exact fun e => hne e.symm)).trans h1, (World.cell?_setCell_far _ _ _ _ (by rw [hp]; exact fun e => hne e.symm)).trans h2, (World.cell?_setCell_far _ _ _ _ (by rw [hp]; exact fun e => hne e.symm)).trans h3⟩
theorem quiet_plain {P : Program} {ops : Array Oper} {C : World → Prop} {Q : Act → Prop} {a : Act} {o : Oper} {rest : List Oper} (hg : o.guard = none) (v : Value)
    (h : ∀ w, C w → (execOp a.eval o).run P w = .ok (.value v) w) (k : wpQuiet P ops C Q rest (a.put o.dst v)) : wpQuiet P ops C Q (o :: rest) a := by
  refine wpQuiet_step (fun K hK => ?_)
  have hw : Region.wanted o (yielded ops a.tmps) = true := by simp [Region.wanted, hg]
  rw [if_pos hw]
  refine ⟨v, fun w hw => ?_, hK _ k⟩
  unfold Oper.quietAt
  rw [h w hw]
  exact ⟨rfl, rfl⟩
theorem quiet_call {P : Program} {ops : Array Oper} {C : World → Prop} {Q : Act → Prop} {a : Act} {o : Oper} {rest : List Oper} (hg : o.guard = none) (v : Value) (f : FuncId) (args : Array Value)
    (h : ∀ w, C w → (execOp a.eval o).run P w = .ok (.enter f args) w ∧ Calls P f args w (fun e w'' => e = .returned v ∧ C w'')) (k : wpQuiet P ops C Q rest (a.put o.dst v)) : wpQuiet P ops C Q (o :: rest) a := by
  refine wpQuiet_step (fun K hK => ?_)
  have hw : Region.wanted o (yielded ops a.tmps) = true := by simp [Region.wanted, hg]
  rw [if_pos hw]
  refine ⟨v, fun w hw => ?_, hK _ k⟩
  unfold Oper.quietAt
  rw [(h w hw).1]
  exact ⟨rfl, (h w hw).2⟩
theorem merged_same {N X M F : DataW Cel} {left : Lit → Bool} (hN : Merged N M F (fun _ => false)) (hX : Merged X M F left) (hl : ∀ k, left k = false) (cN : CanonK (KeysOf Tryz.prog 9) N) (cX : CanonK (KeysOf Tryz.prog 9) X) : X = N := by
  refine Maps.ext (cX.canon strKeyed.one) (cN.canon strKeyed.one) (fun k => ?_) (fun k z _ => ?_)
  · rw [hX.1 k, hN.1 k, hl k]
  · rw [hX.2 k z, hN.2 k z, hl k]
theorem keyS_of {x : ByteArray} {kl : Lit} (h : keyOf Tryz.prog 9 (.string x) = some kl) : kl = kS x ∧ x.size ≤ maxLen := by
  obtain ⟨s, e, hk, hs⟩ := keyS_inv Tryz.underlying9 h
  cases e; exact ⟨hk, hs⟩
theorem merged_next {X M F : DataW Cel} {D : DataW Value} {G : Value → Cel → Prop} {left : Lit → Bool} (hX : Merged X M F left) (cX : CanonK (KeysOf Tryz.prog 9) X) (ha : Alike Tryz.prog 9 G D F) {x : ByteArray} (hxs : x.size ≤ maxLen) (hl : left (kS x) = true) {y : DataW Value} (hat : ∀ zd, D.atKey (kS x) zd = y) :
    ∃ X', Merged X' M F (fun z => left z && !z.sameKey (kS x)) ∧ CanonK (KeysOf Tryz.prog 9) X' ∧ size X' = (if has M (kS x) then size X else size X + 1) := by
  have hF : has F (kS x) = true := by rw [← ha.keys]; exact Maps.has_true_of_atKey hat
  obtain ⟨v, c, _, hc, _⟩ := ha.vals _ hF
  have hat2 : ∀ zd, F.atKey (kS x) zd = .held c := fun zd => by rw [Maps.atKey_indep hF zd .nil]; exact hc
  refine ⟨X.put (kS x) (.held c), Maps.merged_step hX (canonK_isMap cX) (kS_key _) hat2, Maps.canonK_put strKeyed.one ⟨_, keyS Tryz.underlying9 hxs⟩ _ cX, ?_⟩
  rw [Maps.size_put (canonK_tidy cX), hX.1 (kS x), hl]
  simp
theorem infoU64 : (Tryz.prog.info? 43).map (fun i => (i.zero, i.size, i.bytes)) = some (some (.int .u64 0), 1, 8) := by kernel_rfl
end Go.Proofs.YtfbgnpfhjbiikaaGreatDoor

namespace Go.Proofs.YtfbgnpfhjbiikaaGreatDoor
open Go Go.RowKit
open Pth
open Go.Maps (has size Canon CanonK Tidy IsMap KeysOf Keyed Merged)
def TriedGives (r : (Nat × Nat) × DataW Cel × List Nat × Int) (M : DataW Cel) (w : World) (e : Ending) (w' : World) : Prop :=
  Below w.heap.size w w' ∧
  ((r.1.2 ≠ 0 ∧ e = .returned (.tuple #[.map none, .slice none 0 0, .int .i64 0, .int .i64 r.1.1, .int .i64 r.1.2])) ∨
   (r.1.2 = 0 ∧ ∃ fb F v, e = .returned (.tuple #[.map (some fb), v, .int .i64 r.2.2.2, .int .i64 0, .int .i64 0]) ∧ w.heap.size ≤ fb ∧ CelMap w' fb F ∧ Merged r.2.1 M F (fun _ => false) ∧ size F ≤ r.2.2.1.length ∧ w'.ownsRow w.heap.size 43 1 v r.2.2.1.length (r.2.2.1.map (fun n : Nat => Value.int .u64 n))))

set_option maxRecDepth 100000 in
set_option maxHeartbeats 4000000 in
theorem tab_tried (w : World) {t b : Nat} {q1 q2 B : Int} {M : DataW Cel} (h : TabAt w t b q1 q2 M B) (hg : Good Tryz.prog 9 M) (hm : MX w) (v : Value) (l : List Edt) (hv : IsEdts w v l) (hl : l.length ≤ 1048576)
    (hsM : size M ≤ 1099511627776) (hB0 : -1125899906842624 ≤ B) (hB1 : B ≤ 1125899906842624) (hp : ∀ i, i < l.length → (l.getD i dE).path.size ≤ 140737488351232 ∧ (l.getD i dE).text.size ≤ 9223372036854775807) :
    Calls Tryz.prog 51 #[.pointer (some ⟨t, 0, none⟩), v] w (TriedGives (triedT M B q1 q2 l) M w) := by
  have Hr : Hid (triedT M B q1 q2 l = if (runT M [] B 0 l).1.2 ≠ 0 then runT M [] B 0 l else if overT ((runT M [] B 0 l).2.1, (runT M [] B 0 l).2.2.2) M B q1 q2 then ((l.length, 180), (runT M [] B 0 l).2) else runT M [] B 0 l) := Lib.hid rfl
  generalize triedT M B q1 q2 l = r at Hr
  obtain ⟨a, cap, rfl, hc⟩ := hv
  have HC := Lib.hid hc; have Hp := Lib.hid hp; have HG := Lib.hid hg; have HM := Lib.hid hm; clear hc hp hg hm
  have Hmade := Lib.hid (tab_made w h)
  have hmm := @run_makeMap Tryz.prog
  have HT := Lib.hid h; clear h
  go_enter Tryz.func51, Tryz.ntmps51
  go_wp2_with fail
  refine Hmade.out.mono ?_
  rintro e w1 ⟨rfl, hb1⟩
  have h1 := HT.out.below hb1
  have c3 := h1.c3
  have c3a : ∀ o, (w1.alloc o).cell? ⟨t, 3, none⟩ = some (.int .i64 B) := fun o => (World.cell?_alloc_past _ _ _ h1.lt).trans c3
  have HT1 := Lib.hid h1; have Hb1 := Lib.hid hb1; clear h1 hb1
  go_wp2_with fail
  go_cut [4, 6] (fun s4 s6 wx => s4 = .map (some w1.heap.size) ∧ s6 = .int .i64 B ∧ Hid (CelMap wx w1.heap.size (.map []) ∧ Below w1.heap.size w1 wx))
  case first =>
    go_region
    all_goals go_wp2_with fail
    all_goals go_meet
    all_goals exact ⟨rfl, rfl, Lib.hid ⟨(HoldsMap.made w1 Tryz.prog 9 (IsCel (w1.alloc (.map #[] 0)))), by first | exact (Below.refl _ _).alloc (Nat.le_refl _) _ | exact ((Below.refl _ _).alloc (Nat.le_refl _) _).drew⟩⟩
  case rest =>
    obtain ⟨rfl, rfl, HX⟩ := hcut
    go_wp2_with fail
    go_loopw [4, 5, 6, 29] (fun s4 s5 s6 i wr => s4 = .map (some w1.heap.size) ∧ ∃ (k : Nat) (N : DataW Cel) (vv : List Nat) (B' : Int) (F : DataW Cel), k ≤ l.length ∧ i = .int .i64 k ∧ s6 = .int .i64 B' ∧ Hid (runT M [] B 0 l = runT N vv B' k (l.drop k)) ∧ (∃ a5 c5, s5 = .slice a5 vv.length c5) ∧ Hid (OffMap wr w1.heap.size F s5.ownBlock ∧ size F ≤ k) ∧
      Hid (Merged N M F (fun _ => false)) ∧ Hid (Good Tryz.prog 9 N) ∧ Hid (vv.length = k) ∧ Hid (wr.ownsRow (w1.heap.size + 1) 43 1 s5 vv.length (vv.map (fun n : Nat => Value.int .u64 n))) ∧
      Hid (B - k * 33000 ≤ B' ∧ B' ≤ B + k * 33000) ∧ Hid (Below w1.heap.size w1 wr)) (fun _ _ _ i _ => l.length - (intOf i).toNat)
    case atStart => exact ⟨rfl, 0, M, [], B, .map [], Nat.zero_le _, rfl, rfl, Lib.hid rfl, ⟨none, 0, rfl⟩, Lib.hid ⟨HoldsMap.move HX.out.1 rfl (fun v c g => by obtain ⟨s, e, hs⟩ := g; exact ⟨s, e, hs, fun _ _ _ => by simp [Value.ownBlock]⟩), by simp [size]⟩, Lib.hid (merged_none M), HG, Lib.hid rfl, Lib.hid (World.ownsRow_nil _ _ _ _), Lib.hid (by omega), Lib.hid HX.out.2⟩
    case round =>
      obtain ⟨rfl, k, N, vv, B', F, hk, rfl, rfl, hrun, ⟨a5, c5, rfl⟩, hFo, hMer, hGN, hvk, hown, hbd, hbw⟩ := hrel
      have hF : Hid (CelMap wr w1.heap.size F) := Lib.hid hFo.out.1.map
      have hsz := hbw.out.size
      by_cases hlt : k < l.length
      · rcases HC.out with hn | ⟨bl, off, rfl, hblt, hcc⟩
        · subst hn; simp at hlt
        have hbr : Below w.heap.size w wr := Hb1.out.trans (hbw.out.mono Hb1.out.size)
        obtain ⟨h0, h1, h2, h3, h4, h5⟩ := hcc k hlt
        have k0 := (hbr.cell (p := ⟨bl, off + k * 6, none⟩) hblt).trans h0
        have k1 := (hbr.cell (p := ⟨bl, off + k * 6 + 1, none⟩) hblt).trans h1
        have k2 := (hbr.cell (p := ⟨bl, off + k * 6 + 2, none⟩) hblt).trans h2
        have k3 := (hbr.cell (p := ⟨bl, off + k * 6 + 3, none⟩) hblt).trans h3
        have k4 := (hbr.cell (p := ⟨bl, off + k * 6 + 4, none⟩) hblt).trans h4
        have k5 := (hbr.cell (p := ⟨bl, off + k * 6 + 5, none⟩) hblt).trans h5
        have hpx := Hp.out k hlt
        have hdrop : l.drop k = l.getD k dE :: l.drop (k + 1) := by
          rw [List.drop_eq_getElem_cons hlt, List.getD_eq_getElem?_getD, List.getElem?_eq_getElem hlt]; rfl
        have hrun2 := hrun.out
        rw [hdrop] at hrun2
        clear h0 h1 h2 h3 h4 h5 hcc hdrop
        obtain ⟨x, hx⟩ : ∃ x, x = l.getD k dE := ⟨_, rfl⟩
        rw [← hx] at k0 k1 k2 k3 k4 k5 hpx hrun2
        clear hx hrun
        obtain ⟨kd, pth, any, want, n, tx⟩ := x
        simp only at k0 k1 k2 k3 k4 k5 hpx
        have Hrun := Lib.hid hrun2; have Hpx := Lib.hid hpx; have Hbr := Lib.hid hbr; have Hlt := Lib.hid hlt; clear hrun2 hpx hbr
        have hlt2 : (k : Int) < (l.length : Int) := by omega
        go_upto_region 7 with fail
        refine wp_abs (F := fun W => One wr.heap.size #[.int .u8 kd, .string pth, .bool any, .int .u64 want, .int .u64 n, .string tx] W ∧ Below wr.heap.size wr W) ⟨One.of _ _ _, (Below.refl _ _).alloc (Nat.le_refl _) _⟩ ?_
        rintro W ⟨hX, hbW⟩
        have x0 := hX.c 0; have x1 := hX.c 1
        simp at x0 x1
        have HX1 := Lib.hid hX; have HbW := Lib.hid hbW; clear hX hbW
        have Hst : Hid (∀ e0, e0 ≠ 0 → (editE N ⟨kd, pth, any, want, n, tx⟩).2 = e0 → r = ((k, e0), N, vv, B')) := Lib.hid (by
          intro e0 he h
          rw [Hr.out, Hrun.out, runT_stop (by rw [h]; exact he), h]
          simp [he])
        by_cases hlo : kd < 1
        · obtain rfl : r = ((k, 2), N, vv, B') := Hst.out 2 (by decide) (by rw [edit_bad (Or.inl hlo)])
          go_wp2_with fail
          refine bodyPost_ret (v := .tuple #[.map none, .slice none 0 0, .int .i64 0, .int .i64 k, .int .i64 2]) ?_ rfl ⟨Hbr.out.trans (HbW.out.mono Hbr.out.size), Or.inl ⟨by simp, rfl⟩⟩
          simp [results, Tryz.results51, go_sem]
        by_cases hhi : 3 < kd
        · obtain rfl : r = ((k, 2), N, vv, B') := Hst.out 2 (by decide) (by rw [edit_bad (Or.inr (Or.inl hhi))])
          go_wp2_with fail
          refine bodyPost_ret (v := .tuple #[.map none, .slice none 0 0, .int .i64 0, .int .i64 k, .int .i64 2]) ?_ rfl ⟨Hbr.out.trans (HbW.out.mono Hbr.out.size), Or.inl ⟨by simp, rfl⟩⟩
          simp [results, Tryz.results51, go_sem]
        have hk1 : 1 ≤ kd := by omega
        have hk3 : kd ≤ 3 := by omega
        go_wp2_with fail
        refine (path_may pth Hpx.out.1 _ ?_).mono ?_
        · exact HM.out.below (Hbr.out.trans (HbW.out.mono Hbr.out.size)) (Nat.le_refl _)
        rintro e w2 ⟨rfl, hb2⟩
        have hX2 := HX1.out.step hb2
        have hbw2 := HbW.out.trans (hb2.mono HbW.out.size)
        have x0 := hX2.c 0; have x1 := hX2.c 1
        simp at x0 x1
        have HX2 := Lib.hid hX2; have Hbw2 := Lib.hid hbw2; clear hX2 hb2 hbw2
        cases hpm : mayL pth.data.toList with
        | false =>
          obtain rfl : r = ((k, 2), N, vv, B') := Hst.out 2 (by decide) (by rw [edit_bad (x := ⟨kd, pth, any, want, n, tx⟩) (Or.inr (Or.inr hpm))])
          go_wp2_with fail
          refine bodyPost_ret (v := .tuple #[.map none, .slice none 0 0, .int .i64 0, .int .i64 k, .int .i64 2]) ?_ rfl ⟨Hbr.out.trans (Hbw2.out.mono Hbr.out.size), Or.inl ⟨by simp, rfl⟩⟩
          simp [results, Tryz.results51, go_sem]
        | true =>
          have Hfit : Hid (editE N ⟨kd, pth, any, want, n, tx⟩ = outcomeE (cellAt N pth) ⟨kd, pth, any, want, n, tx⟩) := Lib.hid (edit_fit hk1 hk3 hpm)
          have hp128 : pth.size ≤ 128 := mayP_size hpm
          have hF2 : CelMap w2 w1.heap.size F := hF.out.below Hbw2.out
          obtain ⟨s9, is, his, hs9, hl9, _⟩ := hF2.look2 pth (by unfold maxLen; omega)
          have Hs9 := Lib.hid hs9
          obtain ⟨a9, c9, rfl, hs9c⟩ := hs9
          clear hs9c
          have His := Lib.hid his; have HF2 := Lib.hid hF2; clear his hF2
          obtain ⟨cF, hcF⟩ : ∃ c, c = cellAt F pth := ⟨_, rfl⟩
          rw [← hcF] at hl9 Hs9
          have HcF := Lib.hid hcF; clear hcF
          go_upto_region 10 with fail
          refine wp_abs (F := fun W9 => One w2.heap.size #[.int .u64 cF.last, .slice a9 cF.l.length c9] W9 ∧ One wr.heap.size #[.int .u8 kd, .string pth, .bool any, .int .u64 want, .int .u64 n, .string tx] W9 ∧ Below w2.heap.size w2 W9) ⟨One.of _ _ _, HX2.out.step ((Below.refl _ _).alloc (Nat.le_refl _) _), (Below.refl _ _).alloc (Nat.le_refl _) _⟩ ?_
          rintro W9 ⟨hC9, hX9, hb9⟩
          have hbw9 := Hbw2.out.trans (hb9.mono Hbw2.out.size)
          have hxc : wr.heap.size < w2.heap.size := HX2.out.lt
          have x1 := hX9.c 1
          have y0 := hC9.c 0; have y1 := hC9.c 1; have yf0 := hC9.f 0; have yf1 := hC9.f 1
          simp at x1 y0 y1
          have h9 := HT1.out.below (hbw.out.trans (hbw9.mono hbw.out.size))
          have d2 := h9.c2
          obtain ⟨s11, _, _, hs11, _, hl11⟩ := h9.m.look2 pth (by unfold maxLen; omega)
          obtain ⟨s11', is11', _, hs11', _, hl11d⟩ := (h9.m.below (w' := W9.drew) (Below.drew (Below.refl _ _))).look2 pth (by unfold maxLen; omega)
          obtain ⟨cM, hcM⟩ : ∃ c, c = cellAt M pth := ⟨_, rfl⟩
          rw [← hcM] at hl11 hs11 hl11d hs11'
          have HC9 := Lib.hid hC9; have HX9 := Lib.hid hX9; have Hbw9 := Lib.hid hbw9; have Hs9' := Lib.hid (Hs9.out.below hb9 (Nat.le_refl _)); have Hs11 := Lib.hid hs11; have Hs11' := Lib.hid hs11'; have Hxc := Lib.hid hxc
          have HcM := Lib.hid hcM; have Hb9 := Lib.hid hb9
          clear hC9 hX9 hbw9 h9 hcM hxc hs11 hs11' hb9 Hs9 HX1 HbW HX2 Hbw2 HF2
          go_upto_if 57 with fail
          go_cut [] (fun wx => Hid (∃ s, One w2.heap.size #[.int .u64 (cellAt N pth).last, s] wx ∧ One wr.heap.size #[.int .u8 kd, .string pth, .bool any, .int .u64 want, .int .u64 n, .string tx] wx ∧ IsVers wx s (cellAt N pth).l ∧ Below wr.heap.size wr wx ∧ w2.heap.size < wx.heap.size))
          case first =>
            obtain ⟨a11, c11, rfl, hs11c⟩ := Hs11'.out
            clear hs11c
            cases is with
            | true =>
              have e : cellAt N pth = cF := by rw [merged_cellAt hMer.out, ← His.out, if_pos rfl, HcF.out]
              go_wp2_with fail
              go_meet
              case rel => rw [e]; exact Lib.hid ⟨_, HC9.out, HX9.out, Hs9'.out, Hbw9.out, HC9.out.lt⟩
            | false =>
              have e : cellAt N pth = cM := by rw [merged_cellAt hMer.out, ← His.out, if_neg (by decide), HcM.out]
              have hlx : ¬ wr.heap.size = w2.heap.size := by have := Hxc.out; omega
              go_wp2_with fail
              go_region
              all_goals go_wp2_with fail
              all_goals go_meet
              all_goals (rw [e]; refine Lib.hid ⟨_, ((HC9.out.step (Below.drew (Below.refl _ _))).set (i := 0) (by simp) _).set (i := 1) (by simp) _, ((HX9.out.step (Below.drew (Below.refl _ _))).far (p := ⟨w2.heap.size, 0, none⟩) (by dsimp only; have := Hxc.out; omega) _).far (p := ⟨w2.heap.size, 1, none⟩) (by dsimp only; have := Hxc.out; omega) _, ?_⟩)
              all_goals refine ⟨?_, ?_, ?_⟩
              all_goals first
                | exact (Hs11'.out.notOne (HC9.out.step (Below.drew (Below.refl _ _))) rfl _).notOne ((HC9.out.step (Below.drew (Below.refl _ _))).set (i := 0) (by simp) _) rfl _
                | exact ((Hbw9.out.trans ((Below.drew (Below.refl _ _)).mono Hbw9.out.size)).setCell (by dsimp only; have := Hxc.out; omega) _).setCell (by dsimp only; have := Hxc.out; omega) _
                | (simpa using HC9.out.lt)
          case rest =>
            obtain ⟨s, hCc, hXc, hsc, hbwc, hltc⟩ := hcut.out
            clear hcut x0 x1 y0 y1 yf0 yf1 d2 hl11 hl11d hl9
            obtain ⟨hmay, hlast⟩ := hGN.out.cellAt pth
            obtain ⟨cN, hcN⟩ : ∃ c, c = cellAt N pth := ⟨_, rfl⟩
            rw [← hcN] at hCc hsc hmay hlast
            have Hfit2 := Lib.hid Hfit.out
            rw [← hcN] at Hfit2
            have y0 := hCc.c 0; have y1 := hCc.c 1
            have x0 := hXc.c 0; have x1 := hXc.c 1; have x2 := hXc.c 2; have x3 := hXc.c 3; have x4 := hXc.c 4; have x5 := hXc.c 5
            simp at y0 y1 x0 x1 x2 x3 x4 x5
            have Hsc := Lib.hid hsc
            have Hbwc2 : Hid (wr.heap.size ≤ wc.heap.size) := Lib.hid hbwc.size
            obtain ⟨asl, csl, rfl, hscc⟩ := hsc
            clear hscc
            have h8 := may_len hmay
            have Hout := Lib.hid (tab_outcome cN _ ⟨kd, pth, any, want, n, tx⟩ wc Hsc.out (by omega) hlast Hpx.out.2)
            have HcN := Lib.hid hcN; have HCc := Lib.hid hCc; have HXc := Lib.hid hXc; have Hbwc := Lib.hid hbwc; have Hmay := Lib.hid hmay; have Hlast := Lib.hid hlast
            clear hcN hCc hXc hbwc hmay hlast
            unfold edtVal at Hout
            obtain ⟨r5, hr5⟩ : ∃ r5, r5 = outcomeE cN ⟨kd, pth, any, want, n, tx⟩ := ⟨_, rfl⟩
            rw [← hr5] at Hout Hfit2
            clear hr5
            go_wp2_with fail
            refine Hout.out.mono ?_
            rintro e w5 ⟨v5, rfl, hv5, hf5, hb5⟩
            have hv5' := hv5
            obtain ⟨a6, c6, rfl, hc6⟩ := hv5'
            clear hc6
            have hCc5 := HCc.out.step hb5
            have hXc5 := HXc.out.step hb5
            have hbw5 := Hbwc.out.trans (hb5.mono Hbwc.out.size)
            have Hf5 := Lib.hid hf5; have Hv5 := Lib.hid hv5; have HCc5 := Lib.hid hCc5; have HXc5 := Lib.hid hXc5; have Hbw5 := Lib.hid hbw5; have Hb5 := Lib.hid hb5
            clear hf5 hv5 hCc5 hXc5 hbw5 hb5 x0 x1 x2 x3 x4 x5 y0 y1 HCc HXc Hbwc
            by_cases he : r5.2 = 0
            · have hE : ((r5.2 : Int) != 0) = false := by simp [he]
              have he0 : (editE N ⟨kd, pth, any, want, n, tx⟩).2 = 0 := by rw [Hfit2.out]; exact he
              have HE0 := Lib.hid he0; clear he0
              go_upto_region 15 with fail
              refine wp_abs (F := fun W15 => One w5.heap.size #[.int .u64 r5.1.last, .slice a6 r5.1.l.length c6] W15 ∧ One w2.heap.size #[.int .u64 cN.last, .slice asl cN.l.length csl] W15 ∧ One wr.heap.size #[.int .u8 kd, .string pth, .bool any, .int .u64 want, .int .u64 n, .string tx] W15 ∧ Below w5.heap.size w5 W15)
                ⟨One.of _ _ _, HCc5.out.step ((Below.refl _ _).alloc (Nat.le_refl _) _), HXc5.out.step ((Below.refl _ _).alloc (Nat.le_refl _) _), (Below.refl _ _).alloc (Nat.le_refl _) _⟩ ?_
              rintro W15 ⟨hD15, hC15, hX15, hb15⟩
              have hbw15 := Hbw5.out.trans (hb15.mono Hbw5.out.size)
              have d0 := hD15.c 0; have d1 := hD15.c 1; have x1 := hX15.c 1
              have y0 := hC15.c 0; have y1 := hC15.c 1
              simp at d0 d1 x1 y0 y1
              obtain ⟨e1, e2, e3, e4⟩ := edit_ok hGN.out HE0.out
              rw [Hfit2.out] at e1 e2 e3
              have hp128 : pth.size ≤ 128 := mayP_size hpm
              have hv15 := Hv5.out.below hb15 (Nat.le_refl _)
              have hs15 := Hsc.out.below (Hb5.out.trans (hb15.mono Hb5.out.size)) (Nat.le_refl _)
              have HW1 := Lib.hid (fun (w' : World) (hb : Below W15.heap.size W15 w') => tab_weight pth r5.1 _ w' (hv15.below hb (Nat.le_refl _)) (by have := may_len e1; omega) (may_sizes e1) (by have := may_size e1; omega) (by omega))
              have HW2 := Lib.hid (fun (w' : World) (hb : Below W15.heap.size W15 w') => tab_weight pth cN _ w' (hs15.below hb (Nat.le_refl _)) (by omega) (may_sizes Hmay.out) (by have := may_size Hmay.out; omega) (by omega))
              have hwd := weight_le (p := pth) e1 hp128
              have hwc := weight_le (p := pth) Hmay.out hp128
              obtain ⟨wd, hwdE⟩ : ∃ x, x = weightE pth r5.1 := ⟨_, rfl⟩
              obtain ⟨wcN, hwcE⟩ : ∃ x, x = weightE pth cN := ⟨_, rfl⟩
              rw [← hwdE] at HW1 hwd
              rw [← hwcE] at HW2 hwc
              have hbd1 := hbd.out.1
              have hbd2 := hbd.out.2
              have i1 : -4611686018427387904 ≤ B' := by omega
              have i2 : B' ≤ 4611686018427387904 := by omega
              have HwdE := Lib.hid hwdE; have HwcE := Lib.hid hwcE; have HD15 := Lib.hid hD15; have HX15 := Lib.hid hX15; have Hbw15 := Lib.hid hbw15; have Hb15 := Lib.hid hb15; have Hv15 := Lib.hid hv15
              have HeF := Lib.hid (And.intro e1 (And.intro e2 (And.intro e3 e4)))
              have keepS : Hid (∀ w', Below W15.heap.size W15 w' → w'.cell? ⟨wr.heap.size, 1, none⟩ = some (.string pth) ∧ w'.cell? ⟨w5.heap.size, 0, none⟩ = some (.int .u64 r5.1.last) ∧ w'.cell? ⟨w5.heap.size, 1, none⟩ = some (.slice a6 r5.1.l.length c6) ∧ w'.cell? ⟨w2.heap.size, 0, none⟩ = some (.int .u64 cN.last) ∧ w'.cell? ⟨w2.heap.size, 1, none⟩ = some (.slice asl cN.l.length csl) ∧ Hid (Below W15.heap.size W15 w')) :=
                Lib.hid (fun w' h => ⟨(h.cell hX15.lt).trans x1, (h.cell hD15.lt).trans d0, (h.cell hD15.lt).trans d1, (h.cell hC15.lt).trans y0, (h.cell hC15.lt).trans y1, Lib.hid h⟩)
              have keepB : Hid (∀ w' : World, (w'.cell? ⟨wr.heap.size, 1, none⟩ = some (.string pth) ∧ w'.cell? ⟨w5.heap.size, 0, none⟩ = some (.int .u64 r5.1.last) ∧ w'.cell? ⟨w5.heap.size, 1, none⟩ = some (.slice a6 r5.1.l.length c6) ∧ w'.cell? ⟨w2.heap.size, 0, none⟩ = some (.int .u64 cN.last) ∧ w'.cell? ⟨w2.heap.size, 1, none⟩ = some (.slice asl cN.l.length csl) ∧ Hid (Below W15.heap.size W15 w')) → Below W15.heap.size W15 w') := Lib.hid (fun w' h => h.2.2.2.2.2.out)
              have hwr1 : IntKind.i64.wrap ((wd : Int) - (wcN : Int)) = (wd : Int) - (wcN : Int) := by rw [IntKind.wrap_i64]; omega
              have hwr2 : IntKind.i64.wrap (B' + ((wd : Int) - (wcN : Int))) = B' + ((wd : Int) - (wcN : Int)) := by rw [IntKind.wrap_i64]; omega
              clear hwdE hwcE hD15 hC15 hX15 hbw15 hb15 hv15 hs15 hbd1 hbd2 e1 e2 e3 e4
              go_cut [6] (fun s6 wx => s6 = .int .i64 (B' + ((wd : Int) - (wcN : Int))) ∧ Hid (Below W15.heap.size W15 wx))
              case first =>
                refine wp_region_quiet (C := fun w' => w'.cell? ⟨wr.heap.size, 1, none⟩ = some (.string pth) ∧ w'.cell? ⟨w5.heap.size, 0, none⟩ = some (.int .u64 r5.1.last) ∧ w'.cell? ⟨w5.heap.size, 1, none⟩ = some (.slice a6 r5.1.l.length c6) ∧ w'.cell? ⟨w2.heap.size, 0, none⟩ = some (.int .u64 cN.last) ∧ w'.cell? ⟨w2.heap.size, 1, none⟩ = some (.slice asl cN.l.length csl) ∧ Hid (Below W15.heap.size W15 w')) (by kernel_rfl) (by kernel_rfl) (keepS.out _ (Below.drew (Below.refl _ _))) ?_
                clear Hr HC Hp HG HM Hmade hmm HT HT1 Hb1 HX hFo hF hMer hGN hvk hown hbd hbw hsz Hrun Hpx Hbr Hst Hfit k0 k1 k2 k3 k4 k5 hl
                refine quiet_plain rfl (.int .i64 B') (fun w' hw' => ?_) ?_
                · obtain ⟨f1, f2, f3, f4, f5, f6⟩ := hw'
                  go_simp
                go_frame
                refine quiet_plain rfl (.pointer (some ⟨wr.heap.size, 1, none⟩)) (fun w' hw' => ?_) ?_
                · obtain ⟨f1, f2, f3, f4, f5, f6⟩ := hw'
                  go_simp
                go_frame
                refine quiet_plain rfl (.string pth) (fun w' hw' => ?_) ?_
                · obtain ⟨f1, f2, f3, f4, f5, f6⟩ := hw'
                  go_simp
                go_frame
                refine quiet_plain rfl (.agg #[.int .u64 r5.1.last, .slice a6 r5.1.l.length c6]) (fun w' hw' => ?_) ?_
                · obtain ⟨f1, f2, f3, f4, f5, f6⟩ := hw'
                  go_simp
                go_frame
                refine quiet_call rfl (.int .i64 wd) 49 #[.string pth, .agg #[.int .u64 r5.1.last, .slice a6 r5.1.l.length c6]] (fun w' hw' => ⟨?_, ?_⟩) ?_
                · obtain ⟨f1, f2, f3, f4, f5, f6⟩ := hw'
                  go_simp
                · exact (HW1.out w' (keepB.out _ hw')).mono (fun e w6 ⟨he, hb⟩ => ⟨he, keepS.out _ ((keepB.out _ hw').trans (hb.mono (keepB.out _ hw').size))⟩)
                go_frame
                refine quiet_plain rfl (.pointer (some ⟨wr.heap.size, 1, none⟩)) (fun w' hw' => ?_) ?_
                · obtain ⟨f1, f2, f3, f4, f5, f6⟩ := hw'
                  go_simp
                go_frame
                refine quiet_plain rfl (.string pth) (fun w' hw' => ?_) ?_
                · obtain ⟨f1, f2, f3, f4, f5, f6⟩ := hw'
                  go_simp
                go_frame
                refine quiet_plain rfl (.agg #[.int .u64 cN.last, .slice asl cN.l.length csl]) (fun w' hw' => ?_) ?_
                · obtain ⟨f1, f2, f3, f4, f5, f6⟩ := hw'
                  go_simp
                go_frame
                refine quiet_call rfl (.int .i64 wcN) 49 #[.string pth, .agg #[.int .u64 cN.last, .slice asl cN.l.length csl]] (fun w' hw' => ⟨?_, ?_⟩) ?_
                · obtain ⟨f1, f2, f3, f4, f5, f6⟩ := hw'
                  go_simp
                · exact (HW2.out w' (keepB.out _ hw')).mono (fun e w6 ⟨he, hb⟩ => ⟨he, keepS.out _ ((keepB.out _ hw').trans (hb.mono (keepB.out _ hw').size))⟩)
                go_frame
                refine quiet_plain rfl (.int .i64 ((wd : Int) - (wcN : Int))) (fun w' hw' => ?_) ?_
                · obtain ⟨f1, f2, f3, f4, f5, f6⟩ := hw'
                  go_simp
                go_frame
                refine quiet_plain rfl (.int .i64 (B' + ((wd : Int) - (wcN : Int)))) (fun w' hw' => ?_) ?_
                · obtain ⟨f1, f2, f3, f4, f5, f6⟩ := hw'
                  go_simp
                go_frame
                refine quiet_plain rfl (.int .i64 (B' + ((wd : Int) - (wcN : Int)))) (fun w' hw' => ?_) ?_
                · obtain ⟨f1, f2, f3, f4, f5, f6⟩ := hw'
                  go_simp
                go_frame
                refine wpQuiet_nil ?_
                intro w' hw'
                have hbx := keepB.out _ hw'
                go_wp2_with fail
                go_meet
                case rel => exact ⟨rfl, Lib.hid hbx⟩
              case rest =>
                obtain ⟨rfl, HBx⟩ := hcut
                obtain ⟨Wx, hWx⟩ : ∃ Wx, Wx = wc := ⟨_, rfl⟩
                rw [← hWx] at HBx ⊢
                clear hWx d0 d1 x1 y0 y1 keepS keepB HW1 HW2
                have hDx := HD15.out.step HBx.out
                have hXx := HX15.out.step HBx.out
                have hbwx := Hbw15.out.trans (HBx.out.mono Hbw15.out.size)
                have d0 := hDx.c 0; have d1 := hDx.c 1; have x1 := hXx.c 1
                simp at d0 d1 x1
                have hOx := hFo.out.1.below hbwx
                obtain ⟨D, hownD, hput⟩ := hOx.put
                have hsF := hFo.out.2
                have hkey := keyS (s := pth) Tryz.underlying9 (by unfold maxLen; omega)
                have hlen : size F < maxLen := by unfold maxLen; omega
                have hvx := Hv15.out.below HBx.out (Nat.le_refl _)
                have hrowx := ownBelow hown.out hbwx
                have hput2 := hput
                have hfr : ∀ kb, (Value.slice a6 r5.1.l.length c6).ownBlock = some kb → (Value.slice a5 vv.length c5).ownBlock ≠ some kb := by
                  intro kb hk e
                  have h1 := Hf5.out kb hk
                  have h2 : kb < wr.heap.size := by
                    rcases hown.out.2 with ⟨hv, _⟩ | ⟨g, cp, cur, hv, hB, hg, _⟩
                    · rw [hv] at e; cases e
                    · rw [hv] at e; cases e; exact lt_of_block hg
                  have h3 := Hbwc2.out
                  omega
                have hne1 : w5.heap.size ≠ w1.heap.size := by have h1 := Hbw5.out.size; have h2 := HoldsMap.lt hFo.out.1; omega
                obtain ⟨i0, hi, hz0, hz1, hz2⟩ := info_parts infoU64
                have hvl : vv.length ≤ 1048576 := by have := hvk.out; omega
                have Hput := Lib.hid (fun w' n hw hg => hput w' n pth r5.1 (.slice a6 r5.1.l.length c6) (by unfold maxLen; omega) hvx (fun _ => hfr) hw hg)
                have Hrowx := Lib.hid hrowx; have HDx := Lib.hid hDx; have Hbwx := Lib.hid hbwx; have Hvk := Lib.hid hvk.out
                clear hput hput2 hvx hfr hrowx hDx hXx hbwx hOx
                go_wp2_with (first
                  | (at_mapUpdate; refine wpList_mapUpdate_own _ rfl _ _ _ 103 rfl 9 46 strKeyed Tryz.underlying103 heldR w1.heap.size (size F) D rfl hownD hlen _ _ (kS pth) rfl rfl hkey (.held (.agg #[.int .u64 r5.1.last, .slice a6 r5.1.l.length c6])) [] rfl ?_; intro w7 hown7 hg7; have HO7 := Lib.hid (Hput.out _ _ hown7 hg7); have Hrow7 := Lib.hid (ownGrown Hrowx.out hg7 (Nat.lt_succ_self _)); have Hg7 := Lib.hid hg7; have hD7 := (HDx.out.grown hg7 hne1); have d0 := hD7.c 0; simp at d0; clear hown7 hg7 hD7)
                  | (at_builtin; refine wpList_append_lies _ rfl (.tmp 90) (.tmp 93) 51 rfl (w1.heap.size + 1) 43 i0 (.int .u64 0) 1 8 Tryz.underlying51 hi hz0 hz1 hz2 rfl (by decide) _ vv.length (vv.map (fun n : Nat => Value.int .u64 n)) rfl (ownBelow Hrow7.out ((Below.refl _ _).alloc (Nat.le_refl _) _)) ⟨w7.heap.size, 0, none⟩ 1 1 [.int .u64 r5.1.last] rfl rfl (World.news_of_block (MapKept.heap_alloc _ _).1) (by intro u hu; rcases List.mem_singleton.1 hu with rfl; rfl) (by decide) (by unfold maxLen; omega) (by omega) ?hbase (w7.heap.size + 1) (by simp) ?go; (case hbase => have h1 := HoldsMap.lt HO7.out; simp; omega); intro g cp w8 hown8 hg8 hat hlt8)
                  | fail)
                go_roundw
                case rel =>
                  have hEd : editE N ⟨kd, pth, any, want, n, tx⟩ = r5 := Hfit2.out
                  refine ⟨rfl, k + 1, stepM N ⟨kd, pth, any, want, n, tx⟩, vv ++ [r5.1.last], B' + ((wd : Int) - (wcN : Int)), F.put (kS pth) (.held r5.1), by omega, by go_num, rfl, Lib.hid ?_, ⟨_, _, by rw [List.length_append]; rfl⟩, Lib.hid ⟨?_, ?_⟩, Lib.hid ?_, Lib.hid (hGN.out.step Tryz.underlying9 HE0.out), Lib.hid ?_, Lib.hid ?_, Lib.hid ?_, Lib.hid ?_⟩
                  · have := Hrun.out.trans (runT_go HE0.out)
                    rw [hEd] at this
                    simp only at this
                    rw [← HcN.out, ← HwdE.out, ← HwcE.out] at this
                    exact this
                  · have h7 := HO7.out.below ((Below.refl w7.heap.size w7).alloc (Nat.le_refl _) (.cells #[.int .u64 r5.1.last] 43))
                    refine h7.row hg8 ?_ ?_
                    · intro e
                      have := ownAbove Hrow7.out _ e.symm
                      omega
                    · rcases hat with h | h
                      · left; exact h.symm
                      · right; show some g = some _; rw [h]; simp
                  · have h1 := Maps.size_put (k := kS pth) (canonK_tidy (HoldsMap.canon HO7.out.map)) (.held r5.1)
                    have h2 := hsF
                    have h3 := Maps.size_put (k := kS pth) (canonK_tidy (HoldsMap.canon hF.out)) (.held r5.1)
                    rw [h3]; split <;> omega
                  · unfold stepM
                    rw [hEd]
                    exact merged_put hMer.out (canonK_isMap hGN.out.canon) (canonK_isMap (HoldsMap.canon hF.out)) (kS_key _) _
                  · rw [List.length_append, Hvk.out]; rfl
                  · rw [List.length_append, List.map_append]; exact hown8
                  · have h1 := hbd.out.1; have h2 := hbd.out.2; constructor <;> omega
                  · have hA := (hbw.out.trans (Hbwx.out.mono hbw.out.size)).grown Hg7.out (hbw.out.trans (Hbwx.out.mono hbw.out.size)).size (fun k hk => by cases hk; exact Nat.le_refl _)
                    refine (hA.alloc hA.size _).grown hg8 (hA.alloc hA.size _).size (fun k hk => ?_)
                    have := ownAbove Hrow7.out k hk
                    omega
                case measure => simp [intOf]; omega
            · have hE : ((r5.2 : Int) != 0) = true := by simp [bne]; omega
              obtain rfl : r = ((k, r5.2), N, vv, B') := Hst.out r5.2 he (by rw [Hfit2.out])
              go_wp2_with fail
              refine bodyPost_ret (v := .tuple #[.map none, .slice none 0 0, .int .i64 0, .int .i64 k, .int .i64 r5.2]) ?_ rfl ⟨?_, Or.inl ⟨he, rfl⟩⟩
              · simp [results, Tryz.results51, go_sem]
              · exact (Hbr.out.trans (Hbw5.out.mono Hbr.out.size)).alloc (Hbr.out.trans (Hbw5.out.mono Hbr.out.size)).size _
      · have hge : (l.length : Int) ≤ (k : Int) := by omega
        obtain ⟨We, hWe⟩ : ∃ We, We = wr := ⟨_, rfl⟩
        subst hWe
        have hkl : k = l.length := by omega
        have hr : r = if overT (N, B') M B q1 q2 then ((l.length, 180), N, vv, B') else ((0, 0), N, vv, B') := by
          rw [Hr.out, hrun.out, hkl, List.drop_length]; rfl
        have Hr2 := Lib.hid hr
        have hTr := HT1.out.below hbw.out
        have c2 := hTr.c2
        have hlen := hTr.m.len (t := 103) (e := 46) Tryz.underlying103 3
        obtain ⟨D, hownD, hal⟩ := hFo.out.1
        have HTr := Lib.hid hTr; have Hal := Lib.hid hal
        clear hr hTr hal hrun hkl
        go_wp2_with (first | (at_range; refine wpList_range_own _ rfl _ 103 rfl 9 46 strKeyed Tryz.underlying103 heldR w1.heap.size (size F) D rfl hownD ?_; intro w0 hrg0 hg0 hs0) | fail)
        go_frame
        go_loopw [15] (fun s15 wx => ∃ (left : Lit → Bool) (cnt : Nat) (X : DataW Cel) (sx : Nat), s15 = .int .i64 sx ∧ Hid (sx = size X) ∧ Hid (wx.ranges Tryz.prog 9 heldR w1.heap.size We.heap.size (size F) D left cnt) ∧ Hid (Merged X M F left) ∧ Hid (CanonK (KeysOf Tryz.prog 9) X) ∧ Hid (sx + cnt ≤ size M + size F) ∧ Hid (Below We.heap.size We wx)) (fun _ wx => wx.rangeLeft w1.heap.size We.heap.size)
        case atStart =>
          refine ⟨_, _, M, size M, rfl, Lib.hid rfl, Lib.hid hrg0, Lib.hid ?_, Lib.hid HG.out.canon, Lib.hid (by have := Hal.out.sizes; omega), Lib.hid ?_⟩
          · refine ⟨fun k => ?_, fun k z => ?_⟩
            · rw [Hal.out.keys]; cases has M k <;> cases has F k <;> rfl
            · rw [Hal.out.keys]; cases has F k <;> rfl
          · exact (Below.refl _ _).grown hg0 (Nat.le_refl _) (fun k hk => by cases hk)
        case round =>
          obtain ⟨left, cnt, X, sx, rfl, hsx, hrg, hmX, hcX, hXle, hbx⟩ := hrel
          have hrgo := hrg.out
          by_cases hc : cnt = 0
          · have hT3 := HTr.out.below hbx.out
            have c0 := hT3.c0; have c1 := hT3.c1; have c2 := hT3.c2; have c3 := hT3.c3
            have hlen := hT3.m.len (t := 103) (e := 46) Tryz.underlying103 3
            obtain ⟨sm, hsm⟩ : ∃ n, n = size M := ⟨_, rfl⟩
            rw [← hsm] at hlen
            have Hsm := Lib.hid hsm
            have Hbend : Hid (Below w.heap.size w wr) := Lib.hid (Hb1.out.trans ((hbw.out.trans (hbx.out.mono hbw.out.size)).mono Hb1.out.size))
            clear hT3 hsm
            by_cases a1 : q1 < (sx : Int)
            · by_cases a2 : sm < sx
              · have a2' : (sm : Int) < (sx : Int) := by omega
                go_wp2_with (at_next; refine wpList_next_ranges _ rfl _ rfl 9 strKeyed heldR Value.string (fun v : Value => v) (fun key kl h => by obtain ⟨s, rfl, _⟩ := keyS_inv Tryz.underlying9 h; exact ⟨s, rfl⟩) (fun v y _ => ⟨v, rfl⟩) w1.heap.size We.heap.size (size F) D left cnt rfl hrgo ?_ (fun x c kl y w' cnt' _ _ _ _ _ hlt' => absurd hlt' (by omega)); intro hc0 hl0)
                have hXN : X = N := merged_same hMer.out hmX.out hl0 hGN.out.canon hcX.out
                have hsN : size N = sx := by rw [← hXN]; exact hsx.out.symm
                have hmM := Hsm.out
                obtain rfl : r = ((l.length, 180), N, vv, B') := by rw [Hr2.out, if_pos (by unfold overT; simp only [hsN, ← hmM]; simp only [Bool.or_eq_true, Bool.and_eq_true, decide_eq_true_eq]; omega)]
                refine bodyPost_ret (v := .tuple #[.map none, .slice none 0 0, .int .i64 0, .int .i64 l.length, .int .i64 180]) ?_ rfl ⟨Hbend.out, Or.inl ⟨by simp, rfl⟩⟩
                simp [results, Tryz.results51, go_sem]
              · have a2' : ¬ (sm : Int) < (sx : Int) := by omega
                by_cases a3 : q2 < B'
                · by_cases a4 : B < B'
                  · skip
                    go_wp2_with (at_next; refine wpList_next_ranges _ rfl _ rfl 9 strKeyed heldR Value.string (fun v : Value => v) (fun key kl h => by obtain ⟨s, rfl, _⟩ := keyS_inv Tryz.underlying9 h; exact ⟨s, rfl⟩) (fun v y _ => ⟨v, rfl⟩) w1.heap.size We.heap.size (size F) D left cnt rfl hrgo ?_ (fun x c kl y w' cnt' _ _ _ _ _ hlt' => absurd hlt' (by omega)); intro hc0 hl0)
                    have hXN : X = N := merged_same hMer.out hmX.out hl0 hGN.out.canon hcX.out
                    have hsN : size N = sx := by rw [← hXN]; exact hsx.out.symm
                    have hmM := Hsm.out
                    obtain rfl : r = ((l.length, 180), N, vv, B') := by rw [Hr2.out, if_pos (by unfold overT; simp only [hsN, ← hmM]; simp only [Bool.or_eq_true, Bool.and_eq_true, decide_eq_true_eq]; omega)]
                    refine bodyPost_ret (v := .tuple #[.map none, .slice none 0 0, .int .i64 0, .int .i64 l.length, .int .i64 180]) ?_ rfl ⟨Hbend.out, Or.inl ⟨by simp, rfl⟩⟩
                    simp [results, Tryz.results51, go_sem]
                  · skip
                    go_wp2_with (at_next; refine wpList_next_ranges _ rfl _ rfl 9 strKeyed heldR Value.string (fun v : Value => v) (fun key kl h => by obtain ⟨s, rfl, _⟩ := keyS_inv Tryz.underlying9 h; exact ⟨s, rfl⟩) (fun v y _ => ⟨v, rfl⟩) w1.heap.size We.heap.size (size F) D left cnt rfl hrgo ?_ (fun x c kl y w' cnt' _ _ _ _ _ hlt' => absurd hlt' (by omega)); intro hc0 hl0)
                    have hXN : X = N := merged_same hMer.out hmX.out hl0 hGN.out.canon hcX.out
                    have hsN : size N = sx := by rw [← hXN]; exact hsx.out.symm
                    have hmM := Hsm.out
                    obtain rfl : r = ((0, 0), N, vv, B') := by rw [Hr2.out, if_neg (by unfold overT; simp only [hsN, ← hmM]; simp only [Bool.or_eq_true, Bool.and_eq_true, decide_eq_true_eq]; omega)]
                    refine bodyPost_ret (v := .tuple #[.map (some w1.heap.size), .slice a5 vv.length c5, .int .i64 B', .int .i64 0, .int .i64 0]) ?_ rfl ⟨Hbend.out, Or.inr ⟨rfl, w1.heap.size, F, _, rfl, Hb1.out.size, hF.out.below hbx.out, hMer.out, (by have := hFo.out.2; have := hvk.out; simp only; omega), ownBase (ownBelow hown.out hbx.out) (by have := Hb1.out.size; omega)⟩⟩
                    simp [results, Tryz.results51, go_sem]
                · skip
                  go_wp2_with (at_next; refine wpList_next_ranges _ rfl _ rfl 9 strKeyed heldR Value.string (fun v : Value => v) (fun key kl h => by obtain ⟨s, rfl, _⟩ := keyS_inv Tryz.underlying9 h; exact ⟨s, rfl⟩) (fun v y _ => ⟨v, rfl⟩) w1.heap.size We.heap.size (size F) D left cnt rfl hrgo ?_ (fun x c kl y w' cnt' _ _ _ _ _ hlt' => absurd hlt' (by omega)); intro hc0 hl0)
                  have hXN : X = N := merged_same hMer.out hmX.out hl0 hGN.out.canon hcX.out
                  have hsN : size N = sx := by rw [← hXN]; exact hsx.out.symm
                  have hmM := Hsm.out
                  obtain rfl : r = ((0, 0), N, vv, B') := by rw [Hr2.out, if_neg (by unfold overT; simp only [hsN, ← hmM]; simp only [Bool.or_eq_true, Bool.and_eq_true, decide_eq_true_eq]; omega)]
                  refine bodyPost_ret (v := .tuple #[.map (some w1.heap.size), .slice a5 vv.length c5, .int .i64 B', .int .i64 0, .int .i64 0]) ?_ rfl ⟨Hbend.out, Or.inr ⟨rfl, w1.heap.size, F, _, rfl, Hb1.out.size, hF.out.below hbx.out, hMer.out, (by have := hFo.out.2; have := hvk.out; simp only; omega), ownBase (ownBelow hown.out hbx.out) (by have := Hb1.out.size; omega)⟩⟩
                  simp [results, Tryz.results51, go_sem]
            · skip
              by_cases a3 : q2 < B'
              · by_cases a4 : B < B'
                · skip
                  go_wp2_with (at_next; refine wpList_next_ranges _ rfl _ rfl 9 strKeyed heldR Value.string (fun v : Value => v) (fun key kl h => by obtain ⟨s, rfl, _⟩ := keyS_inv Tryz.underlying9 h; exact ⟨s, rfl⟩) (fun v y _ => ⟨v, rfl⟩) w1.heap.size We.heap.size (size F) D left cnt rfl hrgo ?_ (fun x c kl y w' cnt' _ _ _ _ _ hlt' => absurd hlt' (by omega)); intro hc0 hl0)
                  have hXN : X = N := merged_same hMer.out hmX.out hl0 hGN.out.canon hcX.out
                  have hsN : size N = sx := by rw [← hXN]; exact hsx.out.symm
                  have hmM := Hsm.out
                  obtain rfl : r = ((l.length, 180), N, vv, B') := by rw [Hr2.out, if_pos (by unfold overT; simp only [hsN, ← hmM]; simp only [Bool.or_eq_true, Bool.and_eq_true, decide_eq_true_eq]; omega)]
                  refine bodyPost_ret (v := .tuple #[.map none, .slice none 0 0, .int .i64 0, .int .i64 l.length, .int .i64 180]) ?_ rfl ⟨Hbend.out, Or.inl ⟨by simp, rfl⟩⟩
                  simp [results, Tryz.results51, go_sem]
                · skip
                  go_wp2_with (at_next; refine wpList_next_ranges _ rfl _ rfl 9 strKeyed heldR Value.string (fun v : Value => v) (fun key kl h => by obtain ⟨s, rfl, _⟩ := keyS_inv Tryz.underlying9 h; exact ⟨s, rfl⟩) (fun v y _ => ⟨v, rfl⟩) w1.heap.size We.heap.size (size F) D left cnt rfl hrgo ?_ (fun x c kl y w' cnt' _ _ _ _ _ hlt' => absurd hlt' (by omega)); intro hc0 hl0)
                  have hXN : X = N := merged_same hMer.out hmX.out hl0 hGN.out.canon hcX.out
                  have hsN : size N = sx := by rw [← hXN]; exact hsx.out.symm
                  have hmM := Hsm.out
                  obtain rfl : r = ((0, 0), N, vv, B') := by rw [Hr2.out, if_neg (by unfold overT; simp only [hsN, ← hmM]; simp only [Bool.or_eq_true, Bool.and_eq_true, decide_eq_true_eq]; omega)]
                  refine bodyPost_ret (v := .tuple #[.map (some w1.heap.size), .slice a5 vv.length c5, .int .i64 B', .int .i64 0, .int .i64 0]) ?_ rfl ⟨Hbend.out, Or.inr ⟨rfl, w1.heap.size, F, _, rfl, Hb1.out.size, hF.out.below hbx.out, hMer.out, (by have := hFo.out.2; have := hvk.out; simp only; omega), ownBase (ownBelow hown.out hbx.out) (by have := Hb1.out.size; omega)⟩⟩
                  simp [results, Tryz.results51, go_sem]
              · skip
                go_wp2_with (at_next; refine wpList_next_ranges _ rfl _ rfl 9 strKeyed heldR Value.string (fun v : Value => v) (fun key kl h => by obtain ⟨s, rfl, _⟩ := keyS_inv Tryz.underlying9 h; exact ⟨s, rfl⟩) (fun v y _ => ⟨v, rfl⟩) w1.heap.size We.heap.size (size F) D left cnt rfl hrgo ?_ (fun x c kl y w' cnt' _ _ _ _ _ hlt' => absurd hlt' (by omega)); intro hc0 hl0)
                have hXN : X = N := merged_same hMer.out hmX.out hl0 hGN.out.canon hcX.out
                have hsN : size N = sx := by rw [← hXN]; exact hsx.out.symm
                have hmM := Hsm.out
                obtain rfl : r = ((0, 0), N, vv, B') := by rw [Hr2.out, if_neg (by unfold overT; simp only [hsN, ← hmM]; simp only [Bool.or_eq_true, Bool.and_eq_true, decide_eq_true_eq]; omega)]
                refine bodyPost_ret (v := .tuple #[.map (some w1.heap.size), .slice a5 vv.length c5, .int .i64 B', .int .i64 0, .int .i64 0]) ?_ rfl ⟨Hbend.out, Or.inr ⟨rfl, w1.heap.size, F, _, rfl, Hb1.out.size, hF.out.below hbx.out, hMer.out, (by have := hFo.out.2; have := hvk.out; simp only; omega), ownBase (ownBelow hown.out hbx.out) (by have := Hb1.out.size; omega)⟩⟩
                simp [results, Tryz.results51, go_sem]
          · go_upto_if 117 with (at_next; refine wpList_next_ranges _ rfl _ rfl 9 strKeyed heldR Value.string (fun v : Value => v) (fun key kl h => by obtain ⟨s, rfl, _⟩ := keyS_inv Tryz.underlying9 h; exact ⟨s, rfl⟩) (fun v y _ => ⟨v, rfl⟩) w1.heap.size We.heap.size (size F) D left cnt rfl hrgo (fun h0 => absurd h0 hc) ?_; intro x c kl y w3 cnt3 hkx hlk hv hat hrg3 hlt3 hg3 hs3 hen; obtain ⟨rfl, hxs⟩ := keyS_of hkx; have hb3 := hbx.out.grown hg3 hbx.out.size (fun k hk => by cases hk; exact Nat.le_refl _); have hT3 := HTr.out.below hb3; have c2 := hT3.c2; obtain ⟨s, is, his, hs, hl3, _⟩ := hT3.m.look2 x hxs; obtain ⟨a9, c9, rfl, _⟩ := hs; have His := Lib.hid his; have Hb3 := Lib.hid hb3; have Hrg3 := Lib.hid hrg3; have Hlk := Lib.hid hlk; have Hat := Lib.hid hat; have Hxs := Lib.hid hxs; have Hlt3 := Lib.hid hlt3; clear his hb3 hrg3 hlk hat hxs hlt3 hkx hT3 hv hg3 hs3)
            obtain ⟨X', hX', hcX', hsX'⟩ := merged_next hmX.out hcX.out Hal.out Hxs.out Hlk.out Hat.out
            rw [← His.out, ← hsx.out] at hsX'
            have HX' := Lib.hid hX'; have HcX' := Lib.hid hcX'
            clear hX' hcX'
            have hFs := hFo.out.2
            have hl3' := Hlt3.out
            have hXl := hXle.out
            have hi1 : sx + 1 ≤ 9223372036854775807 := by omega
            have HXl : Hid (∀ n, n ≤ sx + 1 → n + cnt3 ≤ size M + size F) := Lib.hid (fun n hn => by omega)
            clear hFs hl3' hXl
            cases is with
            | true =>
              rw [if_pos rfl] at hsX'
              have HsX := Lib.hid hsX'; clear hsX'
              go_wp2_with fail
              go_roundw
              case rel => exact ⟨_, cnt3, X', sx, rfl, Lib.hid HsX.out.symm, Lib.hid (Hrg3.out.alloc _), HX', HcX', Lib.hid (HXl.out _ (by omega)), Lib.hid (Hb3.out.alloc Hb3.out.size _)⟩
              case measure => rw [(Hrg3.out.alloc _).left_eq, hrg.out.left_eq]; exact Hlt3.out
            | false =>
              rw [if_neg (by decide)] at hsX'
              have HsX := Lib.hid hsX'; clear hsX'
              go_wp2_with fail
              go_roundw
              case rel => exact ⟨_, cnt3, X', sx + 1, by push_cast; rfl, Lib.hid HsX.out.symm, Lib.hid (Hrg3.out.alloc _), HX', HcX', Lib.hid (HXl.out _ (by omega)), Lib.hid (Hb3.out.alloc Hb3.out.size _)⟩
              case measure => rw [(Hrg3.out.alloc _).left_eq, hrg.out.left_eq]; exact Hlt3.out
end Go.Proofs.YtfbgnpfhjbiikaaGreatDoor
