/- Contract for path.Names: the children, each once, sorted. -/
import Derived.Test.YtbmmabpglkojkaaDoorPath2
import Derived.Test.YtbmmabpglkojkaaDoorIter
import Derived.Maps.OwnOps
import Derived.Maps.Views
namespace Go.Proofs.YtbmmabpglkojkaaDoor
open Go Go.RowKit Pth Go.Maps Go.Sort

def nub : List (List UInt8) → List (List UInt8)
  | [] => []
  | a :: t => if a ∈ nub t then nub t else a :: nub t
theorem mem_nub {x : List UInt8} {l : List (List UInt8)} : x ∈ nub l ↔ x ∈ l := by
  induction l with
  | nil => simp [nub]
  | cons a t ih =>
    unfold nub
    split
    · rename_i h
      rw [ih, List.mem_cons]
      constructor
      · exact Or.inr
      · rintro (rfl | h2)
        · exact ih.1 h
        · exact h2
    · rw [List.mem_cons, List.mem_cons, ih]
theorem nub_nodup (l : List (List UInt8)) : (nub l).Nodup := by
  induction l with
  | nil => simp [nub]
  | cons a t ih =>
    unfold nub
    split
    · exact ih
    · rename_i h; exact List.nodup_cons.2 ⟨h, ih⟩
def kidsL (p : List UInt8) (l : List (List UInt8)) : List (List UInt8) := (l.filter (underL p)).map (childL p)
def namesL (p : List UInt8) (l : List (List UInt8)) : List (List UInt8) := (nub (kidsL p l)).mergeSort (fun x y => decide (x ≤ y))

theorem isKey {x : List UInt8} : WideAt.IsKeyLit (.string x) := by simp [WideAt.IsKeyLit]
def NamesRel (p : List UInt8) (l : List ByteArray) (k : Nat) (D : DataW Unit) : Prop :=
  Tidy D ∧ ∀ x, Maps.has D (.string x) = true ↔ x ∈ kidsL p ((l.take k).map (·.data.toList))
theorem kids_snoc (p s : List UInt8) (l : List (List UInt8)) : kidsL p (l ++ [s]) = if underL p s then kidsL p l ++ [childL p s] else kidsL p l := by
  unfold kidsL
  rw [List.filter_append, List.map_append]
  cases h : underL p s <;> simp [h]
theorem take_map_snoc (l : List ByteArray) (k : Nat) (hk : k < l.length) : (l.take (k + 1)).map (·.data.toList) = (l.take k).map (·.data.toList) ++ [(l.getD k ByteArray.empty).data.toList] := by
  rw [List.take_succ_eq_append_getElem hk, List.map_append, List.getD_eq_getElem?_getD, List.getElem?_eq_getElem hk]; rfl
theorem NamesRel.start (p : List UInt8) (l : List ByteArray) : NamesRel p l 0 (.map []) := ⟨tidy_empty, fun x => by simp [kidsL, has]⟩
theorem NamesRel.skip {p : List UInt8} {l : List ByteArray} {k : Nat} {D : DataW Unit} (h : NamesRel p l k D) (hk : k < l.length) {s : ByteArray} (hs : s = l.getD k ByteArray.empty) (hu : underL p s.data.toList = false) : NamesRel p l (k + 1) D := by
  refine ⟨h.1, fun x => ?_⟩
  rw [take_map_snoc l k hk, kids_snoc, ← hs, hu]; exact h.2 x
theorem NamesRel.step {p : List UInt8} {l : List ByteArray} {k : Nat} {D : DataW Unit} (h : NamesRel p l k D) (hk : k < l.length) {s : ByteArray} (hs : s = l.getD k ByteArray.empty) (hu : underL p s.data.toList = true) (d : DataW Unit) : NamesRel p l (k + 1) (D.put (.string (childL p s.data.toList)) d) := by
  refine ⟨h.1.put isKey d, fun x => ?_⟩
  rw [take_map_snoc l k hk, kids_snoc, ← hs, hu, if_pos rfl, List.mem_append, List.mem_singleton]
  by_cases hx : x = childL p s.data.toList
  · subst hx; rw [has_put_same h.1.isMap isKey]; simp
  · rw [has_put_other (by simpa using hx), h.2 x]; simp [hx]
theorem strKeys_names {p : List UInt8} {l : List ByteArray} {D : DataW Unit} (h : NamesRel p l l.length D) (hk : ∀ es, D = .map es → ∀ q ∈ es, ∃ x, q.1 = .string x) : (nub (kidsL p (l.map (·.data.toList)))).Perm (strKeys D) := by
  obtain ⟨⟨es, rfl, hp⟩, h2⟩ := h
  refine perm_strKeys hp (hk es rfl) (nub_nodup _) fun x => ?_
  rw [mem_nub, h2 x, List.take_length]

theorem keyLaw : Keyed Tryd.prog 9 := string_keyed Tryd.underlying9
theorem zeroInt (w : World) : (zeroValue 3).run Tryd.prog w = .ok (.int .i64 0) w := by kernel_rfl

theorem head_le (r : List UInt8) : (headL r).length ≤ r.length := by
  unfold headL; split
  · rw [List.length_take]; omega
  · exact Nat.le_refl _
theorem rest_le (p s : List UInt8) : (restL p s).length ≤ s.length := by
  unfold restL; split
  · exact Nat.le_refl _
  · rw [List.length_drop]; omega
theorem child_le (p s : List UInt8) : (childL p s).length ≤ s.length := by
  unfold childL; split
  · exact Nat.le_trans (head_le _) (rest_le _ _)
  · exact Nat.zero_le _
theorem ownsMap_below {H : Type} {w w' : World} {P : Program} {k : TypeId} {R : Value → Option (DataW H × List MemPlace)} {b n : Nat} {D : DataW H} {B : Nat} (h : w.ownsMap P k R b n D) (hb : Below B w w') (hB : b < B) : w'.ownsMap P k R b n D := by
  obtain ⟨es, clock, h1, F, hs, hD⟩ := h
  exact ⟨es, clock, (hb.block b hB).trans h1, F, hs, hD⟩

def NamesGives (p : List UInt8) (l : List ByteArray) (w : World) (e : Ending) (w' : World) : Prop :=
  ∃ v, e = .returned v ∧ IsStrs w' v ((namesL p (l.map (·.data.toList))).map bs) ∧ Below w.heap.size w w'

theorem names_end {p : List UInt8} {l : List ByteArray} {w wr w' : World} {B e0 : Nat} {D : DataW Unit} {b n : Nat} {v : Value} {ss : List (List UInt8)} (h : NamesRel p l l.length D)
    (hown : wr.ownsMap Tryd.prog 9 (plainElem Tryd.prog 3) b n D) (hperm : ss.Perm (strKeys D)) (hrow : w'.ownsRow B e0 1 v ss.length ((ss.mergeSort (fun x y => decide (x ≤ y))).map encStr)) (hb : Below w.heap.size w w') :
    NamesGives p l w (.returned v) w' := by
  refine ⟨v, rfl, IsStrs.own (B := B) (e := e0) ?_, hb⟩
  obtain ⟨es0, he0, hk0⟩ := hown.keysOf
  have hp := strKeys_names h (fun es he q hq => by
    rw [he0] at he
    obtain rfl : es0 = es := by injection he
    obtain ⟨x, hx⟩ := hk0 q hq
    obtain ⟨y, _, hy, _⟩ := Maps.keyOf_str Tryd.underlying9 hx
    exact ⟨y, hy⟩)
  have e1 : namesL p (l.map (·.data.toList)) = ss.mergeSort (fun x y => decide (x ≤ y)) := mergeSort_of_perm (hp.trans hperm.symm)
  rw [e1, List.length_map, List.length_mergeSort, List.map_map]
  exact hrow

set_option maxHeartbeats 2000000 in
theorem path_names (p : ByteArray) (l : List ByteArray) (v : Value) (w : World) (hp : p.size ≤ 140737488351232) (hl : l.length * 16 ≤ 140737488351232) (hls : ∀ i, i < l.length → (l.getD i ByteArray.empty).size ≤ 140737488351232)
    (hv : IsStrs w v l) (hm : MX w) :
    Calls Tryd.prog 35 #[.string p, v] w (NamesGives p.data.toList l w) := by
  obtain ⟨a, cap, rfl, hcells⟩ := hv
  have hcells := Lib.hid hcells
  have hls := Lib.hid hls
  have hm := Lib.hid hm
  have hmm := @run_makeMap Tryd.prog
  go_enter Tryd.func35, Tryd.ntmps35
  go_wp2
  go_loopw [13] (fun i wr => ∃ (k : Nat) (D : DataW Unit), k ≤ l.length ∧ i = .int .i64 k ∧ wr.ownsMap Tryd.prog 9 (plainElem Tryd.prog 3) w.heap.size k D ∧ Hid (NamesRel p.data.toList l k D) ∧ Below w.heap.size w wr) (fun i _ => l.length - (intOf i).toNat)
  case atStart => exact ⟨0, _, Nat.zero_le _, rfl, World.ownsMap_made _ _ _ _, Lib.hid (NamesRel.start _ _), (Below.refl _ _).alloc (Nat.le_refl _) _⟩
  case round =>
    obtain ⟨k, D, hk, rfl, hown, hrl, hbw⟩ := hrel
    by_cases hlt : k < l.length
    · rcases hcells.out with hn | ⟨b, off, rfl, hblt, hc⟩
      · subst hn; simp at hlt
      have hcell : wr.cell? ⟨b, off + k, none⟩ = some (.string (l.getD k ByteArray.empty)) := (hbw.cell (p := ⟨b, off + k, none⟩) hblt).trans (hc k hlt)
      have hsz := hls.out k hlt
      obtain ⟨s, hs⟩ : ∃ s, s = l.getD k ByteArray.empty := ⟨_, rfl⟩
      rw [← hs] at hcell hsz
      have Hs := Lib.hid hs; clear hs hc
      have hc2 := path_child p s hp hsz wr (hm.out.below hbw (Nat.le_refl _))
      cases hu : underL p.data.toList s.data.toList with
      | false =>
        rw [hu] at hc2
        have HC := Lib.hid hc2; clear hc2
        have HU := Lib.hid hu; clear hu
        have hown := Lib.hid hown
        go_wp2_with (go_at_call 45; refine (HC.out).mono ?_; rintro e w' ⟨rfl, hb⟩; have Hb := Lib.hid hb; clear hb)
        go_roundw
        case rel => exact ⟨k + 1, D, by omega, by go_num, (ownsMap_below hown.out Hb.out (by exact hown.out.lt)).mono (by omega), Lib.hid (hrl.out.skip hlt Hs.out HU.out), hbw.trans (Hb.out.mono hbw.size)⟩
        case measure => simp [intOf]; omega
      | true =>
        rw [hu] at hc2
        have HC := Lib.hid hc2; clear hc2
        have HU := Lib.hid hu; clear hu
        have hcs := child_le p.data.toList s.data.toList
        have e0 : s.data.toList.length = s.size := rfl
        obtain ⟨c, hcc⟩ : ∃ c, c = childL p.data.toList s.data.toList := ⟨_, rfl⟩
        rw [← hcc] at HC hcs
        have Hcc := Lib.hid hcc; clear hcc
        have hkey : keyOf Tryd.prog 9 (.string (bs c)) = some (.string c) := Go.WideMaps.keyOf_string_mk Tryd.underlying9 (s := bs c) (by rw [bs_size]; unfold maxLen; omega)
        clear e0 hcs
        have hkl : l.length < maxLen := by unfold maxLen; omega
        go_wp2_with (first
          | (go_at_call 45; refine (HC.out).mono ?_; rintro e w' ⟨rfl, hb⟩; have hown1 := ownsMap_below hown hb (by exact hown.lt); have Hb := Lib.hid hb; clear hb)
          | (at_lookup; refine wpList_lookup_own_int _ rfl _ _ 80 rfl 9 3 .i64 keyLaw Tryd.underlying80 Tryd.underlying3 (zeroInt _) w.heap.size k _ rfl hown1 _ _ rfl hkey ?_; intro cc hat hwc; have Hat := Lib.hid hat; have Hwc := Lib.hid hwc; clear hat hwc)
          | (at_mapUpdate; refine wpList_mapUpdate_own _ rfl _ _ _ 80 rfl 9 3 keyLaw Tryd.underlying80 _ w.heap.size k _ rfl hown1 (by omega) _ _ _ rfl rfl hkey _ [] (plainElem_int Tryd.underlying3 (wrap64_wf _)) ?_; intro w2 hown2 hgrow2))
        go_roundw
        case rel => exact ⟨k + 1, _, by omega, by go_num, hown2, Lib.hid (by rw [Hcc.out]; exact hrl.out.step hlt Hs.out HU.out _), (hbw.trans (Hb.out.mono hbw.size)).grown hgrow2 (by have := hbw.size; have := Hb.out.size; omega) (fun j hj => by cases hj; exact Nat.le_refl _)⟩
        case measure => simp [intOf]; omega
    · have hown := Lib.hid hown
      obtain rfl : k = l.length := by omega
      have hsz : Maps.size D ≤ l.length := by
        obtain ⟨es, clock, h1, F, hs, rfl⟩ := hown.out
        rw [size_eq, length_sorted]; simpa using hs
      have hK := callsIn_wide.1 (Tryd.maps_Keys_46 (some w.heap.size) wr)
      have hS := callsIn_wide.1 (Tryd.slices_Sorted_keys_26_46 w.heap.size l.length D _ wr hown.out (by unfold maxLen; omega) (by omega))
      have HK := Lib.hid hK; clear hK
      have HS := Lib.hid hS; clear hS
      go_wp2_with fail
      refine (HK.out).mono ?_
      rintro e w' ⟨rfl, rfl⟩
      go_wp2_with fail
      refine (HS.out).mono ?_
      rintro e w' ⟨v, ss, rfl, hperm, hrow, hnil, hb⟩
      go_wp2
      go_ret
      exact names_end hrl.out hown.out hperm hrow (hbw.trans (((Below.refl _ wr).alloc (Nat.le_refl _) _).trans (hb.mono (by simp)) |>.mono hbw.size))
end Go.Proofs.YtbmmabpglkojkaaDoor
