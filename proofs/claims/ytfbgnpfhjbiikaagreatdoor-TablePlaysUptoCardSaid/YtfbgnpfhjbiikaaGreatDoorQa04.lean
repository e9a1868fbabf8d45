/- Contracts: table.copied, Table.Rows; scriniumref17.Same, scriniumref18.Same where both are one. Contract: Table.Rows. Contracts: scriniumref17.Same, scriniumref18.Same, where both are one. Contract: scriniumlaw18.Heavy: where it answers false, there is not much. Contract: scriniumref18.Same, where both are one. Edits that came in, opened. Apply, told in one; what stays of lists while a table turns. append onto a list of numbers: that its block bears numbers alone. Rows that came in, opened. -/
import Derived.Test.YtfbgnpfhjbiikaaGreatDoorQa00
import Derived.Test.YtfbgnpfhjbiikaaGreatDoorQa03
import Derived.Lib.SmallJoins
import Derived.Deep.AppendLies
namespace Go.Proofs.YtfbgnpfhjbiikaaGreatDoor
open Go Go.RowKit
open Pth
open Go.Maps (has size Canon CanonK Tidy IsMap KeysOf Keyed Merged)
set_option maxRecDepth 100000 in
set_option maxHeartbeats 1000000 in
theorem tab_copied (c : Cel) (v : Value) (w : World) (hv : IsVers w v c.l) (hl : c.l.length ≤ 65536) :
    Calls Tryz.prog 46 #[.agg #[.int .u64 c.last, v]] w (KeptGives c w) := by
  obtain ⟨cl, L⟩ := c
  simp only at hv hl ⊢
  have hv2 := hv
  obtain ⟨a, cap, rfl, hc⟩ := hv2
  clear hc
  have Hv := Lib.hid hv; clear hv
  go_enter Tryz.func46, Tryz.ntmps46
  go_upto_region 1 with fail
  refine wp_abs (F := Two w #[.int .u64 cl, .slice a L.length cap] #[.int .u64 0, .slice none 0 0]) (Two.of w _ _ _ _) ?_
  intro W T
  have q0 := T.c1 0
  have q1 := T.c1 1
  have T := Lib.hid T
  simp at q0 q1
  go_wp2_with fail
  refine (clone_vers L _ _ (Hv.out.below T.out.b (Nat.le_refl _)) hl).mono ?_
  rintro e w1 ⟨v1, rfl, hown, hb1⟩
  obtain ⟨a1, c1, rfl⟩ := ownShape hown
  have T1 := T.out.step hb1
  have q0 := T1.c1 0; have q1 := T1.c1 1; have f0 := T1.f1 0; have f1 := T1.f1 1
  have z0 := T1.c2 0; have z1 := T1.c2 1; have g0 := T1.f2 0; have g1 := T1.f2 1
  simp at q0 q1 z0 z1
  have T1 := Lib.hid T1; have Hown := Lib.hid hown; have Hb1 := Lib.hid hb1; clear hown hb1
  go_wp2_with fail
  have h1 := T.out.sz
  refine bodyPost_ret (v := .agg #[.int .u64 cl, .slice a1 L.length c1]) ?_ rfl ⟨_, rfl, ?_, ?_⟩
  · simp [results, Tryz.results46, go_sem, z0, z1]
  · exact ownBase (ownsRow_setCell_below (ownsRow_setCell_below (ownsRow_setCell_below Hown.out (by dsimp only; omega) _) (by dsimp only; omega) _) (by dsimp only; omega) _) (by omega)
  · refine (((T1.out.b.setCell ?_ _).setCell ?_ _).setCell ?_ _) <;> dsimp only <;> omega

def dR : ByteArray × Cel := (ByteArray.empty, ⟨0, []⟩)
def IsRows (w : World) (v : Value) (l : List (ByteArray × Cel)) : Prop :=
  ∃ a cap, v = .slice a l.length cap ∧ (l = [] ∨ ∃ b off, a = some ⟨b, off, none⟩ ∧ b < w.heap.size ∧ ∀ i, i < l.length →
    w.cell? ⟨b, off + i * 3, none⟩ = some (.string (l.getD i dR).1) ∧ w.cell? ⟨b, off + i * 3 + 1, none⟩ = some (.int .u64 (l.getD i dR).2.last) ∧ ∃ s, w.cell? ⟨b, off + i * 3 + 2, none⟩ = some s ∧ IsVers w s (l.getD i dR).2.l)
theorem IsRows.below {w w' : World} {v : Value} {l : List (ByteArray × Cel)} {B : Nat} (h : IsRows w v l) (hb : Below B w w') (hB : w.heap.size ≤ B) : IsRows w' v l := by
  obtain ⟨a, cap, hv, h⟩ := h
  refine ⟨a, cap, hv, ?_⟩
  rcases h with h | ⟨b, off, ha, hlt, hc⟩
  · exact Or.inl h
  · refine Or.inr ⟨b, off, ha, by have := hb.size; omega, fun i hi => ?_⟩
    obtain ⟨h0, h1, s, h2, hs⟩ := hc i hi
    exact ⟨(hb.cell (by dsimp only; omega)).trans h0, (hb.cell (by dsimp only; omega)).trans h1, s, (hb.cell (by dsimp only; omega)).trans h2, hs.below hb hB⟩
def keysL (M : DataW Cel) : List (List UInt8) := (strKeys M).mergeSort (fun x y => decide (x ≤ y))
def rowAt (M : DataW Cel) (k : List UInt8) : ByteArray × Cel := (bs k, cellAt M (bs k))
def rowsL (M : DataW Cel) : List (ByteArray × Cel) := (keysL M).map (rowAt M)
theorem canon_strs {C : Type} {M : DataW C} (c : CanonK (KeysOf Tryz.prog 9) M) : ∃ es, M = .map es ∧ es.Pairwise (fun p q => p.1 ≠ q.1) ∧ ∀ p ∈ es, ∃ x, p.1 = .string x := by
  obtain ⟨es, rfl, hp, hk⟩ := c
  refine ⟨es, rfl, Maps.apart_of_rising hp, fun p hp' => ?_⟩
  obtain ⟨v, hv⟩ := hk p hp'
  obtain ⟨y, _, hy, _⟩ := Maps.keyOf_str Tryz.underlying9 hv
  exact ⟨y, hy⟩
theorem mem_strKeys' {C : Type} {es : List (Lit × DataW C)} (hk : ∀ p ∈ es, ∃ x, p.1 = .string x) (x : List UInt8) : x ∈ strKeys (.map es) ↔ has (.map es) (.string x) = true := by
  show x ∈ es.map (fun p => strOf p.1) ↔ _
  rw [Maps.has_eq, List.mem_map, List.any_eq_true]
  constructor
  · rintro ⟨p, hp, rfl⟩
    obtain ⟨y, hy⟩ := hk p hp
    exact ⟨p, hp, by rw [hy]; exact WideAt.sameKey_self trivial⟩
  · rintro ⟨p, hp, hs⟩
    exact ⟨p, hp, by rw [WideAt.sameKey_eq hs]; rfl⟩
theorem strKeys_nodup {C : Type} {es : List (Lit × DataW C)} (hp : es.Pairwise (fun p q => p.1 ≠ q.1)) (hk : ∀ p ∈ es, ∃ x, p.1 = .string x) : (strKeys (.map es)).Nodup := by
  show (es.map fun p => strOf p.1).Nodup
  refine List.pairwise_map.2 (hp.imp_of_mem fun {p q} hp' hq' hne e => hne ?_)
  obtain ⟨x, hx⟩ := hk p hp'
  obtain ⟨y, hy⟩ := hk q hq'
  rw [hx, hy] at e ⊢
  exact congrArg _ e
theorem keysL_of {D : DataW Value} {M : DataW Cel} (cD : CanonK (KeysOf Tryz.prog 9) D) (cM : CanonK (KeysOf Tryz.prog 9) M) (h : ∀ k, has D k = has M k) {ss : List (List UInt8)} (hs : ss.Perm (strKeys D)) : ss.mergeSort (fun x y => decide (x ≤ y)) = keysL M := by
  obtain ⟨es, rfl, hp, hk⟩ := canon_strs cM
  obtain ⟨ed, rfl, hpd, hkd⟩ := canon_strs cD
  unfold keysL
  refine (mergeSort_of_perm (hs.trans ?_))
  refine ((perm_strKeys hp hk (strKeys_nodup hpd hkd) fun x => ?_))
  rw [mem_strKeys' hkd, h]
theorem keysL_mem {M : DataW Cel} (cM : CanonK (KeysOf Tryz.prog 9) M) {x : List UInt8} (hx : x ∈ keysL M) : has M (kS (bs x)) = true := by
  obtain ⟨es, rfl, hp, hk⟩ := canon_strs cM
  unfold keysL at hx
  exact (mem_strKeys' hk x).1 ((List.mergeSort_perm _ _).mem_iff.1 hx)
theorem keysL_length {M : DataW Cel} (cM : CanonK (KeysOf Tryz.prog 9) M) : (keysL M).length = size M := by
  obtain ⟨es, rfl, _⟩ := cM
  unfold keysL
  rw [List.length_mergeSort]
  show (es.map _).length = es.length
  simp
end Go.Proofs.YtfbgnpfhjbiikaaGreatDoor

namespace Go.Proofs.YtfbgnpfhjbiikaaGreatDoor
open Go Go.RowKit
open Pth
open Go.Maps (has size Canon CanonK Tidy IsMap KeysOf Keyed Merged)
def rowCells : List ((ByteArray × Cel) × Value) → List Value
  | [] => []
  | x :: t => .string x.1.1 :: .int .u64 x.1.2.last :: x.2 :: rowCells t
theorem rowCells_length (l : List ((ByteArray × Cel) × Value)) : (rowCells l).length = l.length * 3 := by
  induction l with
  | nil => rfl
  | cons v t ih => simp only [rowCells, List.length_cons, ih]; omega
theorem rowCells_append (a b : List ((ByteArray × Cel) × Value)) : rowCells (a ++ b) = rowCells a ++ rowCells b := by
  induction a with
  | nil => rfl
  | cons v t ih => simp only [List.cons_append, rowCells, ih]
def dRV : (ByteArray × Cel) × Value := (dR, .slice none 0 0)
theorem rowCells_at : ∀ (l : List ((ByteArray × Cel) × Value)) (i : Nat), i < l.length → (rowCells l)[i * 3]? = some (.string (l.getD i dRV).1.1) ∧ (rowCells l)[i * 3 + 1]? = some (.int .u64 (l.getD i dRV).1.2.last) ∧ (rowCells l)[i * 3 + 2]? = some (l.getD i dRV).2
  | [], i, h => by simp at h
  | v :: t, 0, _ => ⟨rfl, rfl, rfl⟩
  | v :: t, i + 1, h => by
    have := rowCells_at t i (by simpa using h)
    rw [show (i + 1) * 3 = i * 3 + 3 by omega]
    exact this
def RowsOff (w : World) (T : List ((ByteArray × Cel) × Value)) (o : Option Nat) : Prop := ∀ x ∈ T, IsVers w x.2 x.1.2.l ∧ (x.1.2.l ≠ [] → ∀ kb, x.2.ownBlock = some kb → o ≠ some kb)
theorem RowsOff.below {w w' : World} {T : List ((ByteArray × Cel) × Value)} {o : Option Nat} (h : RowsOff w T o) (hb : Below w.heap.size w w') : RowsOff w' T o := fun x hx => ⟨(h x hx).1.below hb (Nat.le_refl _), (h x hx).2⟩
theorem RowsOff.row {w w' : World} {T : List ((ByteArray × Cel) × Value)} {o o' : Option Nat} (h : RowsOff w T o) (hg : w.grownBy w' o) (ho : o' = o ∨ o' = some w.heap.size) : RowsOff w' T o' := by
  intro x hx
  obtain ⟨h1, h2⟩ := h x hx
  refine ⟨h1.row hg h2, fun hl kb hk => ?_⟩
  rcases ho with rfl | rfl
  · exact h2 hl kb hk
  · intro e
    have := h1.own_lt hl hk
    cases e; omega
theorem IsRows.own {w : World} {B e : Nat} {v : Value} {T : List ((ByteArray × Cel) × Value)} {o : Option Nat} (h : w.ownsRow B e 3 v T.length (rowCells T)) (hT : RowsOff w T o) : IsRows w v (T.map (·.1)) := by
  rcases h.2 with ⟨hv, hl⟩ | ⟨g, cap, cur, hv, hB, hg, hn, hcap, hsz, htake⟩
  · have : T = [] := List.length_eq_zero_iff.1 hl
    subst this; exact ⟨none, 0, hv, Or.inl rfl⟩
  · refine ⟨_, cap, by rw [List.length_map]; exact hv, Or.inr ⟨g, 0, rfl, lt_of_block hg, fun i hi => ?_⟩⟩
    rw [List.length_map] at hi
    subst hv
    obtain ⟨f1, f2, f3⟩ := rowCells_at T i hi
    have c1 := World.ownsRow.cellAt h (i * 3) (by omega)
    have c2 := World.ownsRow.cellAt h (i * 3 + 1) (by omega)
    have c3 := World.ownsRow.cellAt h (i * 3 + 2) (by omega)
    rw [f1] at c1; rw [f2] at c2; rw [f3] at c3
    have hd : (T.map (·.1)).getD i dR = (T.getD i dRV).1 := by
      rw [List.getD_eq_getElem?_getD, List.getD_eq_getElem?_getD, List.getElem?_map, List.getElem?_eq_getElem hi]; rfl
    have hm : T.getD i dRV ∈ T := by
      rw [List.getD_eq_getElem?_getD, List.getElem?_eq_getElem hi]; exact List.getElem_mem hi
    rw [hd, Nat.zero_add]
    exact ⟨c1, c2, _, c3, (hT _ hm).1⟩
theorem infoRow : (Tryz.prog.info? 48).map (fun i => (i.zero, i.size, i.bytes)) = some (some (.agg #[.string ByteArray.empty, .int .u64 0, .slice none 0 0]), 3, 48) := by kernel_rfl

def RowsGives (M : DataW Cel) (w : World) (e : Ending) (w' : World) : Prop := ∃ v, e = .returned v ∧ IsRows w' v (rowsL M) ∧ Below w.heap.size w w'

set_option maxRecDepth 100000 in
set_option maxHeartbeats 2000000 in
theorem tab_rows (w : World) {t b : Nat} {q1 q2 B : Int} {M : DataW Cel} (h : TabAt w t b q1 q2 M B) (hg : Good Tryz.prog 9 M) (hsM : size M ≤ 1073741824) :
    Calls Tryz.prog 12 #[.pointer (some ⟨t, 0, none⟩)] w (RowsGives M w) := by
  have Hmade := Lib.hid (tab_made w h)
  have HG := Lib.hid hg; have HT := Lib.hid h; clear hg h
  go_enter Tryz.func12, Tryz.ntmps12
  go_wp2_with fail
  refine Hmade.out.mono ?_
  rintro e w1 ⟨rfl, hb1⟩
  have h1 := HT.out.below hb1
  have c2 := h1.c2
  have hm1 := h1.m
  obtain ⟨D, hownD, hal⟩ := hm1
  have hK := callsIn_wide.1 (Tryz.maps_Keys_45 (some b) w1)
  have hS := callsIn_wide.1 (Tryz.slices_Sorted_keys_44_45 b (size M) D _ w1 hownD (by rw [hal.sizes]; unfold maxLen; omega) (by rw [hal.sizes]; omega))
  have Hkeys := Lib.hid (fun (ss : List (List UInt8)) (hs : ss.Perm (strKeys D)) => keysL_of (hownD.canonK strKeyed) hal.canon hal.keys hs)
  have HT1 := Lib.hid h1; have Hb1 := Lib.hid hb1; have HK := Lib.hid hK; have HS := Lib.hid hS
  clear h1 hb1 hK hS hal hownD
  go_wp2_with fail
  refine (HK.out).mono ?_
  rintro e w2 ⟨rfl, rfl⟩
  go_wp2_with fail
  refine (HS.out).mono ?_
  rintro e w3 ⟨v3, ss, rfl, hperm, hrow, _, hb3⟩
  have hv3 : IsStrs w3 v3 ((keysL M).map bs) := IsStrs.own (B := (w1.alloc (.cells #[.map (some b)] 103)).heap.size) (e := 9) (by rw [← Hkeys.out ss hperm, List.length_map, List.length_mergeSort, List.map_map]; exact hrow)
  have hb13 : Below w1.heap.size w1 w3 := ((Below.refl _ w1).alloc (Nat.le_refl _) _).trans (hb3.mono (by simp))
  have Hmem := Lib.hid (fun x (hx : x ∈ keysL M) => keysL_mem HG.out.canon hx)
  have hkl : (keysL M).length ≤ 1073741824 := by rw [keysL_length HG.out.canon]; exact hsM
  have Hrows : Hid (rowsL M = (keysL M).map (rowAt M)) := Lib.hid rfl
  generalize keysL M = ks at hv3 Hmem hkl Hrows
  obtain ⟨a3, c3, rfl, hc3⟩ := hv3
  have Hc3 := Lib.hid hc3; have Hb13 := Lib.hid hb13
  clear hc3 hb13 hrow hperm hb3 HS HK Hkeys
  obtain ⟨i0, hi, hz0, hz1, hz2⟩ := info_parts infoRow
  rw [List.length_map]
  go_wp2_with fail
  go_loopw [2, 15] (fun s2 i wr => ∃ (k : Nat) (T : List ((ByteArray × Cel) × Value)), k ≤ ks.length ∧ i = .int .i64 k ∧ (∃ a c, s2 = .slice a T.length c) ∧ Hid (T.map (·.1) = (ks.take k).map (rowAt M)) ∧ Hid (T.length = k) ∧ Hid (wr.ownsRow w3.heap.size 48 3 s2 T.length (rowCells T)) ∧ Hid (RowsOff wr T s2.ownBlock) ∧ Hid (Below w3.heap.size w3 wr)) (fun _ i _ => ks.length - (intOf i).toNat)
  case atStart => exact ⟨0, [], Nat.zero_le _, rfl, ⟨none, 0, rfl⟩, Lib.hid rfl, Lib.hid rfl, Lib.hid (World.ownsRow_nil _ _ _ _), Lib.hid (fun x hx => by cases hx), Lib.hid (Below.refl _ _)⟩
  case round =>
    obtain ⟨k, T, hk, rfl, ⟨a2, c2', rfl⟩, hmap, hTk, hrow, hoff, hbw⟩ := hrel
    have hw1r : Below w1.heap.size w1 wr := Hb13.out.trans (hbw.out.mono Hb13.out.size)
    have hTr := HT1.out.below hw1r
    by_cases hlt : k < ks.length
    · rcases Hc3.out with hn | ⟨b3, o3, rfl, hl3, hcc⟩
      · have := congrArg List.length hn; simp at this; rw [this] at hlt; simp at hlt
      have hcell := (hbw.out.cell (p := ⟨b3, o3 + k, none⟩) hl3).trans (hcc k (by rw [List.length_map]; exact hlt))
      clear hcc
      have hkx : ks.getD k [] ∈ ks := by rw [List.getD_eq_getElem?_getD, List.getElem?_eq_getElem hlt]; exact List.getElem_mem hlt
      have hgd : (ks.map bs).getD k ByteArray.empty = bs (ks.getD k []) := by
        rw [List.getD_eq_getElem?_getD, List.getD_eq_getElem?_getD, List.getElem?_map, List.getElem?_eq_getElem hlt]; rfl
      rw [hgd] at hcell
      have hhas := Hmem.out _ hkx
      have htake : ks.take (k + 1) = ks.take k ++ [ks.getD k []] := by
        rw [List.take_succ_eq_append_getElem hlt, List.getD_eq_getElem?_getD, List.getElem?_eq_getElem hlt]; rfl
      obtain ⟨x, hx⟩ : ∃ x, x = ks.getD k [] := ⟨_, rfl⟩
      rw [← hx] at hcell hhas htake
      clear hx hkx hgd
      obtain ⟨p', c', ep, _, _, _, _, hmp⟩ := HG.out.cells _ hhas
      have hps : (bs x).size ≤ 128 := by rw [kS_inj ep]; exact mayP_size hmp
      have c2 := hTr.c2
      obtain ⟨s, is, _, hs, _, hl⟩ := hTr.m.look2 (bs x) (by unfold maxLen; omega)
      have hmay := (HG.out.cellAt (bs x)).1
      obtain ⟨cN, hcN⟩ : ∃ c, c = cellAt M (bs x) := ⟨_, rfl⟩
      rw [← hcN] at hl hs hmay
      have hl8 := may_len hmay
      have Hs := Lib.hid hs
      obtain ⟨as1, cs1, rfl, _⟩ := hs
      obtain ⟨p, hp⟩ : ∃ p, p = bs x := ⟨_, rfl⟩
      have HcN := Lib.hid hcN; have Htake := Lib.hid htake; have HTr := Lib.hid hTr; have Hlt := Lib.hid hlt
      rw [← hp] at hcell hl
      have Hp := Lib.hid hp
      have hTl : T.length ≤ 1073741824 := by have := hTk.out; omega
      have hlt2 : (k : Int) < (ks.length : Int) := by omega
      clear hcN htake hTr hhas hp ep hmp hps hw1r hmay
      go_wp2_with (first
        | (go_at_call 46; refine (tab_copied cN _ _ Hs.out (by omega)).mono ?_; rintro e w4 ⟨v4, rfl, hown4, hb4⟩; obtain ⟨a4, c4, rfl⟩ := ownShape hown4; have Hown4 := Lib.hid hown4; have Hb4 := Lib.hid hb4; clear hown4 hb4)
        | (at_builtin; refine wpList_append_lies _ rfl (.tmp 19) (.tmp 29) 26 rfl w3.heap.size 48 i0 (.agg #[.string ByteArray.empty, .int .u64 0, .slice none 0 0]) 3 48 Tryz.underlying26 hi hz0 hz1 hz2 rfl (by decide) _ T.length (rowCells T) rfl (ownBelow (ownBelow hrow.out Hb4.out) ((Below.refl _ _).alloc (Nat.le_refl _) _)) ⟨w4.heap.size, 0, none⟩ 1 1 [.string p, .int .u64 cN.last, .slice a4 cN.l.length c4] rfl rfl (World.news_of_block (MapKept.heap_alloc _ _).1) (by intro u hu; simp only [List.mem_cons, List.mem_nil_iff, or_false] at hu; rcases hu with rfl | rfl | rfl <;> rfl) (by decide) (by unfold maxLen; omega) (by omega) ?hbase (w4.heap.size + 1) (by simp) ?go; (case hbase => have h1 := hbw.out.size; have h2 := Hb4.out.size; simp; omega); intro g cp w8 hown8 hg8 hat hlt8)
        | fail)
      go_roundw
      case rel =>
        refine ⟨k + 1, T ++ [((p, cN), .slice a4 cN.l.length c4)], by have := Hlt.out; omega, by go_num, ⟨_, _, by rw [List.length_append]; rfl⟩, Lib.hid ?_, Lib.hid (by rw [List.length_append, hTk.out]; rfl), Lib.hid ?_, Lib.hid ?_, Lib.hid ?_⟩
        · rw [Htake.out, List.map_append, List.map_append, hmap.out, Hp.out, HcN.out]; rfl
        · rw [List.length_append, rowCells_append]; exact hown8
        · have hA : RowsOff (w4.alloc (.cells #[.string p, .int .u64 cN.last, .slice a4 cN.l.length c4] 48)) (T ++ [((p, cN), .slice a4 cN.l.length c4)]) (Value.slice a2 T.length c2').ownBlock := by
            intro y hy
            rcases List.mem_append.1 hy with hy | hy
            · exact ((hoff.out.below Hb4.out).below ((Below.refl _ _).alloc (Nat.le_refl _) _)) y hy
            · rcases List.mem_singleton.1 hy with rfl
              refine ⟨(IsVers.own Hown4.out).below ((Below.refl _ _).alloc (Nat.le_refl _) _) (Nat.le_refl _), fun _ kb hkb e => ?_⟩
              have h1 := ownAbove Hown4.out kb hkb
              have h2 : kb < wr.heap.size := by
                rcases hrow.out.2 with ⟨hv, _⟩ | ⟨g', cp', cur, hv, hB, hg', _⟩
                · rw [hv] at e; cases e
                · rw [hv] at e; cases e; exact lt_of_block hg'
              omega
          refine hA.row hg8 ?_
          rcases hat with h | h
          · left; exact h.symm
          · right; show some g = some _; rw [h]; simp
        · have h1 : Below w3.heap.size w3 w4 := hbw.out.trans (Hb4.out.mono hbw.out.size)
          exact (h1.alloc h1.size _).grown hg8 (h1.alloc h1.size _).size (fun k hk => ownAbove hrow.out k hk)
      case measure => simp [intOf]; omega
    · have hge : (ks.length : Int) ≤ (k : Int) := by omega
      have hkk : k = ks.length := by omega
      have Hkk := Lib.hid hkk
      clear hkk hTr hw1r
      go_wp2_with fail
      go_ret
      refine ⟨_, rfl, ?_, Hb1.out.trans ((Hb13.out.trans (hbw.out.mono Hb13.out.size)).mono Hb1.out.size)⟩
      have h1 := IsRows.own hrow.out hoff.out
      rw [hmap.out, Hkk.out, List.take_length] at h1
      rw [Hrows.out]; exact h1
end Go.Proofs.YtfbgnpfhjbiikaaGreatDoor

namespace Go.Proofs.YtfbgnpfhjbiikaaGreatDoor
open Go Go.RowKit
theorem quiet_plain' {P : Program} {ops : Array Oper} {C : World → Prop} {Q : Act → Prop} {a : Act} {o : Oper} {rest : List Oper} (hw : Region.wanted o (yielded ops a.tmps) = true) (v : Value)
    (h : ∀ w, C w → (execOp a.eval o).run P w = .ok (.value v) w) (k : wpQuiet P ops C Q rest (a.put o.dst v)) : wpQuiet P ops C Q (o :: rest) a := by
  refine wpQuiet_step (fun K hK => ?_)
  rw [if_pos hw]
  refine ⟨v, fun w hw => ?_, hK _ k⟩
  unfold Oper.quietAt
  rw [h w hw]
  exact ⟨rfl, rfl⟩
theorem quiet_call' {P : Program} {ops : Array Oper} {C : World → Prop} {Q : Act → Prop} {a : Act} {o : Oper} {rest : List Oper} (hw : Region.wanted o (yielded ops a.tmps) = true) (v : Value) (f : FuncId) (args : Array Value)
    (h : ∀ w, C w → (execOp a.eval o).run P w = .ok (.enter f args) w ∧ Calls P f args w (fun e w'' => e = .returned v ∧ C w'')) (k : wpQuiet P ops C Q rest (a.put o.dst v)) : wpQuiet P ops C Q (o :: rest) a := by
  refine wpQuiet_step (fun K hK => ?_)
  rw [if_pos hw]
  refine ⟨v, fun w hw => ?_, hK _ k⟩
  unfold Oper.quietAt
  rw [(h w hw).1]
  exact ⟨rfl, (h w hw).2⟩

set_option maxRecDepth 100000 in
set_option maxHeartbeats 2000000 in
theorem ref17_same (c : Cel) (v1 v2 : Value) (w : World) (h1 : IsVers w v1 c.l) (h2 : IsVers w v2 c.l) (hl : c.l.length ≤ 65536) :
    Calls Tryz.prog 50 #[.agg #[.int .u64 c.last, v1], .agg #[.int .u64 c.last, v2]] w fun e w' => e = .returned (.bool true) ∧ Below w.heap.size w w' := by
  obtain ⟨cl, L⟩ := c
  simp only at h1 h2 hl ⊢
  obtain ⟨a1, cap1, rfl, hc1⟩ := h1
  obtain ⟨a2, cap2, rfl, hc2⟩ := h2
  have Hc1 := Lib.hid hc1; have Hc2 := Lib.hid hc2; clear hc1 hc2
  have hLB : ((L.length : Int) != (L.length : Int)) = false := by simp
  have hCB : ((cl : Int) != (cl : Int)) = false := by simp
  go_enter Tryz.func50, Tryz.ntmps50
  go_upto_region 1 with fail
  refine wp_abs (F := Two w #[.int .u64 cl, .slice a1 L.length cap1] #[.int .u64 cl, .slice a2 L.length cap2]) (Two.of w _ _ _ _) ?_
  intro W T
  have q0 := T.c1 0; have q1 := T.c1 1; have r0 := T.c2 0; have r1 := T.c2 1
  have T := Lib.hid T
  simp at q0 q1 r0 r1
  go_wp2_with fail
  go_loopw [5] (fun i wr => ∃ k : Nat, k ≤ L.length ∧ i = .int .i64 k ∧ Hid (Below W.heap.size W wr)) (fun i _ => L.length - (intOf i).toNat)
  case atStart => exact ⟨0, Nat.zero_le _, rfl, Lib.hid (Below.refl _ _)⟩
  case round =>
    obtain ⟨k, hk, rfl, Hbw⟩ := hrel
    have Tr := T.out.step Hbw.out
    have hbr := Tr.b
    have q1 := Tr.c1 1; have r1 := Tr.c2 1
    simp at q1 r1
    by_cases hlt : k < L.length
    · rcases Hc1.out with hn | ⟨b1, o1, rfl, hl1, hcc1⟩
      · subst hn; simp at hlt
      rcases Hc2.out with hn | ⟨b2, o2, rfl, hl2, hcc2⟩
      · subst hn; simp at hlt
      obtain ⟨g1, g2, g3⟩ := hcc1 k hlt
      obtain ⟨g4, g5, g6⟩ := hcc2 k hlt
      have k1 := (hbr.cell (p := ⟨b1, o1 + k * 3, none⟩) hl1).trans g1
      have k2 := (hbr.cell (p := ⟨b1, o1 + k * 3 + 1, none⟩) hl1).trans g2
      have k3 := (hbr.cell (p := ⟨b1, o1 + k * 3 + 2, none⟩) hl1).trans g3
      have k4 := (hbr.cell (p := ⟨b2, o2 + k * 3, none⟩) hl2).trans g4
      have k5 := (hbr.cell (p := ⟨b2, o2 + k * 3 + 1, none⟩) hl2).trans g5
      have k6 := (hbr.cell (p := ⟨b2, o2 + k * 3 + 2, none⟩) hl2).trans g6
      clear hcc1 hcc2 g1 g2 g3 g4 g5 g6
      obtain ⟨x, hx⟩ : ∃ x, x = L.getD k dV := ⟨_, rfl⟩
      rw [← hx] at k1 k2 k3 k4 k5 k6
      clear hx hbr
      have Tr := Lib.hid Tr
      go_wp2_with fail
      go_quiet (fail)
      go_wp2_with fail
      go_roundw
      case rel => exact ⟨k + 1, by omega, by go_num, Lib.hid (below_dr Hbw.out _)⟩
      case measure => simp [intOf]; omega
    · have hge : (L.length : Int) ≤ (k : Int) := by omega
      clear hbr
      have Tr := Lib.hid Tr
      go_wp2_with fail
      go_ret
      exact ⟨rfl, Tr.out.b⟩
end Go.Proofs.YtfbgnpfhjbiikaaGreatDoor

namespace Go.Proofs.YtfbgnpfhjbiikaaGreatDoor
open Go Go.RowKit
structure Actm where
  es : List Edt
  rs : List (ByteArray × Cel)
  ps : Nat
def dA : Actm := ⟨[], [], 0⟩
def IsAct (w : World) (b off : Nat) (a : Actm) : Prop :=
  ∃ ve vr pa pc, w.cell? ⟨b, off + 1, none⟩ = some ve ∧ IsEdts w ve a.es ∧ w.cell? ⟨b, off + 2, none⟩ = some vr ∧ IsRows w vr a.rs ∧ w.cell? ⟨b, off + 3, none⟩ = some (.slice pa a.ps pc)
def IsActs (w : World) (v : Value) (l : List Actm) : Prop :=
  ∃ a cap, v = .slice a l.length cap ∧ (l = [] ∨ ∃ b off, a = some ⟨b, off, none⟩ ∧ b < w.heap.size ∧ ∀ i, i < l.length → IsAct w b (off + i * 4) (l.getD i dA))
theorem IsAct.below {w w' : World} {b off : Nat} {a : Actm} (h : IsAct w b off a) (hb : Below w.heap.size w w') (hlt : b < w.heap.size) : IsAct w' b off a := by
  obtain ⟨ve, vr, pa, pc, h1, h2, h3, h4, h5⟩ := h
  exact ⟨ve, vr, pa, pc, (hb.cell hlt).trans h1, h2.below hb (Nat.le_refl _), (hb.cell hlt).trans h3, h4.below hb (Nat.le_refl _), (hb.cell hlt).trans h5⟩
def Light (S : Nat) (a : Actm) : Prop := a.es.length ≤ S ∧ a.rs.length ≤ S ∧ a.ps ≤ S ∧ (∀ i, i < a.es.length → (a.es.getD i dE).path.size ≤ S ∧ (a.es.getD i dE).text.size ≤ S) ∧
  (∀ i, i < a.rs.length → (a.rs.getD i dR).2.l.length ≤ S ∧ ∀ j, j < (a.rs.getD i dR).2.l.length → ((a.rs.getD i dR).2.l.getD j dV).tx.size ≤ S)
def totW : List Actm → Nat
  | [] => 0
  | a :: t => 8 * (a.es.length + a.rs.length + a.ps) + totW t
theorem totW_append (a b : List Actm) : totW (a ++ b) = totW a + totW b := by
  induction a with
  | nil => simp [totW]
  | cons v t ih => simp only [List.cons_append, totW, ih]; omega
theorem totW_snoc {l : List Actm} {k : Nat} (hk : k < l.length) : totW (l.take (k + 1)) = totW (l.take k) + 8 * ((l.getD k dA).es.length + (l.getD k dA).rs.length + (l.getD k dA).ps) := by
  rw [List.take_succ_eq_append_getElem hk, totW_append, List.getD_eq_getElem?_getD, List.getElem?_eq_getElem hk]; simp [totW]

def HeavyGives (l : List Actm) (w : World) (e : Ending) (w' : World) : Prop := ∃ x, e = .returned (.bool x) ∧ (x = false → totW l ≤ 8192 ∧ l.length ≤ 40) ∧ Below w.heap.size w w'
set_option maxRecDepth 100000 in
set_option maxHeartbeats 4000000 in
theorem law_heavy (S : Nat) (l : List Actm) (v : Value) (w : World) (hv : IsActs w v l) (hS : S ≤ 140737488351232) (hlS : l.length * (6000 * S) ≤ 4611686018427387904) (hl : l.length ≤ 1099511627776) (hL : ∀ i, i < l.length → Light S (l.getD i dA)) :
    Calls Tryz.prog 8 #[v] w (HeavyGives l w) := by
  obtain ⟨a, cap, rfl, hc⟩ := hv
  have HC := Lib.hid hc; have HL := Lib.hid hL; clear hc hL
  go_enter Tryz.func8, Tryz.ntmps8
  go_wp2_with fail
  go_loopw [3, 4] (fun s3 i wr => ∃ k n : Nat, k ≤ l.length ∧ k ≤ 100 ∧ i = .int .i64 k ∧ s3 = .int .i64 n ∧ Hid (totW (l.take k) ≤ n ∧ n ≤ k * (6000 * S)) ∧ Hid (Below w.heap.size w wr)) (fun _ i _ => l.length - (intOf i).toNat)
  case atStart => exact ⟨0, 0, Nat.zero_le _, by omega, rfl, rfl, Lib.hid ⟨Nat.le_refl _, by omega⟩, Lib.hid (Below.refl _ _)⟩
  case round =>
    obtain ⟨k, n, hk, hk1, rfl, rfl, hn, hbw⟩ := hrel
    by_cases hlt : k < l.length
    · by_cases h100 : k < 100
      · rcases HC.out with hn' | ⟨b, off, rfl, hblt, hcc⟩
        · subst hn'; simp at hlt
        have hact := hcc k hlt
        have hlight := HL.out k hlt
        obtain ⟨ac, hac⟩ : ∃ ac, ac = l.getD k dA := ⟨_, rfl⟩
        rw [← hac] at hact hlight
        have Hac := Lib.hid hac; clear hac hcc
        obtain ⟨es, rs, ps⟩ := ac
        obtain ⟨ve, vr, pa, pc, k1, he, k2, hr, k3⟩ := hact
        obtain ⟨l1, l2, l3, l4, l5⟩ := hlight
        simp only at he hr k3 l1 l2 l3 l4 l5
        obtain ⟨ea, ec, rfl, hec⟩ := he
        obtain ⟨ra, rc, rfl, hrc⟩ := hr
        have Hec := Lib.hid hec; have Hrc := Lib.hid hrc; have L4 := Lib.hid l4; have L5 := Lib.hid l5; clear hec hrc l4 l5
        have hn2 := hn.out.2
        have hk2 : (k + 1) * (6000 * S) ≤ l.length * (6000 * S) := Nat.mul_le_mul_right _ hlt
        have hk3 : (k + 1) * (6000 * S) = k * (6000 * S) + 6000 * S := by rw [Nat.add_mul, Nat.one_mul]
        have hN : n + 6000 * S ≤ 4611686018427387904 := by omega
        have Hk3 := Lib.hid hk3
        clear hn2 hk2 hk3
        have hltI : (k : Int) < (l.length : Int) := by omega
        have h100I : (k : Int) < 100 := by omega
        obtain ⟨E, hE⟩ : ∃ E, E = es.length := ⟨_, rfl⟩
        obtain ⟨R, hR⟩ : ∃ R, R = rs.length := ⟨_, rfl⟩
        rw [← hE] at k1 l1
        rw [← hR] at k2 l2
        have HE := Lib.hid hE; have HR := Lib.hid hR; clear hE hR
        have HK : Hid (∀ W, Below w.heap.size w W → W.cell? ⟨b, off + k * 4 + 1, none⟩ = some (.slice ea E ec) ∧ W.cell? ⟨b, off + k * 4 + 2, none⟩ = some (.slice ra R rc) ∧ W.cell? ⟨b, off + k * 4 + 3, none⟩ = some (.slice pa ps pc)) := Lib.hid (fun W hW => ⟨(hW.cell hblt).trans k1, (hW.cell hblt).trans k2, (hW.cell hblt).trans k3⟩)
        clear k1 k2 k3
        have hm1 : 8 * (E + R + ps) ≤ 9223372036854775807 := by omega
        have hm2 : n + 8 * (E + R + ps) ≤ 9223372036854775807 := by omega
        obtain ⟨k1, k2, k3⟩ := HK.out wr hbw.out
        go_wp2_with fail
        go_quiet (fail)
        go_wp2_with fail
        obtain ⟨n1, hn1⟩ : ∃ n1, n1 = n + 8 * (E + R + ps) := ⟨_, rfl⟩
        have hn1I : (n : Int) + 8 * ((E : Int) + (R : Int) + (ps : Int)) = (n1 : Int) := by omega
        rw [hn1I]
        have hN1 : n1 + 5900 * S ≤ 4611686018427387904 := by omega
        have Hn1 := Lib.hid hn1
        clear hn1 hn1I hm1 hm2 k1 k2 k3
        go_loopw [3, 5] (fun s3 s5 wx => ∃ k2 n2 : Nat, k2 ≤ E ∧ k2 ≤ 100 ∧ s5 = .int .i64 k2 ∧ s3 = .int .i64 n2 ∧ Hid (n1 ≤ n2 ∧ n2 ≤ n1 + k2 * (2 * S)) ∧ Hid (Below w.heap.size w wx)) (fun _ i _ => E - (intOf i).toNat)
        case atStart => exact ⟨0, n1, Nat.zero_le _, by omega, rfl, rfl, Lib.hid ⟨Nat.le_refl _, by omega⟩, Lib.hid (below_dr hbw.out _)⟩
        case round =>
          obtain ⟨k2, n2, hk2, hk2h, rfl, rfl, hn2, hbx⟩ := hrel
          obtain ⟨c1, c2, c3⟩ := HK.out wr hbx.out
          by_cases hlt2 : k2 < E
          · by_cases h1002 : k2 < 100
            · have hlt2I : (k2 : Int) < (E : Int) := by omega
              have h1002I : (k2 : Int) < 100 := by omega
              rcases Hec.out with hnil | ⟨be, oe, rfl, hble, hee⟩
              · have := HE.out; rw [hnil] at this; simp at this; omega
              obtain ⟨_, g1, _, _, _, g5⟩ := hee k2 (by have := HE.out; omega)
              have e1 := (hbx.out.cell (p := ⟨be, oe + k2 * 6 + 1, none⟩) hble).trans g1
              have e5 := (hbx.out.cell (p := ⟨be, oe + k2 * 6 + 5, none⟩) hble).trans g5
              obtain ⟨z1, z2⟩ := L4.out k2 (by have := HE.out; omega)
              obtain ⟨x, hx⟩ : ∃ x, x = es.getD k2 dE := ⟨_, rfl⟩
              rw [← hx] at e1 e5 z1 z2
              clear hx g1 g5 hee
              have hb2 := hn2.out.2
              have hm : k2 * (2 * S) ≤ 100 * (2 * S) := Nat.mul_le_mul_right _ (by omega)
              have hs : (k2 + 1) * (2 * S) = k2 * (2 * S) + 2 * S := by rw [Nat.add_mul, Nat.one_mul]
              have hq1 : n2 + x.text.size ≤ 9223372036854775807 := by omega
              have hq2 : n2 + x.text.size + x.path.size ≤ 9223372036854775807 := by omega
              have Hnx : Hid (n1 ≤ n2 + x.text.size + x.path.size ∧ n2 + x.text.size + x.path.size ≤ n1 + (k2 + 1) * (2 * S)) := Lib.hid (by have := hn2.out.1; constructor <;> omega)
              clear hb2 hm hs z1 z2
              go_wp2_with fail
              go_quiet (fail)
              go_wp2_with fail
              go_roundw
              case rel => exact ⟨k2 + 1, n2 + x.text.size + x.path.size, by omega, by omega, by go_num, by push_cast; rfl, Hnx, Lib.hid (below_dr hbx.out _)⟩
              case measure => simp [intOf]; omega
            · have hlt2I : (k2 : Int) < (E : Int) := by omega
              have h1002I : ¬ (k2 : Int) < 100 := by omega
              have hb2 := hn2.out.2
              have hm2 : k2 * (2 * S) ≤ 100 * (2 * S) := Nat.mul_le_mul_right _ hk2h
              have hN2 : n2 + 5700 * S ≤ 4611686018427387904 := by omega
              have Hn2 : Hid (n1 ≤ n2 ∧ n2 ≤ n1 + 200 * S) := Lib.hid (by have := hn2.out.1; constructor <;> omega)
              clear hb2 hm2
              go_wp2_with fail
              clear c1 c2 c3
              go_loopw [3, 6] (fun s3 s6 wx => ∃ k3 n3 : Nat, k3 ≤ R ∧ k3 ≤ 100 ∧ s6 = .int .i64 k3 ∧ s3 = .int .i64 n3 ∧ Hid (n2 ≤ n3 ∧ n3 ≤ n2 + k3 * (48 * S)) ∧ Hid (Below w.heap.size w wx)) (fun _ i _ => R - (intOf i).toNat)
              case atStart => exact ⟨0, n2, Nat.zero_le _, by omega, rfl, rfl, Lib.hid ⟨Nat.le_refl _, by omega⟩, hbx⟩
              case round =>
                clear hbx hn2
                obtain ⟨k3, n3, hk3, hk3h, rfl, rfl, hn3, hbx⟩ := hrel
                obtain ⟨c1, c2, c3⟩ := HK.out wr hbx.out
                by_cases hlt3 : k3 < R
                · by_cases h1003 : k3 < 100
                  · have hlt3I : (k3 : Int) < (R : Int) := by omega
                    have h1003I : (k3 : Int) < 100 := by omega
                    rcases Hrc.out with hnil | ⟨br, or', rfl, hblr, hrr⟩
                    · have := HR.out; rw [hnil] at this; simp at this; omega
                    obtain ⟨g0, g1, s, g2, hs⟩ := hrr k3 (by have := HR.out; omega)
                    have e0 := (hbx.out.cell (p := ⟨br, or' + k3 * 3, none⟩) hblr).trans g0
                    have e1 := (hbx.out.cell (p := ⟨br, or' + k3 * 3 + 1, none⟩) hblr).trans g1
                    have e2 := (hbx.out.cell (p := ⟨br, or' + k3 * 3 + 2, none⟩) hblr).trans g2
                    obtain ⟨z1, z2⟩ := L5.out k3 (by have := HR.out; omega)
                    obtain ⟨xr, hxr⟩ : ∃ xr, xr = rs.getD k3 dR := ⟨_, rfl⟩
                    rw [← hxr] at e0 e1 hs z1 z2
                    obtain ⟨va, vc, rfl, hvs⟩ := hs
                    obtain ⟨LL, hLL⟩ : ∃ LL, LL = xr.2.l.length := ⟨_, rfl⟩
                    rw [← hLL] at e2 z1
                    have hLS : LL ≤ S := z1
                    have Hvs := Lib.hid hvs; have HLL := Lib.hid hLL; have HLS := Lib.hid z2
                    clear hxr g0 g1 g2 hvs hLL z2 hrr z1
                    have hb3 := hn3.out.2
                    have hm3 : k3 * (48 * S) ≤ 100 * (48 * S) := Nat.mul_le_mul_right _ (by omega)
                    have hq1 : 8 * LL ≤ 9223372036854775807 := by omega
                    have hq2 : n3 + 8 * LL ≤ 9223372036854775807 := by omega
                    have HN3 : Hid (n3 + 8 * LL + 40 * S ≤ 4611686018427387904) := Lib.hid (by omega)
                    clear hb3 hm3
                    go_upto_region 14 with fail
                    refine wp_abs (F := fun W => One wr.heap.size #[.int .u64 xr.2.last, .slice va LL vc] W ∧ Below wr.heap.size wr W) ⟨One.of _ _ _, (Below.refl _ _).alloc (Nat.le_refl _) _⟩ ?_
                    rintro WB ⟨hB, hbB⟩
                    have y0 := hB.c 0; have y1 := hB.c 1
                    simp at y0 y1
                    have HB := Lib.hid hB; have HbB := Lib.hid (hbx.out.trans (hbB.mono hbx.out.size)); clear hB hbB
                    go_wp2_with fail
                    obtain ⟨n30, hn30⟩ : ∃ n30, n30 = n3 + 8 * LL := ⟨_, rfl⟩
                    have hN30 : n30 + 40 * S ≤ 4611686018427387904 := by rw [hn30]; exact HN3.out
                    have Hn30 := Lib.hid hn30
                    have hn30I : (n3 : Int) + 8 * (LL : Int) = (n30 : Int) := by omega
                    rw [hn30I]
                    clear hn30 hn30I hq1 hq2 y0 y1 c1 c2 c3 e0 e1 e2
                    go_loopw [3, 8] (fun s3 s8 wx => ∃ k4 n4 : Nat, k4 ≤ LL ∧ k4 ≤ 40 ∧ s8 = .int .i64 k4 ∧ s3 = .int .i64 n4 ∧ Hid (n30 ≤ n4 ∧ n4 ≤ n30 + k4 * S) ∧ Hid (Below WB.heap.size WB wx)) (fun _ i _ => LL - (intOf i).toNat)
                    case atStart => exact ⟨0, n30, Nat.zero_le _, by omega, rfl, rfl, Lib.hid ⟨Nat.le_refl _, by omega⟩, Lib.hid (Below.refl _ _)⟩
                    case round =>
                      obtain ⟨k4, n4, hk4, hk4h, rfl, rfl, hn4, hby⟩ := hrel
                      have hBr := HB.out.step hby.out
                      have y1 := hBr.c 1
                      simp at y1
                      have hBr2 := Lib.hid hBr; clear hBr
                      by_cases hlt4 : k4 < LL
                      · by_cases h1004 : k4 < 40
                        · have hlt4I : (k4 : Int) < (LL : Int) := by omega
                          have h1004I : (k4 : Int) < 40 := by omega
                          rcases Hvs.out with hnil | ⟨bv, ov, rfl, hblv, hvv⟩
                          · have := HLL.out; rw [hnil] at this; simp at this; omega
                          obtain ⟨_, _, g3⟩ := hvv k4 (by have := HLL.out; omega)
                          have hbz : Below w.heap.size w wr := HbB.out.trans (hby.out.mono HbB.out.size)
                          have e3 := (hbz.cell (p := ⟨bv, ov + k4 * 3 + 2, none⟩) hblv).trans g3
                          have z1 := HLS.out k4 (by have := HLL.out; omega)
                          obtain ⟨x4, hx4⟩ : ∃ x4, x4 = xr.2.l.getD k4 dV := ⟨_, rfl⟩
                          rw [← hx4] at e3 z1
                          have hb4 := hn4.out.2
                          have hm4 : k4 * S ≤ 40 * S := Nat.mul_le_mul_right _ (by omega)
                          have hs4 : (k4 + 1) * S = k4 * S + S := by rw [Nat.add_mul, Nat.one_mul]
                          have hq4 : n4 + x4.tx.size ≤ 9223372036854775807 := by omega
                          have Hn4x : Hid (n30 ≤ n4 + x4.tx.size ∧ n4 + x4.tx.size ≤ n30 + (k4 + 1) * S) := Lib.hid (by have := hn4.out.1; constructor <;> omega)
                          clear hx4 g3 hvv hb4 hm4 hs4 z1 hbz
                          go_wp2_with fail
                          go_roundw
                          case rel => exact ⟨k4 + 1, n4 + x4.tx.size, by omega, by omega, by go_num, by push_cast; rfl, Hn4x, hby⟩
                          case measure => simp [intOf]; omega
                        · have hlt4I : (k4 : Int) < (LL : Int) := by omega
                          have h1004I : ¬ (k4 : Int) < 40 := by omega
                          have Hn34 : Hid (n2 ≤ n4 ∧ n4 ≤ n2 + (k3 + 1) * (48 * S)) := Lib.hid (by
                            have f3 := hn3.out; have f4 := hn4.out; have f5 := Hn30.out; have f6 := hLS
                            have f8 : k4 * S ≤ 40 * S := Nat.mul_le_mul_right _ hk4h
                            have f9 : (k3 + 1) * (48 * S) = k3 * (48 * S) + 48 * S := by rw [Nat.add_mul, Nat.one_mul]
                            omega)
                          have hbz : Below w.heap.size w wr := HbB.out.trans (hby.out.mono HbB.out.size)
                          have Hbz := Lib.hid hbz; clear hbz
                          go_wp2_with fail
                          go_roundw
                          case rel => exact ⟨k3 + 1, n4, by omega, by omega, by go_num, rfl, Hn34, Hbz⟩
                          case measure => simp [intOf]; omega
                      · have hge4 : (LL : Int) ≤ (k4 : Int) := by omega
                        have Hn34 : Hid (n2 ≤ n4 ∧ n4 ≤ n2 + (k3 + 1) * (48 * S)) := Lib.hid (by
                          have f3 := hn3.out; have f4 := hn4.out; have f5 := Hn30.out; have f6 := hLS
                          have f8 : k4 * S ≤ 40 * S := Nat.mul_le_mul_right _ hk4h
                          have f9 : (k3 + 1) * (48 * S) = k3 * (48 * S) + 48 * S := by rw [Nat.add_mul, Nat.one_mul]
                          omega)
                        have hbz : Below w.heap.size w wr := HbB.out.trans (hby.out.mono HbB.out.size)
                        have Hbz := Lib.hid hbz; clear hbz
                        go_wp2_with fail
                        go_roundw
                        case rel => exact ⟨k3 + 1, n4, by omega, by omega, by go_num, rfl, Hn34, Hbz⟩
                        case measure => simp [intOf]; omega
                  · have hlt3I : (k3 : Int) < (R : Int) := by omega
                    have h1003I : ¬ (k3 : Int) < 100 := by omega
                    have Hfin : Hid (totW (l.take (k + 1)) ≤ n3 ∧ n3 ≤ (k + 1) * (6000 * S)) := Lib.hid (by
                      have f1 := hn.out; have f2 := Hn1.out; have f3 := Hn2.out; have f4 := hn3.out; have f5 := Hk3.out; have f6 := HE.out; have f7 := HR.out
                      have f8 : k3 * (48 * S) ≤ 100 * (48 * S) := Nat.mul_le_mul_right _ hk3h
                      rw [totW_snoc hlt, ← Hac.out, f5]
                      simp only [← f6, ← f7]
                      omega)
                    go_wp2_with fail
                    go_roundw
                    case rel => exact ⟨k + 1, n3, by omega, by omega, by go_num, rfl, Hfin, hbx⟩
                    case measure => simp [intOf]; omega
                · have hge3 : (R : Int) ≤ (k3 : Int) := by omega
                  have Hfin : Hid (totW (l.take (k + 1)) ≤ n3 ∧ n3 ≤ (k + 1) * (6000 * S)) := Lib.hid (by
                    have f1 := hn.out; have f2 := Hn1.out; have f3 := Hn2.out; have f4 := hn3.out; have f5 := Hk3.out; have f6 := HE.out; have f7 := HR.out
                    have f8 : k3 * (48 * S) ≤ 100 * (48 * S) := Nat.mul_le_mul_right _ hk3h
                    rw [totW_snoc hlt, ← Hac.out, f5]
                    simp only [← f6, ← f7]
                    omega)
                  go_wp2_with fail
                  go_roundw
                  case rel => exact ⟨k + 1, n3, by omega, by omega, by go_num, rfl, Hfin, hbx⟩
                  case measure => simp [intOf]; omega
          · have hge2 : (E : Int) ≤ (k2 : Int) := by omega
            have hb2 := hn2.out.2
            have hm2 : k2 * (2 * S) ≤ 100 * (2 * S) := Nat.mul_le_mul_right _ hk2h
            have hN2 : n2 + 5700 * S ≤ 4611686018427387904 := by omega
            have Hn2 : Hid (n1 ≤ n2 ∧ n2 ≤ n1 + 200 * S) := Lib.hid (by have := hn2.out.1; constructor <;> omega)
            clear hb2 hm2
            go_wp2_with fail
            clear c1 c2 c3
            go_loopw [3, 6] (fun s3 s6 wx => ∃ k3 n3 : Nat, k3 ≤ R ∧ k3 ≤ 100 ∧ s6 = .int .i64 k3 ∧ s3 = .int .i64 n3 ∧ Hid (n2 ≤ n3 ∧ n3 ≤ n2 + k3 * (48 * S)) ∧ Hid (Below w.heap.size w wx)) (fun _ i _ => R - (intOf i).toNat)
            case atStart => exact ⟨0, n2, Nat.zero_le _, by omega, rfl, rfl, Lib.hid ⟨Nat.le_refl _, by omega⟩, hbx⟩
            case round =>
              clear hbx hn2
              obtain ⟨k3, n3, hk3, hk3h, rfl, rfl, hn3, hbx⟩ := hrel
              obtain ⟨c1, c2, c3⟩ := HK.out wr hbx.out
              by_cases hlt3 : k3 < R
              · by_cases h1003 : k3 < 100
                · have hlt3I : (k3 : Int) < (R : Int) := by omega
                  have h1003I : (k3 : Int) < 100 := by omega
                  rcases Hrc.out with hnil | ⟨br, or', rfl, hblr, hrr⟩
                  · have := HR.out; rw [hnil] at this; simp at this; omega
                  obtain ⟨g0, g1, s, g2, hs⟩ := hrr k3 (by have := HR.out; omega)
                  have e0 := (hbx.out.cell (p := ⟨br, or' + k3 * 3, none⟩) hblr).trans g0
                  have e1 := (hbx.out.cell (p := ⟨br, or' + k3 * 3 + 1, none⟩) hblr).trans g1
                  have e2 := (hbx.out.cell (p := ⟨br, or' + k3 * 3 + 2, none⟩) hblr).trans g2
                  obtain ⟨z1, z2⟩ := L5.out k3 (by have := HR.out; omega)
                  obtain ⟨xr, hxr⟩ : ∃ xr, xr = rs.getD k3 dR := ⟨_, rfl⟩
                  rw [← hxr] at e0 e1 hs z1 z2
                  obtain ⟨va, vc, rfl, hvs⟩ := hs
                  obtain ⟨LL, hLL⟩ : ∃ LL, LL = xr.2.l.length := ⟨_, rfl⟩
                  rw [← hLL] at e2 z1
                  have hLS : LL ≤ S := z1
                  have Hvs := Lib.hid hvs; have HLL := Lib.hid hLL; have HLS := Lib.hid z2
                  clear hxr g0 g1 g2 hvs hLL z2 hrr z1
                  have hb3 := hn3.out.2
                  have hm3 : k3 * (48 * S) ≤ 100 * (48 * S) := Nat.mul_le_mul_right _ (by omega)
                  have hq1 : 8 * LL ≤ 9223372036854775807 := by omega
                  have hq2 : n3 + 8 * LL ≤ 9223372036854775807 := by omega
                  have HN3 : Hid (n3 + 8 * LL + 40 * S ≤ 4611686018427387904) := Lib.hid (by omega)
                  clear hb3 hm3
                  go_upto_region 14 with fail
                  refine wp_abs (F := fun W => One wr.heap.size #[.int .u64 xr.2.last, .slice va LL vc] W ∧ Below wr.heap.size wr W) ⟨One.of _ _ _, (Below.refl _ _).alloc (Nat.le_refl _) _⟩ ?_
                  rintro WB ⟨hB, hbB⟩
                  have y0 := hB.c 0; have y1 := hB.c 1
                  simp at y0 y1
                  have HB := Lib.hid hB; have HbB := Lib.hid (hbx.out.trans (hbB.mono hbx.out.size)); clear hB hbB
                  go_wp2_with fail
                  obtain ⟨n30, hn30⟩ : ∃ n30, n30 = n3 + 8 * LL := ⟨_, rfl⟩
                  have hN30 : n30 + 40 * S ≤ 4611686018427387904 := by rw [hn30]; exact HN3.out
                  have Hn30 := Lib.hid hn30
                  have hn30I : (n3 : Int) + 8 * (LL : Int) = (n30 : Int) := by omega
                  rw [hn30I]
                  clear hn30 hn30I hq1 hq2 y0 y1 c1 c2 c3 e0 e1 e2
                  go_loopw [3, 8] (fun s3 s8 wx => ∃ k4 n4 : Nat, k4 ≤ LL ∧ k4 ≤ 40 ∧ s8 = .int .i64 k4 ∧ s3 = .int .i64 n4 ∧ Hid (n30 ≤ n4 ∧ n4 ≤ n30 + k4 * S) ∧ Hid (Below WB.heap.size WB wx)) (fun _ i _ => LL - (intOf i).toNat)
                  case atStart => exact ⟨0, n30, Nat.zero_le _, by omega, rfl, rfl, Lib.hid ⟨Nat.le_refl _, by omega⟩, Lib.hid (Below.refl _ _)⟩
                  case round =>
                    obtain ⟨k4, n4, hk4, hk4h, rfl, rfl, hn4, hby⟩ := hrel
                    have hBr := HB.out.step hby.out
                    have y1 := hBr.c 1
                    simp at y1
                    have hBr2 := Lib.hid hBr; clear hBr
                    by_cases hlt4 : k4 < LL
                    · by_cases h1004 : k4 < 40
                      · have hlt4I : (k4 : Int) < (LL : Int) := by omega
                        have h1004I : (k4 : Int) < 40 := by omega
                        rcases Hvs.out with hnil | ⟨bv, ov, rfl, hblv, hvv⟩
                        · have := HLL.out; rw [hnil] at this; simp at this; omega
                        obtain ⟨_, _, g3⟩ := hvv k4 (by have := HLL.out; omega)
                        have hbz : Below w.heap.size w wr := HbB.out.trans (hby.out.mono HbB.out.size)
                        have e3 := (hbz.cell (p := ⟨bv, ov + k4 * 3 + 2, none⟩) hblv).trans g3
                        have z1 := HLS.out k4 (by have := HLL.out; omega)
                        obtain ⟨x4, hx4⟩ : ∃ x4, x4 = xr.2.l.getD k4 dV := ⟨_, rfl⟩
                        rw [← hx4] at e3 z1
                        have hb4 := hn4.out.2
                        have hm4 : k4 * S ≤ 40 * S := Nat.mul_le_mul_right _ (by omega)
                        have hs4 : (k4 + 1) * S = k4 * S + S := by rw [Nat.add_mul, Nat.one_mul]
                        have hq4 : n4 + x4.tx.size ≤ 9223372036854775807 := by omega
                        have Hn4x : Hid (n30 ≤ n4 + x4.tx.size ∧ n4 + x4.tx.size ≤ n30 + (k4 + 1) * S) := Lib.hid (by have := hn4.out.1; constructor <;> omega)
                        clear hx4 g3 hvv hb4 hm4 hs4 z1 hbz
                        go_wp2_with fail
                        go_roundw
                        case rel => exact ⟨k4 + 1, n4 + x4.tx.size, by omega, by omega, by go_num, by push_cast; rfl, Hn4x, hby⟩
                        case measure => simp [intOf]; omega
                      · have hlt4I : (k4 : Int) < (LL : Int) := by omega
                        have h1004I : ¬ (k4 : Int) < 40 := by omega
                        have Hn34 : Hid (n2 ≤ n4 ∧ n4 ≤ n2 + (k3 + 1) * (48 * S)) := Lib.hid (by
                          have f3 := hn3.out; have f4 := hn4.out; have f5 := Hn30.out; have f6 := hLS
                          have f8 : k4 * S ≤ 40 * S := Nat.mul_le_mul_right _ hk4h
                          have f9 : (k3 + 1) * (48 * S) = k3 * (48 * S) + 48 * S := by rw [Nat.add_mul, Nat.one_mul]
                          omega)
                        have hbz : Below w.heap.size w wr := HbB.out.trans (hby.out.mono HbB.out.size)
                        have Hbz := Lib.hid hbz; clear hbz
                        go_wp2_with fail
                        go_roundw
                        case rel => exact ⟨k3 + 1, n4, by omega, by omega, by go_num, rfl, Hn34, Hbz⟩
                        case measure => simp [intOf]; omega
                    · have hge4 : (LL : Int) ≤ (k4 : Int) := by omega
                      have Hn34 : Hid (n2 ≤ n4 ∧ n4 ≤ n2 + (k3 + 1) * (48 * S)) := Lib.hid (by
                        have f3 := hn3.out; have f4 := hn4.out; have f5 := Hn30.out; have f6 := hLS
                        have f8 : k4 * S ≤ 40 * S := Nat.mul_le_mul_right _ hk4h
                        have f9 : (k3 + 1) * (48 * S) = k3 * (48 * S) + 48 * S := by rw [Nat.add_mul, Nat.one_mul]
                        omega)
                      have hbz : Below w.heap.size w wr := HbB.out.trans (hby.out.mono HbB.out.size)
                      have Hbz := Lib.hid hbz; clear hbz
                      go_wp2_with fail
                      go_roundw
                      case rel => exact ⟨k3 + 1, n4, by omega, by omega, by go_num, rfl, Hn34, Hbz⟩
                      case measure => simp [intOf]; omega
                · have hlt3I : (k3 : Int) < (R : Int) := by omega
                  have h1003I : ¬ (k3 : Int) < 100 := by omega
                  have Hfin : Hid (totW (l.take (k + 1)) ≤ n3 ∧ n3 ≤ (k + 1) * (6000 * S)) := Lib.hid (by
                    have f1 := hn.out; have f2 := Hn1.out; have f3 := Hn2.out; have f4 := hn3.out; have f5 := Hk3.out; have f6 := HE.out; have f7 := HR.out
                    have f8 : k3 * (48 * S) ≤ 100 * (48 * S) := Nat.mul_le_mul_right _ hk3h
                    rw [totW_snoc hlt, ← Hac.out, f5]
                    simp only [← f6, ← f7]
                    omega)
                  go_wp2_with fail
                  go_roundw
                  case rel => exact ⟨k + 1, n3, by omega, by omega, by go_num, rfl, Hfin, hbx⟩
                  case measure => simp [intOf]; omega
              · have hge3 : (R : Int) ≤ (k3 : Int) := by omega
                have Hfin : Hid (totW (l.take (k + 1)) ≤ n3 ∧ n3 ≤ (k + 1) * (6000 * S)) := Lib.hid (by
                  have f1 := hn.out; have f2 := Hn1.out; have f3 := Hn2.out; have f4 := hn3.out; have f5 := Hk3.out; have f6 := HE.out; have f7 := HR.out
                  have f8 : k3 * (48 * S) ≤ 100 * (48 * S) := Nat.mul_le_mul_right _ hk3h
                  rw [totW_snoc hlt, ← Hac.out, f5]
                  simp only [← f6, ← f7]
                  omega)
                go_wp2_with fail
                go_roundw
                case rel => exact ⟨k + 1, n3, by omega, by omega, by go_num, rfl, Hfin, hbx⟩
                case measure => simp [intOf]; omega
      · have h100I : ¬ (k : Int) < 100 := by omega
        have hltI : (k : Int) < (l.length : Int) := by omega
        have hbig : (40 : Int) < (l.length : Int) := by omega
        go_wp2_with fail
        go_ret
        exact ⟨true, rfl, fun h => by simp at h, hbw.out⟩
    · have hge : (l.length : Int) ≤ (k : Int) := by omega
      have Hkl : Hid (k = l.length) := Lib.hid (by omega)
      by_cases h40 : 40 < l.length
      · have h40I : (40 : Int) < (l.length : Int) := by omega
        go_wp2_with fail
        go_ret
        exact ⟨true, rfl, fun h => by simp at h, hbw.out⟩
      · have h40I : ¬ (40 : Int) < (l.length : Int) := by omega
        go_wp2_with fail
        go_ret
        refine ⟨_, rfl, fun h => ?_, hbw.out⟩
        have h1 := hn.out.1
        rw [Hkl.out, List.take_length] at h1
        simp at h
        omega
end Go.Proofs.YtfbgnpfhjbiikaaGreatDoor

namespace Go.Proofs.YtfbgnpfhjbiikaaGreatDoor
open Go Go.RowKit
set_option maxRecDepth 100000 in
set_option maxHeartbeats 2000000 in
theorem ref18_same (m : List (ByteArray × Cel)) (v1 v2 : Value) (w : World) (h1 : IsRows w v1 m) (h2 : IsRows w v2 m) (hl : m.length ≤ 1099511627776) (hc : ∀ i, i < m.length → (m.getD i dR).2.l.length ≤ 65536) :
    Calls Tryz.prog 15 #[v1, v2] w fun e w' => e = .returned (.bool true) ∧ Below w.heap.size w w' := by
  obtain ⟨a1, cap1, rfl, hc1⟩ := h1
  obtain ⟨a2, cap2, rfl, hc2⟩ := h2
  have Hc1 := Lib.hid hc1; have Hc2 := Lib.hid hc2; have Hcl := Lib.hid hc; clear hc1 hc2 hc
  have hLB : ((m.length : Int) != (m.length : Int)) = false := by simp
  go_enter Tryz.func15, Tryz.ntmps15
  go_wp2_with fail
  go_loopw [5] (fun i wr => ∃ k : Nat, k ≤ m.length ∧ i = .int .i64 k ∧ Hid (Below w.heap.size w wr)) (fun i _ => m.length - (intOf i).toNat)
  case atStart => exact ⟨0, Nat.zero_le _, rfl, Lib.hid (Below.refl _ _)⟩
  case round =>
    obtain ⟨k, hk, rfl, Hbw⟩ := hrel
    by_cases hlt : k < m.length
    · rcases Hc1.out with hn | ⟨b1, o1, rfl, hl1, hcc1⟩
      · subst hn; simp at hlt
      rcases Hc2.out with hn | ⟨b2, o2, rfl, hl2, hcc2⟩
      · subst hn; simp at hlt
      have hlt2 : (k : Int) < (m.length : Int) := by omega
      obtain ⟨g1, g2, s1, g3, hs1⟩ := hcc1 k hlt
      obtain ⟨g4, g5, s2, g6, hs2⟩ := hcc2 k hlt
      have hcl := Hcl.out k hlt
      obtain ⟨x, hx⟩ : ∃ x, x = m.getD k dR := ⟨_, rfl⟩
      rw [← hx] at g1 g2 hs1 g4 g5 hs2 hcl
      clear hx hcc1 hcc2
      have HS1 := Lib.hid hs1; have HS2 := Lib.hid hs2
      obtain ⟨va, vc, rfl, _⟩ := hs1
      obtain ⟨ua, uc, rfl, _⟩ := hs2
      have HS : Hid (∀ w', Below wr.heap.size wr w' → Calls Tryz.prog 50 #[.agg #[.int .u64 x.2.last, .slice va x.2.l.length vc], .agg #[.int .u64 x.2.last, .slice ua x.2.l.length uc]] w' fun e w'' => e = .returned (.bool true) ∧ Below w'.heap.size w' w'') :=
        Lib.hid (fun w' hb => ref17_same x.2 _ _ w' (HS1.out.below (Hbw.out.trans (hb.mono Hbw.out.size)) (Nat.le_refl _)) (HS2.out.below (Hbw.out.trans (hb.mono Hbw.out.size)) (Nat.le_refl _)) hcl)
      have keepS : Hid (∀ w', Below wr.heap.size wr w' → w'.cell? ⟨b1, o1 + k * 3, none⟩ = some (.string x.1) ∧ w'.cell? ⟨b1, o1 + k * 3 + 1, none⟩ = some (.int .u64 x.2.last) ∧ w'.cell? ⟨b1, o1 + k * 3 + 2, none⟩ = some (.slice va x.2.l.length vc) ∧ w'.cell? ⟨b2, o2 + k * 3, none⟩ = some (.string x.1) ∧ w'.cell? ⟨b2, o2 + k * 3 + 1, none⟩ = some (.int .u64 x.2.last) ∧ w'.cell? ⟨b2, o2 + k * 3 + 2, none⟩ = some (.slice ua x.2.l.length uc) ∧ Hid (Below wr.heap.size wr w')) := Lib.hid (fun w' h => by
        have hb := Hbw.out.trans (h.mono Hbw.out.size)
        exact ⟨(hb.cell hl1).trans g1, (hb.cell hl1).trans g2, (hb.cell hl1).trans g3, (hb.cell hl2).trans g4, (hb.cell hl2).trans g5, (hb.cell hl2).trans g6, Lib.hid h⟩)
      have keepB : Hid (∀ w' : World, (w'.cell? ⟨b1, o1 + k * 3, none⟩ = some (.string x.1) ∧ w'.cell? ⟨b1, o1 + k * 3 + 1, none⟩ = some (.int .u64 x.2.last) ∧ w'.cell? ⟨b1, o1 + k * 3 + 2, none⟩ = some (.slice va x.2.l.length vc) ∧ w'.cell? ⟨b2, o2 + k * 3, none⟩ = some (.string x.1) ∧ w'.cell? ⟨b2, o2 + k * 3 + 1, none⟩ = some (.int .u64 x.2.last) ∧ w'.cell? ⟨b2, o2 + k * 3 + 2, none⟩ = some (.slice ua x.2.l.length uc) ∧ Hid (Below wr.heap.size wr w')) → Below wr.heap.size wr w') := Lib.hid (fun w' h => h.2.2.2.2.2.2.out)
      have hB : (x.1.toList == x.1.toList) = true := by simp
      clear g1 g2 g3 g4 g5 g6
      go_wp2_with fail
      refine wp_region_quiet (C := fun w' => w'.cell? ⟨b1, o1 + k * 3, none⟩ = some (.string x.1) ∧ w'.cell? ⟨b1, o1 + k * 3 + 1, none⟩ = some (.int .u64 x.2.last) ∧ w'.cell? ⟨b1, o1 + k * 3 + 2, none⟩ = some (.slice va x.2.l.length vc) ∧ w'.cell? ⟨b2, o2 + k * 3, none⟩ = some (.string x.1) ∧ w'.cell? ⟨b2, o2 + k * 3 + 1, none⟩ = some (.int .u64 x.2.last) ∧ w'.cell? ⟨b2, o2 + k * 3 + 2, none⟩ = some (.slice ua x.2.l.length uc) ∧ Hid (Below wr.heap.size wr w')) (by kernel_rfl) (by kernel_rfl) (keepS.out _ (Below.drew (Below.refl _ _))) ?_
      refine quiet_plain rfl (Value.slice (some ⟨b1, o1, none⟩) m.length cap1) (fun w' hw' => ?_) ?_
      · obtain ⟨f1, f2, f3, f4, f5, f6, f7⟩ := hw'
        go_simp
      go_frame
      refine quiet_plain rfl (Value.int .i64 k) (fun w' hw' => ?_) ?_
      · obtain ⟨f1, f2, f3, f4, f5, f6, f7⟩ := hw'
        go_simp
      go_frame
      refine quiet_plain rfl (Value.pointer (some ⟨b1, o1 + k * 3, none⟩)) (fun w' hw' => ?_) ?_
      · obtain ⟨f1, f2, f3, f4, f5, f6, f7⟩ := hw'
        go_simp
      go_frame
      refine quiet_plain rfl (Value.pointer (some ⟨b1, o1 + k * 3, none⟩)) (fun w' hw' => ?_) ?_
      · obtain ⟨f1, f2, f3, f4, f5, f6, f7⟩ := hw'
        go_simp
      go_frame
      refine quiet_plain rfl (Value.string x.1) (fun w' hw' => ?_) ?_
      · obtain ⟨f1, f2, f3, f4, f5, f6, f7⟩ := hw'
        go_simp
      go_frame
      refine quiet_plain rfl (Value.slice (some ⟨b2, o2, none⟩) m.length cap2) (fun w' hw' => ?_) ?_
      · obtain ⟨f1, f2, f3, f4, f5, f6, f7⟩ := hw'
        go_simp
      go_frame
      refine quiet_plain rfl (Value.int .i64 k) (fun w' hw' => ?_) ?_
      · obtain ⟨f1, f2, f3, f4, f5, f6, f7⟩ := hw'
        go_simp
      go_frame
      refine quiet_plain rfl (Value.pointer (some ⟨b2, o2 + k * 3, none⟩)) (fun w' hw' => ?_) ?_
      · obtain ⟨f1, f2, f3, f4, f5, f6, f7⟩ := hw'
        go_simp
      go_frame
      refine quiet_plain rfl (Value.pointer (some ⟨b2, o2 + k * 3, none⟩)) (fun w' hw' => ?_) ?_
      · obtain ⟨f1, f2, f3, f4, f5, f6, f7⟩ := hw'
        go_simp
      go_frame
      refine quiet_plain rfl (Value.string x.1) (fun w' hw' => ?_) ?_
      · obtain ⟨f1, f2, f3, f4, f5, f6, f7⟩ := hw'
        go_simp
      go_frame
      refine quiet_plain rfl (Value.bool false) (fun w' hw' => ?_) ?_
      · obtain ⟨f1, f2, f3, f4, f5, f6, f7⟩ := hw'
        go_simp
      go_frame
      refine quiet_plain rfl (Value.bool false) (fun w' hw' => ?_) ?_
      · obtain ⟨f1, f2, f3, f4, f5, f6, f7⟩ := hw'
        go_simp
      go_frame
      refine quiet_plain' (by rfl) (Value.slice (some ⟨b1, o1, none⟩) m.length cap1) (fun w' hw' => ?_) ?_
      · obtain ⟨f1, f2, f3, f4, f5, f6, f7⟩ := hw'
        go_simp
      go_frame
      refine quiet_plain' (by rfl) (Value.int .i64 k) (fun w' hw' => ?_) ?_
      · obtain ⟨f1, f2, f3, f4, f5, f6, f7⟩ := hw'
        go_simp
      go_frame
      refine quiet_plain' (by rfl) (Value.pointer (some ⟨b1, o1 + k * 3, none⟩)) (fun w' hw' => ?_) ?_
      · obtain ⟨f1, f2, f3, f4, f5, f6, f7⟩ := hw'
        go_simp
      go_frame
      refine quiet_plain' (by rfl) (Value.pointer (some ⟨b1, o1 + k * 3 + 1, none⟩)) (fun w' hw' => ?_) ?_
      · obtain ⟨f1, f2, f3, f4, f5, f6, f7⟩ := hw'
        go_simp
      go_frame
      refine quiet_plain' (by rfl) (Value.agg #[.int .u64 x.2.last, .slice va x.2.l.length vc]) (fun w' hw' => ?_) ?_
      · obtain ⟨f1, f2, f3, f4, f5, f6, f7⟩ := hw'
        go_simp
      go_frame
      refine quiet_plain' (by rfl) (Value.slice (some ⟨b2, o2, none⟩) m.length cap2) (fun w' hw' => ?_) ?_
      · obtain ⟨f1, f2, f3, f4, f5, f6, f7⟩ := hw'
        go_simp
      go_frame
      refine quiet_plain' (by rfl) (Value.int .i64 k) (fun w' hw' => ?_) ?_
      · obtain ⟨f1, f2, f3, f4, f5, f6, f7⟩ := hw'
        go_simp
      go_frame
      refine quiet_plain' (by rfl) (Value.pointer (some ⟨b2, o2 + k * 3, none⟩)) (fun w' hw' => ?_) ?_
      · obtain ⟨f1, f2, f3, f4, f5, f6, f7⟩ := hw'
        go_simp
      go_frame
      refine quiet_plain' (by rfl) (Value.pointer (some ⟨b2, o2 + k * 3 + 1, none⟩)) (fun w' hw' => ?_) ?_
      · obtain ⟨f1, f2, f3, f4, f5, f6, f7⟩ := hw'
        go_simp
      go_frame
      refine quiet_plain' (by rfl) (Value.agg #[.int .u64 x.2.last, .slice ua x.2.l.length uc]) (fun w' hw' => ?_) ?_
      · obtain ⟨f1, f2, f3, f4, f5, f6, f7⟩ := hw'
        go_simp
      go_frame
      refine quiet_call' (by rfl) (Value.bool true) 50 #[Value.agg #[.int .u64 x.2.last, .slice va x.2.l.length vc], Value.agg #[.int .u64 x.2.last, .slice ua x.2.l.length uc]] (fun w' hw' => ⟨?_, ?_⟩) ?_
      · obtain ⟨f1, f2, f3, f4, f5, f6, f7⟩ := hw'
        go_simp
      · exact (HS.out w' (keepB.out _ hw')).mono (fun e w6 ⟨he, hb⟩ => ⟨he, keepS.out _ ((keepB.out _ hw').trans (hb.mono (keepB.out _ hw').size))⟩)
      go_frame
      refine quiet_plain' (by rfl) (Value.bool false) (fun w' hw' => ?_) ?_
      · obtain ⟨f1, f2, f3, f4, f5, f6, f7⟩ := hw'
        go_simp
      go_frame
      refine quiet_plain rfl (Value.bool false) (fun w' hw' => ?_) ?_
      · obtain ⟨f1, f2, f3, f4, f5, f6, f7⟩ := hw'
        go_simp
      go_frame
      refine wpQuiet_nil ?_
      intro w' hw'
      have hbx := Lib.hid (keepB.out _ hw')
      clear hw'
      go_wp2_with fail
      go_roundw
      case rel => exact ⟨k + 1, by omega, by go_num, Lib.hid (Hbw.out.trans (hbx.out.mono Hbw.out.size))⟩
      case measure => simp [intOf]; omega
    · have hge : (m.length : Int) ≤ (k : Int) := by omega
      go_wp2_with fail
      go_ret
      exact ⟨rfl, Hbw.out⟩
end Go.Proofs.YtfbgnpfhjbiikaaGreatDoor

namespace Go.Proofs.YtfbgnpfhjbiikaaGreatDoor
open Go Go.ChangeShapes Go.WideShapes Go.ChangeAt Go.RowKit
theorem list6 {α : Type} {l : List α} (h : l.length = 6) : ∃ c0 c1 c2 c3 c4 c5, l = [c0, c1, c2, c3, c4, c5] := by
  match l, h with
  | [c0, c1, c2, c3, c4, c5], _ => exact ⟨c0, c1, c2, c3, c4, c5, rfl⟩
def edtData {H : Type} (e : Edt) : DataW H := .agg [.lit (.int .u8 e.kind), .lit (.string e.path.data.toList), .lit (.bool e.any), .lit (.int .u64 e.want), .lit (.int .u64 e.n), .lit (.string e.text.data.toList)]
def edtCells (e : Edt) : List Value := [.int .u8 e.kind, .string e.path, .bool e.any, .int .u64 e.want, .int .u64 e.n, .string e.text]
theorem cU8 : Tryz.prog.cellsOf 5 = 1 := by kernel_rfl
theorem cStr : Tryz.prog.cellsOf 9 = 1 := by kernel_rfl
theorem cBool : Tryz.prog.cellsOf 4 = 1 := by kernel_rfl
theorem cU64 : Tryz.prog.cellsOf 43 = 1 := by kernel_rfl
theorem cEdt : Tryz.prog.cellsOf 55 = 6 := by kernel_rfl
theorem wfNat8 {z : Int} (h : (Lit.int .u8 z).wf = true) : ∃ n : Nat, z = n := by
  refine ⟨z.toNat, ?_⟩
  simp only [Lit.wf, Bool.and_eq_true, decide_eq_true_eq] at h
  have h1 := h.1
  rw [show IntKind.min .u8 = 0 from rfl] at h1
  omega
theorem wfNat64 {z : Int} (h : (Lit.int .u64 z).wf = true) : ∃ n : Nat, z = n := by
  refine ⟨z.toNat, ?_⟩
  simp only [Lit.wf, Bool.and_eq_true, decide_eq_true_eq] at h
  have h1 := h.1
  rw [show IntKind.min .u64 = 0 from rfl] at h1
  omega
section
variable {H : Type} {enc : TypeId × Value → H} {w : World} {base : Nat} {sp : Nat → Bool} {held : Bool}
theorem trod_edt {fuel : Nat} {cs : List Value} {x : DataW H × List MemPlace} (h : DataW.trod enc Tryz.prog w base sp held fuel 55 cs = some x) : ∃ e : Edt, cs = edtCells e ∧ x = (edtData e, []) := by
  obtain ⟨xs, n, _, rfl, hl, hlen, hf⟩ := DataW.trod_struct Tryz.underlying55 h
  rw [cEdt] at hl
  obtain ⟨c0, c1, c2, c3, c4, c5, rfl⟩ := list6 hl
  obtain ⟨y0, y1, y2, y3, y4, y5, rfl⟩ := list6 hlen
  have h0 : DataW.trod enc Tryz.prog w base sp held n 5 [c0] = some y0 := by simpa [cU8] using hf 0 _ rfl
  have h1 : DataW.trod enc Tryz.prog w base sp held n 9 [c1] = some y1 := by simpa [cStr] using hf 1 _ rfl
  have h2 : DataW.trod enc Tryz.prog w base sp held n 4 [c2] = some y2 := by simpa [cBool] using hf 2 _ rfl
  have h3 : DataW.trod enc Tryz.prog w base sp held n 43 [c3] = some y3 := by simpa [cU64] using hf 3 _ rfl
  have h4 : DataW.trod enc Tryz.prog w base sp held n 43 [c4] = some y4 := by simpa [cU64] using hf 4 _ rfl
  have h5 : DataW.trod enc Tryz.prog w base sp held n 9 [c5] = some y5 := by simpa [cStr] using hf 5 _ rfl
  obtain ⟨z0, e0, rfl, w0⟩ := DataW.trod_int Tryz.underlying5 h0
  obtain ⟨s1, e1, rfl, _⟩ := DataW.trod_string Tryz.underlying9 h1
  obtain ⟨b2, e2, rfl⟩ := DataW.trod_bool Tryz.underlying4 h2
  obtain ⟨z3, e3, rfl, w3⟩ := DataW.trod_int Tryz.underlying43 h3
  obtain ⟨z4, e4, rfl, w4⟩ := DataW.trod_int Tryz.underlying43 h4
  obtain ⟨s5, e5, rfl, _⟩ := DataW.trod_string Tryz.underlying9 h5
  obtain ⟨n0, rfl⟩ := wfNat8 w0
  obtain ⟨n3, rfl⟩ := wfNat64 w3
  obtain ⟨n4, rfl⟩ := wfNat64 w4
  refine ⟨⟨n0, s1, b2, n3, n4, s5⟩, ?_, ?_⟩
  · simp only [List.cons.injEq, and_true] at e0 e1 e2 e3 e4 e5
    rw [e0, e1, e2, e3, e4, e5]; rfl
  · first | rfl | simp [edtData]
end
section
variable {H : Type} {enc : TypeId × Value → H} {w : World} {base : Nat} {sp : Nat → Bool} {held : Bool}
end
end Go.Proofs.YtfbgnpfhjbiikaaGreatDoor

namespace Go.Proofs.YtfbgnpfhjbiikaaGreatDoor
open Go Go.RowKit
open Go.Maps (has size Canon CanonK Tidy IsMap KeysOf Keyed Merged)
def Bare (w : World) (k : Nat) : Prop := ∀ o v, w.cell? ⟨k, o, none⟩ = some v → (∀ n, v ≠ .int .u64 n) ∧ ∀ s, v ≠ .string s
theorem Bare.noVers {w : World} {k : Nat} (h : Bare w k) : NoVers w k := fun o n _s h1 _ => (h o _ h1).1 n rfl
theorem CelMap.bare {w : World} {b : Nat} {M : DataW Cel} (h : CelMap w b M) : Bare w b := by
  obtain ⟨D, ho, _⟩ := h
  intro o v h1
  rw [ownsMap_none ho] at h1; cases h1
theorem TabAt.bare {w : World} {t b : Nat} {q1 q2 B : Int} {M : DataW Cel} (h : TabAt w t b q1 q2 M B) : Bare w t := by
  intro o v h1
  rcases (show o = 0 ∨ o = 1 ∨ o = 2 ∨ o = 3 ∨ ∃ j, o = j + 4 from by rcases o with _ | _ | _ | _ | j <;> simp) with rfl | rfl | rfl | rfl | ⟨j, rfl⟩
  · rw [h.c0] at h1; cases h1; exact ⟨fun n => (by simp), fun s => (by simp)⟩
  · rw [h.c1] at h1; cases h1; exact ⟨fun n => (by simp), fun s => (by simp)⟩
  · rw [h.c2] at h1; cases h1; exact ⟨fun n => (by simp), fun s => (by simp)⟩
  · rw [h.c3] at h1; cases h1; exact ⟨fun n => (by simp), fun s => (by simp)⟩
  · rw [h.c4] at h1; cases h1
theorem IsRows.but {S : Nat → Prop} {w w' : World} {v : Value} {l : List (ByteArray × Cel)} (h : IsRows w v l) (hb : ButS S w w') (hS : ∀ k, S k → Bare w k) : IsRows w' v l := by
  obtain ⟨a, cap, hv, h⟩ := h
  refine ⟨a, cap, hv, ?_⟩
  rcases h with h | ⟨b2, off, ha, hlt, hc⟩
  · exact Or.inl h
  · by_cases hl : l = []
    · exact Or.inl hl
    have hn : ¬ S b2 := by
      intro hs
      obtain ⟨h1, _⟩ := hc 0 (List.length_pos_iff.2 hl)
      exact (hS b2 hs _ _ h1).2 _ rfl
    refine Or.inr ⟨b2, off, ha, by have := hb.size; omega, fun i hi => ?_⟩
    obtain ⟨h1, h2, s, h3, hs⟩ := hc i hi
    exact ⟨(hb.cell hlt hn).trans h1, (hb.cell hlt hn).trans h2, s, (hb.cell hlt hn).trans h3, hs.but hb (fun k hk => (hS k hk).noVers)⟩
theorem IsNums.but {S : Nat → Prop} {w w' : World} {v : Value} {l : List Nat} (h : IsNums w v l) (hb : ButS S w w') (hS : ∀ k, S k → Bare w k) : IsNums w' v l := by
  obtain ⟨a, cap, hv, h⟩ := h
  refine ⟨a, cap, hv, ?_⟩
  rcases h with h | ⟨b2, off, ha, hlt, hc⟩
  · exact Or.inl h
  · by_cases hl : l = []
    · exact Or.inl hl
    have hn : ¬ S b2 := by
      intro hs
      exact (hS b2 hs _ _ (hc 0 (List.length_pos_iff.2 hl))).1 _ rfl
    exact Or.inr ⟨b2, off, ha, by have := hb.size; omega, fun i hi => (hb.cell hlt hn).trans (hc i hi)⟩

def nextM (r : (Nat × Nat) × DataW Cel × List Nat × Int) (M : DataW Cel) : DataW Cel := if r.1.2 = 0 then r.2.1 else M
def nextB (r : (Nat × Nat) × DataW Cel × List Nat × Int) (B : Int) : Int := if r.1.2 = 0 then r.2.2.2 else B
def nextV (r : (Nat × Nat) × DataW Cel × List Nat × Int) : List Nat := if r.1.2 = 0 then r.2.2.1 else []
def AppGives (r : (Nat × Nat) × DataW Cel × List Nat × Int) (M : DataW Cel) (B : Int) (t b : Nat) (q1 q2 : Int) (w : World) (e : Ending) (w' : World) : Prop :=
  ∃ v, e = .returned (.tuple #[v, .int .i64 r.1.1, .int .i64 r.1.2]) ∧ w'.ownsRow w.heap.size 43 1 v (nextV r).length ((nextV r).map (fun n : Nat => Value.int .u64 n)) ∧ TabAt w' t b q1 q2 (nextM r M) (nextB r B) ∧ ButS (fun k => k = t ∨ k = b) w w'
theorem tab_app (w : World) {t b : Nat} {q1 q2 B : Int} {M : DataW Cel} (h : TabAt w t b q1 q2 M B) (hg : Good Tryz.prog 9 M) (hm : MX w) (v : Value) (l : List Edt) (hv : IsEdts w v l) (hl : l.length ≤ 1048576)
    (hsM : size M ≤ 1073741824) (hB0 : -1125899906842624 ≤ B) (hB1 : B ≤ 1125899906842624) (hp : ∀ i, i < l.length → (l.getD i dE).path.size ≤ 140737488351232 ∧ (l.getD i dE).text.size ≤ 9223372036854775807) :
    Calls Tryz.prog 16 #[.pointer (some ⟨t, 0, none⟩), v] w (AppGives (triedT M B q1 q2 l) M B t b q1 q2 w) := by
  refine (tab_apply w h hg hm v l hv hl hsM hB0 hB1 hp).mono fun e w' hh => ?_
  rcases hh with ⟨h0, rfl, hb⟩ | ⟨h0, v1, rfl, hown, hT, hb⟩
  · refine ⟨.slice none 0 0, rfl, ?_, ?_, ButS.of hb⟩
    · unfold nextV; rw [if_neg h0]; exact World.ownsRow_nil _ _ _ _
    · unfold nextM nextB; rw [if_neg h0, if_neg h0]; exact h.below hb
  · refine ⟨v1, ?_, ?_, ?_, hb⟩
    · rw [tried_zero h0]; rfl
    · unfold nextV; rw [if_pos h0]; exact hown
    · unfold nextM nextB; rw [if_pos h0, if_pos h0]; exact hT

theorem next_good {M : DataW Cel} {B q1 q2 : Int} {l : List Edt} (hg : Good Tryz.prog 9 M) : Good Tryz.prog 9 (nextM (triedT M B q1 q2 l) M) ∧ size (nextM (triedT M B q1 q2 l) M) ≤ size M + l.length ∧
    B - l.length * 33000 ≤ nextB (triedT M B q1 q2 l) B ∧ nextB (triedT M B q1 q2 l) B ≤ B + l.length * 33000 := by
  obtain ⟨a1, a2, a3, a4⟩ := runT_facts Tryz.underlying9 l (vs := []) (B := B) (i := 0) hg
  rw [← tried_eq (q1 := q1) (q2 := q2)] at a1 a2 a3 a4
  unfold nextM nextB
  split
  · exact ⟨a1, a2, a3, a4⟩
  · refine ⟨hg, by omega, ?_, ?_⟩ <;> omega
end Go.Proofs.YtfbgnpfhjbiikaaGreatDoor

namespace Go.Proofs.YtfbgnpfhjbiikaaGreatDoor
open Go Go.RowKit
def AllU (w : World) (o : Option Nat) : Prop := ∀ g, o = some g → ∀ j u, w.cell? ⟨g, j, none⟩ = some u → ∃ n : Int, u = .int .u64 n
theorem AllU.noVers {w : World} {o : Option Nat} (h : AllU w o) : ∀ k, some k = o → NoVers w k := by
  intro k hk o' n s _ h2
  obtain ⟨m, hm⟩ := h k hk.symm _ _ h2
  cases hm
theorem zeroCells_mem {c : Value} : ∀ {n : Nat} {u : Value}, u ∈ Builtin.zeroCells #[c] n → u = c := by
  intro n u hu
  unfold Builtin.zeroCells at hu
  simp at hu
  obtain ⟨k, _, h⟩ := hu
  rw [Nat.mod_one] at h
  simpa using h.symm
def NoStr (w : World) (k : Nat) : Prop := ∀ o s, w.cell? ⟨k, o, none⟩ ≠ some (.string s)
theorem Bare.noStr {w : World} {k : Nat} (h : Bare w k) : NoStr w k := fun o s e => (h o _ e).2 s rfl
theorem AllU.noStr {w : World} {o : Option Nat} (h : AllU w o) : ∀ k, some k = o → NoStr w k := by
  intro k hk o' s e
  obtain ⟨m, hm⟩ := h k hk.symm _ _ e
  cases hm
theorem IsRows.but2 {S : Nat → Prop} {w w' : World} {v : Value} {l : List (ByteArray × Cel)} (h : IsRows w v l) (hb : ButS S w w') (hS : ∀ k, S k → NoStr w k ∧ NoVers w k) : IsRows w' v l := by
  obtain ⟨a, cap, hv, h⟩ := h
  refine ⟨a, cap, hv, ?_⟩
  rcases h with h | ⟨b2, off, ha, hlt, hc⟩
  · exact Or.inl h
  · by_cases hl : l = []
    · exact Or.inl hl
    have hn : ¬ S b2 := by
      intro hs
      obtain ⟨h1, _⟩ := hc 0 (List.length_pos_iff.2 hl)
      exact (hS b2 hs).1 _ _ h1
    refine Or.inr ⟨b2, off, ha, by have := hb.size; omega, fun i hi => ?_⟩
    obtain ⟨h1, h2, s, h3, hs⟩ := hc i hi
    exact ⟨(hb.cell hlt hn).trans h1, (hb.cell hlt hn).trans h2, s, (hb.cell hlt hn).trans h3, hs.but hb (fun k hk => (hS k hk).2)⟩
theorem IsNums.but2 {S : Nat → Prop} {w w' : World} {v : Value} {l : List Nat} (h : IsNums w v l) (hb : ButS S w w') (hS : ∀ k, S k → v.ownBlock ≠ some k) : IsNums w' v l := by
  obtain ⟨a, cap, hv, h⟩ := h
  refine ⟨a, cap, hv, ?_⟩
  rcases h with h | ⟨b2, off, ha, hlt, hc⟩
  · exact Or.inl h
  · have hn : ¬ S b2 := fun hs => hS b2 hs (by rw [hv, ha]; rfl)
    exact Or.inr ⟨b2, off, ha, by have := hb.size; omega, fun i hi => (hb.cell hlt hn).trans (hc i hi)⟩
theorem AllU.but {S : Nat → Prop} {w w' : World} {o : Option Nat} (h : AllU w o) (hb : ButS S w w') (hS : ∀ g, o = some g → ¬ S g ∧ g < w.heap.size) : AllU w' o := by
  intro g hg j u hu
  obtain ⟨h1, h2⟩ := hS g hg
  exact h g hg j u ((hb.cell (p := ⟨g, j, none⟩) h2 h1).symm.trans hu)
theorem butRow {w w' : World} {o : Option Nat} (hg : w.grownBy w' o) : ButS (fun k => some k = o) w w' := ⟨hg.os, hg.tape, hg.output, hg.size, fun k hk hn => hg.block k hk hn⟩
section
variable {P : Program} {w : World}
theorem append_allU {t ty e : TypeId} {i : TypeInfo} (ht : P.underlying t = some (.slice e)) (hi : P.info? e = some i) (hz : i.zero = some (.int .u64 0)) (hsize : i.size = 1) (hby : i.bytes = 8)
    {base n : Nat} {v : Value} {xs : List Value} (hown : w.ownsRow base e 1 v n xs) (hall : AllU w v.ownBlock) {a : Addr} {c : Nat} {x : Int} (hnews : w.cell? (a.add 0) = some (.int .u64 x)) (hn : n ≤ 1099511627776)
    {v' : Value} {w' : World} (hrun : (Builtin.append_ #[t, t] ty #[v, .slice (some a) 1 c]).run P w = .ok v' w') : AllU w' v'.ownBlock := by
  have hnw : ∀ j u, [Value.int .u64 x][j]? = some u → w.cell? (a.add j) = some u := by
    intro j u hu
    cases j with
    | zero => simp at hu; subst hu; exact hnews
    | succ j => simp at hu
  have hmem : ∀ {L : List Value} {k : Nat} {t' : TypeId} {W : World} {g : Nat}, (∀ u ∈ L, ∃ n : Int, u = .int .u64 n) → W.heap[g]? = some (.cells (L.toArray ++ Builtin.zeroCells #[.int .u64 0] k) t' (0, 0)) → AllU W (some g) := by
    intro L k t' W g hL hh g' hg' j u hu
    cases hg'
    unfold World.cell? at hu
    rw [hh] at hu
    have hm : u ∈ L.toArray ++ Builtin.zeroCells #[.int .u64 0] k := Array.mem_of_getElem? hu
    rcases Array.mem_append.1 hm with hm | hm
    · exact hL u (by simpa using hm)
    · exact ⟨0, zeroCells_mem hm⟩
  rcases hown.2 with ⟨rfl, rfl⟩ | ⟨g, cap, cur, rfl, hbg, hg, hnc, hcm, hcs, htake⟩
  · have hr := run_append_nil (P := P) w t ty e i _ ht hi hz a 1 c [.int .u64 x] (by simp [hsize]) hnw (by decide) (by decide) (by rw [hby]; decide)
    rw [hrun] at hr
    injection hr with h1 h2
    subst h1; subst h2
    exact hmem (L := [.int .u64 x]) (by simp) (by rw [← show w.drew.heap.size = w.heap.size from rfl]; exact (MapKept.heap_alloc w.drew _).1)
  · have hcur : ∀ u ∈ cur.toList, ∃ n : Int, u = .int .u64 n := by
      intro u hu
      obtain ⟨j, hj⟩ := List.getElem?_of_mem hu
      refine hall g rfl j u ?_
      unfold World.cell?
      rw [hg]
      simpa using hj
    by_cases hroom : n + 1 ≤ cap
    · have hr := run_append_room (P := P) w t ty e i ht hi g n cap cur hg a 1 c [.int .u64 x] (by simp [hsize]) hnw (by intro u hu; rcases List.mem_singleton.1 hu with rfl; rfl) hroom (by rw [hsize, hcs]; simp; omega)
      rw [hrun] at hr
      injection hr with h1 h2
      subst h1; subst h2
      intro g' hg' j u hu
      cases hg'
      unfold World.cell? at hu
      rw [setRow_heap w g cur _ e _ hg] at hu
      have hm := Array.mem_of_getElem? hu
      simp only [List.mem_toArray, List.mem_append] at hm
      rcases hm with (hm | hm) | hm
      · exact hcur u (List.mem_of_mem_take hm)
      · rcases List.mem_singleton.1 hm with rfl; exact ⟨x, rfl⟩
      · exact hcur u (List.mem_of_mem_drop hm)
    · have holds : ∀ j u, xs[j]? = some u → w.cell? ((⟨g, 0, none⟩ : Addr).add j) = some u := hown.cells (g := g) rfl
      have hr := run_append_grow (P := P) w t ty e i _ ht hi hz ⟨g, 0, none⟩ n cap xs (by rw [hsize]; exact hown.1) holds a 1 c [.int .u64 x] (by simp [hsize]) hnw (by omega) (by omega) (growslice_fits (by omega) (by rw [hby]; omega))
      rw [hrun] at hr
      injection hr with h1 h2
      subst h1; subst h2
      refine hmem (L := xs ++ [.int .u64 x]) ?_ (k := (grownCap w (n + 1) cap e - (n + 1))) (t' := e) ?_
      · intro u hu
        rcases List.mem_append.1 hu with hu | hu
        · exact hcur u (by rw [← htake] at hu; exact List.mem_of_mem_take hu)
        · rcases List.mem_singleton.1 hu with rfl; exact ⟨x, rfl⟩
      · have := (MapKept.heap_alloc w.drew (.cells (xs.toArray ++ [Value.int .u64 x].toArray ++ Builtin.zeroCells (Value.int .u64 0).cells (grownCap w (n + 1) cap e - (n + 1))) e)).1
        simpa [Value.cells] using this
end
theorem wpList_append_u {P : Program} (w : World) {ops : Array Oper} {rest : List Oper} {o : Oper} {a : Act} {Q : Exit → Act → World → Prop} (hgd : o.guard = none) (s x : Operand) (t : TypeId)
    (ho : o.op = .call { callee := .builtin .append, args := #[s, x], argTypes := #[t, t] })
    (base : Nat) (e : TypeId) (i : TypeInfo) (ht : P.underlying t = some (.slice e)) (hi : P.info? e = some i) (hz : i.zero = some (.int .u64 0))
    (hsize : i.size = 1) (hby : i.bytes = 8)
    (v : Value) (n : Nat) (xs : List Value) (hs : a.eval s = v) (hown : w.ownsRow base e 1 v n xs) (hall : AllU w v.ownBlock)
    (ad : Addr) (c : Nat) (z : Int) (hx : a.eval x = .slice (some ad) 1 c) (hnews : w.cell? (ad.add 0) = some (.int .u64 z))
    (hn : n ≤ 1099511627776) (hbase : base ≤ w.heap.size)
    (h : ∀ g cap w', w'.ownsRow base e 1 (.slice (some ⟨g, 0, none⟩) (n + 1) cap) (n + 1) (xs ++ [.int .u64 z]) → w.grownBy w' v.ownBlock → (v.ownBlock = some g ∨ g = w.heap.size) → g < w'.heap.size → AllU w' (some g) → wpList P ops Q rest (a.put o.dst (.slice (some ⟨g, 0, none⟩) (n + 1) cap)) w') : wpList P ops Q (o :: rest) a w := by
  refine wpList_plain hgd fun K hK => ?_
  have hnw : ∀ j u, [Value.int .u64 z][j]? = some u → w.cell? (ad.add j) = some u := by
    intro j u hu
    cases j with
    | zero => simp at hu; subst hu; exact hnews
    | succ j => simp at hu
  obtain ⟨g, cap, w', hr, h2, h3, h4, h5⟩ := run_append_lies (P := P) w t o.type base e i (.int .u64 0) 1 8 ht hi hz hsize hby rfl (by decide) v n xs hown ad 1 c [.int .u64 z] rfl hnw (by intro u hu; rcases List.mem_singleton.1 hu with rfl; rfl) (by decide) (by unfold maxLen; omega) (by omega) hbase w.heap.size rfl
  have hU := append_allU ht hi hz hsize hby hown hall hnews hn hr
  unfold Oper.wp execOp
  simp only [ho, resolve, invoke, builtin, Sem.run_bind, Sem.run_pure, Result.andThen_ok, List.map_toArray, List.map_cons, List.map_nil, hs, hx, hr]
  exact hK _ _ (h g cap w' h2 h3 h4 h5 hU)
end Go.Proofs.YtfbgnpfhjbiikaaGreatDoor

namespace Go.Proofs.YtfbgnpfhjbiikaaGreatDoor
open Go Go.ChangeShapes Go.WideShapes Go.ChangeAt Go.RowKit
theorem getD_mem {α : Type} {l : List α} {k : Nat} {d : α} (h : k < l.length) : l.getD k d ∈ l := by
  rw [List.getD_eq_getElem?_getD, List.getElem?_eq_getElem h]; exact List.getElem_mem h
theorem list3 {α : Type} {l : List α} (h : l.length = 3) : ∃ c0 c1 c2, l = [c0, c1, c2] := by
  match l, h with
  | [c0, c1, c2], _ => exact ⟨c0, c1, c2, rfl⟩
theorem list2 {α : Type} {l : List α} (h : l.length = 2) : ∃ c0 c1, l = [c0, c1] := by
  match l, h with
  | [c0, c1], _ => exact ⟨c0, c1, rfl⟩
def verData {H : Type} (v : Ver) : DataW H := .agg [.lit (.int .u64 v.n), .lit (.int .u8 v.st), .lit (.string v.tx.data.toList)]
theorem cVer : Tryz.prog.cellsOf 50 = 3 := by kernel_rfl
theorem cVers : Tryz.prog.cellsOf 44 = 1 := by kernel_rfl
theorem cCell : Tryz.prog.cellsOf 46 = 2 := by kernel_rfl
theorem cRow : Tryz.prog.cellsOf 48 = 3 := by kernel_rfl
theorem wfLt64 {n : Nat} (h : (Lit.int .u64 (n : Int)).wf = true) : n < 18446744073709551616 := by
  simp only [Lit.wf, Bool.and_eq_true, decide_eq_true_eq] at h
  have h1 := h.2
  rw [show IntKind.max .u64 = 18446744073709551615 from rfl] at h1
  omega
theorem addrThree {a : Addr} (h : a = ⟨a.block, a.off, none⟩) (i j : Nat) : (a.add i).add j = ⟨a.block, a.off + i + j, none⟩ := by
  rw [h, addrAdd, addrAdd]
def VersD {H : Type} (l : List Ver) (d : DataW H) : Prop := d = .nil ∧ l = [] ∨ ∃ sr, d = .slice (l.map verData) sr
def RowD {H : Type} (r : ByteArray × Cel) (d : DataW H) : Prop := ∃ vd, d = .agg [.lit (.string r.1.data.toList), .agg [.lit (.int .u64 r.2.last), vd]] ∧ VersD r.2.l vd
section
variable {H : Type} {enc : TypeId × Value → H} {w : World} {base : Nat} {sp : Nat → Bool} {held : Bool}
theorem trod_ver {fuel : Nat} {cs : List Value} {x : DataW H × List MemPlace} (h : DataW.trod enc Tryz.prog w base sp held fuel 50 cs = some x) : ∃ v : Ver, cs = [.int .u64 v.n, .int .u8 v.st, .string v.tx] ∧ x.1 = verData v ∧ v.n < 18446744073709551616 := by
  obtain ⟨xs, n, _, rfl, hl, hlen, hf⟩ := DataW.trod_struct Tryz.underlying50 h
  rw [cVer] at hl
  obtain ⟨c0, c1, c2, rfl⟩ := list3 hl
  obtain ⟨y0, y1, y2, rfl⟩ := list3 hlen
  have h0 : DataW.trod enc Tryz.prog w base sp held n 43 [c0] = some y0 := by simpa [cU64] using hf 0 _ rfl
  have h1 : DataW.trod enc Tryz.prog w base sp held n 5 [c1] = some y1 := by simpa [cU8] using hf 1 _ rfl
  have h2 : DataW.trod enc Tryz.prog w base sp held n 9 [c2] = some y2 := by simpa [cStr] using hf 2 _ rfl
  obtain ⟨z0, e0, rfl, w0⟩ := DataW.trod_int Tryz.underlying43 h0
  obtain ⟨z1, e1, rfl, w1⟩ := DataW.trod_int Tryz.underlying5 h1
  obtain ⟨s2, e2, rfl, _⟩ := DataW.trod_string Tryz.underlying9 h2
  obtain ⟨n0, rfl⟩ := wfNat64 w0
  obtain ⟨n1, rfl⟩ := wfNat8 w1
  refine ⟨⟨n0, n1, s2⟩, ?_, rfl, wfLt64 w0⟩
  simp only [List.cons.injEq, and_true] at e0 e1 e2
  rw [e0, e1, e2]
theorem trod_vers {fuel : Nat} {cs : List Value} {x : DataW H × List MemPlace} (h : DataW.trod enc Tryz.prog w base sp held fuel 44 cs = some x) : ∃ (v : Value) (l : List Ver), cs = [v] ∧ IsVers w v l ∧ VersD l x.1 := by
  rcases Go.Deep.open_slice Tryz.underlying44 h with ⟨hcs, hx⟩ | ⟨a, len, cap, m, n, D, Pl, hcs, _, hl, _, hm, hx, hel⟩
  · exact ⟨_, [], hcs, IsVers.nil w, Or.inl ⟨by rw [hx], rfl⟩⟩
  · have hlm : len ≤ m := by rw [hm]; split <;> omega
    have hE : ∀ i, ∃ e : Ver, i < len → (∀ j, j < 3 → w.cell? ((a.add (i * 3)).add j) = [Value.int .u64 e.n, .int .u8 e.st, .string e.tx][j]?) ∧ D i = verData e := by
      intro i
      by_cases hi : i < len
      · obtain ⟨cs', h1, h2⟩ := hel i (by omega)
        rw [cVer] at h1
        obtain ⟨e, rfl, he, _⟩ := trod_ver h2
        exact ⟨e, fun _ => ⟨(World.cells?_some h1).2.2, he⟩⟩
      · exact ⟨dV, fun h => absurd h hi⟩
    obtain ⟨E, hE⟩ := Classical.axiomOfChoice hE
    refine ⟨_, (List.range len).map E, hcs, ?_, Or.inr ⟨(List.range (m - len)).map fun j => D (len + j), ?_⟩⟩
    · refine ⟨some a, cap, by simp, ?_⟩
      by_cases h0 : len = 0
      · left; subst h0; rfl
      · right
        have h00 := (hE 0 (by omega)).1 0 (by omega)
        have ha0 : (a.add (0 * 3)).add 0 = a := by unfold Addr.add; simp
        rw [ha0] at h00
        have hs : a = ⟨a.block, a.off, none⟩ := spot_none (v := .int .u64 (E 0).n) h00
        refine ⟨a.block, a.off, by rw [← hs], block_lt_of_cell (v := .int .u64 (E 0).n) h00, fun i hi => ?_⟩
        have hi' : i < len := by simpa using hi
        have hg : ((List.range len).map E).getD i dV = E i := by simp [List.getD_eq_getElem?_getD, hi']
        rw [hg]
        have hc := (hE i hi').1
        have k0 := hc 0 (by omega); have k1 := hc 1 (by omega); have k2 := hc 2 (by omega)
        rw [addrThree hs] at k0 k1 k2
        exact ⟨k0, k1, k2⟩
    · rw [hx, List.map_map]
      show DataW.slice _ _ = _
      congr 1
      refine List.map_congr_left fun i hi => ?_
      exact (hE i (List.mem_range.1 hi)).2
theorem trod_row {fuel : Nat} {cs : List Value} {x : DataW H × List MemPlace} (h : DataW.trod enc Tryz.prog w base sp held fuel 48 cs = some x) : ∃ (r : ByteArray × Cel) (v : Value), cs = [.string r.1, .int .u64 r.2.last, v] ∧ IsVers w v r.2.l ∧ RowD r x.1 ∧ r.2.last < 18446744073709551616 := by
  obtain ⟨xs, n, _, rfl, hl, hlen, hf⟩ := DataW.trod_struct Tryz.underlying48 h
  rw [cRow] at hl
  obtain ⟨c0, c1, c2, rfl⟩ := list3 hl
  obtain ⟨y0, y1, rfl⟩ := list2 hlen
  have h0 : DataW.trod enc Tryz.prog w base sp held n 9 [c0] = some y0 := by simpa [cStr] using hf 0 _ rfl
  have h1 : DataW.trod enc Tryz.prog w base sp held n 46 [c1, c2] = some y1 := by simpa [cCell] using hf 1 _ rfl
  obtain ⟨s0, e0, rfl, _⟩ := DataW.trod_string Tryz.underlying9 h0
  obtain ⟨xs2, n2, _, rfl, hl2, hlen2, hf2⟩ := DataW.trod_struct Tryz.underlying46 h1
  obtain ⟨u0, u1, rfl⟩ := list2 hlen2
  have g0 : DataW.trod enc Tryz.prog w base sp held n2 43 [c1] = some u0 := by simpa [cU64] using hf2 0 _ rfl
  have g1 : DataW.trod enc Tryz.prog w base sp held n2 44 [c2] = some u1 := by simpa [cVers] using hf2 1 _ rfl
  obtain ⟨z1, e1, rfl, w1⟩ := DataW.trod_int Tryz.underlying43 g0
  obtain ⟨n1, rfl⟩ := wfNat64 w1
  obtain ⟨v, l, e2, hv, hd⟩ := trod_vers g1
  refine ⟨(s0, ⟨n1, l⟩), v, ?_, hv, ⟨u1.1, rfl, hd⟩, wfLt64 w1⟩
  simp only [List.cons.injEq, and_true] at e0 e1 e2
  rw [e0, e1, e2]
def RowsWf (l : List (ByteArray × Cel)) : Prop := ∀ i, i < l.length → (l.getD i dR).2.last < 18446744073709551616
end
end Go.Proofs.YtfbgnpfhjbiikaaGreatDoor
