/- Contract: Table.Rows. -/
import Derived.Test.YtbmmabpglkojkaaDoorTabA
namespace Go.Proofs.YtbmmabpglkojkaaDoor
open Go Go.RowKit
open Pth
open Go.Maps (has size Canon CanonK Tidy IsMap KeysOf Keyed Merged)

/-- The cells of rows. -/
def rowCells : List ((ByteArray × Cel) × Value) → List Value
  | [] => []
  | x :: t => .string x.1.1 :: .int .u64 x.1.2.last :: x.2 :: rowCells t
theorem rowCells_length (l : List ((ByteArray × Cel) × Value)) : (rowCells l).length = l.length * 3 := by
  induction l with
  | nil => rfl
  | cons v t ih => simp only [rowCells, List.length_cons, ih]; omega
theorem rowCells_append (a b : List ((ByteArray × Cel) × Value)) : rowCells (a ++ b) = rowCells a ++ rowCells b := by
  induction a with
  | nil => rfl
  | cons v t ih => simp only [List.cons_append, rowCells, ih]
def dRV : (ByteArray × Cel) × Value := (dR, .slice none 0 0)
theorem rowCells_at : ∀ (l : List ((ByteArray × Cel) × Value)) (i : Nat), i < l.length → (rowCells l)[i * 3]? = some (.string (l.getD i dRV).1.1) ∧ (rowCells l)[i * 3 + 1]? = some (.int .u64 (l.getD i dRV).1.2.last) ∧ (rowCells l)[i * 3 + 2]? = some (l.getD i dRV).2
  | [], i, h => by simp at h
  | v :: t, 0, _ => ⟨rfl, rfl, rfl⟩
  | v :: t, i + 1, h => by
    have := rowCells_at t i (by simpa using h)
    rw [show (i + 1) * 3 = i * 3 + 3 by omega]
    exact this
/-- Rows that a call lays: none of their versions lies in the block o. -/
def RowsOff (w : World) (T : List ((ByteArray × Cel) × Value)) (o : Option Nat) : Prop := ∀ x ∈ T, IsVers w x.2 x.1.2.l ∧ (x.1.2.l ≠ [] → ∀ kb, x.2.ownBlock = some kb → o ≠ some kb)
theorem RowsOff.below {w w' : World} {T : List ((ByteArray × Cel) × Value)} {o : Option Nat} (h : RowsOff w T o) (hb : Below w.heap.size w w') : RowsOff w' T o := fun x hx => ⟨(h x hx).1.below hb (Nat.le_refl _), (h x hx).2⟩
theorem RowsOff.row {w w' : World} {T : List ((ByteArray × Cel) × Value)} {o o' : Option Nat} (h : RowsOff w T o) (hg : w.grownBy w' o) (ho : o' = o ∨ o' = some w.heap.size) : RowsOff w' T o' := by
  intro x hx
  obtain ⟨h1, h2⟩ := h x hx
  refine ⟨h1.row hg h2, fun hl kb hk => ?_⟩
  rcases ho with rfl | rfl
  · exact h2 hl kb hk
  · intro e
    have := h1.own_lt hl hk
    cases e; omega
theorem IsRows.own {w : World} {B e : Nat} {v : Value} {T : List ((ByteArray × Cel) × Value)} {o : Option Nat} (h : w.ownsRow B e 3 v T.length (rowCells T)) (hT : RowsOff w T o) : IsRows w v (T.map (·.1)) := by
  rcases h.2 with ⟨hv, hl⟩ | ⟨g, cap, cur, hv, hB, hg, hn, hcap, hsz, htake⟩
  · have : T = [] := List.length_eq_zero_iff.1 hl
    subst this; exact ⟨none, 0, hv, Or.inl rfl⟩
  · refine ⟨_, cap, by rw [List.length_map]; exact hv, Or.inr ⟨g, 0, rfl, lt_of_block hg, fun i hi => ?_⟩⟩
    rw [List.length_map] at hi
    subst hv
    obtain ⟨f1, f2, f3⟩ := rowCells_at T i hi
    have c1 := World.ownsRow.cellAt h (i * 3) (by omega)
    have c2 := World.ownsRow.cellAt h (i * 3 + 1) (by omega)
    have c3 := World.ownsRow.cellAt h (i * 3 + 2) (by omega)
    rw [f1] at c1; rw [f2] at c2; rw [f3] at c3
    have hd : (T.map (·.1)).getD i dR = (T.getD i dRV).1 := by
      rw [List.getD_eq_getElem?_getD, List.getD_eq_getElem?_getD, List.getElem?_map, List.getElem?_eq_getElem hi]; rfl
    have hm : T.getD i dRV ∈ T := by
      rw [List.getD_eq_getElem?_getD, List.getElem?_eq_getElem hi]; exact List.getElem_mem hi
    rw [hd, Nat.zero_add]
    exact ⟨c1, c2, _, c3, (hT _ hm).1⟩
theorem infoRow : (Tryd.prog.info? 64).map (fun i => (i.zero, i.size, i.bytes)) = some (some (.agg #[.string ByteArray.empty, .int .u64 0, .slice none 0 0]), 3, 48) := by kernel_rfl

/-- What Rows leaves. -/
def RowsGives (M : DataW Cel) (w : World) (e : Ending) (w' : World) : Prop := ∃ v, e = .returned v ∧ IsRows w' v (rowsL M) ∧ Below w.heap.size w w'

set_option maxRecDepth 100000 in
set_option maxHeartbeats 2000000 in
theorem tab_rows (w : World) {t b : Nat} {q1 q2 B : Int} {M : DataW Cel} (h : TabAt w t b q1 q2 M B) (hg : Good Tryd.prog 9 M) (hsM : size M ≤ 1073741824) :
    Calls Tryd.prog 10 #[.pointer (some ⟨t, 0, none⟩)] w (RowsGives M w) := by
  have Hmade := Lib.hid (tab_made w h)
  have HG := Lib.hid hg; have HT := Lib.hid h; clear hg h
  go_enter Tryd.func10, Tryd.ntmps10
  go_wp2_with fail
  refine Hmade.out.mono ?_
  rintro e w1 ⟨rfl, hb1⟩
  have h1 := HT.out.below hb1
  have c2 := h1.c2
  have hm1 := h1.m
  obtain ⟨D, hownD, hal⟩ := hm1
  have hK := callsIn_wide.1 (Tryd.maps_Keys_27 (some b) w1)
  have hS := callsIn_wide.1 (Tryd.slices_Sorted_keys_26_27 b (size M) D _ w1 hownD (by rw [hal.sizes]; unfold maxLen; omega) (by rw [hal.sizes]; omega))
  have Hkeys := Lib.hid (fun (ss : List (List UInt8)) (hs : ss.Perm (strKeys D)) => keysL_of (hownD.canonK strKeyed) hal.canon hal.keys hs)
  have HT1 := Lib.hid h1; have Hb1 := Lib.hid hb1; have HK := Lib.hid hK; have HS := Lib.hid hS
  clear h1 hb1 hK hS hal hownD
  go_wp2_with fail
  refine (HK.out).mono ?_
  rintro e w2 ⟨rfl, rfl⟩
  go_wp2_with fail
  refine (HS.out).mono ?_
  rintro e w3 ⟨v3, ss, rfl, hperm, hrow, _, hb3⟩
  have hv3 : IsStrs w3 v3 ((keysL M).map bs) := IsStrs.own (B := (w1.alloc (.cells #[.map (some b)] 66)).heap.size) (e := 9) (by rw [← Hkeys.out ss hperm, List.length_map, List.length_mergeSort, List.map_map]; exact hrow)
  have hb13 : Below w1.heap.size w1 w3 := ((Below.refl _ w1).alloc (Nat.le_refl _) _).trans (hb3.mono (by simp))
  have Hmem := Lib.hid (fun x (hx : x ∈ keysL M) => keysL_mem HG.out.canon hx)
  have hkl : (keysL M).length ≤ 1073741824 := by rw [keysL_length HG.out.canon]; exact hsM
  have Hrows : Hid (rowsL M = (keysL M).map (rowAt M)) := Lib.hid rfl
  generalize keysL M = ks at hv3 Hmem hkl Hrows
  obtain ⟨a3, c3, rfl, hc3⟩ := hv3
  have Hc3 := Lib.hid hc3; have Hb13 := Lib.hid hb13
  clear hc3 hb13 hrow hperm hb3 HS HK Hkeys
  obtain ⟨i0, hi, hz0, hz1, hz2⟩ := info_parts infoRow
  rw [List.length_map]
  go_wp2_with fail
  go_loopw [2, 15] (fun s2 i wr => ∃ (k : Nat) (T : List ((ByteArray × Cel) × Value)), k ≤ ks.length ∧ i = .int .i64 k ∧ (∃ a c, s2 = .slice a T.length c) ∧ Hid (T.map (·.1) = (ks.take k).map (rowAt M)) ∧ Hid (T.length = k) ∧ Hid (wr.ownsRow w3.heap.size 64 3 s2 T.length (rowCells T)) ∧ Hid (RowsOff wr T s2.ownBlock) ∧ Hid (Below w3.heap.size w3 wr)) (fun _ i _ => ks.length - (intOf i).toNat)
  case atStart => exact ⟨0, [], Nat.zero_le _, rfl, ⟨none, 0, rfl⟩, Lib.hid rfl, Lib.hid rfl, Lib.hid (World.ownsRow_nil _ _ _ _), Lib.hid (fun x hx => by cases hx), Lib.hid (Below.refl _ _)⟩
  case round =>
    obtain ⟨k, T, hk, rfl, ⟨a2, c2', rfl⟩, hmap, hTk, hrow, hoff, hbw⟩ := hrel
    have hw1r : Below w1.heap.size w1 wr := Hb13.out.trans (hbw.out.mono Hb13.out.size)
    have hTr := HT1.out.below hw1r
    by_cases hlt : k < ks.length
    · rcases Hc3.out with hn | ⟨b3, o3, rfl, hl3, hcc⟩
      · have := congrArg List.length hn; simp at this; rw [this] at hlt; simp at hlt
      have hcell := (hbw.out.cell (p := ⟨b3, o3 + k, none⟩) hl3).trans (hcc k (by rw [List.length_map]; exact hlt))
      clear hcc
      have hkx : ks.getD k [] ∈ ks := by rw [List.getD_eq_getElem?_getD, List.getElem?_eq_getElem hlt]; exact List.getElem_mem hlt
      have hgd : (ks.map bs).getD k ByteArray.empty = bs (ks.getD k []) := by
        rw [List.getD_eq_getElem?_getD, List.getD_eq_getElem?_getD, List.getElem?_map, List.getElem?_eq_getElem hlt]; rfl
      rw [hgd] at hcell
      have hhas := Hmem.out _ hkx
      have htake : ks.take (k + 1) = ks.take k ++ [ks.getD k []] := by
        rw [List.take_succ_eq_append_getElem hlt, List.getD_eq_getElem?_getD, List.getElem?_eq_getElem hlt]; rfl
      obtain ⟨x, hx⟩ : ∃ x, x = ks.getD k [] := ⟨_, rfl⟩
      rw [← hx] at hcell hhas htake
      clear hx hkx hgd
      obtain ⟨p', c', ep, _, _, _, _, hmp⟩ := HG.out.cells _ hhas
      have hps : (bs x).size ≤ 128 := by rw [kS_inj ep]; exact mayP_size hmp
      have c2 := hTr.c2
      obtain ⟨s, is, _, hs, _, hl⟩ := hTr.m.look2 (bs x) (by unfold maxLen; omega)
      have hmay := (HG.out.cellAt (bs x)).1
      obtain ⟨cN, hcN⟩ : ∃ c, c = cellAt M (bs x) := ⟨_, rfl⟩
      rw [← hcN] at hl hs hmay
      have hl8 := may_len hmay
      have Hs := Lib.hid hs
      obtain ⟨as1, cs1, rfl, _⟩ := hs
      obtain ⟨p, hp⟩ : ∃ p, p = bs x := ⟨_, rfl⟩
      have HcN := Lib.hid hcN; have Htake := Lib.hid htake; have HTr := Lib.hid hTr; have Hlt := Lib.hid hlt
      rw [← hp] at hcell hl
      have Hp := Lib.hid hp
      have hTl : T.length ≤ 1073741824 := by have := hTk.out; omega
      have hlt2 : (k : Int) < (ks.length : Int) := by omega
      clear hcN htake hTr hhas hp ep hmp hps hw1r hmay
      go_wp2_with (first
        | (go_at_call 28; refine (tab_copied cN _ _ Hs.out (by omega)).mono ?_; rintro e w4 ⟨v4, rfl, hown4, hb4⟩; obtain ⟨a4, c4, rfl⟩ := ownShape hown4; have Hown4 := Lib.hid hown4; have Hb4 := Lib.hid hb4; clear hown4 hb4)
        | (at_builtin; refine wpList_append_lies _ rfl (.tmp 19) (.tmp 29) 24 rfl w3.heap.size 64 i0 (.agg #[.string ByteArray.empty, .int .u64 0, .slice none 0 0]) 3 48 Tryd.underlying24 hi hz0 hz1 hz2 rfl (by decide) _ T.length (rowCells T) rfl (ownBelow (ownBelow hrow.out Hb4.out) ((Below.refl _ _).alloc (Nat.le_refl _) _)) ⟨w4.heap.size, 0, none⟩ 1 1 [.string p, .int .u64 cN.last, .slice a4 cN.l.length c4] rfl rfl (World.news_of_block (MapKept.heap_alloc _ _).1) (by intro u hu; simp only [List.mem_cons, List.mem_nil_iff, or_false] at hu; rcases hu with rfl | rfl | rfl <;> rfl) (by decide) (by unfold maxLen; omega) (by omega) ?hbase (w4.heap.size + 1) (by simp) ?go; (case hbase => have h1 := hbw.out.size; have h2 := Hb4.out.size; simp; omega); intro g cp w8 hown8 hg8 hat hlt8)
        | fail)
      go_roundw
      case rel =>
        refine ⟨k + 1, T ++ [((p, cN), .slice a4 cN.l.length c4)], by have := Hlt.out; omega, by go_num, ⟨_, _, by rw [List.length_append]; rfl⟩, Lib.hid ?_, Lib.hid (by rw [List.length_append, hTk.out]; rfl), Lib.hid ?_, Lib.hid ?_, Lib.hid ?_⟩
        · rw [Htake.out, List.map_append, List.map_append, hmap.out, Hp.out, HcN.out]; rfl
        · rw [List.length_append, rowCells_append]; exact hown8
        · have hA : RowsOff (w4.alloc (.cells #[.string p, .int .u64 cN.last, .slice a4 cN.l.length c4] 64)) (T ++ [((p, cN), .slice a4 cN.l.length c4)]) (Value.slice a2 T.length c2').ownBlock := by
            intro y hy
            rcases List.mem_append.1 hy with hy | hy
            · exact ((hoff.out.below Hb4.out).below ((Below.refl _ _).alloc (Nat.le_refl _) _)) y hy
            · rcases List.mem_singleton.1 hy with rfl
              refine ⟨(IsVers.own Hown4.out).below ((Below.refl _ _).alloc (Nat.le_refl _) _) (Nat.le_refl _), fun _ kb hkb e => ?_⟩
              have h1 := ownAbove Hown4.out kb hkb
              have h2 : kb < wr.heap.size := by
                rcases hrow.out.2 with ⟨hv, _⟩ | ⟨g', cp', cur, hv, hB, hg', _⟩
                · rw [hv] at e; cases e
                · rw [hv] at e; cases e; exact lt_of_block hg'
              omega
          refine hA.row hg8 ?_
          rcases hat with h | h
          · left; exact h.symm
          · right; show some g = some _; rw [h]; simp
        · have h1 : Below w3.heap.size w3 w4 := hbw.out.trans (Hb4.out.mono hbw.out.size)
          exact (h1.alloc h1.size _).grown hg8 (h1.alloc h1.size _).size (fun k hk => ownAbove hrow.out k hk)
      case measure => simp [intOf]; omega
    · have hge : (ks.length : Int) ≤ (k : Int) := by omega
      have hkk : k = ks.length := by omega
      have Hkk := Lib.hid hkk
      clear hkk hTr hw1r
      go_wp2_with fail
      go_ret
      refine ⟨_, rfl, ?_, Hb1.out.trans ((Hb13.out.trans (hbw.out.mono Hb13.out.size)).mono Hb1.out.size)⟩
      have h1 := IsRows.own hrow.out hoff.out
      rw [hmap.out, Hkk.out, List.take_length] at h1
      rw [Hrows.out]; exact h1
end Go.Proofs.YtbmmabpglkojkaaDoor
