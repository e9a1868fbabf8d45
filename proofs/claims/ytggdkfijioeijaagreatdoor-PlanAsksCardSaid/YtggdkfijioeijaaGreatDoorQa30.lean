/- Contract: scriniumref28.Asks, of a list. Contract: scriniumref28.Asks, of a split. -/
import Derived.Test.YtggdkfijioeijaaGreatDoorQa20
import Derived.Test.YtggdkfijioeijaaGreatDoorQa21
import Derived.Test.YtggdkfijioeijaaGreatDoorQa24
import Derived.Test.YtggdkfijioeijaaGreatDoorQa26
import Derived.Test.YtggdkfijioeijaaGreatDoorQa28
import Derived.Test.YtggdkfijioeijaaGreatDoorQa29
namespace Go.Proofs.YtggdkfijioeijaaGreatDoor
open Go Go.RowKit
def lstA' (pre : ByteArray) (s : Nat) : Ask := { Ask.new s with list := true, pre := pre }
def lstC (pre : ByteArray) (s : Nat) : List Value := [.int .u32 (s : Int), .slice none 0 0, .slice none 0 0, .slice none 0 0, .slice none 0 0, .bool true, .string pre, .bool false, .bool false, .int .u64 0, .int .u64 0]
def lstL (pre : ByteArray) (ss : List Nat) (i : Nat) : List (List Value) := (ss.take i).map (lstC pre) ++ (ss.drop i).map newC
theorem lstL_len (pre : ByteArray) (ss : List Nat) (i : Nat) : (lstL pre ss i).length = ss.length := by
  unfold lstL; rw [List.length_append, List.length_map, List.length_map, ← List.length_append, List.take_append_drop]
theorem lstL_11 (pre : ByteArray) (ss : List Nat) (i : Nat) : ∀ x ∈ lstL pre ss i, x.length = 11 := fun x hx => by
  rcases List.mem_append.1 hx with h | h
  · obtain ⟨_, _, rfl⟩ := List.mem_map.1 h; rfl
  · obtain ⟨_, _, rfl⟩ := List.mem_map.1 h; rfl
theorem lstL_succ (pre : ByteArray) (ss : List Nat) (i : Nat) (h : i < ss.length) : (lstL pre ss i).set i (lstC pre (ss.getD i 0)) = lstL pre ss (i + 1) := by
  unfold lstL
  have h1 : ss.drop i = ss.getD i 0 :: ss.drop (i + 1) := by
    rw [List.drop_eq_getElem_cons h, List.getD_eq_getElem?_getD, List.getElem?_eq_getElem h]; rfl
  have h2 : ss.take (i + 1) = ss.take i ++ [ss.getD i 0] := by
    rw [List.take_succ_eq_append_getElem h, List.getD_eq_getElem?_getD, List.getElem?_eq_getElem h]; rfl
  have hl : ((ss.take i).map (lstC pre)).length = i := by rw [List.length_map, List.length_take]; omega
  rw [h1, h2, List.set_append_right _ _ (by omega), hl, Nat.sub_self, List.map_cons, List.set_cons_zero, List.map_append, List.append_assoc]; rfl
theorem flatten_at {L : List (List Value)} (hL : ∀ x ∈ L, x.length = 11) : ∀ (i : Nat) (c : List Value), L[i]? = some c → ∀ j u, c[j]? = some u → L.flatten[i * 11 + j]? = some u := by
  induction L with
  | nil => intro i c h; simp at h
  | cons a t ih =>
    intro i c h j u hu
    have ha := hL a (by simp)
    cases i with
    | zero =>
      have : a = c := by simpa using h
      subst this
      rw [List.flatten_cons, Nat.zero_mul, Nat.zero_add, List.getElem?_append_left (List.getElem?_eq_some_iff.1 hu).1]; exact hu
    | succ i =>
      rw [List.flatten_cons, List.getElem?_append_right (by rw [ha]; omega), ha, show (i + 1) * 11 + j - 11 = i * 11 + j by omega]
      exact ih (fun x hx => hL x (by simp [hx])) i c (by simpa using h) j u hu
theorem lstL_get (pre : ByteArray) (ss : List Nat) (i : Nat) (h : i < ss.length) : (lstL pre ss i)[i]? = some (newC (ss.getD i 0)) := by
  unfold lstL
  have hl : ((ss.take i).map (lstC pre)).length = i := by rw [List.length_map, List.length_take]; omega
  rw [List.getElem?_append_right (by omega), hl, Nat.sub_self, List.getElem?_map, List.getElem?_drop, Nat.add_zero, List.getD_eq_getElem?_getD, List.getElem?_eq_getElem h]; rfl
theorem lstL_all (pre : ByteArray) (ss : List Nat) : lstL pre ss ss.length = ss.map (lstC pre) := by
  unfold lstL; rw [List.take_length, List.drop_length, List.map_nil, List.append_nil]
theorem lstL_none (pre : ByteArray) (ss : List Nat) : (lstL pre ss 0).flatten = ss.flatMap newC := by
  unfold lstL; rw [List.take_zero, List.map_nil, List.nil_append, List.drop_zero, List.flatMap_def]
theorem lst_asks {w : World} {B g n cap : Nat} {pre : ByteArray} {ss : List Nat} (h : w.ownsRow B 47 11 (.slice (some ⟨g, 0, none⟩) n cap) n (ss.map (lstC pre)).flatten) (hn : ss.length = n) : IsAsks w (.slice (some ⟨g, 0, none⟩) n cap) (ss.map (lstA' pre)) := by
  rcases id h.2 with ⟨hv, _⟩ | ⟨g', cap', cur, hv, _, hg, _⟩
  · cases hv
  · cases hv
    refine ⟨_, cap, by rw [List.length_map, hn], Or.inr ⟨g, 0, rfl, (Array.getElem?_eq_some_iff.1 hg).1, fun i hi => ?_⟩⟩
    rw [List.length_map] at hi
    have hx : (ss.map (lstA' pre)).getD i dAsk = lstA' pre (ss.getD i 0) := by
      rw [List.getD_eq_getElem?_getD, List.getElem?_map, List.getElem?_eq_getElem hi, List.getD_eq_getElem?_getD, List.getElem?_eq_getElem hi]; rfl
    rw [hx]
    refine ⟨.slice none 0 0, .slice none 0 0, .slice none 0 0, .slice none 0 0, fun j u hu => ?_, IsL.nil _ _ _ _, IsL.nil _ _ _ _, IsL.nil _ _ _ _, IsL.nil _ _ _ _⟩
    have hj : j < 11 := (Array.getElem?_eq_some_iff.1 hu).1
    rw [Nat.zero_add, World.ownsRow.cellAt h (i * 11 + j) (by omega)]
    refine flatten_at (fun x hx => by obtain ⟨_, _, rfl⟩ := List.mem_map.1 hx; rfl) i (lstC pre (ss.getD i 0)) (by rw [List.getElem?_map, List.getElem?_eq_getElem hi, List.getD_eq_getElem?_getD, List.getElem?_eq_getElem hi]; rfl) j u ?_
    have hu2 : (lstC pre (ss.getD i 0)).toArray[j]? = some u := hu
    simpa using hu2
def RefLG (pre : ByteArray) (sp : List (Nat × Nat)) (w : World) (e : Ending) (w' : World) : Prop :=
  ∃ (v : Value) (SH : List Nat), e = .returned (.tuple #[v, .int .i64 0]) ∧ SH.Pairwise (· < ·) ∧ (∀ s, s ∈ SH ↔ ∃ k, k < sp.length ∧ (sp.getD k d0).2 = s) ∧ IsAsks w' v (SH.map (lstA' pre)) ∧ Below w.heap.size w w'

set_option maxRecDepth 100000 in
set_option maxHeartbeats 4000000 in
theorem ref28_asks_list (r e : Nat) (sp : List (Nat × Nat)) (rds : List Rd) (eds : List Ed) (aR : Option Addr) (nr cR : Nat) (aE : Option Addr) (ne cE : Nat) (pre : ByteArray) (f t tw : Nat) (w : World) (hD : DocAt w r e sp) (hl : sp.length ≤ 2048) (hl1 : 1 ≤ sp.length)
    (hR : IsRds w (.slice aR nr cR) rds) (hE : IsEds w (.slice aE ne cE) eds) (hsr : ∀ r ∈ rds, SmallRd r) (hse : ∀ x ∈ eds, SmallEd x) (hlr : rds.length ≤ 1000) (hle : eds.length ≤ 1000) (hp : pre.size ≤ 140737488351232) (hok : mayZ 2 rds eds pre f t tw = 0) :
    Calls Tryz.prog 12 #[.pointer (some ⟨r, 0, none⟩), .agg (callC 2 (.slice aR nr cR) (.slice aE ne cE) pre f t tw)] w (RefLG pre sp w) := by
  have HMAY := Lib.hid (fun (W : World) (hW : Below w.heap.size w W) => ref28_may 2 rds eds (.slice aR nr cR) (.slice aE ne cE) pre f t tw W (hR.below hW (Nat.le_refl _)) (hE.below hW (Nat.le_refl _)) hsr hse hlr hle hp)
  rw [hok] at HMAY
  obtain ⟨gS, cS, hd1, hgl, hd2⟩ := id hD
  obtain ⟨L, hL⟩ : ∃ L, sp.length = L := ⟨_, rfl⟩
  rw [hL] at hd1 hd2 hl hl1
  have HDC := Lib.hid (fun (W : World) (h : Below w.heap.size w W) => show W.cell? ⟨r, 1, none⟩ = some (.slice (some ⟨gS, 0, none⟩) L cS) ∧ ∀ i, i < L → W.cell? ⟨gS, i * 2 + 1, none⟩ = some (.int .u32 ((sp.getD i d0).2 : Int)) from by
    refine ⟨cell_of ((h.block _ (lt_of_block hd1)).trans hd1) 1, fun i hi => (h.cell (p := ⟨gS, i * 2 + 1, none⟩) hgl).trans (hd2 i hi).2⟩)
  have HLL := Lib.hid hL
  clear hD hR hE hsr hse hlr hle hp hok hd1 hgl hd2 hL
  obtain ⟨W0, hW0⟩ : ∃ W0, w.alloc (.cells (callC 2 (.slice aR nr cR) (.slice aE ne cE) pre f t tw) 30) = W0 := ⟨_, rfl⟩
  obtain ⟨hz0, hblk, hB0⟩ := alloc_keep hW0
  have hlt0 : w.heap.size < W0.heap.size := by omega
  have KP := Lib.hid (fun (W : World) (h : Below W0.heap.size W0 W) => show W.cell? ⟨w.heap.size, 0, none⟩ = some (.int .u8 ((2 : Nat) : Int)) ∧ W.cell? ⟨w.heap.size, 3, none⟩ = some (.string pre) by
    have hb := (h.block _ hlt0).trans hblk
    exact ⟨cell_of hb 0, cell_of hb 3⟩)
  have c0 : W0.cell? ⟨w.heap.size, 0, none⟩ = some (.int .u8 ((2 : Nat) : Int)) := cell_of hblk 0
  have c1 : W0.cell? ⟨w.heap.size, 1, none⟩ = some (.slice aR nr cR) := cell_of hblk 1
  have c2 : W0.cell? ⟨w.heap.size, 2, none⟩ = some (.slice aE ne cE) := cell_of hblk 2
  have c3 : W0.cell? ⟨w.heap.size, 3, none⟩ = some (.string pre) := cell_of hblk 3
  have c4 : W0.cell? ⟨w.heap.size, 4, none⟩ = some (.int .u64 (f : Int)) := cell_of hblk 4
  have c5 : W0.cell? ⟨w.heap.size, 5, none⟩ = some (.int .u64 (t : Int)) := cell_of hblk 5
  have c6 : W0.cell? ⟨w.heap.size, 6, none⟩ = some (.int .u32 (tw : Int)) := cell_of hblk 6
  have HB0 := Lib.hid hB0
  clear hz0 hblk hB0 hlt0
  go_enter Tryz.func12, Tryz.ntmps12
  go_upto_region 1 with fail
  clear hW0
  go_wp2_with fail
  refine (HMAY.out W0 HB0.out).mono ?_
  rintro en w1 ⟨rfl, hb1⟩
  obtain ⟨x0, x3⟩ := KP.out w1 hb1
  have HB1 := Lib.hid hb1
  have HBW1 := Lib.hid (HB0.out.trans (hb1.mono HB0.out.size))
  have hzw : w.heap.size < w1.heap.size := block_lt_of_cell x0
  clear hb1 c0 c1 c2 c3 c4 c5 c6 HMAY
  go_wp2_with fail
  clear x0 x3
  go_loopw [7, 8] (fun vl vi wr => ∃ (k n : Nat) (v : Value) (ss : List Nat), k ≤ L ∧ n ≤ k ∧ vi = .int .i64 k ∧ v = vl ∧ Hid (wr.ownsRow w1.heap.size 47 11 v n (ss.flatMap newC)) ∧ Hid (ss.length = n) ∧ Hid (ss.Pairwise (· < ·)) ∧ Hid (∀ x, x ∈ ss ↔ ∃ j, j < k ∧ (sp.getD j d0).2 = x) ∧ Hid (Below w1.heap.size w1 wr)) (fun _ vi _ => L - (intOf vi).toNat)
  case atStart => exact ⟨0, 0, _, [], Nat.zero_le _, Nat.le_refl _, rfl, rfl, Lib.hid (World.ownsRow_nil _ _ _ _), Lib.hid rfl, Lib.hid List.Pairwise.nil, Lib.hid (fun x => ⟨fun h => by simp at h, fun ⟨j, hj, _⟩ => by omega⟩), Lib.hid (Below.refl _ _)⟩
  case round =>
    obtain ⟨k, n, v, ss, hk, hnk, rfl, rfl, HROW, HN, HRS, HME, HBr⟩ := hrel
    have HBE := Lib.hid (HBW1.out.trans (HBr.out.mono HBW1.out.size))
    obtain ⟨d1, d2⟩ := HDC.out wr HBE.out
    by_cases hlt : k < L
    · have hki : (k : Int) < (L : Int) := by omega
      have d3 := d2 k hlt
      obtain ⟨s, hs⟩ : ∃ s, (sp.getD k d0).2 = s := ⟨_, rfl⟩
      rw [hs] at d3
      have HS := Lib.hid hs
      have HASK := Lib.hid (ref28_ask ss s n w1.heap.size v wr HROW.out HN.out HRS.out HBr.out.size (by omega))
      clear d2 hs
      go_wp2_with fail
      refine HASK.out.mono ?_
      rintro en w5 ⟨v', n', ss', rfl, hrow, hn', hris', hmem', hle', hb5⟩
      have HR5 := Lib.hid hrow; have HN5 := Lib.hid hn'; have HRS5 := Lib.hid hris'
      have HB5 := Lib.hid (HBr.out.trans (hb5.mono HBr.out.size))
      have HLE : Hid (n' ≤ n + 1) := Lib.hid (by rw [← HN.out]; exact hle')
      have HM5 : Hid (∀ x, x ∈ ss' ↔ ∃ j, j < k + 1 ∧ (sp.getD j d0).2 = x) := Lib.hid (fun x => by
        rw [hmem' x, HME.out x]
        constructor
        · rintro (⟨j, hj, e⟩ | e)
          · exact ⟨j, by omega, e⟩
          · exact ⟨k, by omega, by rw [HS.out]; exact e.symm⟩
        · rintro ⟨j, hj, e⟩
          by_cases hjk : j = k
          · subst hjk; exact Or.inr (by rw [← e]; exact HS.out)
          · exact Or.inl ⟨j, by omega, e⟩)
      clear hrow hn' hris' hmem' hle' hb5 d1 d3 HASK
      go_wp2_with fail
      go_roundw
      case rel => exact ⟨k + 1, n', v', ss', by omega, by have := HLE.out; omega, by go_num, rfl, HR5, HN5, HRS5, HM5, HB5⟩
      case measure => simp [intOf]; omega
    obtain rfl : k = L := by omega
    have hki : ¬ (k : Int) < (k : Int) := by omega
    have hn1 : 1 ≤ n := by
      rw [← HN.out]
      exact List.length_pos_iff.2 (fun e => by have := (HME.out (sp.getD 0 d0).2).2 ⟨0, by omega, rfl⟩; rw [e] at this; simp at this)
    obtain ⟨g, cap, rfl⟩ : ∃ g cap, v = .slice (some ⟨g, 0, none⟩) n cap := by
      rcases HROW.out.2 with ⟨_, h0⟩ | ⟨g, cap, cur, hv, _⟩
      · omega
      · exact ⟨g, cap, hv⟩
    have HR0 : Hid (wr.ownsRow w1.heap.size 47 11 (.slice (some ⟨g, 0, none⟩) n cap) n (lstL pre ss 0).flatten) := Lib.hid (by rw [lstL_none]; exact HROW.out)
    have hgw : w1.heap.size ≤ g := by
      rcases HROW.out.2 with ⟨hv, _⟩ | ⟨g', cap', cur, hv, hB, _⟩
      · cases hv
      · cases hv; exact hB
    clear d2
    go_wp2_with fail
    clear d1
    go_loopw [9] (fun vi wr => ∃ i : Nat, i ≤ n ∧ vi = .int .i64 i ∧ Hid (wr.ownsRow w1.heap.size 47 11 (.slice (some ⟨g, 0, none⟩) n cap) n (lstL pre ss i).flatten) ∧ Hid (Below w1.heap.size w1 wr)) (fun vi _ => n - (intOf vi).toNat)
    case atStart => exact ⟨0, Nat.zero_le _, rfl, HR0, HBr⟩
    case round =>
      clear HR0 HROW HBr HBE
      obtain ⟨i, hi, rfl, HROW, HBr⟩ := hrel
      have HBE := Lib.hid (HBW1.out.trans (HBr.out.mono HBW1.out.size))
      by_cases hlt : i < n
      · have hii : (i : Int) < (n : Int) := by omega
        have hil : i < ss.length := by rw [HN.out]; exact hlt
        have hgt := lstL_get pre ss i hil
        have hsu := lstL_succ pre ss i hil
        obtain ⟨s, hs⟩ : ∃ s, ss.getD i 0 = s := ⟨_, rfl⟩
        rw [hs] at hgt hsu
        have hcl : ∀ j u, (newC s)[j]? = some u → wr.cell? ⟨g, i * 11 + j, none⟩ = some u := fun j u hu => by
          have hj : j < 11 := (List.getElem?_eq_some_iff.1 hu).1
          rw [World.ownsRow.cellAt HROW.out (i * 11 + j) (by omega)]
          exact flatten_at (lstL_11 pre ss i) i _ hgt j u hu
        have k0 : wr.cell? ⟨g, i * 11, none⟩ = some (.int .u32 (s : Int)) := hcl 0 _ rfl
        have k1 : wr.cell? ⟨g, i * 11 + 1, none⟩ = some (.slice none 0 0) := hcl 1 _ rfl
        have k2 : wr.cell? ⟨g, i * 11 + 2, none⟩ = some (.slice none 0 0) := hcl 2 _ rfl
        have k3 : wr.cell? ⟨g, i * 11 + 3, none⟩ = some (.slice none 0 0) := hcl 3 _ rfl
        have k4 : wr.cell? ⟨g, i * 11 + 4, none⟩ = some (.slice none 0 0) := hcl 4 _ rfl
        have k5 : wr.cell? ⟨g, i * 11 + 5, none⟩ = some (.bool false) := hcl 5 _ rfl
        have k6 : wr.cell? ⟨g, i * 11 + 6, none⟩ = some (.string ⟨#[]⟩) := hcl 6 _ rfl
        have k7 : wr.cell? ⟨g, i * 11 + 7, none⟩ = some (.bool false) := hcl 7 _ rfl
        have k8 : wr.cell? ⟨g, i * 11 + 8, none⟩ = some (.bool false) := hcl 8 _ rfl
        have k9 : wr.cell? ⟨g, i * 11 + 9, none⟩ = some (.int .u64 0) := hcl 9 _ rfl
        have k10 : wr.cell? ⟨g, i * 11 + 10, none⟩ = some (.int .u64 0) := hcl 10 _ rfl
        have HSU := Lib.hid hsu
        have HGT := Lib.hid hgt; have HIL := Lib.hid hil
        clear hcl hgt hsu hs hil
        go_upto_region 15 with fail
        obtain ⟨W3, hW3⟩ : ∃ W3, wr.alloc (.cells #[.int .u32 (s : Int), .slice none 0 0, .slice none 0 0, .slice none 0 0, .slice none 0 0, .bool false, .string ⟨#[]⟩, .bool false, .bool false, .int .u64 0, .int .u64 0] 47) = W3 := ⟨_, rfl⟩
        obtain ⟨hz3, hg3, hb3⟩ := alloc_keep hW3
        have hgq : g < wr.heap.size := block_lt_of_cell k0
        have hr3 : W3.ownsRow w1.heap.size 47 11 (.slice (some ⟨g, 0, none⟩) n cap) n (lstL pre ss i).flatten := by rw [← hW3]; exact HROW.out.alloc _
        obtain ⟨q, hq⟩ : ∃ q, wr.heap.size = q := ⟨_, rfl⟩
        rw [hW3, hq]
        rw [hq] at hz3 hg3 hb3 hgq
        obtain ⟨W4, hW4⟩ : ∃ W4, W3.setCell ⟨q, 5, none⟩ (.bool true) = W4 := ⟨_, rfl⟩
        obtain ⟨W5, hW5⟩ : ∃ W5, W4.setCell ⟨q, 6, none⟩ (.string pre) = W5 := ⟨_, rfl⟩
        have hg4 : W4.heap[q]? = some (.cells #[.int .u32 (s : Int), .slice none 0 0, .slice none 0 0, .slice none 0 0, .slice none 0 0, .bool true, .string ⟨#[]⟩, .bool false, .bool false, .int .u64 0, .int .u64 0] 47 (0, 0)) := by rw [← hW4]; exact setCell_block hg3 _
        have hg5 : W5.heap[q]? = some (.cells #[.int .u32 (s : Int), .slice none 0 0, .slice none 0 0, .slice none 0 0, .slice none 0 0, .bool true, .string pre, .bool false, .bool false, .int .u64 0, .int .u64 0] 47 (0, 0)) := by rw [← hW5]; exact setCell_block hg4 _
        have hr4 : W4.ownsRow w1.heap.size 47 11 (.slice (some ⟨g, 0, none⟩) n cap) n (lstL pre ss i).flatten := by rw [← hW4]; exact ownsRow_setCell_other hr3 (by intro e; have h2 : g = q := Option.some.inj e; omega) _
        have hr5 : W5.ownsRow w1.heap.size 47 11 (.slice (some ⟨g, 0, none⟩) n cap) n (lstL pre ss i).flatten := by rw [← hW5]; exact ownsRow_setCell_other hr4 (by intro e; have h2 : g = q := Option.some.inj e; omega) _
        have hqw : w1.heap.size ≤ q := by rw [← hq]; exact HBr.out.size
        have hb3w : Below w1.heap.size w1 W3 := HBr.out.trans (hb3.mono hqw)
        have hb4w : Below w1.heap.size w1 W4 := by rw [← hW4]; exact hb3w.setCell (by dsimp only; omega) _
        have hb5w : Below w1.heap.size w1 W5 := by rw [← hW5]; exact hb4w.setCell (by dsimp only; omega) _
        have y3 := (KP.out W4 (HB1.out.trans (hb4w.mono HB1.out.size))).2
        have q5 : W3.cell? ⟨q, 5, none⟩ = some (.bool false) := cell_of hg3 5
        have p5 : W3.frozen? ⟨q, 5, none⟩ = false := frozen_of hg3 5
        have q6 : W4.cell? ⟨q, 6, none⟩ = some (.string ⟨#[]⟩) := cell_of hg4 6
        have p6 : W4.frozen? ⟨q, 6, none⟩ = false := frozen_of hg4 6
        have m0 : W5.cell? ⟨q, 0, none⟩ = some (.int .u32 (s : Int)) := cell_of hg5 0
        have m1 : W5.cell? ⟨q, 1, none⟩ = some (.slice none 0 0) := cell_of hg5 1
        have m2 : W5.cell? ⟨q, 2, none⟩ = some (.slice none 0 0) := cell_of hg5 2
        have m3 : W5.cell? ⟨q, 3, none⟩ = some (.slice none 0 0) := cell_of hg5 3
        have m4 : W5.cell? ⟨q, 4, none⟩ = some (.slice none 0 0) := cell_of hg5 4
        have m5 : W5.cell? ⟨q, 5, none⟩ = some (.bool true) := cell_of hg5 5
        have m6 : W5.cell? ⟨q, 6, none⟩ = some (.string pre) := cell_of hg5 6
        have m7 : W5.cell? ⟨q, 7, none⟩ = some (.bool false) := cell_of hg5 7
        have m8 : W5.cell? ⟨q, 8, none⟩ = some (.bool false) := cell_of hg5 8
        have m9 : W5.cell? ⟨q, 9, none⟩ = some (.int .u64 0) := cell_of hg5 9
        have m10 : W5.cell? ⟨q, 10, none⟩ = some (.int .u64 0) := cell_of hg5 10
        have hcl5 : ∀ j u, (newC s)[j]? = some u → W5.cell? ⟨g, i * 11 + j, none⟩ = some u := fun j u hu => by
          have hj : j < 11 := (List.getElem?_eq_some_iff.1 hu).1
          rw [World.ownsRow.cellAt hr5 (i * 11 + j) (by omega)]
          exact flatten_at (lstL_11 pre ss i) i _ HGT.out j u hu
        have n0 : W5.cell? ⟨g, i * 11, none⟩ = some (.int .u32 (s : Int)) := hcl5 0 _ rfl
        have n1 : W5.cell? ⟨g, i * 11 + 1, none⟩ = some (.slice none 0 0) := hcl5 1 _ rfl
        have n2 : W5.cell? ⟨g, i * 11 + 2, none⟩ = some (.slice none 0 0) := hcl5 2 _ rfl
        have n3 : W5.cell? ⟨g, i * 11 + 3, none⟩ = some (.slice none 0 0) := hcl5 3 _ rfl
        have n4 : W5.cell? ⟨g, i * 11 + 4, none⟩ = some (.slice none 0 0) := hcl5 4 _ rfl
        have n5 : W5.cell? ⟨g, i * 11 + 5, none⟩ = some (.bool false) := hcl5 5 _ rfl
        have n6 : W5.cell? ⟨g, i * 11 + 6, none⟩ = some (.string ⟨#[]⟩) := hcl5 6 _ rfl
        have n7 : W5.cell? ⟨g, i * 11 + 7, none⟩ = some (.bool false) := hcl5 7 _ rfl
        have n8 : W5.cell? ⟨g, i * 11 + 8, none⟩ = some (.bool false) := hcl5 8 _ rfl
        have n9 : W5.cell? ⟨g, i * 11 + 9, none⟩ = some (.int .u64 0) := hcl5 9 _ rfl
        have n10 : W5.cell? ⟨g, i * 11 + 10, none⟩ = some (.int .u64 0) := hcl5 10 _ rfl
        obtain ⟨cur, hcur⟩ : ∃ cur, W5.heap[g]? = some (.cells cur 47 (0, 0)) := by
          rcases hr5.2 with ⟨hv, _⟩ | ⟨g', cap', cur, hv, _, hgb, _⟩
          · cases hv
          · cases hv; exact ⟨cur, hgb⟩
        have z0 : W5.frozen? ⟨g, i * 11, none⟩ = false := frozen_of hcur _
        have z1 : W5.frozen? ⟨g, i * 11 + 1, none⟩ = false := frozen_of hcur _
        have z2 : W5.frozen? ⟨g, i * 11 + 2, none⟩ = false := frozen_of hcur _
        have z3 : W5.frozen? ⟨g, i * 11 + 3, none⟩ = false := frozen_of hcur _
        have z4 : W5.frozen? ⟨g, i * 11 + 4, none⟩ = false := frozen_of hcur _
        have z5 : W5.frozen? ⟨g, i * 11 + 5, none⟩ = false := frozen_of hcur _
        have z6 : W5.frozen? ⟨g, i * 11 + 6, none⟩ = false := frozen_of hcur _
        have z7 : W5.frozen? ⟨g, i * 11 + 7, none⟩ = false := frozen_of hcur _
        have z8 : W5.frozen? ⟨g, i * 11 + 8, none⟩ = false := frozen_of hcur _
        have z9 : W5.frozen? ⟨g, i * 11 + 9, none⟩ = false := frozen_of hcur _
        have z10 : W5.frozen? ⟨g, i * 11 + 10, none⟩ = false := frozen_of hcur _
        have HR5 := Lib.hid hr5; have HB5 := Lib.hid hb5w; have HGW := Lib.hid hgw
        clear hz3 hg3 hb3 hr3 hW3 hq hg4 hg5 hr4 hr5 hb3w hb4w hb5w hcl5 hcur k0 k1 k2 k3 k4 k5 k6 k7 k8 k9 k10
        go_wp2_with fail
        go_roundw
        case rel =>
          refine ⟨i + 1, by omega, by go_num, Lib.hid ?_, Lib.hid ?_⟩
          · rw [← HSU.out]
            exact row_put11 HR5.out (lstL_11 pre ss i) (by rw [lstL_len]; exact HIL.out) rfl _ _ _ _ _ _ _ _ _ _ _
          · have := HGW.out
            repeat (refine Below.setCell ?_ (by dsimp only; omega) _)
            exact HB5.out
        case measure => simp [intOf]; omega
      obtain rfl : i = n := by omega
      have hii : ¬ (i : Int) < (i : Int) := by omega
      have HFI : Hid (IsAsks wr (.slice (some ⟨g, 0, none⟩) i cap) (ss.map (lstA' pre))) := Lib.hid (lst_asks (by
        have h := HROW.out
        rw [← HN.out, lstL_all] at h
        rw [← HN.out]; exact h) HN.out)
      go_wp2_with fail
      go_ret2
      refine ⟨_, ss, rfl, HRS.out, fun x => ?_, HFI.out, HBE.out⟩
      rw [HME.out x, HLL.out]
end Go.Proofs.YtggdkfijioeijaaGreatDoor

namespace Go.Proofs.YtggdkfijioeijaaGreatDoor
open Go Go.RowKit
def splC (was tw f t s : Nat) : List Value := [.int .u32 (s : Int), .slice none 0 0, .slice none 0 0, .slice none 0 0, .slice none 0 0, .bool false, .string ⟨#[]⟩, .bool (decide (s = was)), .bool (decide (s = tw)), .int .u64 (f : Int), .int .u64 (t : Int)]
theorem splC_len {was tw f t : Nat} (s : Nat) : (splC was tw f t s).length = 11 := rfl
def genL (C : Nat → List Value) (ss : List Nat) (i : Nat) : List (List Value) := (ss.take i).map C ++ (ss.drop i).map newC
theorem genL_len (C : Nat → List Value) (ss : List Nat) (i : Nat) : (genL C ss i).length = ss.length := by
  unfold genL; rw [List.length_append, List.length_map, List.length_map, ← List.length_append, List.take_append_drop]
theorem genL_11 {C : Nat → List Value} (hC : ∀ s, (C s).length = 11) (ss : List Nat) (i : Nat) : ∀ x ∈ genL C ss i, x.length = 11 := fun x hx => by
  rcases List.mem_append.1 hx with h | h
  · obtain ⟨s, _, rfl⟩ := List.mem_map.1 h; exact hC s
  · obtain ⟨_, _, rfl⟩ := List.mem_map.1 h; rfl
theorem genL_succ (C : Nat → List Value) (ss : List Nat) (i : Nat) (h : i < ss.length) : (genL C ss i).set i (C (ss.getD i 0)) = genL C ss (i + 1) := by
  unfold genL
  have h1 : ss.drop i = ss.getD i 0 :: ss.drop (i + 1) := by
    rw [List.drop_eq_getElem_cons h, List.getD_eq_getElem?_getD, List.getElem?_eq_getElem h]; rfl
  have h2 : ss.take (i + 1) = ss.take i ++ [ss.getD i 0] := by
    rw [List.take_succ_eq_append_getElem h, List.getD_eq_getElem?_getD, List.getElem?_eq_getElem h]; rfl
  have hl : ((ss.take i).map C).length = i := by rw [List.length_map, List.length_take]; omega
  rw [h1, h2, List.set_append_right _ _ (by omega), hl, Nat.sub_self, List.map_cons, List.set_cons_zero, List.map_append, List.append_assoc]; rfl
theorem genL_get (C : Nat → List Value) (ss : List Nat) (i : Nat) (h : i < ss.length) : (genL C ss i)[i]? = some (newC (ss.getD i 0)) := by
  unfold genL
  have hl : ((ss.take i).map C).length = i := by rw [List.length_map, List.length_take]; omega
  rw [List.getElem?_append_right (by omega), hl, Nat.sub_self, List.getElem?_map, List.getElem?_drop, Nat.add_zero, List.getD_eq_getElem?_getD, List.getElem?_eq_getElem h]; rfl
theorem genL_all (C : Nat → List Value) (ss : List Nat) : genL C ss ss.length = ss.map C := by
  unfold genL; rw [List.take_length, List.drop_length, List.map_nil, List.append_nil]
theorem genL_none (C : Nat → List Value) (ss : List Nat) : (genL C ss 0).flatten = ss.flatMap newC := by
  unfold genL; rw [List.take_zero, List.map_nil, List.nil_append, List.drop_zero, List.flatMap_def]
theorem spl_asks {w : World} {B g n cap was tw f t : Nat} {ss : List Nat} (h : w.ownsRow B 47 11 (.slice (some ⟨g, 0, none⟩) n cap) n (ss.map (splC was tw f t)).flatten) (hn : ss.length = n) : IsAsks w (.slice (some ⟨g, 0, none⟩) n cap) (ss.map (splA was tw f t)) := by
  rcases id h.2 with ⟨hv, _⟩ | ⟨g', cap', cur, hv, _, hg, _⟩
  · cases hv
  · cases hv
    refine ⟨_, cap, by rw [List.length_map, hn], Or.inr ⟨g, 0, rfl, (Array.getElem?_eq_some_iff.1 hg).1, fun i hi => ?_⟩⟩
    rw [List.length_map] at hi
    have hx : (ss.map (splA was tw f t)).getD i dAsk = splA was tw f t (ss.getD i 0) := by
      rw [List.getD_eq_getElem?_getD, List.getElem?_map, List.getElem?_eq_getElem hi, List.getD_eq_getElem?_getD, List.getElem?_eq_getElem hi]; rfl
    rw [hx]
    refine ⟨.slice none 0 0, .slice none 0 0, .slice none 0 0, .slice none 0 0, fun j u hu => ?_, IsL.nil _ _ _ _, IsL.nil _ _ _ _, IsL.nil _ _ _ _, IsL.nil _ _ _ _⟩
    have hj : j < 11 := (Array.getElem?_eq_some_iff.1 hu).1
    rw [Nat.zero_add, World.ownsRow.cellAt h (i * 11 + j) (by omega)]
    refine flatten_at (fun x hx => by obtain ⟨_, _, rfl⟩ := List.mem_map.1 hx; rfl) i (splC was tw f t (ss.getD i 0)) (by rw [List.getElem?_map, List.getElem?_eq_getElem hi, List.getD_eq_getElem?_getD, List.getElem?_eq_getElem hi]; rfl) j u ?_
    have hu2 : (splC was tw f t (ss.getD i 0)).toArray[j]? = some u := hu
    simpa using hu2

set_option maxRecDepth 100000 in
set_option maxHeartbeats 4000000 in
theorem ref28_asks_split (r e : Nat) (sp : List (Nat × Nat)) (O : Nat → Nat) (rds : List Rd) (eds : List Ed) (aR : Option Addr) (nr cR : Nat) (aE : Option Addr) (ne cE : Nat) (pre : ByteArray) (f t tw : Nat) (w : World) (hD : DocAt w r e sp) (hl : sp.length ≤ 10000) (hS : SpI O sp M64) (hO : ∀ u, 1 ≤ O u) (ht : t < M64)
    (hR : IsRds w (.slice aR nr cR) rds) (hE : IsEds w (.slice aE ne cE) eds) (hsr : ∀ r ∈ rds, SmallRd r) (hse : ∀ x ∈ eds, SmallEd x) (hlr : rds.length ≤ 1000) (hle : eds.length ≤ 1000) (hp : pre.size ≤ 140737488351232) (hok : mayZ 3 rds eds pre f t tw = 0) :
    Calls Tryz.prog 12 #[.pointer (some ⟨r, 0, none⟩), .agg (callC 3 (.slice aR nr cR) (.slice aE ne cE) pre f t tw)] w (AsksSG O f t tw ((e + 1) % M64) sp w) := by
  have HMAY := Lib.hid (fun (W : World) (hW : Below w.heap.size w W) => ref28_may 3 rds eds (.slice aR nr cR) (.slice aE ne cE) pre f t tw W (hR.below hW (Nat.le_refl _)) (hE.below hW (Nat.le_refl _)) hsr hse hlr hle hp)
  rw [hok] at HMAY
  have HSM := Lib.hid (fun (W : World) (hW : Below w.heap.size w W) => d27_Split r e f t tw sp W (hD.below hW) hl O hS ht hO)
  clear hD hS hR hE hsr hse hlr hle hp hok
  obtain ⟨W0, hW0⟩ : ∃ W0, w.alloc (.cells (callC 3 (.slice aR nr cR) (.slice aE ne cE) pre f t tw) 30) = W0 := ⟨_, rfl⟩
  obtain ⟨hz0, hblk, hB0⟩ := alloc_keep hW0
  have hlt0 : w.heap.size < W0.heap.size := by omega
  have KP := Lib.hid (fun (W : World) (h : Below W0.heap.size W0 W) => show W.cell? ⟨w.heap.size, 0, none⟩ = some (.int .u8 ((3 : Nat) : Int)) ∧ W.cell? ⟨w.heap.size, 4, none⟩ = some (.int .u64 (f : Int)) ∧ W.cell? ⟨w.heap.size, 5, none⟩ = some (.int .u64 (t : Int)) ∧ W.cell? ⟨w.heap.size, 6, none⟩ = some (.int .u32 (tw : Int)) by
    have hb := (h.block _ hlt0).trans hblk
    exact ⟨cell_of hb 0, cell_of hb 4, cell_of hb 5, cell_of hb 6⟩)
  have c0 : W0.cell? ⟨w.heap.size, 0, none⟩ = some (.int .u8 ((3 : Nat) : Int)) := cell_of hblk 0
  have c1 : W0.cell? ⟨w.heap.size, 1, none⟩ = some (.slice aR nr cR) := cell_of hblk 1
  have c2 : W0.cell? ⟨w.heap.size, 2, none⟩ = some (.slice aE ne cE) := cell_of hblk 2
  have c3 : W0.cell? ⟨w.heap.size, 3, none⟩ = some (.string pre) := cell_of hblk 3
  have c4 : W0.cell? ⟨w.heap.size, 4, none⟩ = some (.int .u64 (f : Int)) := cell_of hblk 4
  have c5 : W0.cell? ⟨w.heap.size, 5, none⟩ = some (.int .u64 (t : Int)) := cell_of hblk 5
  have c6 : W0.cell? ⟨w.heap.size, 6, none⟩ = some (.int .u32 (tw : Int)) := cell_of hblk 6
  have HB0 := Lib.hid hB0
  clear hz0 hblk hB0 hlt0
  go_enter Tryz.func12, Tryz.ntmps12
  go_upto_region 1 with fail
  clear hW0
  go_wp2_with fail
  refine (HMAY.out W0 HB0.out).mono ?_
  rintro en w1 ⟨rfl, hb1⟩
  obtain ⟨x0, x4, x5, x6⟩ := KP.out w1 hb1
  have HB1 := Lib.hid hb1
  have HBW1 := Lib.hid (HB0.out.trans (hb1.mono HB0.out.size))
  have hzw : w.heap.size < w1.heap.size := block_lt_of_cell x0
  clear hb1 c0 c1 c2 c3 c4 c5 c6 HMAY
  go_wp2_with fail
  go_wp2_with fail
  refine (HSM.out _ HBW1.out).mono ?_
  rintro en w3 ⟨hb3, c, hc, ⟨hn, rfl⟩ | ⟨rfl, d, rfl, _⟩⟩
  · have hcb : (c != 0) = true := by simpa using hn
    have HB3 := Lib.hid (HBW1.out.trans (hb3.mono HBW1.out.size))
    have HC := Lib.hid hc; have HNE := Lib.hid hn
    clear hb3 hc hn x0 x4 x5 x6
    go_wp2_with fail
    go_ret2
    exact ⟨c, HC.out, HB3.out, Or.inl ⟨HNE.out, rfl⟩⟩
  have HC := Lib.hid hc
  obtain ⟨was, hwas⟩ : ∃ x, O f = x := ⟨_, rfl⟩
  have hne : was ≠ tw := by have := hc.zero.2.1.2; rwa [hwas] at this
  rw [hwas]
  have HWAS := Lib.hid hwas
  have HB3 := Lib.hid hb3
  have HK1 := Lib.hid (ref28_ask [] was 0 w1.heap.size (.slice none 0 0) w3 (World.ownsRow_nil _ _ _ _) rfl List.Pairwise.nil hb3.size (by decide))
  clear hb3 hc hwas x0 x4 x5 x6 HSM
  go_wp2_with fail
  refine HK1.out.mono ?_
  rintro en w4 ⟨v4, n4, s4, rfl, hr4, hn4, hs4, hm4, hl4, hb4⟩
  have HB4 := Lib.hid (HB3.out.trans (hb4.mono HB3.out.size))
  have HK2 := Lib.hid (ref28_ask s4 tw n4 w1.heap.size v4 w4 hr4 hn4 hs4 HB4.out.size (by have : n4 ≤ 0 + 1 := hl4; omega))
  obtain ⟨x0, x4, x5, x6⟩ := KP.out w4 (HB1.out.trans (HB4.out.mono HB1.out.size))
  have HM4 := Lib.hid hm4; have HN4 : Hid (s4.length ≤ 1) := Lib.hid (by rw [hn4]; exact hl4)
  clear hr4 hn4 hs4 hm4 hl4 hb4 HK1
  go_wp2_with fail
  refine HK2.out.mono ?_
  rintro en w5 ⟨v, n, ss, rfl, hr5, hn5, hs5, hm5, hl5, hb5⟩
  have HB5 := Lib.hid (HB4.out.trans (hb5.mono HB4.out.size))
  have HN := Lib.hid hn5; have HRS := Lib.hid hs5
  have HME : Hid (∀ x, x ∈ ss ↔ x = was ∨ x = tw) := Lib.hid (fun x => by
    rw [hm5 x, HM4.out x]
    constructor
    · rintro ((h | h) | h)
      · simp at h
      · exact Or.inl h
      · exact Or.inr h
    · rintro (h | h)
      · exact Or.inl (Or.inr h)
      · exact Or.inr h)
  have hn1 : 1 ≤ n ∧ n ≤ 2 := ⟨by rw [← hn5]; exact List.length_pos_iff.2 (fun e => by have := (HME.out tw).2 (Or.inr rfl); rw [e] at this; simp at this), by have := HN4.out; omega⟩
  obtain ⟨g, cap, rfl⟩ : ∃ g cap, v = .slice (some ⟨g, 0, none⟩) n cap := by
    rcases hr5.2 with ⟨_, h0⟩ | ⟨g, cap, cur, hv, _⟩
    · omega
    · exact ⟨g, cap, hv⟩
  have HR0 : Hid (w5.ownsRow w1.heap.size 47 11 (.slice (some ⟨g, 0, none⟩) n cap) n (genL (splC was tw f t) ss 0).flatten) := Lib.hid (by rw [genL_none]; exact hr5)
  have hgw : w1.heap.size ≤ g := by
    rcases hr5.2 with ⟨hv, _⟩ | ⟨g', cap', cur, hv, hB, _⟩
    · cases hv
    · cases hv; exact hB
  clear hr5 hn5 hs5 hm5 hl5 hb5 x0 x4 x5 x6 HK2
  go_wp2_with fail
  go_loopw [14] (fun vi wr => ∃ i : Nat, i ≤ n ∧ vi = .int .i64 i ∧ Hid (wr.ownsRow w1.heap.size 47 11 (.slice (some ⟨g, 0, none⟩) n cap) n (genL (splC was tw f t) ss i).flatten) ∧ Hid (Below w1.heap.size w1 wr)) (fun vi _ => n - (intOf vi).toNat)
  case atStart => exact ⟨0, Nat.zero_le _, rfl, HR0, HB5⟩
  case round =>
    clear HR0
    obtain ⟨i, hi, rfl, HROW, HBr⟩ := hrel
    have HBE := Lib.hid (HBW1.out.trans (HBr.out.mono HBW1.out.size))
    by_cases hlt : i < n
    · have hii : (i : Int) < (n : Int) := by omega
      have hil : i < ss.length := by rw [HN.out]; exact hlt
      have hgt := genL_get (splC was tw f t) ss i hil
      have hsu := genL_succ (splC was tw f t) ss i hil
      obtain ⟨s, hs⟩ : ∃ s, ss.getD i 0 = s := ⟨_, rfl⟩
      rw [hs] at hgt hsu
      have hcl : ∀ j u, (newC s)[j]? = some u → wr.cell? ⟨g, i * 11 + j, none⟩ = some u := fun j u hu => by
        have hj : j < 11 := (List.getElem?_eq_some_iff.1 hu).1
        rw [World.ownsRow.cellAt HROW.out (i * 11 + j) (by omega)]
        exact flatten_at (genL_11 splC_len ss i) i _ hgt j u hu
      have k0 : wr.cell? ⟨g, i * 11, none⟩ = some (.int .u32 (s : Int)) := hcl 0 _ rfl
      have k1 : wr.cell? ⟨g, i * 11 + 1, none⟩ = some (.slice none 0 0) := hcl 1 _ rfl
      have k2 : wr.cell? ⟨g, i * 11 + 2, none⟩ = some (.slice none 0 0) := hcl 2 _ rfl
      have k3 : wr.cell? ⟨g, i * 11 + 3, none⟩ = some (.slice none 0 0) := hcl 3 _ rfl
      have k4 : wr.cell? ⟨g, i * 11 + 4, none⟩ = some (.slice none 0 0) := hcl 4 _ rfl
      have k5 : wr.cell? ⟨g, i * 11 + 5, none⟩ = some (.bool false) := hcl 5 _ rfl
      have k6 : wr.cell? ⟨g, i * 11 + 6, none⟩ = some (.string ⟨#[]⟩) := hcl 6 _ rfl
      have k7 : wr.cell? ⟨g, i * 11 + 7, none⟩ = some (.bool false) := hcl 7 _ rfl
      have k8 : wr.cell? ⟨g, i * 11 + 8, none⟩ = some (.bool false) := hcl 8 _ rfl
      have k9 : wr.cell? ⟨g, i * 11 + 9, none⟩ = some (.int .u64 0) := hcl 9 _ rfl
      have k10 : wr.cell? ⟨g, i * 11 + 10, none⟩ = some (.int .u64 0) := hcl 10 _ rfl
      obtain ⟨b1, hb1⟩ : ∃ b, ((s : Int) == (was : Int)) = b := ⟨_, rfl⟩
      obtain ⟨b2, hb2⟩ : ∃ b, ((s : Int) == (tw : Int)) = b := ⟨_, rfl⟩
      have e1 : decide (s = was) = b1 := by
        rw [← hb1]
        by_cases e : s = was
        · subst e; simp
        · rw [decide_eq_false e]; symm; rw [beq_eq_false_iff_ne]; omega
      have e2 : decide (s = tw) = b2 := by
        rw [← hb2]
        by_cases e : s = tw
        · subst e; simp
        · rw [decide_eq_false e]; symm; rw [beq_eq_false_iff_ne]; omega
      have hs2 : splC was tw f t s = [.int .u32 (s : Int), .slice none 0 0, .slice none 0 0, .slice none 0 0, .slice none 0 0, .bool false, .string ⟨#[]⟩, .bool b1, .bool b2, .int .u64 (f : Int), .int .u64 (t : Int)] := by unfold splC; rw [e1, e2]
      rw [hs2] at hsu
      have HSU := Lib.hid hsu
      have HGT := Lib.hid hgt; have HIL := Lib.hid hil
      clear hcl hgt hsu hs hil e1 e2 hs2
      go_upto_region 29 with fail
      obtain ⟨W3, hW3⟩ : ∃ W3, wr.alloc (.cells #[.int .u32 (s : Int), .slice none 0 0, .slice none 0 0, .slice none 0 0, .slice none 0 0, .bool false, .string ⟨#[]⟩, .bool false, .bool false, .int .u64 0, .int .u64 0] 47) = W3 := ⟨_, rfl⟩
      obtain ⟨hz3, hg3, hb3⟩ := alloc_keep hW3
      have hgq : g < wr.heap.size := block_lt_of_cell k0
      have hr3 : W3.ownsRow w1.heap.size 47 11 (.slice (some ⟨g, 0, none⟩) n cap) n (genL (splC was tw f t) ss i).flatten := by rw [← hW3]; exact HROW.out.alloc _
      obtain ⟨q, hq⟩ : ∃ q, wr.heap.size = q := ⟨_, rfl⟩
      rw [hW3, hq]
      rw [hq] at hz3 hg3 hb3 hgq
      obtain ⟨W4, hW4⟩ : ∃ U, W3.setCell ⟨q, 7, none⟩ (.bool b1) = U := ⟨_, rfl⟩
      have hg4 : W4.heap[q]? = some (.cells #[.int .u32 (s : Int), .slice none 0 0, .slice none 0 0, .slice none 0 0, .slice none 0 0, .bool false, .string ⟨#[]⟩, .bool b1, .bool false, .int .u64 0, .int .u64 0] 47 (0, 0)) := by rw [← hW4]; exact setCell_block hg3 _
      have hr4 : W4.ownsRow w1.heap.size 47 11 (.slice (some ⟨g, 0, none⟩) n cap) n (genL (splC was tw f t) ss i).flatten := by rw [← hW4]; exact ownsRow_setCell_other hr3 (by intro e; have h2 : g = q := Option.some.inj e; omega) _
      obtain ⟨W5, hW5⟩ : ∃ U, W4.setCell ⟨q, 8, none⟩ (.bool b2) = U := ⟨_, rfl⟩
      have hg5 : W5.heap[q]? = some (.cells #[.int .u32 (s : Int), .slice none 0 0, .slice none 0 0, .slice none 0 0, .slice none 0 0, .bool false, .string ⟨#[]⟩, .bool b1, .bool b2, .int .u64 0, .int .u64 0] 47 (0, 0)) := by rw [← hW5]; exact setCell_block hg4 _
      have hr5 : W5.ownsRow w1.heap.size 47 11 (.slice (some ⟨g, 0, none⟩) n cap) n (genL (splC was tw f t) ss i).flatten := by rw [← hW5]; exact ownsRow_setCell_other hr4 (by intro e; have h2 : g = q := Option.some.inj e; omega) _
      obtain ⟨W6, hW6⟩ : ∃ U, W5.setCell ⟨q, 9, none⟩ (.int .u64 (f : Int)) = U := ⟨_, rfl⟩
      have hg6 : W6.heap[q]? = some (.cells #[.int .u32 (s : Int), .slice none 0 0, .slice none 0 0, .slice none 0 0, .slice none 0 0, .bool false, .string ⟨#[]⟩, .bool b1, .bool b2, .int .u64 (f : Int), .int .u64 0] 47 (0, 0)) := by rw [← hW6]; exact setCell_block hg5 _
      have hr6 : W6.ownsRow w1.heap.size 47 11 (.slice (some ⟨g, 0, none⟩) n cap) n (genL (splC was tw f t) ss i).flatten := by rw [← hW6]; exact ownsRow_setCell_other hr5 (by intro e; have h2 : g = q := Option.some.inj e; omega) _
      obtain ⟨W7, hW7⟩ : ∃ U, W6.setCell ⟨q, 10, none⟩ (.int .u64 (t : Int)) = U := ⟨_, rfl⟩
      have hg7 : W7.heap[q]? = some (.cells #[.int .u32 (s : Int), .slice none 0 0, .slice none 0 0, .slice none 0 0, .slice none 0 0, .bool false, .string ⟨#[]⟩, .bool b1, .bool b2, .int .u64 (f : Int), .int .u64 (t : Int)] 47 (0, 0)) := by rw [← hW7]; exact setCell_block hg6 _
      have hr7 : W7.ownsRow w1.heap.size 47 11 (.slice (some ⟨g, 0, none⟩) n cap) n (genL (splC was tw f t) ss i).flatten := by rw [← hW7]; exact ownsRow_setCell_other hr6 (by intro e; have h2 : g = q := Option.some.inj e; omega) _
      have hqw : w1.heap.size ≤ q := by rw [← hq]; exact HBr.out.size
      have hb3w : Below w1.heap.size w1 W3 := HBr.out.trans (hb3.mono hqw)
      have hb4w : Below w1.heap.size w1 W4 := by rw [← hW4]; exact hb3w.setCell (by dsimp only; omega) _
      have hb5w : Below w1.heap.size w1 W5 := by rw [← hW5]; exact hb4w.setCell (by dsimp only; omega) _
      have hb6w : Below w1.heap.size w1 W6 := by rw [← hW6]; exact hb5w.setCell (by dsimp only; omega) _
      have hb7w : Below w1.heap.size w1 W7 := by rw [← hW7]; exact hb6w.setCell (by dsimp only; omega) _
      have q0 : W3.cell? ⟨q, 0, none⟩ = some (.int .u32 (s : Int)) := cell_of hg3 0
      have q7 : W3.cell? ⟨q, 7, none⟩ = some (.bool false) := cell_of hg3 7
      have p7 : W3.frozen? ⟨q, 7, none⟩ = false := frozen_of hg3 7
      have o0 : W4.cell? ⟨q, 0, none⟩ = some (.int .u32 (s : Int)) := cell_of hg4 0
      have y6 := (KP.out W4 (HB1.out.trans (hb4w.mono HB1.out.size))).2.2.2
      have q8 : W4.cell? ⟨q, 8, none⟩ = some (.bool false) := cell_of hg4 8
      have p8 : W4.frozen? ⟨q, 8, none⟩ = false := frozen_of hg4 8
      obtain ⟨_, y4, y5, _⟩ := KP.out W5 (HB1.out.trans (hb5w.mono HB1.out.size))
      have q9 : W5.cell? ⟨q, 9, none⟩ = some (.int .u64 0) := cell_of hg5 9
      have p9 : W5.frozen? ⟨q, 9, none⟩ = false := frozen_of hg5 9
      have r10 : W5.cell? ⟨q, 10, none⟩ = some (.int .u64 0) := cell_of hg5 10
      have s10 : W5.frozen? ⟨q, 10, none⟩ = false := frozen_of hg5 10
      have q10 : W6.cell? ⟨q, 10, none⟩ = some (.int .u64 0) := cell_of hg6 10
      have p10 : W6.frozen? ⟨q, 10, none⟩ = false := frozen_of hg6 10
      have m0 : W7.cell? ⟨q, 0, none⟩ = some (.int .u32 (s : Int)) := cell_of hg7 0
      have m1 : W7.cell? ⟨q, 1, none⟩ = some (.slice none 0 0) := cell_of hg7 1
      have m2 : W7.cell? ⟨q, 2, none⟩ = some (.slice none 0 0) := cell_of hg7 2
      have m3 : W7.cell? ⟨q, 3, none⟩ = some (.slice none 0 0) := cell_of hg7 3
      have m4 : W7.cell? ⟨q, 4, none⟩ = some (.slice none 0 0) := cell_of hg7 4
      have m5 : W7.cell? ⟨q, 5, none⟩ = some (.bool false) := cell_of hg7 5
      have m6 : W7.cell? ⟨q, 6, none⟩ = some (.string ⟨#[]⟩) := cell_of hg7 6
      have m7 : W7.cell? ⟨q, 7, none⟩ = some (.bool b1) := cell_of hg7 7
      have m8 : W7.cell? ⟨q, 8, none⟩ = some (.bool b2) := cell_of hg7 8
      have m9 : W7.cell? ⟨q, 9, none⟩ = some (.int .u64 (f : Int)) := cell_of hg7 9
      have m10 : W7.cell? ⟨q, 10, none⟩ = some (.int .u64 (t : Int)) := cell_of hg7 10
      have hcl5 : ∀ j u, (newC s)[j]? = some u → W7.cell? ⟨g, i * 11 + j, none⟩ = some u := fun j u hu => by
        have hj : j < 11 := (List.getElem?_eq_some_iff.1 hu).1
        rw [World.ownsRow.cellAt hr7 (i * 11 + j) (by omega)]
        exact flatten_at (genL_11 splC_len ss i) i _ HGT.out j u hu
      have n0 : W7.cell? ⟨g, i * 11, none⟩ = some (.int .u32 (s : Int)) := hcl5 0 _ rfl
      have n1 : W7.cell? ⟨g, i * 11 + 1, none⟩ = some (.slice none 0 0) := hcl5 1 _ rfl
      have n2 : W7.cell? ⟨g, i * 11 + 2, none⟩ = some (.slice none 0 0) := hcl5 2 _ rfl
      have n3 : W7.cell? ⟨g, i * 11 + 3, none⟩ = some (.slice none 0 0) := hcl5 3 _ rfl
      have n4 : W7.cell? ⟨g, i * 11 + 4, none⟩ = some (.slice none 0 0) := hcl5 4 _ rfl
      have n5 : W7.cell? ⟨g, i * 11 + 5, none⟩ = some (.bool false) := hcl5 5 _ rfl
      have n6 : W7.cell? ⟨g, i * 11 + 6, none⟩ = some (.string ⟨#[]⟩) := hcl5 6 _ rfl
      have n7 : W7.cell? ⟨g, i * 11 + 7, none⟩ = some (.bool false) := hcl5 7 _ rfl
      have n8 : W7.cell? ⟨g, i * 11 + 8, none⟩ = some (.bool false) := hcl5 8 _ rfl
      have n9 : W7.cell? ⟨g, i * 11 + 9, none⟩ = some (.int .u64 0) := hcl5 9 _ rfl
      have n10 : W7.cell? ⟨g, i * 11 + 10, none⟩ = some (.int .u64 0) := hcl5 10 _ rfl
      obtain ⟨cur, hcur⟩ : ∃ cur, W7.heap[g]? = some (.cells cur 47 (0, 0)) := by
        rcases hr7.2 with ⟨hv, _⟩ | ⟨g', cap', cur, hv, _, hgb, _⟩
        · cases hv
        · cases hv; exact ⟨cur, hgb⟩
      have z0 : W7.frozen? ⟨g, i * 11, none⟩ = false := frozen_of hcur _
      have z1 : W7.frozen? ⟨g, i * 11 + 1, none⟩ = false := frozen_of hcur _
      have z2 : W7.frozen? ⟨g, i * 11 + 2, none⟩ = false := frozen_of hcur _
      have z3 : W7.frozen? ⟨g, i * 11 + 3, none⟩ = false := frozen_of hcur _
      have z4 : W7.frozen? ⟨g, i * 11 + 4, none⟩ = false := frozen_of hcur _
      have z5 : W7.frozen? ⟨g, i * 11 + 5, none⟩ = false := frozen_of hcur _
      have z6 : W7.frozen? ⟨g, i * 11 + 6, none⟩ = false := frozen_of hcur _
      have z7 : W7.frozen? ⟨g, i * 11 + 7, none⟩ = false := frozen_of hcur _
      have z8 : W7.frozen? ⟨g, i * 11 + 8, none⟩ = false := frozen_of hcur _
      have z9 : W7.frozen? ⟨g, i * 11 + 9, none⟩ = false := frozen_of hcur _
      have z10 : W7.frozen? ⟨g, i * 11 + 10, none⟩ = false := frozen_of hcur _
      have HR5 := Lib.hid hr7; have HB5 := Lib.hid hb7w; have HGW := Lib.hid hgw
      clear hz3 hg3 hb3 hr3 hW3 hq hg4 hg5 hg6 hg7 hr4 hr5 hr6 hr7 hb3w hb4w hb5w hb6w hb7w hcl5 hcur k0 k1 k2 k3 k4 k5 k6 k7 k8 k9 k10
      go_wp2_with fail
      go_roundw
      case rel =>
        refine ⟨i + 1, by omega, by go_num, Lib.hid ?_, Lib.hid ?_⟩
        · rw [← HSU.out]
          exact row_put11 HR5.out (genL_11 splC_len ss i) (by rw [genL_len]; exact HIL.out) rfl _ _ _ _ _ _ _ _ _ _ _
        · have := HGW.out
          repeat (refine Below.setCell ?_ (by dsimp only; omega) _)
          exact HB5.out
      case measure => simp [intOf]; omega
    obtain rfl : i = n := by omega
    have hii : ¬ (i : Int) < (i : Int) := by omega
    have HFI : Hid (IsAsks wr (.slice (some ⟨g, 0, none⟩) i cap) (ss.map (splA was tw f t))) := Lib.hid (spl_asks (by
      have h := HROW.out
      rw [← HN.out, genL_all] at h
      rw [← HN.out]; exact h) HN.out)
    go_wp2_with fail
    go_ret2
    refine ⟨0, HC.out, HBE.out, Or.inr ⟨rfl, _, ss, rfl, HRS.out, fun x => ?_, ?_⟩⟩
    · rw [HWAS.out]; exact HME.out x
    · rw [HWAS.out]; exact HFI.out
end Go.Proofs.YtggdkfijioeijaaGreatDoor
