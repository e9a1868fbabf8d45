/- Contract: scriniumref28.Asks, of reads and edits. -/
import Derived.Test.YtggdkfijioeijaaGreatDoorQa23
import Derived.Test.YtggdkfijioeijaaGreatDoorQa30
import Derived.Test.YtggdkfijioeijaaGreatDoorQa32
namespace Go.Proofs.YtggdkfijioeijaaGreatDoor
open Go Go.RowKit
set_option maxRecDepth 100000 in
set_option maxHeartbeats 4000000 in
theorem ref28_asks_ops (r e : Nat) (sp : List (Nat × Nat)) (O : Nat → Nat) (rds : List Rd) (eds : List Ed) (aR : Option Addr) (nr cR : Nat) (aE : Option Addr) (ne cE : Nat) (pre : ByteArray) (f t tw : Nat) (w : World) (hD : DocAt w r e sp) (hl : sp.length ≤ 10000) (hS : SpI O sp M64)
  (hnr : rds.length = nr) (hne : eds.length = ne) (hR : IsRds w (.slice aR nr cR) rds) (hE : IsEds w (.slice aE ne cE) eds) (hsr : ∀ r ∈ rds, SmallRd r) (hse : ∀ x ∈ eds, SmallEd x) (hlr : nr ≤ 1000) (hle : ne ≤ 1000) (hp : pre.size ≤ 140737488351232) (hok : mayZ 1 rds eds pre f t tw = 0)
  (hpr : ∀ r ∈ rds, r.path.size ≤ 100000) (hpe : ∀ x ∈ eds, x.path.size ≤ 100000) :
  Calls Tryz.prog 12 #[.pointer (some ⟨r, 0, none⟩), .agg (callC 1 (.slice aR nr cR) (.slice aE ne cE) pre f t tw)] w (AsksG O rds eds w) := by
 have HMAY := Lib.hid (fun (W : World) (hW : Below w.heap.size w W) => ref28_may 1 rds eds (.slice aR nr cR) (.slice aE ne cE) pre f t tw W (hR.below hW (Nat.le_refl _)) (hE.below hW (Nat.le_refl _)) hsr hse (by omega) (by omega) hp)
 rw [hok] at HMAY
 have HDX := Lib.hid (fun (W : World) (hW : Below w.heap.size w W) => hD.below hW)
 have HSP := Lib.hid hS; have HR := Lib.hid hR; have HE := Lib.hid hE; have HNR := Lib.hid hnr; have HNE := Lib.hid hne; have HPR := Lib.hid hpr; have HPE := Lib.hid hpe
 have h1 := mayZ_one hok
 rw [hnr, hne] at h1
 have H1 : Hid (1 ≤ nr + ne) := Lib.hid h1.1
 obtain ⟨iR, iR0, iR1, iR2, iR3⟩ := info_parts infoRd
 obtain ⟨iE, iE0, iE1, iE2, iE3⟩ := info_parts infoEd
 obtain ⟨iJ, iJ0, iJ1, iJ2, iJ3⟩ := info_parts infoI64
 have IR0 := Lib.hid iR0; have IR1 := Lib.hid iR1; have IR2 := Lib.hid iR2; have IR3 := Lib.hid iR3
 have IE0 := Lib.hid iE0; have IE1 := Lib.hid iE1; have IE2 := Lib.hid iE2; have IE3 := Lib.hid iE3
 have IJ0 := Lib.hid iJ0; have IJ1 := Lib.hid iJ1; have IJ2 := Lib.hid iJ2; have IJ3 := Lib.hid iJ3
 clear iR0 iR1 iR2 iR3 iE0 iE1 iE2 iE3 iJ0 iJ1 iJ2 iJ3
 clear hD hS hR hE hsr hse hp hok hnr hne hpr hpe h1
 obtain ⟨W0, hW0⟩ : ∃ W0, w.alloc (.cells (callC 1 (.slice aR nr cR) (.slice aE ne cE) pre f t tw) 30) = W0 := ⟨_, rfl⟩
 obtain ⟨hz0, hblk, hB0⟩ := alloc_keep hW0
 have hlt0 : w.heap.size < W0.heap.size := by omega
 have KP := Lib.hid (fun (W : World) (h : Below W0.heap.size W0 W) => show W.cell? ⟨w.heap.size, 0, none⟩ = some (.int .u8 ((1 : Nat) : Int)) ∧ W.cell? ⟨w.heap.size, 1, none⟩ = some (.slice aR nr cR) ∧ W.cell? ⟨w.heap.size, 2, none⟩ = some (.slice aE ne cE) by
  have hb := (h.block _ hlt0).trans hblk
  exact ⟨cell_of hb 0, cell_of hb 1, cell_of hb 2⟩)
 have c0 : W0.cell? ⟨w.heap.size, 0, none⟩ = some (.int .u8 ((1 : Nat) : Int)) := cell_of hblk 0
 have c1 : W0.cell? ⟨w.heap.size, 1, none⟩ = some (.slice aR nr cR) := cell_of hblk 1
 have c2 : W0.cell? ⟨w.heap.size, 2, none⟩ = some (.slice aE ne cE) := cell_of hblk 2
 have c3 : W0.cell? ⟨w.heap.size, 3, none⟩ = some (.string pre) := cell_of hblk 3
 have c4 : W0.cell? ⟨w.heap.size, 4, none⟩ = some (.int .u64 (f : Int)) := cell_of hblk 4
 have c5 : W0.cell? ⟨w.heap.size, 5, none⟩ = some (.int .u64 (t : Int)) := cell_of hblk 5
 have c6 : W0.cell? ⟨w.heap.size, 6, none⟩ = some (.int .u32 (tw : Int)) := cell_of hblk 6
 have HB0 := Lib.hid hB0
 clear hz0 hblk hB0 hlt0
 go_enter Tryz.func12, Tryz.ntmps12
 go_upto_region 1 with fail
 clear hW0
 go_wp2_with fail
 refine (HMAY.out W0 HB0.out).mono ?_
 rintro en w1 ⟨rfl, hb1⟩
 obtain ⟨x0, x1, x2⟩ := KP.out w1 hb1
 have HB1 := Lib.hid hb1
 have HBW1 := Lib.hid (HB0.out.trans (hb1.mono HB0.out.size))
 have hzw : w.heap.size < w1.heap.size := block_lt_of_cell x0
 clear hb1 c0 c1 c2 c3 c4 c5 c6 HMAY
 go_wp2_with fail
 clear x0 x1 x2
 go_loopw [7, 16] (fun vl vi wr => ∃ (k n : Nat) (v : Value) (ss : List Nat), k ≤ nr ∧ n ≤ 0 + k ∧ vi = .int .i64 k ∧ v = vl ∧ Hid (wr.ownsRow w1.heap.size 47 11 v n (ss.flatMap newC)) ∧ Hid (ss.length = n) ∧ Hid (ss.Pairwise (· < ·)) ∧ Hid (∀ x, x ∈ ss ↔ Sk O rds eds k 0 x) ∧ Hid (Below w1.heap.size w1 wr)) (fun _ vi _ => nr - (intOf vi).toNat)
 case atStart => exact ⟨0, 0, _, [], Nat.zero_le _, Nat.le_refl _, rfl, rfl, Lib.hid (World.ownsRow_nil _ _ _ _), Lib.hid rfl, Lib.hid List.Pairwise.nil, Lib.hid (fun x => ⟨fun h => by simp at h, fun h => by rcases h with ⟨i, hi, _⟩ | ⟨i, hi, _⟩ <;> omega⟩), Lib.hid (Below.refl _ _)⟩
 case round =>
  obtain ⟨k, n, v, ss, hk, hnk, rfl, rfl, HROW, HN, HRS, HME, HBr⟩ := hrel
  have HBE := Lib.hid (HBW1.out.trans (HBr.out.mono HBW1.out.size))
  obtain ⟨x0, x1, x2⟩ := KP.out wr (HB1.out.trans (HBr.out.mono HB1.out.size))
  by_cases hlt : k < nr
  ·have hki : (k : Int) < (nr : Int) := by omega
   have hkl : k < rds.length := by rw [HNR.out]; exact hlt
   obtain ⟨bR, oR, rfl, hc⟩ := isl_at3 (HR.out.below HBE.out (Nat.le_refl _)) hkl
   have hps := HPR.out (rds.getD k dRd) (by rw [List.getD_eq_getElem?_getD, List.getElem?_eq_getElem hkl]; exact List.getElem_mem _)
   have hsk := fun x => Sk_read (O := O) (rds := rds) (eds := eds) (k := k) (j := 0) x
   obtain ⟨y, hy⟩ : ∃ y, rds.getD k dRd = y := ⟨_, rfl⟩
   rw [hy] at hc hps hsk
   have y0 : wr.cell? ⟨bR, oR + k * 2, none⟩ = some (.string y.path) := hc 0 _ rfl
   have HOF := Lib.hid (d27_Of r e sp y.path hps wr (HDX.out _ HBE.out) hl O HSP.out)
   obtain ⟨s, hs⟩ : ∃ s, ownP O y.path = s := ⟨_, rfl⟩
   rw [hs] at HOF hsk
   have HSK := Lib.hid hsk
   clear hkl hc hps hsk hy hs
   go_wp2_with fail
   refine HOF.out.mono ?_
   rintro en w4 ⟨rfl, hb4⟩
   have HB4 := Lib.hid (HBr.out.trans (hb4.mono HBr.out.size))
   have HASK := Lib.hid (ref28_ask ss s n w1.heap.size v w4 (ownBelow HROW.out hb4) HN.out HRS.out HB4.out.size (by omega))
   clear hb4 HOF x0 x1 x2 y0
   go_wp2_with fail
   refine HASK.out.mono ?_
   rintro en w5 ⟨v', n', ss', rfl, hrow, hn', hris', hmem', hle', hb5⟩
   have HR5 := Lib.hid hrow; have HN5 := Lib.hid hn'; have HRS5 := Lib.hid hris'
   have HB5 := Lib.hid (HB4.out.trans (hb5.mono HB4.out.size))
   have HLE : Hid (n' ≤ n + 1) := Lib.hid (by rw [← HN.out]; exact hle')
   have HM5 : Hid (∀ x, x ∈ ss' ↔ Sk O rds eds (k + 1) 0 x) := Lib.hid (fun x => by rw [hmem' x, HME.out x]; exact (HSK.out x).symm)
   clear hrow hn' hris' hmem' hle' hb5 HASK
   go_wp2_with fail
   go_roundw
   case rel => exact ⟨k + 1, n', v', ss', by omega, by have := HLE.out; omega, by go_num, rfl, HR5, HN5, HRS5, HM5, HB5⟩
   case measure => simp [intOf]; omega
  obtain ⟨q, hq⟩ : ∃ q, k = q := ⟨_, rfl⟩
  subst k
  obtain rfl : q = nr := by omega
  have hki : ¬ (q : Int) < (q : Int) := by omega
  go_wp2_with fail
  clear x0 x1 x2
  go_loopw [7, 17] (fun vl vi wr => ∃ (k n : Nat) (v : Value) (ss : List Nat), k ≤ ne ∧ n ≤ q + k ∧ vi = .int .i64 k ∧ v = vl ∧ Hid (wr.ownsRow w1.heap.size 47 11 v n (ss.flatMap newC)) ∧ Hid (ss.length = n) ∧ Hid (ss.Pairwise (· < ·)) ∧ Hid (∀ x, x ∈ ss ↔ Sk O rds eds q k x) ∧ Hid (Below w1.heap.size w1 wr)) (fun _ vi _ => ne - (intOf vi).toNat)
  case atStart => exact ⟨0, n, v, ss, Nat.zero_le _, by omega, rfl, rfl, HROW, HN, HRS, HME, HBr⟩
  case round =>
   clear HROW HN HRS HME HBr HBE
   obtain ⟨k, n, v, ss, hk, hnk, rfl, rfl, HROW, HN, HRS, HME, HBr⟩ := hrel
   have HBE := Lib.hid (HBW1.out.trans (HBr.out.mono HBW1.out.size))
   obtain ⟨x0, x1, x2⟩ := KP.out wr (HB1.out.trans (HBr.out.mono HB1.out.size))
   by_cases hlt : k < ne
   ·have hki : (k : Int) < (ne : Int) := by omega
    have hkl : k < eds.length := by rw [HNE.out]; exact hlt
    obtain ⟨bR, oR, rfl, hc⟩ := isl_at3 (HE.out.below HBE.out (Nat.le_refl _)) hkl
    have hps := HPE.out (eds.getD k dEd) (by rw [List.getD_eq_getElem?_getD, List.getElem?_eq_getElem hkl]; exact List.getElem_mem _)
    have hsk := fun x => Sk_edit (O := O) (rds := rds) (eds := eds) (k := q) (j := k) x
    obtain ⟨y, hy⟩ : ∃ y, eds.getD k dEd = y := ⟨_, rfl⟩
    rw [hy] at hc hps hsk
    have y0 : wr.cell? ⟨bR, oR + k * 6 + 1, none⟩ = some (.string y.path) := hc 1 _ rfl
    have HOF := Lib.hid (d27_Of r e sp y.path hps wr (HDX.out _ HBE.out) hl O HSP.out)
    obtain ⟨s, hs⟩ : ∃ s, ownP O y.path = s := ⟨_, rfl⟩
    rw [hs] at HOF hsk
    have HSK := Lib.hid hsk
    clear hkl hc hps hsk hy hs
    go_wp2_with fail
    refine HOF.out.mono ?_
    rintro en w4 ⟨rfl, hb4⟩
    have HB4 := Lib.hid (HBr.out.trans (hb4.mono HBr.out.size))
    have HASK := Lib.hid (ref28_ask ss s n w1.heap.size v w4 (ownBelow HROW.out hb4) HN.out HRS.out HB4.out.size (by omega))
    clear hb4 HOF x0 x1 x2 y0
    go_wp2_with fail
    refine HASK.out.mono ?_
    rintro en w5 ⟨v', n', ss', rfl, hrow, hn', hris', hmem', hle', hb5⟩
    have HR5 := Lib.hid hrow; have HN5 := Lib.hid hn'; have HRS5 := Lib.hid hris'
    have HB5 := Lib.hid (HB4.out.trans (hb5.mono HB4.out.size))
    have HLE : Hid (n' ≤ n + 1) := Lib.hid (by rw [← HN.out]; exact hle')
    have HM5 : Hid (∀ x, x ∈ ss' ↔ Sk O rds eds q (k + 1) x) := Lib.hid (fun x => by rw [hmem' x, HME.out x]; exact (HSK.out x).symm)
    clear hrow hn' hris' hmem' hle' hb5 HASK
    go_wp2_with fail
    go_roundw
    case rel => exact ⟨k + 1, n', v', ss', by omega, by have := HLE.out; omega, by go_num, rfl, HR5, HN5, HRS5, HM5, HB5⟩
    case measure => simp [intOf]; omega
   obtain rfl : k = ne := by omega
   have hki : ¬ (k : Int) < (k : Int) := by omega
   go_wp2_with fail
   -- LOOP 43
   have hn1 : 1 ≤ n := by
    rw [← HN.out]
    refine List.length_pos_iff.2 (fun e => ?_)
    have h1 := H1.out
    by_cases h0 : 0 < q
    ·have := (HME.out _).2 (Or.inl ⟨0, h0, rfl⟩); rw [e] at this; simp at this
    ·have := (HME.out _).2 (Or.inr ⟨0, by omega, rfl⟩); rw [e] at this; simp at this
   obtain ⟨g, cap, rfl⟩ : ∃ g cap, v = .slice (some ⟨g, 0, none⟩) n cap := by
    rcases HROW.out.2 with ⟨_, h0⟩ | ⟨g, cap, cur, hv, _⟩
    ·omega
    ·exact ⟨g, cap, hv⟩
   obtain ⟨A, hA⟩ : ∃ A : Nat → Ask, askTo O rds eds q k = A := ⟨_, rfl⟩
   have HAA := Lib.hid hA
   have HOP : Hid (∃ V, OpI w1.heap.size g n cap A V ss 0 wr) := Lib.hid ⟨fun _ _ => .slice none 0 0, OpI.start HROW.out⟩
   have hgw : w1.heap.size ≤ g := by
    rcases HROW.out.2 with ⟨hv, _⟩ | ⟨g', cap', cur, hv, hB, _⟩
    ·cases hv
    ·cases hv; exact hB
   clear HROW x0 x1 x2 hA hn1
   go_wp2_with fail
   go_loopw [18] (fun vi wr => ∃ i : Nat, i ≤ n ∧ vi = .int .i64 i ∧ Hid (∃ V, OpI w1.heap.size g n cap A V ss i wr) ∧ Hid (Below w1.heap.size w1 wr)) (fun vi _ => n - (intOf vi).toNat)
   case atStart => exact ⟨0, Nat.zero_le _, rfl, HOP, HBr⟩
   case round =>
    clear HOP HBr HBE
    obtain ⟨i, hi, rfl, HOP, HBr⟩ := hrel
    by_cases hlt : i < n
    ·have hii : (i : Int) < (n : Int) := by omega
     obtain ⟨V, hV⟩ := HOP.out
     have hil : i < ss.length := by rw [HN.out]; exact hlt
     have hgt := genL_get (askCs V A) ss i hil
     obtain ⟨s, hs⟩ : ∃ s, ss.getD i 0 = s := ⟨_, rfl⟩
     rw [hs] at hgt
     have hgp0 : g < wr.heap.size := own_lt hV.row
     have hcl : ∀ (U : World), Below wr.heap.size wr U → ∀ j u, (newC s)[j]? = some u → U.cell? ⟨g, i * 11 + j, none⟩ = some u := fun U hU j u hu => by
      have hj : j < 11 := (List.getElem?_eq_some_iff.1 hu).1
      rw [World.ownsRow.cellAt (ownBelow hV.row hU) (i * 11 + j) (by omega)]
      exact flatten_at (genL_11 (askCs_len V A) ss i) i _ hgt j u hu
     have HCL := Lib.hid hcl
     have k0 : wr.cell? ⟨g, i * 11, none⟩ = some (.int .u32 (s : Int)) := hcl wr (Below.refl _ _) 0 _ rfl
     have k1 : wr.cell? ⟨g, i * 11 + 1, none⟩ = some (.slice none 0 0) := hcl wr (Below.refl _ _) 1 _ rfl
     have k2 : wr.cell? ⟨g, i * 11 + 2, none⟩ = some (.slice none 0 0) := hcl wr (Below.refl _ _) 2 _ rfl
     have k3 : wr.cell? ⟨g, i * 11 + 3, none⟩ = some (.slice none 0 0) := hcl wr (Below.refl _ _) 3 _ rfl
     have k4 : wr.cell? ⟨g, i * 11 + 4, none⟩ = some (.slice none 0 0) := hcl wr (Below.refl _ _) 4 _ rfl
     have k5 : wr.cell? ⟨g, i * 11 + 5, none⟩ = some (.bool false) := hcl wr (Below.refl _ _) 5 _ rfl
     have k6 : wr.cell? ⟨g, i * 11 + 6, none⟩ = some (.string ⟨#[]⟩) := hcl wr (Below.refl _ _) 6 _ rfl
     have k7 : wr.cell? ⟨g, i * 11 + 7, none⟩ = some (.bool false) := hcl wr (Below.refl _ _) 7 _ rfl
     have k8 : wr.cell? ⟨g, i * 11 + 8, none⟩ = some (.bool false) := hcl wr (Below.refl _ _) 8 _ rfl
     have k9 : wr.cell? ⟨g, i * 11 + 9, none⟩ = some (.int .u64 0) := hcl wr (Below.refl _ _) 9 _ rfl
     have k10 : wr.cell? ⟨g, i * 11 + 10, none⟩ = some (.int .u64 0) := hcl wr (Below.refl _ _) 10 _ rfl
     have HV := Lib.hid hV; have HSS := Lib.hid hs; have HIL := Lib.hid hil
     clear hV hcl hgt hs hil
     go_upto_region 46 with fail
     obtain ⟨W3, hW3⟩ : ∃ W3, wr.alloc (.cells #[.int .u32 (s : Int), .slice none 0 0, .slice none 0 0, .slice none 0 0, .slice none 0 0, .bool false, .string ⟨#[]⟩, .bool false, .bool false, .int .u64 0, .int .u64 0] 47) = W3 := ⟨_, rfl⟩
     obtain ⟨hz3, hg3, hb3⟩ := alloc_keep hW3
     obtain ⟨p, hp⟩ : ∃ p, wr.heap.size = p := ⟨_, rfl⟩
     rw [hW3, hp]
     rw [hp] at hz3 hg3 hb3 hgp0
     obtain ⟨W2, hW2⟩ : ∃ U, wr = U := ⟨_, rfl⟩
     subst wr
     have HPP := Lib.hid hp
     have hw1p : w1.heap.size ≤ p := by rw [← hp]; exact HBr.out.size
     have hwp : w.heap.size < p := by omega
     have HPW := Lib.hid (fun (U : World) (h : Below p W2 U) => show Below w.heap.size w U ∧ U.cell? ⟨w.heap.size, 1, none⟩ = some (.slice aR q cR) ∧ U.cell? ⟨w.heap.size, 2, none⟩ = some (.slice aE k cE) from by
      have hbw1 : Below w1.heap.size w1 U := HBr.out.trans (h.mono hw1p)
      obtain ⟨_, y1, y2⟩ := KP.out U (HB1.out.trans (hbw1.mono HB1.out.size))
      exact ⟨HBW1.out.trans (hbw1.mono HBW1.out.size), y1, y2⟩)
     have HBX : Hid (AKX p s (.slice none 0 0) (.slice none 0 0) (.slice none 0 0) (.slice none 0 0) W3) := Lib.hid hg3
     have HZ3 := Lib.hid hz3; have HB23 := Lib.hid hb3
     clear hW3 hz3 hg3 hb3 hp k0 k1 k2 k3 k4 k5 k6 k7 k8 k9 k10
     go_wp2_with fail
     go_loopw [20] (fun vj wr => ∃ (j m m' : Nat) (a a' : Option Addr) (c c' : Nat), j ≤ q ∧ m ≤ j ∧ m' ≤ j ∧ vj = .int .i64 j ∧ Hid (AKX p s (.slice a m c) (.slice a' m' c') (.slice none 0 0) (.slice none 0 0) wr) ∧ Hid (wr.ownsRow (p + 1) 56 2 (.slice a m c) m ((rdsTo O rds j s).flatMap rdC)) ∧ Hid (wr.ownsRow (p + 1) 3 1 (.slice a' m' c') m' ((rAtTo O rds j s).flatMap ixC)) ∧ Hid (KX p (p + 1) W3 wr)) (fun vj _ => q - (intOf vj).toNat)
     case atStart => exact ⟨0, 0, 0, none, none, 0, 0, Nat.zero_le _, Nat.le_refl _, Nat.le_refl _, rfl, HBX, Lib.hid (World.ownsRow_nil _ _ _ _), Lib.hid (World.ownsRow_nil _ _ _ _), Lib.hid (KX.refl _ _ _)⟩
     case round =>
      clear HBX
      obtain ⟨j, m, m', a, a', c, c', hj, hm, hm', rfl, HBB, HR0, HR1, HK⟩ := hrel
      have hpz : (p + 1) ≤ wr.heap.size := by have := HK.out.size; have := HZ3.out; omega
      have hbp : p < p + 1 := Nat.lt_succ_self p
      have HPB : Hid (Below p W2 wr) := Lib.hid (HB23.out.trans (HK.out.below (Nat.le_of_lt hbp) (Nat.le_refl _)))
      obtain ⟨hbe, x1, x2⟩ := HPW.out wr HPB.out
      have HBE := Lib.hid hbe
      obtain ⟨b0, b1, b2, b3, b4, b5, b6, b7, b8, b9, b10⟩ := HBB.out.cells
      clear hbe
      by_cases hlt : j < q
      ·have hji : (j : Int) < (q : Int) := by omega
       have hjl : j < rds.length := by rw [HNR.out]; exact hlt
       obtain ⟨bR, oR, rfl, hc⟩ := isl_at3 HR.out hjl
       have hps := HPR.out (rds.getD j dRd) (by rw [List.getD_eq_getElem?_getD, List.getElem?_eq_getElem hjl]; exact List.getElem_mem _)
       have hput := fun (r : Rd) (h : rds.getD j dRd = r) => rdsTo_put (O := O) (s := s) hjl h
       obtain ⟨y, hy⟩ : ∃ y, rds.getD j dRd = y := ⟨_, rfl⟩
       rw [hy] at hc hps
       have hpy := hput y hy
       have hbR : bR < w.heap.size := block_lt_of_cell (hc 0 _ rfl)
       obtain ⟨ow, how⟩ : ∃ ow, ownP O y.path = ow := ⟨_, rfl⟩
       have HOF := Lib.hid (fun (U : World) (h : Below w.heap.size w U) => d27_Of r e sp y.path hps U (HDX.out _ h) hl O HSP.out)
       rw [how] at HOF hpy
       have HPY := Lib.hid hpy
       have HYC := Lib.hid (fun (U : World) (h : Below p W2 U) => show U.cell? ⟨bR, oR + j * 2, none⟩ = some (.string y.path) ∧ U.cell? ⟨bR, oR + j * 2 + 1, none⟩ = some (.int .u64 (y.n : Int)) from
        ⟨((HPW.out U h).1.cell (p := ⟨bR, _, none⟩) hbR).trans (hc 0 _ rfl), ((HPW.out U h).1.cell (p := ⟨bR, _, none⟩) hbR).trans (hc 1 _ rfl)⟩)
       clear hjl hc hput hpy hy how
       have hreg : ∀ b : Bool, ((ow : Int) == (s : Int)) = b → True := fun _ _ => trivial
       clear hreg
       have hpw : p ≤ wr.heap.size := by omega
       have hpl : p < wr.heap.size := by omega
       go_upto_region 49 with fail
       by_cases hos : ow = s
       ·have hob : ((ow : Int) == (s : Int)) = true := by simp [hos]
        obtain ⟨hp1, hp2⟩ := HPY.out.1 hos
        have HP1 := Lib.hid hp1; have HP2 := Lib.hid hp2
        clear hos hp1 hp2
        clear b0 b1 b2 b3 b4 b5 b6 b7 b8 b9 b10 x1 x2
        refine wp_region_quiet (C := fun w' => Hid (Below wr.heap.size wr w')) (by kernel_rfl) (by kernel_rfl) (Lib.hid (Below.drew (Below.refl _ _))) ?_
        refine quiet_plain (by rfl) (Value.pointer (some ⟨r, 0, none⟩)) (fun w' hw' => ?_) ?_
        ·go_simp
        go_frame
        refine quiet_plain (by rfl) (Value.pointer (some ⟨w.heap.size, 1, none⟩)) (fun w' hw' => ?_) ?_
        ·go_simp
        go_frame
        refine quiet_plain (by rfl) (Value.slice (some ⟨bR, oR, none⟩) q cR) (fun w' hw' => ?_) ?_
        ·obtain ⟨_, x1, x2⟩ := HPW.out w' (HPB.out.trans (hw'.out.mono hpw))
         go_simp
        go_frame
        refine quiet_plain (by rfl) (Value.int .i64 (j : Int)) (fun w' hw' => ?_) ?_
        ·go_simp
        go_frame
        refine quiet_plain (by rfl) (Value.pointer (some ⟨bR, oR + j * 2, none⟩)) (fun w' hw' => ?_) ?_
        ·go_simp
        go_frame
        refine quiet_plain (by rfl) (Value.pointer (some ⟨bR, oR + j * 2, none⟩)) (fun w' hw' => ?_) ?_
        ·go_simp
        go_frame
        refine quiet_plain (by rfl) (Value.string y.path) (fun w' hw' => ?_) ?_
        ·obtain ⟨z0, z1⟩ := HYC.out w' (HPB.out.trans (hw'.out.mono hpw))
         go_simp
        go_frame
        refine quiet_call (by rfl) (Value.int .u32 (ow : Int)) 23 #[.pointer (some ⟨r, 0, none⟩), .string y.path] (fun w' hw' => ⟨?_, ?_⟩) ?_
        ·go_simp
        ·exact (HOF.out w' (HBE.out.trans (hw'.out.mono (HBE.out.size)))).mono (fun e w6 ⟨he, hb⟩ => ⟨he, Lib.hid (hw'.out.trans (hb.mono hw'.out.size))⟩)
        go_frame
        refine quiet_plain (by rfl) (Value.pointer (some ⟨p, 0, none⟩)) (fun w' hw' => ?_) ?_
        ·go_simp
        go_frame
        refine quiet_plain (by rfl) (Value.int .u32 (s : Int)) (fun w' hw' => ?_) ?_
        ·have b0 : w'.cell? ⟨p, 0, none⟩ = some (.int .u32 (s : Int)) := (HBB.out.below hpl hw'.out).cells.1
         go_simp
        go_frame
        refine quiet_plain (by rfl) (Value.bool true) (fun w' hw' => ?_) ?_
        ·go_simp
        go_frame
        refine wpQuiet_nil ?_
        intro W6 hW6
        have HB6 : Hid (AKX p s (.slice a m c) (.slice a' m' c') (.slice none 0 0) (.slice none 0 0) W6) := Lib.hid (HBB.out.below hpl hW6.out)
        have HK6 : Hid (KX p (p + 1) W3 W6) := Lib.hid (HK.out.trans (KX.of (hW6.out.mono hpz)))
        have HR06 := Lib.hid (ownBelow HR0.out hW6.out); have HR16 := Lib.hid (ownBelow HR1.out hW6.out)
        have HPB6 := Lib.hid (HPB.out.trans (hW6.out.mono hpw))
        have hz6 : (p + 1) ≤ W6.heap.size := by have := hW6.out.size; omega
        clear hW6 HR0 HR1 HBB HK HPB HBE HOF HPY
        go_wp2_with fail
        obtain ⟨b0, b1, b2, b3, b4, b5, b6, b7, b8, b9, b10⟩ := HB6.out.cells
        obtain ⟨hbe, x1, x2⟩ := HPW.out W6 HPB6.out
        obtain ⟨z0, z1⟩ := HYC.out W6 HPB6.out
        clear hbe
        have keepS : Hid (∀ U, AKX p s (.slice a m c) (.slice a' m' c') (.slice none 0 0) (.slice none 0 0) U → Below p W2 U → U.cell? ⟨p, 1, none⟩ = some (.slice a m c) ∧ U.cell? ⟨w.heap.size, 1, none⟩ = some (.slice (some ⟨bR, oR, none⟩) q cR) ∧ U.cell? ⟨bR, oR + j * 2, none⟩ = some (.string y.path) ∧ U.cell? ⟨bR, oR + j * 2 + 1, none⟩ = some (.int .u64 (y.n : Int)) ∧ Hid (Below p W2 U)) := Lib.hid (fun U hx hb => by
         obtain ⟨_, y1, y2⟩ := HPW.out U hb
         obtain ⟨z0, z1⟩ := HYC.out U hb
         exact ⟨hx.cells.2.1, y1, z0, z1, Lib.hid hb⟩)
        have HBD : Hid (∀ U, Below W6.heap.size W6 U → AKX p s (.slice a m c) (.slice a' m' c') (.slice none 0 0) (.slice none 0 0) U ∧ Below p W2 U) := Lib.hid (fun U h => ⟨HB6.out.below (by omega) h, HPB6.out.trans (h.mono (by omega))⟩)
        have HBO : Hid (∀ o, Below W6.heap.size W6 (W6.drew.alloc o)) := Lib.hid (fun o => (Below.drew (Below.refl _ _)).alloc (Nat.le_refl _) _)
        have HBO2 : Hid (∀ o, Below W6.heap.size W6 (W6.alloc o).drew) := Lib.hid (fun o => Below.drew ((Below.refl _ _).alloc (Nat.le_refl _) _))
        have HMA : Hid (∀ o, (W6.alloc o).cell? ⟨p, 1, none⟩ = some (.slice a m c)) := Lib.hid (fun o => (World.cell?_alloc_past _ _ _ (by show p < _; omega)).trans b1)
        have mca := HMA.out (.cells #[.string y.path, .int .u64 (y.n : Int)] 56)
        go_region_law (refine step_append_lies (hgd := rfl) (s := .tmp 183) (x := .tmp 189) (t := 23) (ho := rfl) (base := (p + 1)) (e := 56) (i := iR) (z := (.agg #[.string ByteArray.empty, .int .u64 0])) (size := 2) (bytes := 24) (ht := Tryz.underlying23) (hi := IR0.out) (hz := IR1.out) (hsize := IR2.out) (hby := IR3.out) (hzs := rfl) (hsz := by decide) (v := _) (n := m) (xs := (rdsTo O rds j s).flatMap rdC) (hs := rfl) (hown := by first | exact ownBelow HR06.out (HBO.out _) | exact ownBelow HR06.out (HBO2.out _)) (ad := _) (m := 1) (c := _) (news := [.string y.path, .int .u64 (y.n : Int)]) (hx := rfl) (hl := rfl) (hnews := World.news_of_block (MapKept.heap_alloc _ _).1) (h1 := by intro u hu; simp only [List.mem_cons, List.mem_nil_iff, or_false] at hu; rcases hu with rfl | rfl <;> rfl) (hm := by decide) (h63 := by unfold maxLen; omega) (hbytes := by omega) (hbase := by simp; omega) (H := _) (hH := rfl) (h := ?_); intro g8 cp8 w8 hown8 hg8 hat8 hlt8; obtain ⟨hO1, hR1⟩ : (∃ U, Below W6.heap.size W6 U ∧ U.grownBy w8 (Value.slice a m c).ownBlock) ∧ True := ⟨by first | exact ⟨_, HBO.out _, hg8⟩ | exact ⟨_, HBO2.out _, hg8⟩, trivial⟩; obtain ⟨U, hU, hgU⟩ := hO1; obtain ⟨hx8, hk8, ⟨X, hX, hcX, hrX, hkX⟩, _, _, _⟩ := akx_app hbp HB6.out hU hz6 hgU (fun k hk => own_above2 HR06.out k hk) hown8; have e1 := hx8.cells.2.1; have f1 := hx8.frozen 1; have HX8 := Lib.hid hx8; have HPB8 := Lib.hid (HPB6.out.trans (hk8.below (Nat.le_of_lt hbp) (Nat.le_refl _))); have hra := row_aside (f := 1) (u := .slice (some ⟨g8, 0, none⟩) (m + 1) cp8) (ownBelow HR16.out hU) (ownBelow HR06.out hU) (by decide) hgU hbp; rw [hX] at hra; have HRA := Lib.hid hra; have HCX := Lib.hid hcX; have HRX := Lib.hid hrX; have HKX := Lib.hid hkX; clear hown8 hg8 hat8 hlt8 hR1 hU hgU hx8 hk8 hra hcX hrX hkX)
        all_goals (
         have hzX : (p + 1) ≤ X.heap.size := by have := HKX.out.size; omega
         clear b0 b1 b2 b3 b4 b5 b6 b7 b8 b9 b10 x1 x2 mca z0 z1
         obtain ⟨b0, b1, b2, b3, b4, b5, b6, b7, b8, b9, b10⟩ := HCX.out.cells
         go_wp2_with (
          at_builtin
          refine wpList_append_lies _ rfl (.tmp 193) (.tmp 195) 45 rfl (p + 1) 3 iJ (.int .i64 0) 1 8 Tryz.underlying45 IJ0.out IJ1.out IJ2.out IJ3.out rfl (by decide) _ m' ((rAtTo O rds j s).flatMap ixC) rfl (HRA.out.alloc _) ⟨X.heap.size, 0, none⟩ 1 1 [.int .i64 (j : Int)] rfl rfl (World.news_of_block (MapKept.heap_alloc _ _).1) (by intro u hu; simp only [List.mem_cons, List.mem_nil_iff, or_false] at hu; rcases hu with rfl; rfl) (by decide) (by unfold maxLen; omega) (by omega) (by simp; omega) (X.heap.size + 1) (by simp) ?_
          intro g9 cp9 w9 hown9 hg9 hat9 hlt9
          have hU : Below X.heap.size X (X.alloc (.cells #[.int .i64 (j : Int)] 3)) := (Below.refl _ _).alloc (Nat.le_refl _) _
          obtain ⟨hx9, _, _, ⟨X2, hX2, hcX2, hrX2, hkX2⟩, _, _⟩ := akx_app hbp HCX.out hU hzX hg9 (fun k hk => own_above2 HRA.out k hk) hown9
          have e2 := hx9.cells.2.2.1
          have f2 := hx9.frozen 2
          have hra := row_aside (f := 2) (u := .slice (some ⟨g9, 0, none⟩) (m' + 1) cp9) (ownBelow HRX.out hU) (ownBelow HRA.out hU) (by decide) hg9 hbp
          rw [hX2] at hra
          have HRA2 := Lib.hid hra
          have HCX2 := Lib.hid hcX2; have HRX2 := Lib.hid hrX2; have HKX2 := Lib.hid (HK6.out.trans (HKX.out.trans hkX2))
          clear hown9 hg9 hat9 hlt9 hU hx9 hra hcX2 hrX2 hkX2)
         go_roundw
         case rel => exact ⟨j + 1, m + 1, m' + 1, _, _, _, _, by omega, by omega, by omega, by go_num, HCX2, Lib.hid (by rw [HP1.out]; exact HRA2.out), Lib.hid (by rw [HP2.out]; exact HRX2.out), HKX2⟩
         case measure => simp [intOf]; omega)
       ·have hob : ((ow : Int) == (s : Int)) = false := by rw [beq_eq_false_iff_ne]; omega
        obtain ⟨hp1, hp2⟩ := HPY.out.2 hos
        have HP1 := Lib.hid hp1; have HP2 := Lib.hid hp2
        clear hos hp1 hp2
        clear b0 b1 b2 b3 b4 b5 b6 b7 b8 b9 b10 x1 x2
        refine wp_region_quiet (C := fun w' => Hid (Below wr.heap.size wr w')) (by kernel_rfl) (by kernel_rfl) (Lib.hid (Below.drew (Below.refl _ _))) ?_
        refine quiet_plain (by rfl) (Value.pointer (some ⟨r, 0, none⟩)) (fun w' hw' => ?_) ?_
        ·go_simp
        go_frame
        refine quiet_plain (by rfl) (Value.pointer (some ⟨w.heap.size, 1, none⟩)) (fun w' hw' => ?_) ?_
        ·go_simp
        go_frame
        refine quiet_plain (by rfl) (Value.slice (some ⟨bR, oR, none⟩) q cR) (fun w' hw' => ?_) ?_
        ·obtain ⟨_, x1, x2⟩ := HPW.out w' (HPB.out.trans (hw'.out.mono hpw))
         go_simp
        go_frame
        refine quiet_plain (by rfl) (Value.int .i64 (j : Int)) (fun w' hw' => ?_) ?_
        ·go_simp
        go_frame
        refine quiet_plain (by rfl) (Value.pointer (some ⟨bR, oR + j * 2, none⟩)) (fun w' hw' => ?_) ?_
        ·go_simp
        go_frame
        refine quiet_plain (by rfl) (Value.pointer (some ⟨bR, oR + j * 2, none⟩)) (fun w' hw' => ?_) ?_
        ·go_simp
        go_frame
        refine quiet_plain (by rfl) (Value.string y.path) (fun w' hw' => ?_) ?_
        ·obtain ⟨z0, z1⟩ := HYC.out w' (HPB.out.trans (hw'.out.mono hpw))
         go_simp
        go_frame
        refine quiet_call (by rfl) (Value.int .u32 (ow : Int)) 23 #[.pointer (some ⟨r, 0, none⟩), .string y.path] (fun w' hw' => ⟨?_, ?_⟩) ?_
        ·go_simp
        ·exact (HOF.out w' (HBE.out.trans (hw'.out.mono (HBE.out.size)))).mono (fun e w6 ⟨he, hb⟩ => ⟨he, Lib.hid (hw'.out.trans (hb.mono hw'.out.size))⟩)
        go_frame
        refine quiet_plain (by rfl) (Value.pointer (some ⟨p, 0, none⟩)) (fun w' hw' => ?_) ?_
        ·go_simp
        go_frame
        refine quiet_plain (by rfl) (Value.int .u32 (s : Int)) (fun w' hw' => ?_) ?_
        ·have b0 : w'.cell? ⟨p, 0, none⟩ = some (.int .u32 (s : Int)) := (HBB.out.below hpl hw'.out).cells.1
         go_simp
        go_frame
        refine quiet_plain (by rfl) (Value.bool false) (fun w' hw' => ?_) ?_
        ·go_simp
        go_frame
        refine wpQuiet_nil ?_
        intro W6 hW6
        have HB6 : Hid (AKX p s (.slice a m c) (.slice a' m' c') (.slice none 0 0) (.slice none 0 0) W6) := Lib.hid (HBB.out.below hpl hW6.out)
        have HK6 : Hid (KX p (p + 1) W3 W6) := Lib.hid (HK.out.trans (KX.of (hW6.out.mono hpz)))
        have HR06 := Lib.hid (ownBelow HR0.out hW6.out); have HR16 := Lib.hid (ownBelow HR1.out hW6.out)
        have HPB6 := Lib.hid (HPB.out.trans (hW6.out.mono hpw))
        have hz6 : (p + 1) ≤ W6.heap.size := by have := hW6.out.size; omega
        clear hW6 HR0 HR1 HBB HK HPB HBE HOF HPY
        go_wp2_with fail
        go_roundw
        case rel => exact ⟨j + 1, m, m', _, _, _, _, by omega, by omega, by omega, by go_num, HB6, Lib.hid (by rw [HP1.out]; exact HR06.out), Lib.hid (by rw [HP2.out]; exact HR16.out), HK6⟩
        case measure => simp [intOf]; omega
      obtain rfl : j = q := by omega
      have hji : ¬ (j : Int) < (j : Int) := by omega
      obtain ⟨W47, hW47⟩ : ∃ U, wr = U := ⟨_, rfl⟩
      subst wr
      obtain ⟨a0, ha0⟩ : ∃ x, a = x := ⟨_, rfl⟩; obtain ⟨m0, hm0⟩ : ∃ x, m = x := ⟨_, rfl⟩; obtain ⟨c0, hc0⟩ : ∃ x, c = x := ⟨_, rfl⟩
      obtain ⟨a1, ha1⟩ : ∃ x, a' = x := ⟨_, rfl⟩; obtain ⟨m1, hm1⟩ : ∃ x, m' = x := ⟨_, rfl⟩; obtain ⟨c1, hc1⟩ : ∃ x, c' = x := ⟨_, rfl⟩
      subst a m c a' m' c'
      have HZ47 : Hid (p < W47.heap.size) := Lib.hid (by omega)
      have HBX : Hid (AKX p s (.slice a0 m0 c0) (.slice a1 m1 c1) (.slice none 0 0) (.slice none 0 0) W47) := HBB
      have HB247 := HPB; have HQ0 := HR0; have HQ1 := HR1
      have hz47 := HZ47.out
      clear HBB HR0 HR1 HPB HK HBE b0 b1 b2 b3 b4 b5 b6 b7 b8 b9 b10
      go_wp2_with fail
      clear x1 x2 hpz hbp
      go_loopw [21] (fun vj wr => ∃ (j m m' : Nat) (a a' : Option Addr) (c c' : Nat), j ≤ k ∧ m ≤ j ∧ m' ≤ j ∧ vj = .int .i64 j ∧ Hid (AKX p s (.slice a0 m0 c0) (.slice a1 m1 c1) (.slice a m c) (.slice a' m' c') wr) ∧ Hid (wr.ownsRow W47.heap.size 63 6 (.slice a m c) m ((edsTo O eds j s).flatMap edC)) ∧ Hid (wr.ownsRow W47.heap.size 3 1 (.slice a' m' c') m' ((eAtTo O eds j s).flatMap ixC)) ∧ Hid (KX p W47.heap.size W47 wr)) (fun vj _ => k - (intOf vj).toNat)
      case atStart => exact ⟨0, 0, 0, none, none, 0, 0, Nat.zero_le _, Nat.le_refl _, Nat.le_refl _, rfl, HBX, Lib.hid (World.ownsRow_nil _ _ _ _), Lib.hid (World.ownsRow_nil _ _ _ _), Lib.hid (KX.refl _ _ _)⟩
      case round =>
       clear HBX
       obtain ⟨j, m, m', a, a', c, c', hj, hm, hm', rfl, HBB, HR0, HR1, HK⟩ := hrel
       have hpz : W47.heap.size ≤ wr.heap.size := by have := HK.out.size; have := HZ3.out; omega
       have hbp : p < W47.heap.size := HZ47.out
       have HPB : Hid (Below p W2 wr) := Lib.hid (HB247.out.trans (HK.out.below (Nat.le_of_lt hbp) (Nat.le_refl _)))
       obtain ⟨hbe, x1, x2⟩ := HPW.out wr HPB.out
       have HBE := Lib.hid hbe
       obtain ⟨b0, b1, b2, b3, b4, b5, b6, b7, b8, b9, b10⟩ := HBB.out.cells
       clear hbe
       by_cases hlt : j < k
       ·have hji : (j : Int) < (k : Int) := by omega
        have hjl : j < eds.length := by rw [HNE.out]; exact hlt
        obtain ⟨bR, oR, rfl, hc⟩ := isl_at3 HE.out hjl
        have hps := HPE.out (eds.getD j dEd) (by rw [List.getD_eq_getElem?_getD, List.getElem?_eq_getElem hjl]; exact List.getElem_mem _)
        have hput := fun (r : Ed) (h : eds.getD j dEd = r) => edsTo_put (O := O) (s := s) hjl h
        obtain ⟨y, hy⟩ : ∃ y, eds.getD j dEd = y := ⟨_, rfl⟩
        rw [hy] at hc hps
        have hpy := hput y hy
        have hbR : bR < w.heap.size := block_lt_of_cell (hc 0 _ rfl)
        obtain ⟨ow, how⟩ : ∃ ow, ownP O y.path = ow := ⟨_, rfl⟩
        have HOF := Lib.hid (fun (U : World) (h : Below w.heap.size w U) => d27_Of r e sp y.path hps U (HDX.out _ h) hl O HSP.out)
        rw [how] at HOF hpy
        have HPY := Lib.hid hpy
        have HYC := Lib.hid (fun (U : World) (h : Below p W2 U) => show U.cell? ⟨bR, oR + j * 6, none⟩ = some (.int .u8 (y.kind : Int)) ∧ U.cell? ⟨bR, oR + j * 6 + 1, none⟩ = some (.string y.path) ∧ U.cell? ⟨bR, oR + j * 6 + 2, none⟩ = some (.bool y.any) ∧ U.cell? ⟨bR, oR + j * 6 + 3, none⟩ = some (.int .u64 (y.want : Int)) ∧ U.cell? ⟨bR, oR + j * 6 + 4, none⟩ = some (.int .u64 (y.n : Int)) ∧ U.cell? ⟨bR, oR + j * 6 + 5, none⟩ = some (.string y.text) from
         ⟨((HPW.out U h).1.cell (p := ⟨bR, _, none⟩) hbR).trans (hc 0 _ rfl), ((HPW.out U h).1.cell (p := ⟨bR, _, none⟩) hbR).trans (hc 1 _ rfl), ((HPW.out U h).1.cell (p := ⟨bR, _, none⟩) hbR).trans (hc 2 _ rfl), ((HPW.out U h).1.cell (p := ⟨bR, _, none⟩) hbR).trans (hc 3 _ rfl), ((HPW.out U h).1.cell (p := ⟨bR, _, none⟩) hbR).trans (hc 4 _ rfl), ((HPW.out U h).1.cell (p := ⟨bR, _, none⟩) hbR).trans (hc 5 _ rfl)⟩)
        clear hjl hc hput hpy hy how
        have hreg : ∀ b : Bool, ((ow : Int) == (s : Int)) = b → True := fun _ _ => trivial
        clear hreg
        have hpw : p ≤ wr.heap.size := by omega
        have hpl : p < wr.heap.size := by omega
        go_upto_region 55 with fail
        by_cases hos : ow = s
        ·have hob : ((ow : Int) == (s : Int)) = true := by simp [hos]
         obtain ⟨hp1, hp2⟩ := HPY.out.1 hos
         have HP1 := Lib.hid hp1; have HP2 := Lib.hid hp2
         clear hos hp1 hp2
         clear b0 b1 b2 b3 b4 b5 b6 b7 b8 b9 b10 x1 x2
         refine wp_region_quiet (C := fun w' => Hid (Below wr.heap.size wr w')) (by kernel_rfl) (by kernel_rfl) (Lib.hid (Below.drew (Below.refl _ _))) ?_
         refine quiet_plain (by rfl) (Value.pointer (some ⟨r, 0, none⟩)) (fun w' hw' => ?_) ?_
         ·go_simp
         go_frame
         refine quiet_plain (by rfl) (Value.pointer (some ⟨w.heap.size, 2, none⟩)) (fun w' hw' => ?_) ?_
         ·go_simp
         go_frame
         refine quiet_plain (by rfl) (Value.slice (some ⟨bR, oR, none⟩) k cE) (fun w' hw' => ?_) ?_
         ·obtain ⟨_, x1, x2⟩ := HPW.out w' (HPB.out.trans (hw'.out.mono hpw))
          go_simp
         go_frame
         refine quiet_plain (by rfl) (Value.int .i64 (j : Int)) (fun w' hw' => ?_) ?_
         ·go_simp
         go_frame
         refine quiet_plain (by rfl) (Value.pointer (some ⟨bR, oR + j * 6, none⟩)) (fun w' hw' => ?_) ?_
         ·go_simp
         go_frame
         refine quiet_plain (by rfl) (Value.pointer (some ⟨bR, oR + j * 6 + 1, none⟩)) (fun w' hw' => ?_) ?_
         ·go_simp
         go_frame
         refine quiet_plain (by rfl) (Value.string y.path) (fun w' hw' => ?_) ?_
         ·obtain ⟨z0, z1, z2, z3, z4, z5⟩ := HYC.out w' (HPB.out.trans (hw'.out.mono hpw))
          go_simp
         go_frame
         refine quiet_call (by rfl) (Value.int .u32 (ow : Int)) 23 #[.pointer (some ⟨r, 0, none⟩), .string y.path] (fun w' hw' => ⟨?_, ?_⟩) ?_
         ·go_simp
         ·exact (HOF.out w' (HBE.out.trans (hw'.out.mono (HBE.out.size)))).mono (fun e w6 ⟨he, hb⟩ => ⟨he, Lib.hid (hw'.out.trans (hb.mono hw'.out.size))⟩)
         go_frame
         refine quiet_plain (by rfl) (Value.pointer (some ⟨p, 0, none⟩)) (fun w' hw' => ?_) ?_
         ·go_simp
         go_frame
         refine quiet_plain (by rfl) (Value.int .u32 (s : Int)) (fun w' hw' => ?_) ?_
         ·have b0 : w'.cell? ⟨p, 0, none⟩ = some (.int .u32 (s : Int)) := (HBB.out.below hpl hw'.out).cells.1
          go_simp
         go_frame
         refine quiet_plain (by rfl) (Value.bool true) (fun w' hw' => ?_) ?_
         ·go_simp
         go_frame
         refine wpQuiet_nil ?_
         intro W6 hW6
         have HB6 : Hid (AKX p s (.slice a0 m0 c0) (.slice a1 m1 c1) (.slice a m c) (.slice a' m' c') W6) := Lib.hid (HBB.out.below hpl hW6.out)
         have HK6 : Hid (KX p W47.heap.size W47 W6) := Lib.hid (HK.out.trans (KX.of (hW6.out.mono hpz)))
         have HR06 := Lib.hid (ownBelow HR0.out hW6.out); have HR16 := Lib.hid (ownBelow HR1.out hW6.out)
         have HPB6 := Lib.hid (HPB.out.trans (hW6.out.mono hpw))
         have hz6 : W47.heap.size ≤ W6.heap.size := by have := hW6.out.size; omega
         clear hW6 HR0 HR1 HBB HK HPB HBE HOF HPY
         go_wp2_with fail
         obtain ⟨b0, b1, b2, b3, b4, b5, b6, b7, b8, b9, b10⟩ := HB6.out.cells
         obtain ⟨hbe, x1, x2⟩ := HPW.out W6 HPB6.out
         obtain ⟨z0, z1, z2, z3, z4, z5⟩ := HYC.out W6 HPB6.out
         clear hbe
         have keepS : Hid (∀ U, AKX p s (.slice a0 m0 c0) (.slice a1 m1 c1) (.slice a m c) (.slice a' m' c') U → Below p W2 U → U.cell? ⟨p, 3, none⟩ = some (.slice a m c) ∧ U.cell? ⟨w.heap.size, 2, none⟩ = some (.slice (some ⟨bR, oR, none⟩) k cE) ∧ U.cell? ⟨bR, oR + j * 6, none⟩ = some (.int .u8 (y.kind : Int)) ∧ U.cell? ⟨bR, oR + j * 6 + 1, none⟩ = some (.string y.path) ∧ U.cell? ⟨bR, oR + j * 6 + 2, none⟩ = some (.bool y.any) ∧ U.cell? ⟨bR, oR + j * 6 + 3, none⟩ = some (.int .u64 (y.want : Int)) ∧ U.cell? ⟨bR, oR + j * 6 + 4, none⟩ = some (.int .u64 (y.n : Int)) ∧ U.cell? ⟨bR, oR + j * 6 + 5, none⟩ = some (.string y.text) ∧ Hid (Below p W2 U)) := Lib.hid (fun U hx hb => by
          obtain ⟨_, y1, y2⟩ := HPW.out U hb
          obtain ⟨z0, z1, z2, z3, z4, z5⟩ := HYC.out U hb
          exact ⟨hx.cells.2.2.2.1, y2, z0, z1, z2, z3, z4, z5, Lib.hid hb⟩)
         have HBD : Hid (∀ U, Below W6.heap.size W6 U → AKX p s (.slice a0 m0 c0) (.slice a1 m1 c1) (.slice a m c) (.slice a' m' c') U ∧ Below p W2 U) := Lib.hid (fun U h => ⟨HB6.out.below (by omega) h, HPB6.out.trans (h.mono (by omega))⟩)
         have HBO : Hid (∀ o, Below W6.heap.size W6 (W6.drew.alloc o)) := Lib.hid (fun o => (Below.drew (Below.refl _ _)).alloc (Nat.le_refl _) _)
         have HBO2 : Hid (∀ o, Below W6.heap.size W6 (W6.alloc o).drew) := Lib.hid (fun o => Below.drew ((Below.refl _ _).alloc (Nat.le_refl _) _))
         have HMA : Hid (∀ o, (W6.alloc o).cell? ⟨p, 3, none⟩ = some (.slice a m c)) := Lib.hid (fun o => (World.cell?_alloc_past _ _ _ (by show p < _; omega)).trans b3)
         have mca := HMA.out (.cells #[.int .u8 (y.kind : Int), .string y.path, .bool y.any, .int .u64 (y.want : Int), .int .u64 (y.n : Int), .string y.text] 63)
         go_region_law (refine step_append_lies (hgd := rfl) (s := .tmp 217) (x := .tmp 223) (t := 24) (ho := rfl) (base := W47.heap.size) (e := 63) (i := iE) (z := (.agg #[.int .u8 0, .string ByteArray.empty, .bool false, .int .u64 0, .int .u64 0, .string ByteArray.empty])) (size := 6) (bytes := 64) (ht := Tryz.underlying24) (hi := IE0.out) (hz := IE1.out) (hsize := IE2.out) (hby := IE3.out) (hzs := rfl) (hsz := by decide) (v := _) (n := m) (xs := (edsTo O eds j s).flatMap edC) (hs := rfl) (hown := by first | exact ownBelow HR06.out (HBO.out _) | exact ownBelow HR06.out (HBO2.out _)) (ad := _) (m := 1) (c := _) (news := [.int .u8 (y.kind : Int), .string y.path, .bool y.any, .int .u64 (y.want : Int), .int .u64 (y.n : Int), .string y.text]) (hx := rfl) (hl := rfl) (hnews := World.news_of_block (MapKept.heap_alloc _ _).1) (h1 := by intro u hu; simp only [List.mem_cons, List.mem_nil_iff, or_false] at hu; rcases hu with rfl | rfl | rfl | rfl | rfl | rfl <;> rfl) (hm := by decide) (h63 := by unfold maxLen; omega) (hbytes := by omega) (hbase := by simp; omega) (H := _) (hH := rfl) (h := ?_); intro g8 cp8 w8 hown8 hg8 hat8 hlt8; obtain ⟨hO1, hR1⟩ : (∃ U, Below W6.heap.size W6 U ∧ U.grownBy w8 (Value.slice a m c).ownBlock) ∧ True := ⟨by first | exact ⟨_, HBO.out _, hg8⟩ | exact ⟨_, HBO2.out _, hg8⟩, trivial⟩; obtain ⟨U, hU, hgU⟩ := hO1; obtain ⟨hx8, hk8, _, _, ⟨X, hX, hcX, hrX, hkX⟩, _⟩ := akx_app hbp HB6.out hU hz6 hgU (fun k hk => own_above2 HR06.out k hk) hown8; have e1 := hx8.cells.2.2.2.1; have f1 := hx8.frozen 3; have HX8 := Lib.hid hx8; have HPB8 := Lib.hid (HPB6.out.trans (hk8.below (Nat.le_of_lt hbp) (Nat.le_refl _))); have hra := row_aside (f := 3) (u := .slice (some ⟨g8, 0, none⟩) (m + 1) cp8) (ownBelow HR16.out hU) (ownBelow HR06.out hU) (by decide) hgU hbp; rw [hX] at hra; have HRA := Lib.hid hra; have HCX := Lib.hid hcX; have HRX := Lib.hid hrX; have HKX := Lib.hid hkX; clear hown8 hg8 hat8 hlt8 hR1 hU hgU hx8 hk8 hra hcX hrX hkX)
         all_goals (
          have hzX : W47.heap.size ≤ X.heap.size := by have := HKX.out.size; omega
          clear b0 b1 b2 b3 b4 b5 b6 b7 b8 b9 b10 x1 x2 mca z0 z1 z2 z3 z4 z5
          obtain ⟨b0, b1, b2, b3, b4, b5, b6, b7, b8, b9, b10⟩ := HCX.out.cells
          go_wp2_with (
           at_builtin
           refine wpList_append_lies _ rfl (.tmp 227) (.tmp 229) 45 rfl W47.heap.size 3 iJ (.int .i64 0) 1 8 Tryz.underlying45 IJ0.out IJ1.out IJ2.out IJ3.out rfl (by decide) _ m' ((eAtTo O eds j s).flatMap ixC) rfl (HRA.out.alloc _) ⟨X.heap.size, 0, none⟩ 1 1 [.int .i64 (j : Int)] rfl rfl (World.news_of_block (MapKept.heap_alloc _ _).1) (by intro u hu; simp only [List.mem_cons, List.mem_nil_iff, or_false] at hu; rcases hu with rfl; rfl) (by decide) (by unfold maxLen; omega) (by omega) (by simp; omega) (X.heap.size + 1) (by simp) ?_
           intro g9 cp9 w9 hown9 hg9 hat9 hlt9
           have hU : Below X.heap.size X (X.alloc (.cells #[.int .i64 (j : Int)] 3)) := (Below.refl _ _).alloc (Nat.le_refl _) _
           obtain ⟨hx9, _, _, _, _, ⟨X2, hX2, hcX2, hrX2, hkX2⟩⟩ := akx_app hbp HCX.out hU hzX hg9 (fun k hk => own_above2 HRA.out k hk) hown9
           have e2 := hx9.cells.2.2.2.2.1
           have f2 := hx9.frozen 4
           have hra := row_aside (f := 4) (u := .slice (some ⟨g9, 0, none⟩) (m' + 1) cp9) (ownBelow HRX.out hU) (ownBelow HRA.out hU) (by decide) hg9 hbp
           rw [hX2] at hra
           have HRA2 := Lib.hid hra
           have HCX2 := Lib.hid hcX2; have HRX2 := Lib.hid hrX2; have HKX2 := Lib.hid (HK6.out.trans (HKX.out.trans hkX2))
           clear hown9 hg9 hat9 hlt9 hU hx9 hra hcX2 hrX2 hkX2)
          go_roundw
          case rel => exact ⟨j + 1, m + 1, m' + 1, _, _, _, _, by omega, by omega, by omega, by go_num, HCX2, Lib.hid (by rw [HP1.out]; exact HRA2.out), Lib.hid (by rw [HP2.out]; exact HRX2.out), HKX2⟩
          case measure => simp [intOf]; omega)
        ·have hob : ((ow : Int) == (s : Int)) = false := by rw [beq_eq_false_iff_ne]; omega
         obtain ⟨hp1, hp2⟩ := HPY.out.2 hos
         have HP1 := Lib.hid hp1; have HP2 := Lib.hid hp2
         clear hos hp1 hp2
         clear b0 b1 b2 b3 b4 b5 b6 b7 b8 b9 b10 x1 x2
         refine wp_region_quiet (C := fun w' => Hid (Below wr.heap.size wr w')) (by kernel_rfl) (by kernel_rfl) (Lib.hid (Below.drew (Below.refl _ _))) ?_
         refine quiet_plain (by rfl) (Value.pointer (some ⟨r, 0, none⟩)) (fun w' hw' => ?_) ?_
         ·go_simp
         go_frame
         refine quiet_plain (by rfl) (Value.pointer (some ⟨w.heap.size, 2, none⟩)) (fun w' hw' => ?_) ?_
         ·go_simp
         go_frame
         refine quiet_plain (by rfl) (Value.slice (some ⟨bR, oR, none⟩) k cE) (fun w' hw' => ?_) ?_
         ·obtain ⟨_, x1, x2⟩ := HPW.out w' (HPB.out.trans (hw'.out.mono hpw))
          go_simp
         go_frame
         refine quiet_plain (by rfl) (Value.int .i64 (j : Int)) (fun w' hw' => ?_) ?_
         ·go_simp
         go_frame
         refine quiet_plain (by rfl) (Value.pointer (some ⟨bR, oR + j * 6, none⟩)) (fun w' hw' => ?_) ?_
         ·go_simp
         go_frame
         refine quiet_plain (by rfl) (Value.pointer (some ⟨bR, oR + j * 6 + 1, none⟩)) (fun w' hw' => ?_) ?_
         ·go_simp
         go_frame
         refine quiet_plain (by rfl) (Value.string y.path) (fun w' hw' => ?_) ?_
         ·obtain ⟨z0, z1, z2, z3, z4, z5⟩ := HYC.out w' (HPB.out.trans (hw'.out.mono hpw))
          go_simp
         go_frame
         refine quiet_call (by rfl) (Value.int .u32 (ow : Int)) 23 #[.pointer (some ⟨r, 0, none⟩), .string y.path] (fun w' hw' => ⟨?_, ?_⟩) ?_
         ·go_simp
         ·exact (HOF.out w' (HBE.out.trans (hw'.out.mono (HBE.out.size)))).mono (fun e w6 ⟨he, hb⟩ => ⟨he, Lib.hid (hw'.out.trans (hb.mono hw'.out.size))⟩)
         go_frame
         refine quiet_plain (by rfl) (Value.pointer (some ⟨p, 0, none⟩)) (fun w' hw' => ?_) ?_
         ·go_simp
         go_frame
         refine quiet_plain (by rfl) (Value.int .u32 (s : Int)) (fun w' hw' => ?_) ?_
         ·have b0 : w'.cell? ⟨p, 0, none⟩ = some (.int .u32 (s : Int)) := (HBB.out.below hpl hw'.out).cells.1
          go_simp
         go_frame
         refine quiet_plain (by rfl) (Value.bool false) (fun w' hw' => ?_) ?_
         ·go_simp
         go_frame
         refine wpQuiet_nil ?_
         intro W6 hW6
         have HB6 : Hid (AKX p s (.slice a0 m0 c0) (.slice a1 m1 c1) (.slice a m c) (.slice a' m' c') W6) := Lib.hid (HBB.out.below hpl hW6.out)
         have HK6 : Hid (KX p W47.heap.size W47 W6) := Lib.hid (HK.out.trans (KX.of (hW6.out.mono hpz)))
         have HR06 := Lib.hid (ownBelow HR0.out hW6.out); have HR16 := Lib.hid (ownBelow HR1.out hW6.out)
         have HPB6 := Lib.hid (HPB.out.trans (hW6.out.mono hpw))
         have hz6 : W47.heap.size ≤ W6.heap.size := by have := hW6.out.size; omega
         clear hW6 HR0 HR1 HBB HK HPB HBE HOF HPY
         go_wp2_with fail
         go_roundw
         case rel => exact ⟨j + 1, m, m', _, _, _, _, by omega, by omega, by omega, by go_num, HB6, Lib.hid (by rw [HP1.out]; exact HR06.out), Lib.hid (by rw [HP2.out]; exact HR16.out), HK6⟩
         case measure => simp [intOf]; omega
       -- behind loop 53
       have hji : ¬ (j : Int) < (k : Int) := by omega
       have hjk : j = k := by omega
       subst hjk
       have r0 := row_kept HQ0.out HK.out (Nat.lt_succ_self p)
       have r1 := row_kept HQ1.out HK.out (Nat.lt_succ_self p)
       have hRU : RowsU w1.heap.size wr (V4 (.slice a0 m0 c0) (.slice a1 m1 c1) (.slice a m c) (.slice a' m' c')) (A s) := by
        rw [← HAA.out]
        exact rowsU_of (A := askTo O rds eds _ _ s) r0 r1 HR0.out HR1.out (by omega) (by omega) (by omega) (by omega)
       have hb2 : Below W2.heap.size W2 wr := by rw [HPP.out]; exact HPB.out
       have hcl5 := HCL.out wr hb2
       have HRU := Lib.hid hRU; have HB2 := Lib.hid hb2
       have n0 : wr.cell? ⟨g, i * 11, none⟩ = some (.int .u32 (s : Int)) := hcl5 0 _ rfl
       have n1 : wr.cell? ⟨g, i * 11 + 1, none⟩ = some (.slice none 0 0) := hcl5 1 _ rfl
       have n2 : wr.cell? ⟨g, i * 11 + 2, none⟩ = some (.slice none 0 0) := hcl5 2 _ rfl
       have n3 : wr.cell? ⟨g, i * 11 + 3, none⟩ = some (.slice none 0 0) := hcl5 3 _ rfl
       have n4 : wr.cell? ⟨g, i * 11 + 4, none⟩ = some (.slice none 0 0) := hcl5 4 _ rfl
       have n5 : wr.cell? ⟨g, i * 11 + 5, none⟩ = some (.bool false) := hcl5 5 _ rfl
       have n6 : wr.cell? ⟨g, i * 11 + 6, none⟩ = some (.string ⟨#[]⟩) := hcl5 6 _ rfl
       have n7 : wr.cell? ⟨g, i * 11 + 7, none⟩ = some (.bool false) := hcl5 7 _ rfl
       have n8 : wr.cell? ⟨g, i * 11 + 8, none⟩ = some (.bool false) := hcl5 8 _ rfl
       have n9 : wr.cell? ⟨g, i * 11 + 9, none⟩ = some (.int .u64 0) := hcl5 9 _ rfl
       have n10 : wr.cell? ⟨g, i * 11 + 10, none⟩ = some (.int .u64 0) := hcl5 10 _ rfl
       obtain ⟨_, cur, hcur⟩ := own_block (ownBelow HV.out.row hb2) (g := g) rfl
       have z0 : wr.frozen? ⟨g, i * 11, none⟩ = false := frozen_of hcur _
       have z1 : wr.frozen? ⟨g, i * 11 + 1, none⟩ = false := frozen_of hcur _
       have z2 : wr.frozen? ⟨g, i * 11 + 2, none⟩ = false := frozen_of hcur _
       have z3 : wr.frozen? ⟨g, i * 11 + 3, none⟩ = false := frozen_of hcur _
       have z4 : wr.frozen? ⟨g, i * 11 + 4, none⟩ = false := frozen_of hcur _
       have z5 : wr.frozen? ⟨g, i * 11 + 5, none⟩ = false := frozen_of hcur _
       have z6 : wr.frozen? ⟨g, i * 11 + 6, none⟩ = false := frozen_of hcur _
       have z7 : wr.frozen? ⟨g, i * 11 + 7, none⟩ = false := frozen_of hcur _
       have z8 : wr.frozen? ⟨g, i * 11 + 8, none⟩ = false := frozen_of hcur _
       have z9 : wr.frozen? ⟨g, i * 11 + 9, none⟩ = false := frozen_of hcur _
       have z10 : wr.frozen? ⟨g, i * 11 + 10, none⟩ = false := frozen_of hcur _
       clear r0 r1 hRU hb2 hcl5 hcur
       go_wp2_with fail
       go_roundw
       case rel =>
        refine ⟨i + 1, by omega, by go_num, Lib.hid ⟨_, OpI.step HV.out HRS.out HIL.out rfl HB2.out HSS.out HRU.out ?_⟩, Lib.hid ?_⟩
        ·rw [← HAA.out]; rfl
        ·have := HPP.out
         have hbw : Below w1.heap.size w1 wr := HBr.out.trans (HB2.out.mono HBr.out.size)
         repeat (refine Below.setCell ?_ (by dsimp only; omega) _)
         exact hbw
       case measure => simp [intOf]; omega
    obtain rfl : i = n := by omega
    have hii : ¬ (i : Int) < (i : Int) := by omega
    obtain ⟨V, hV⟩ := HOP.out
    have hIA := hV.asks HN.out rfl
    rw [← HAA.out] at hIA
    have HIA := Lib.hid hIA
    have HBE := Lib.hid (HBW1.out.trans (HBr.out.mono HBW1.out.size))
    clear hV hIA
    go_wp2_with fail
    go_ret2
    refine ⟨_, ss, rfl, HRS.out, fun x => ?_, ?_, HBE.out⟩
    ·rw [HME.out x, HNR.out, HNE.out]
    ·rw [HNR.out, HNE.out]; exact HIA.out
end Go.Proofs.YtggdkfijioeijaaGreatDoor
