/- Contract: scriniumref28.May, of any call. Contract: scriniumref16.Prefix; scriniumref28.May, of any call. Contract: scriniumref28.Asks, of a call that may not be. -/
import Derived.Test.YtggdkfijioeijaaGreatDoorQa24
import Derived.Test.YtggdkfijioeijaaGreatDoorQa27
namespace Go.Proofs.YtggdkfijioeijaaGreatDoor
open Go Go.RowKit
theorem any_snoc {α : Type} {p : α → Bool} {l : List α} {i : Nat} (z : α) (h : i < l.length) : (l.take (i + 1)).any p = ((l.take i).any p || p (l.getD i z)) := by
  rw [List.take_succ_eq_append_getElem h, List.any_append, List.getD_eq_getElem?_getD, List.getElem?_eq_getElem h]; simp
theorem any_take_all {α : Type} {p : α → Bool} {l : List α} {i : Nat} (h : l.length ≤ i) : (l.take i).any p = l.any p := by rw [List.take_of_length_le h]
theorem any_of_take {α : Type} {p : α → Bool} {l : List α} {i : Nat} (h : (l.take i).any p = true) : l.any p = true := by
  rw [List.any_eq_true] at h ⊢
  obtain ⟨x, hx, hp⟩ := h
  exact ⟨x, List.mem_of_mem_take hx, hp⟩
theorem pieces_len {mp : List ByteArray} {s : List UInt8} (h : mp.map (·.data.toList) = Pth.piecesL s) : ((mp.length : Int) == 0) = !Pth.mayL s := by
  unfold Pth.mayL
  rw [← h]
  cases mp with
  | nil => rfl
  | cons a t => simp; omega
theorem isl_at3 {α : Type} {k : Nat} {C : α → List Value} {z : α} {w : World} {a : Option Addr} {n c j : Nat} {l : List α} (h : IsL k C z w (.slice a n c) l) (hj : j < l.length) : ∃ b off, a = some ⟨b, off, none⟩ ∧ ∀ q u, (C (l.getD j z))[q]? = some u → w.cell? ⟨b, off + j * k + q, none⟩ = some u := by
  obtain ⟨a', c', he, h⟩ := h
  cases he
  obtain ⟨b, off, rfl, _, hc⟩ := h.resolve_left (fun h => by rw [h] at hj; simp at hj)
  exact ⟨b, off, rfl, hc j hj⟩

set_option maxRecDepth 100000 in
set_option maxHeartbeats 4000000 in
theorem ref28_may_one (rds : List Rd) (eds : List Ed) (vR vE : Value) (pre : ByteArray) (f t tw : Nat) (w : World) (hR : IsRds w vR rds) (hE : IsEds w vE eds) (hsr : ∀ r ∈ rds, SmallRd r) (hse : ∀ x ∈ eds, SmallEd x) (hlr : rds.length ≤ 1000) (hle : eds.length ≤ 1000) :
    Calls Tryz.prog 14 #[.agg (callC 1 vR vE pre f t tw)] w fun e w' => e = .returned (.int .i64 (mayZ 1 rds eds pre f t tw)) ∧ Below w.heap.size w w' := by
  have hz : mayZ 1 rds eds pre f t tw = (if (1 ≤ rds.length + eds.length ∧ rds.length + eds.length ≤ 16) ∧ rds.any badR = false ∧ eds.any badE = false then (if eds.any longE = true then 5 else 0) else 2) := if_pos rfl
  obtain ⟨z, hzz⟩ : ∃ z, mayZ 1 rds eds pre f t tw = z := ⟨_, rfl⟩
  rw [hzz] at hz ⊢
  have HPI := Lib.hid (fun (s : ByteArray) (hs : s.size ≤ 140737488351232) (w : World) => ref16_pieces s hs w)
  obtain ⟨aR, cR, rfl⟩ := isl_shape hR
  obtain ⟨aE, cE, rfl⟩ := isl_shape hE
  obtain ⟨nr, hnr⟩ : ∃ nr, rds.length = nr := ⟨_, rfl⟩
  obtain ⟨ne, hne⟩ : ∃ ne, eds.length = ne := ⟨_, rfl⟩
  rw [hnr, hne] at hz
  rw [hnr] at hR hlr ⊢
  rw [hne] at hE hle ⊢
  have HZ := Lib.hid hz; have HR := Lib.hid hR; have HE := Lib.hid hE; have HSR := Lib.hid hsr; have HSE := Lib.hid hse; have HNR := Lib.hid hnr; have HNE := Lib.hid hne
  clear hR hE hsr hse hnr hne hz hzz
  obtain ⟨W0, hW0⟩ : ∃ W0, w.alloc (.cells (callC 1 (.slice aR nr cR) (.slice aE ne cE) pre f t tw) 30) = W0 := ⟨_, rfl⟩
  obtain ⟨hz0, hblk, hB0⟩ := alloc_keep hW0
  have hlt0 : w.heap.size < W0.heap.size := by omega
  have KP := Lib.hid (fun (W : World) (h : Below W0.heap.size W0 W) => show W.cell? ⟨w.heap.size, 0, none⟩ = some (.int .u8 ((1 : Nat) : Int)) ∧ W.cell? ⟨w.heap.size, 1, none⟩ = some (.slice aR nr cR) ∧ W.cell? ⟨w.heap.size, 2, none⟩ = some (.slice aE ne cE) by
    have hb := (h.block _ hlt0).trans hblk
    exact ⟨cell_of hb 0, cell_of hb 1, cell_of hb 2⟩)
  obtain ⟨x0, x1, x2⟩ := KP.out W0 (Below.refl _ _)
  have HB0 := Lib.hid hB0
  clear hB0 hblk hlt0 hz0
  go_enter Tryz.func14, Tryz.ntmps14
  go_upto_region 1 with fail
  clear hW0
  by_cases h1 : nr + ne < 1
  · have g1 : (nr : Int) + (ne : Int) < 1 := by omega
    have HR' : Hid (z = 2) := Lib.hid (HZ.out.trans (if_neg (fun h => by omega)))
    go_wp2_with fail
    go_ret
    exact ⟨by rw [HR'.out]; rfl, HB0.out⟩
  by_cases h2 : 16 < nr + ne
  · have g1 : ¬ (nr : Int) + (ne : Int) < 1 := by omega
    have g2 : (16 : Int) < (nr : Int) + (ne : Int) := by omega
    have HR' : Hid (z = 2) := Lib.hid (HZ.out.trans (if_neg (fun h => by omega)))
    go_wp2_with fail
    go_ret
    exact ⟨by rw [HR'.out]; rfl, HB0.out⟩
  have g1 : ¬ (nr : Int) + (ne : Int) < 1 := by omega
  have g2 : ¬ (16 : Int) < (nr : Int) + (ne : Int) := by omega
  have HN : Hid (1 ≤ nr + ne ∧ nr + ne ≤ 16) := Lib.hid (by omega)
  clear h1 h2
  go_wp2_with fail
  clear x0 x1 x2 g1 g2
  go_loopw [5] (fun vi wr => ∃ i : Nat, i ≤ nr ∧ vi = .int .i64 i ∧ Hid ((rds.take i).any badR = false) ∧ Hid (Below W0.heap.size W0 wr)) (fun vi _ => nr - (intOf vi).toNat)
  case atStart => exact ⟨0, Nat.zero_le _, rfl, Lib.hid rfl, Lib.hid (Below.refl _ _)⟩
  case round =>
    obtain ⟨i, hi, rfl, HA, HBr⟩ := hrel
    obtain ⟨x0, x1, x2⟩ := KP.out wr HBr.out
    have HBE := Lib.hid (HB0.out.trans (HBr.out.mono HB0.out.size))
    by_cases hlt : i < nr
    · have hii : (i : Int) < (nr : Int) := by omega
      have hkl : i < rds.length := by rw [HNR.out]; exact hlt
      obtain ⟨bR, oR, rfl, hc⟩ := isl_at3 (HR.out.below HBE.out (Nat.le_refl _)) hkl
      have hsx := (HSR.out (rds.getD i dRd) (by rw [List.getD_eq_getElem?_getD, List.getElem?_eq_getElem hkl]; exact List.getElem_mem _)).path
      have hsn := any_snoc (p := badR) dRd hkl
      rw [HA.out, Bool.false_or] at hsn
      obtain ⟨x, hx⟩ : ∃ x, rds.getD i dRd = x := ⟨_, rfl⟩
      rw [hx] at hc hsx hsn
      have y0 : wr.cell? ⟨bR, oR + i * 2, none⟩ = some (.string x.path) := hc 0 _ rfl
      have HPC := Lib.hid (HPI.out x.path hsx wr)
      have HSN := Lib.hid hsn
      clear hkl hc hsx hx hsn
      go_wp2_with fail
      refine HPC.out.mono ?_
      rintro e w1 ⟨v1, mp, rfl, hst, hpc, hb1⟩
      obtain ⟨a1, c1, rfl, _⟩ := hst
      have hpl := pieces_len hpc
      have HB1 := Lib.hid (HBr.out.trans (hb1.mono HBr.out.size))
      have HSN2 : Hid ((rds.take (i + 1)).any badR = !Pth.mayL x.path.data.toList) := Lib.hid HSN.out
      obtain ⟨b, hb⟩ : ∃ b, Pth.mayL x.path.data.toList = b := ⟨_, rfl⟩
      rw [hb] at hpl HSN2
      clear hb1 hpc hb y0 HPC
      cases b with
      | false =>
        have hpl : ((mp.length : Int) == 0) = true := hpl
        have HR' : Hid (z = 2) := Lib.hid (HZ.out.trans (if_neg (fun h => by have := any_of_take HSN2.out; rw [h.2.1] at this; cases this)))
        go_wp2_with fail
        go_ret
        exact ⟨by rw [HR'.out]; rfl, HB0.out.trans (HB1.out.mono HB0.out.size)⟩
      | true =>
        have hpl : ((mp.length : Int) == 0) = false := hpl
        go_wp2_with fail
        go_roundw
        case rel => exact ⟨i + 1, by omega, by go_num, Lib.hid HSN2.out, HB1⟩
        case measure => simp [intOf]; omega
    have hii : ¬ (i : Int) < (nr : Int) := by omega
    have HAR : Hid (rds.any badR = false) := Lib.hid (by rw [← any_take_all (p := badR) (l := rds) (i := i) (by rw [HNR.out]; omega)]; exact HA.out)
    go_wp2_with fail
    clear x0 x1 x2
    go_loopw [4, 6] (fun ve vj wr => ∃ (j : Nat) (b : Bool) (y : Int), j ≤ ne ∧ vj = .int .i64 j ∧ ve = .int .i64 y ∧ Hid (y = if b = true then 5 else 0) ∧ Hid ((eds.take j).any badE = false) ∧ Hid ((eds.take j).any longE = b) ∧ Hid (Below W0.heap.size W0 wr)) (fun _ vj _ => ne - (intOf vj).toNat)
    case atStart => exact ⟨0, false, 0, Nat.zero_le _, rfl, rfl, Lib.hid rfl, Lib.hid rfl, Lib.hid rfl, HBr⟩
    case round =>
      clear HBr HBE
      obtain ⟨j, bl, y, hj, rfl, rfl, HY, HA2, HL2, HBr⟩ := hrel
      obtain ⟨x0, x1, x2⟩ := KP.out wr HBr.out
      have HBE := Lib.hid (HB0.out.trans (HBr.out.mono HB0.out.size))
      by_cases hlt : j < ne
      · have hji : (j : Int) < (ne : Int) := by omega
        have hkl : j < eds.length := by rw [HNE.out]; exact hlt
        obtain ⟨bE, oE, rfl, hc⟩ := isl_at3 (HE.out.below HBE.out (Nat.le_refl _)) hkl
        have hsx := HSE.out (eds.getD j dEd) (by rw [List.getD_eq_getElem?_getD, List.getElem?_eq_getElem hkl]; exact List.getElem_mem _)
        have hsn := any_snoc (p := badE) dEd hkl
        have hsl := any_snoc (p := longE) dEd hkl
        rw [HA2.out, Bool.false_or] at hsn
        rw [HL2.out] at hsl
        obtain ⟨x, hx⟩ : ∃ x, eds.getD j dEd = x := ⟨_, rfl⟩
        rw [hx] at hc hsx hsn hsl
        obtain ⟨kd, pth, any, want, nn, txt⟩ := x
        have y0 : wr.cell? ⟨bE, oE + j * 6, none⟩ = some (.int .u8 (kd : Int)) := hc 0 _ rfl
        have y1 : wr.cell? ⟨bE, oE + j * 6 + 1, none⟩ = some (.string pth) := hc 1 _ rfl
        have y2 : wr.cell? ⟨bE, oE + j * 6 + 2, none⟩ = some (.bool any) := hc 2 _ rfl
        have y3 : wr.cell? ⟨bE, oE + j * 6 + 3, none⟩ = some (.int .u64 (want : Int)) := hc 3 _ rfl
        have y4 : wr.cell? ⟨bE, oE + j * 6 + 4, none⟩ = some (.int .u64 (nn : Int)) := hc 4 _ rfl
        have y5 : wr.cell? ⟨bE, oE + j * 6 + 5, none⟩ = some (.string txt) := hc 5 _ rfl
        have HPC := Lib.hid (fun w' => HPI.out pth hsx.path w')
        have HSN : Hid ((eds.take (j + 1)).any badE = (decide (kd < 1) || decide (3 < kd) || !Pth.mayL pth.data.toList)) := Lib.hid hsn
        have HSL : Hid ((eds.take (j + 1)).any longE = (bl || decide (4047 < txt.size))) := Lib.hid hsl
        have htx := hsx.text
        obtain ⟨W3, hW3⟩ : ∃ W3, wr.alloc (.cells #[.int .u8 (kd : Int), .string pth, .bool any, .int .u64 (want : Int), .int .u64 (nn : Int), .string txt] 63) = W3 := ⟨_, rfl⟩
        obtain ⟨hz3, hg3, hb3⟩ := alloc_keep hW3
        obtain ⟨q, hq⟩ : ∃ q, wr.heap.size = q := ⟨_, rfl⟩
        rw [hq] at hz3 hg3 hb3
        have HG3 := Lib.hid hg3
        have HB3 : Hid (Below W0.heap.size W0 W3) := Lib.hid (HBr.out.trans (hb3.mono (by rw [← hq]; exact HBr.out.size)))
        have u0 : W3.cell? ⟨q, 0, none⟩ = some (.int .u8 (kd : Int)) := cell_of hg3 0
        have u1 : W3.cell? ⟨q, 1, none⟩ = some (.string pth) := cell_of hg3 1
        have u5 : W3.cell? ⟨q, 5, none⟩ = some (.string txt) := cell_of hg3 5
        have hq3 : q < W3.heap.size := by omega
        clear hkl hc hsx hx hsn hsl hz3 hg3 hb3
        by_cases k1 : kd < 1
        · have k1i : (kd : Int) < 1 := by omega
          have HR' : Hid (z = 2) := Lib.hid (HZ.out.trans (if_neg (fun h => by
            have := any_of_take (p := badE) (l := eds) (i := j + 1) (by rw [HSN.out, decide_eq_true k1]; rfl)
            rw [h.2.2] at this; cases this)))
          go_wp2_with fail
          all_goals (go_ret; exact ⟨by rw [HR'.out]; rfl, HB0.out.trans (HB3.out.mono HB0.out.size)⟩)
        by_cases k3 : 3 < kd
        · have k1i : ¬ (kd : Int) < 1 := by omega
          have k3i : (3 : Int) < (kd : Int) := by omega
          have HR' : Hid (z = 2) := Lib.hid (HZ.out.trans (if_neg (fun h => by
            have := any_of_take (p := badE) (l := eds) (i := j + 1) (by rw [HSN.out, decide_eq_true k3, Bool.or_true]; rfl)
            rw [h.2.2] at this; cases this)))
          go_wp2_with fail
          all_goals (go_ret; exact ⟨by rw [HR'.out]; rfl, HB0.out.trans (HB3.out.mono HB0.out.size)⟩)
        have k1i : ¬ (kd : Int) < 1 := by omega
        have k3i : ¬ (3 : Int) < (kd : Int) := by omega
        have HSN2 : Hid ((eds.take (j + 1)).any badE = !Pth.mayL pth.data.toList) := Lib.hid (by rw [HSN.out, decide_eq_false k1, decide_eq_false k3]; rfl)
        clear k1 k3
        go_wp2_with fail
        refine (HPC.out W3).mono ?_
        rintro e w1 ⟨v1, mp, rfl, hst, hpc, hb1⟩
        obtain ⟨a1, c1, rfl, _⟩ := hst
        have hpl := pieces_len hpc
        have HB1 := Lib.hid (HB3.out.trans (hb1.mono HB3.out.size))
        have hg4 := (hb1.block q hq3).trans HG3.out
        obtain ⟨b, hb⟩ : ∃ b, Pth.mayL pth.data.toList = b := ⟨_, rfl⟩
        rw [hb] at hpl HSN2
        have u5 : w1.cell? ⟨q, 5, none⟩ = some (.string txt) := cell_of hg4 5
        clear hb1 hpc hb HPC u0 u1 hg4 y0 y1 y2 y3 y4 y5
        cases b with
        | false =>
          have hpl : ((mp.length : Int) == 0) = true := hpl
          have HR' : Hid (z = 2) := Lib.hid (HZ.out.trans (if_neg (fun h => by have := any_of_take HSN2.out; rw [h.2.2] at this; cases this)))
          go_wp2_with fail
          go_ret
          exact ⟨by rw [HR'.out]; rfl, HB0.out.trans (HB1.out.mono HB0.out.size)⟩
        | true =>
          have hpl : ((mp.length : Int) == 0) = false := hpl
          by_cases hlg : 4047 < txt.size
          · have hli : (4047 : Int) < (txt.size : Int) := by omega
            have HSL2 : Hid ((eds.take (j + 1)).any longE = true) := Lib.hid (by rw [HSL.out, decide_eq_true hlg, Bool.or_true])
            clear hlg
            go_wp2_with fail
            go_roundw
            case rel => exact ⟨j + 1, true, 5, by omega, by go_num, rfl, Lib.hid rfl, Lib.hid HSN2.out, HSL2, HB1⟩
            case measure => simp [intOf]; omega
          · have hli : ¬ (4047 : Int) < (txt.size : Int) := by omega
            have HSL2 : Hid ((eds.take (j + 1)).any longE = bl) := Lib.hid (by rw [HSL.out, decide_eq_false hlg, Bool.or_false])
            clear hlg
            go_wp2_with fail
            go_roundw
            case rel => exact ⟨j + 1, bl, y, by omega, by go_num, rfl, HY, Lib.hid HSN2.out, HSL2, HB1⟩
            case measure => simp [intOf]; omega
      have hji : ¬ (j : Int) < (ne : Int) := by omega
      have HR' : Hid (z = y) := Lib.hid (by
        have e1 := HA2.out; have e2 := HL2.out
        rw [any_take_all (by rw [HNE.out]; omega)] at e1 e2
        rw [HZ.out, if_pos ⟨HN.out, HAR.out, e1⟩, e2, HY.out])
      go_wp2_with fail
      go_ret
      exact ⟨by rw [HR'.out]; rfl, HBE.out⟩
end Go.Proofs.YtggdkfijioeijaaGreatDoor

namespace Go.Proofs.YtggdkfijioeijaaGreatDoor
open Go Go.RowKit Pth
theorem remptyT {s : ByteArray} (h : s.data.toList = []) : s.toList = [] := by rw [ByteArray.toList_eq]; exact h
theorem remptyF {s : ByteArray} (h : ¬ s.data.toList = []) : s.toList.isEmpty = false := by rw [ByteArray.toList_eq]; simpa using h
theorem remptyG {s : ByteArray} (h : ¬ s.data.toList = []) : ¬ s.toList = [] := by rw [ByteArray.toList_eq]; exact h

set_option maxHeartbeats 1000000 in
theorem ref16_prefix (s : ByteArray) (hs : s.size ≤ 140737488351232) (w : World) :
    Calls Tryz.prog 39 #[.string s] w fun e w' => e = .returned (.bool (prefL s.data.toList)) ∧ Below w.heap.size w w' := by
  by_cases h : s.data.toList = []
  · have H := Lib.hid h; have h1 := remptyT h; clear h
    go_enter Tryz.func39, Tryz.ntmps39
    go_wp2_with fail
    go_ret
    exact ⟨ret_bool (by rw [H.out]; rfl), Below.refl _ _⟩
  · have c := ref16_pieces s hs w
    have C := Lib.hid c; clear c
    have H := Lib.hid h; have h1 := remptyF h; have h2 := remptyG h; clear h
    go_enter Tryz.func39, Tryz.ntmps39
    go_wp2_with (go_at_call 19; refine (C.out).mono ?_; rintro e w' ⟨v, m, rfl, ⟨a, cap, rfl, hc⟩, hm, hb⟩; have Hb := Lib.hid hb; clear hb; have Hc := Lib.hid hc; clear hc; have Hm := Lib.hid hm; clear hm)
    go_ret
    refine ⟨ret_bool ?_, Hb.out⟩
    have h3 : s.data.toList.isEmpty = false := by simpa using H.out
    simp only [prefL, mayL, h3, Bool.false_or, ← Hm.out]
    cases m <;> simp

set_option maxRecDepth 100000 in
set_option maxHeartbeats 2000000 in
theorem ref28_may_rest (kind : Nat) (hk1 : kind ≠ 1) (vR vE : Value) (pre : ByteArray) (f t tw : Nat) (z : Int) (hp : pre.size ≤ 140737488351232) (hz : z = if kind = 2 then (if prefL pre.data.toList = true then 0 else 2) else if kind = 3 ∧ f ≤ t ∧ 0 < tw then 0 else 2) (aR : Option Addr) (nr cR : Nat) (hvR : vR = .slice aR nr cR) (aE : Option Addr) (ne cE : Nat) (hvE : vE = .slice aE ne cE) (w : World) :
    Calls Tryz.prog 14 #[.agg (callC kind vR vE pre f t tw)] w fun e w' => e = .returned (.int .i64 z) ∧ Below w.heap.size w w' := by
  subst hvR hvE
  have HZ := Lib.hid hz
  have HPX := Lib.hid (fun (w' : World) => ref16_prefix pre hp w')
  obtain ⟨W0, hW0⟩ : ∃ W0, w.alloc (.cells (callC kind (.slice aR nr cR) (.slice aE ne cE) pre f t tw) 30) = W0 := ⟨_, rfl⟩
  obtain ⟨hz0, hblk, hB0⟩ := alloc_keep hW0
  have x0 : W0.cell? ⟨w.heap.size, 0, none⟩ = some (.int .u8 (kind : Int)) := cell_of hblk 0
  have x3 : W0.cell? ⟨w.heap.size, 3, none⟩ = some (.string pre) := cell_of hblk 3
  have x4 : W0.cell? ⟨w.heap.size, 4, none⟩ = some (.int .u64 (f : Int)) := cell_of hblk 4
  have x5 : W0.cell? ⟨w.heap.size, 5, none⟩ = some (.int .u64 (t : Int)) := cell_of hblk 5
  have x6 : W0.cell? ⟨w.heap.size, 6, none⟩ = some (.int .u32 (tw : Int)) := cell_of hblk 6
  have HB0 := Lib.hid hB0
  have n1 : ((kind : Int) == 1) = false := by simp; omega
  clear hB0 hblk hz0 hz
  go_enter Tryz.func14, Tryz.ntmps14
  go_upto_region 1 with fail
  clear hW0
  by_cases h2 : kind = 2
  · have n2 : ((kind : Int) == 2) = true := by simp; omega
    have HZ2 : Hid (z = if prefL pre.data.toList = true then 0 else 2) := Lib.hid (by rw [HZ.out, if_pos h2])
    clear h2
    go_wp2_with fail
    refine (HPX.out W0).mono ?_
    rintro e w1 ⟨rfl, hb1⟩
    have HB1 := Lib.hid (HB0.out.trans (hb1.mono HB0.out.size))
    obtain ⟨b, hb⟩ : ∃ b, prefL pre.data.toList = b := ⟨_, rfl⟩
    rw [hb] at HZ2 ⊢
    clear hb hb1 HPX x0 x3 x4 x5 x6
    cases b with
    | true =>
      go_wp2_with fail
      go_ret
      exact ⟨by rw [HZ2.out]; rfl, HB1.out⟩
    | false =>
      go_wp2_with fail
      go_ret
      exact ⟨by rw [HZ2.out]; rfl, HB1.out⟩
  have n2 : ((kind : Int) == 2) = false := by simp; omega
  have HZ3 : Hid (z = if kind = 3 ∧ f ≤ t ∧ 0 < tw then 0 else 2) := Lib.hid (by rw [HZ.out, if_neg h2])
  clear HPX
  by_cases h3 : kind = 3
  · have n3 : ((kind : Int) == 3) = true := by simp; omega
    by_cases hft : f ≤ t
    · have hfi : (f : Int) ≤ (t : Int) := by omega
      by_cases htw : 0 < tw
      · have hti : (0 : Int) < (tw : Int) := by omega
        have HR : Hid (z = 0) := Lib.hid (HZ3.out.trans (if_pos ⟨h3, hft, htw⟩))
        clear h3 h2
        go_wp2_with fail
        go_ret
        exact ⟨by rw [HR.out]; rfl, HB0.out⟩
      · have hti : ¬ (0 : Int) < (tw : Int) := by omega
        have HR : Hid (z = 2) := Lib.hid (HZ3.out.trans (if_neg (fun h => htw h.2.2)))
        clear h3 h2
        go_wp2_with fail
        go_ret
        exact ⟨by rw [HR.out]; rfl, HB0.out⟩
    · have hfi : ¬ (f : Int) ≤ (t : Int) := by omega
      have HR : Hid (z = 2) := Lib.hid (HZ3.out.trans (if_neg (fun h => hft h.2.1)))
      clear h3 h2
      go_wp2_with fail
      go_ret
      exact ⟨by rw [HR.out]; rfl, HB0.out⟩
  · have n3 : ((kind : Int) == 3) = false := by simp; omega
    have HR : Hid (z = 2) := Lib.hid (HZ3.out.trans (if_neg (fun h => h3 h.1)))
    clear h3 h2
    go_wp2_with fail
    go_ret
    exact ⟨by rw [HR.out]; rfl, HB0.out⟩

theorem ref28_may (kind : Nat) (rds : List Rd) (eds : List Ed) (vR vE : Value) (pre : ByteArray) (f t tw : Nat) (w : World) (hR : IsRds w vR rds) (hE : IsEds w vE eds) (hsr : ∀ r ∈ rds, SmallRd r) (hse : ∀ x ∈ eds, SmallEd x) (hlr : rds.length ≤ 1000) (hle : eds.length ≤ 1000) (hp : pre.size ≤ 140737488351232) :
    Calls Tryz.prog 14 #[.agg (callC kind vR vE pre f t tw)] w fun e w' => e = .returned (.int .i64 (mayZ kind rds eds pre f t tw)) ∧ Below w.heap.size w w' := by
  by_cases h1 : kind = 1
  · subst h1; exact ref28_may_one rds eds vR vE pre f t tw w hR hE hsr hse hlr hle
  · obtain ⟨aR, cR, hvR⟩ := isl_shape hR
    obtain ⟨aE, cE, hvE⟩ := isl_shape hE
    refine ref28_may_rest kind h1 vR vE pre f t tw _ hp ?_ aR _ cR hvR aE _ cE hvE w
    unfold mayZ
    rw [if_neg h1]
    by_cases h2 : kind = 2
    · rw [if_pos h2, if_pos h2]
    · rw [if_neg h2, if_neg h2]
      by_cases h3 : kind = 3
      · rw [if_pos h3]
        by_cases h4 : f ≤ t ∧ 0 < tw
        · rw [if_pos h4, if_pos ⟨h3, h4⟩]
        · rw [if_neg h4, if_neg (fun h => h4 h.2)]
      · rw [if_neg h3, if_neg (fun h => h3 h.1)]
end Go.Proofs.YtggdkfijioeijaaGreatDoor

namespace Go.Proofs.YtggdkfijioeijaaGreatDoor
open Go Go.RowKit
set_option maxRecDepth 100000 in
set_option maxHeartbeats 2000000 in
theorem ref28_asks_no (m kind : Nat) (rds : List Rd) (eds : List Ed) (vR vE : Value) (pre : ByteArray) (f t tw : Nat) (w : World) (hR : IsRds w vR rds) (hE : IsEds w vE eds) (hsr : ∀ r ∈ rds, SmallRd r) (hse : ∀ x ∈ eds, SmallEd x) (hlr : rds.length ≤ 1000) (hle : eds.length ≤ 1000) (hp : pre.size ≤ 140737488351232)
    (hno : mayZ kind rds eds pre f t tw ≠ 0) :
    Calls Tryz.prog 12 #[.pointer (some ⟨m, 0, none⟩), .agg (callC kind vR vE pre f t tw)] w fun e w' => e = .returned (.tuple #[.slice none 0 0, .int .i64 (mayZ kind rds eds pre f t tw)]) ∧ Below w.heap.size w w' := by
  have HMAY := Lib.hid (fun (W : World) (hW : Below w.heap.size w W) => ref28_may kind rds eds vR vE pre f t tw W (hR.below hW (Nat.le_refl _)) (hE.below hW (Nat.le_refl _)) hsr hse hlr hle hp)
  obtain ⟨z, hz⟩ : ∃ z, mayZ kind rds eds pre f t tw = z := ⟨_, rfl⟩
  rw [hz] at HMAY hno ⊢
  have hzb : (z != 0) = true := by simpa using hno
  obtain ⟨aR, cR, rfl⟩ := isl_shape hR
  obtain ⟨aE, cE, rfl⟩ := isl_shape hE
  obtain ⟨nr, hnr⟩ : ∃ nr, rds.length = nr := ⟨_, rfl⟩
  obtain ⟨ne, hne⟩ : ∃ ne, eds.length = ne := ⟨_, rfl⟩
  rw [hnr, hne] at HMAY ⊢
  clear hR hE hsr hse hlr hle hp hno hz hnr hne
  obtain ⟨W0, hW0⟩ : ∃ W0, w.alloc (.cells (callC kind (.slice aR nr cR) (.slice aE ne cE) pre f t tw) 30) = W0 := ⟨_, rfl⟩
  obtain ⟨hz0, hblk, hB0⟩ := alloc_keep hW0
  have c0 : W0.cell? ⟨w.heap.size, 0, none⟩ = some (.int .u8 (kind : Int)) := cell_of hblk 0
  have c1 : W0.cell? ⟨w.heap.size, 1, none⟩ = some (.slice aR nr cR) := cell_of hblk 1
  have c2 : W0.cell? ⟨w.heap.size, 2, none⟩ = some (.slice aE ne cE) := cell_of hblk 2
  have c3 : W0.cell? ⟨w.heap.size, 3, none⟩ = some (.string pre) := cell_of hblk 3
  have c4 : W0.cell? ⟨w.heap.size, 4, none⟩ = some (.int .u64 (f : Int)) := cell_of hblk 4
  have c5 : W0.cell? ⟨w.heap.size, 5, none⟩ = some (.int .u64 (t : Int)) := cell_of hblk 5
  have c6 : W0.cell? ⟨w.heap.size, 6, none⟩ = some (.int .u32 (tw : Int)) := cell_of hblk 6
  have HB0 := Lib.hid hB0
  clear hz0 hblk hB0
  go_enter Tryz.func12, Tryz.ntmps12
  go_upto_region 1 with fail
  clear hW0
  go_wp2_with fail
  refine (HMAY.out W0 HB0.out).mono ?_
  rintro en w1 ⟨rfl, hb1⟩
  have HB1 := Lib.hid (HB0.out.trans (hb1.mono HB0.out.size))
  clear hb1 c0 c1 c2 c3 c4 c5 c6 HMAY
  go_wp2_with fail
  go_ret2
  exact ⟨rfl, HB1.out⟩
end Go.Proofs.YtggdkfijioeijaaGreatDoor
