/- The walk of scriniumlaw16.PathPieces. -/
import Derived.Test.YtnlolfhhemdojaaDoorLaw16p
namespace Go.Proofs.YtnlolfhhemdojaaDoor
open Go Go.RowKit Pth

theorem cell_keep {w w' : World} {b o : Nat} {v : Value} (h : w.cell? ⟨b, o, none⟩ = some v) (hb : Below w.heap.size w w') : w'.cell? ⟨b, o, none⟩ = some v :=
  (hb.cell (p := ⟨b, o, none⟩) (cell_lt h)).trans h

set_option maxRecDepth 100000 in
set_option maxHeartbeats 4000000 in
theorem law16_pieces (l : List ByteArray) (v : Value) (w : World) (hl : l.length * 16 ≤ 140737488351232) (hls : ∀ i, i < l.length → (l.getD i ByteArray.empty).size ≤ 140737488351232)
    (hv : IsStrs w v l) (hm : MX w) :
    Calls Tryd.prog 5 #[v] w fun e w' => e = .returned (.bool true) ∧ Below w.heap.size w w' := by
  have Hm := Lib.hid (St.start hm); clear hm
  have Hl := Lib.hid hl; have Hls := Lib.hid hls; have Hv := Lib.hid hv; clear hls hv hl
  obtain ⟨a0, cap0, rfl, hc0⟩ := Hv.out
  have Hc0 := Lib.hid hc0; clear hc0
  have hl0 : l.length ≤ 9223372036854775807 := by have := Hl.out; omega
  go_enter Tryd.func5, Tryd.ntmps5
  go_wp2_with fail
  refine (law16_heavy _ l _ Hv.out hl0 Hls.out).mono ?_
  rintro e w1 ⟨rfl, rfl⟩
  by_cases hgo : heavyB l = false ∧ 0 < l.length ∧ l.length ≤ 8
  · obtain ⟨hh, hpos, h8⟩ := hgo
    have hsum : sumLen l ≤ 4096 := by
      unfold heavyB at hh; simp only [Bool.or_eq_false_iff, decide_eq_false_iff_not] at hh
      have := hh.2; rw [List.take_of_length_le (by omega)] at this; omega
    rw [hh]
    have Hh := Lib.hid hh; clear hh
    have hB0 : ((l.length : Int) == 0) = false := by rw [beq_eq_false_iff_ne]; omega
    have hne0 : ¬ l = [] := by rintro rfl; simp at hpos
    rcases Hc0.out with hn | ⟨b0, o0, rfl, hblt, hcc⟩
    · subst hn; simp at hpos
    have hc00 : w.cell? ⟨b0, o0, none⟩ = some (.string (l.getD 0 ByteArray.empty)) := hcc 0 hpos
    have Hcc := Lib.hid hcc; clear hcc
    obtain ⟨x0, hx0⟩ : ∃ x, x = l.getD 0 ByteArray.empty := ⟨_, rfl⟩
    rw [← hx0] at hc00
    have Hx0 := Lib.hid hx0; clear hx0
    go_wp2
    go_loop [3, 4] (fun s i => ∃ (k : Nat) (sB : ByteArray), 1 ≤ k ∧ k ≤ l.length ∧ i = .int .i64 k ∧ s = .string sB ∧ sB.size ≤ 4104 ∧ Hid (sB.data.toList = joinL ((l.take k).map (·.data.toList)))) (fun _ i => l.length - (intOf i).toNat)
    case atStart =>
      have hj : x0.data.toList = joinL ((l.take 1).map (·.data.toList)) := by rw [joined_one hpos, Hx0.out]
      have hjl := joined_len l 1 (by omega)
      rw [← hj] at hjl
      have e0 : x0.data.toList.length = x0.size := rfl
      exact ⟨1, x0, by omega, by omega, rfl, rfl, by omega, Lib.hid hj⟩
    case round =>
      obtain ⟨k, sB, hk1, hk, rfl, rfl, hsz, hj⟩ := hrel
      by_cases hlt : k < l.length
      · have hcell := Hcc.out k hlt
        obtain ⟨x, hx⟩ : ∃ x, x = l.getD k ByteArray.empty := ⟨_, rfl⟩
        rw [← hx] at hcell
        have hxs : x.size ≤ 4096 := by
          have := sumLen_mem (l := l) (s := x) (by rw [hx, List.getD_eq_getElem?_getD, List.getElem?_eq_getElem hlt]; exact List.getElem_mem hlt)
          omega
        have Hx := Lib.hid hx; clear hx
        have hj2 : ((sB ++ ⟨#[47]⟩) ++ x : ByteArray).data.toList = joinL ((l.take (k + 1)).map (·.data.toList)) := by
          rw [app_toList, app_toList, joined_succ hk1 hlt, hj.out, Hx.out]; simp
        have hjl := joined_len l (k + 1) (by omega)
        rw [← hj2] at hjl
        have hjs : ((sB ++ ⟨#[47]⟩) ++ x : ByteArray).size ≤ 4104 := by
          have e0 : ((sB ++ ⟨#[47]⟩) ++ x : ByteArray).data.toList.length = ((sB ++ ⟨#[47]⟩) ++ x : ByteArray).size := rfl
          omega
        have Hjs := Lib.hid hjs; have Hj2 := Lib.hid hj2; clear hjl hjs hj2
        go_wp2
        go_round
        case rel => exact ⟨k + 1, (sB ++ ⟨#[47]⟩) ++ x, by omega, by omega, by go_num, rfl, Hjs.out, Lib.hid Hj2.out⟩
        case measure => simp [intOf]; omega
      · have Hj : Hid (sB.data.toList = joinL (l.map (·.data.toList))) := Lib.hid (by have := hj.out; rw [List.take_of_length_le (by omega)] at this; exact this)
        have hge : (l.length : Int) ≤ (k : Int) := by omega
        clear hj hpos h8
        have Hsz := Lib.hid (show sB.size ≤ 140737488351232 by omega)
        clear hsz
        go_wp2_with fail
        refine (path_pieces_any sB Hsz.out _ Hm.out.2).mono ?_
        rintro e w2 ⟨v2, m2, rfl, hst2, hm2, hb2⟩
        have H2 := Lib.hid (Hm.out.step hb2); clear hb2
        have Hst2 := Lib.hid hst2; have Hm2 := Lib.hid hm2; clear hst2 hm2
        obtain ⟨a2, cap2, rfl, hc2⟩ := Hst2.out
        clear hc2
        go_wp2_with fail
        refine (path_may sB Hsz.out _ H2.out.2).mono ?_
        rw [may_len Hm2.out]
        rintro e w3 ⟨rfl, hb3⟩
        have H3 := Lib.hid (H2.out.step hb3)
        have Hst3 := Lib.hid (Hst2.out.below hb3 (Nat.le_refl _)); clear hb3 Hst2
        have hle := len_pieces Hm2.out
        by_cases hz : m2.length = 0
        · have hz1 : decide (0 < m2.length) = false := by simp [hz]
          rw [hz1]
          have hz2 : (m2.length : Int) ≤ 0 := by omega
          have Hz := Lib.hid hz; clear hz hz1
          go_wp2_with fail
          refine (law16_works _ H3.out.2).mono ?_
          rintro e w4 ⟨rfl, hb4⟩
          have H4 := Lib.hid (H3.out.step hb4); clear hb4
          go_wp2
          go_ret
          exact ⟨rfl, H4.out.1⟩
        · have hz1 : decide (0 < m2.length) = true := by simp; omega
          rw [hz1]
          have hpos2 : 0 < m2.length := by omega
          have Hmay : Hid (mayL sB.data.toList = true) := Lib.hid (by rw [may_len Hm2.out]; exact hz1)
          clear hz hz1
          have Hsp : Hid (m2.map (·.data.toList) = splitL sB.data.toList) := Lib.hid (by rw [Hm2.out, pieces_may _ Hmay.out])
          have Hlen : Hid ((splitL sB.data.toList).length = m2.length) := Lib.hid (by rw [← Hsp.out, List.length_map])
          have hB2 : ((m2.length : Int) == 0) = false := by rw [beq_eq_false_iff_ne]; omega
          have hP2 : (0 : Int) < (m2.length : Int) := by omega
          have hN2 : ¬ m2 = [] := by rintro rfl; simp at hpos2
          go_wp2
          have Hpos2 := Lib.hid hpos2; clear hpos2
          go_loopw [6, 7, 8, 9, 10] (fun at' i _ _ _ wr => ∃ (n : Nat) (aB : ByteArray), n ≤ m2.length ∧ i = .int .i64 n ∧ at' = .string aB ∧ Hid (aB.data.toList = upTo sB.data.toList n) ∧ Hid (St w wr) ∧ Hid (IsStrs wr (.slice a2 m2.length cap2) m2)) (fun _ i _ _ _ _ => m2.length - (intOf i).toNat)
          case atStart => exact ⟨0, ⟨#[]⟩, Nat.zero_le _, rfl, rfl, Lib.hid (upTo_zero _).symm, H3, Hst3⟩
          case round =>
            obtain ⟨n, aB, hn, rfl, rfl, haB, HS, Hst⟩ := hrel
            have has : aB.size ≤ 140737488351232 := by
              have := upTo_len sB.data.toList n
              rw [← haB.out] at this
              have := Hsz.out
              have e1 : aB.data.toList.length = aB.size := rfl
              have e2 : sB.data.toList.length = sB.size := rfl
              omega
            have Has := Lib.hid has; clear has
            by_cases hnl : n < m2.length
            · have hnl2 : n < (splitL sB.data.toList).length := by rw [Hlen.out]; exact hnl
              have hpre : prefL aB.data.toList = true := by rw [haB.out]; exact upTo_pref Hmay.out
              have hund : underL aB.data.toList sB.data.toList = true := by rw [haB.out]; exact upTo_under Hmay.out hnl2
              obtain ⟨b2, o2, rfl, hcc2⟩ : ∃ b2 o2, a2 = some ⟨b2, o2, none⟩ ∧ wr.cell? ⟨b2, o2 + n, none⟩ = some (.string (m2.getD n ByteArray.empty)) := by
                obtain ⟨_, _, hv, h⟩ := Hst.out
                simp only [Value.slice.injEq] at hv
                obtain ⟨rfl, _, _⟩ := hv
                rcases h with h | ⟨b, o, ha, _, h⟩
                · subst h; simp at hnl
                · exact ⟨b, o, ha, h n hnl⟩
              have hx : (m2.getD n ByteArray.empty).data.toList = (splitL sB.data.toList).getD n [] := by rw [getD_map _ _ hnl, Hsp.out]
              obtain ⟨x, hx0⟩ : ∃ x, x = m2.getD n ByteArray.empty := ⟨_, rfl⟩
              rw [← hx0] at hcc2 hx
              have hxs : x.size ≤ 140737488351232 := by
                have := rpiece_small (s := sB.data.toList) x.data.toList (by rw [hx, List.getD_eq_getElem?_getD, List.getElem?_eq_getElem hnl2]; exact List.getElem_mem hnl2)
                have e1 : x.data.toList.length = x.size := rfl
                have e2 : sB.data.toList.length = sB.size := rfl
                have := Hsz.out
                omega
              have hchild := upTo_child Hmay.out hnl2
              rw [← hx, ← haB.out] at hchild
              have cP := path_prefix aB Has.out wr HS.out.2
              rw [hpre] at cP
              have cU := fun wy (h : MX wy) => path_under aB sB Has.out Hsz.out wy h
              rw [hund] at cU
              have cC := fun wy (h : MX wy) => path_child aB sB Has.out Hsz.out wy h
              rw [hund] at cC
              have hasz : aB.size + x.size + 10 ≤ 9223372036854775807 := by have := Has.out; omega
              have hxz : x.size + 10 ≤ 9223372036854775807 := by omega
              have CP := Lib.hid cP; have CU := Lib.hid cU; have CC := Lib.hid cC
              have Hx := Lib.hid hx; have Hcell := Lib.hid hcc2
              have Hchild := Lib.hid hchild
              have Hn2 := Lib.hid hnl2
              clear cP cU cC hx hcc2 hchild hnl2 hpre hund hxs hx0
              have hup1 : Hid (n = 0 → x.data.toList = upTo sB.data.toList (n + 1)) := Lib.hid (fun h => by
                subst h; rw [upTo_one Hn2.out, Hx.out])
              have hup2 : Hid (0 < n → aB.data.toList ++ 47 :: x.data.toList = upTo sB.data.toList (n + 1)) := Lib.hid (fun h => by
                rw [upTo_succ Hn2.out h, haB.out, Hx.out])
              have hne : Hid (0 < n → ¬ aB.data.toList = []) := Lib.hid (fun h => by rw [haB.out]; exact upTo_ne Hmay.out h)
              have heq0 : Hid (n = 0 → aB.data.toList = []) := Lib.hid (fun h => by rw [haB.out, h, upTo_zero])
              by_cases hz : n = 0
              · by_cases hm : n + 1 < (splitL sB.data.toList).length
                · have Hbx : Hid (bs (childL aB.data.toList sB.data.toList) = x ++ ⟨#[47]⟩) := Lib.hid (by rw [Hchild.out, if_pos hm]; exact ba_ext (by rw [bs_toList, app_toList]))
                  have ha1 := remptyT (heq0.out hz)
                  have hm2 : (n : Int) < (m2.length : Int) - 1 := by rw [Hlen.out] at hm; omega
                  have Hz := Lib.hid hz; have Hmm := Lib.hid hm; clear hz hm
                  go_wp2_with fail
                  refine (CP.out).mono ?_
                  rintro e y1 ⟨rfl, hb⟩
                  have S1 := Lib.hid (HS.out.step hb); have C1 := Lib.hid (cell_keep Hcell.out hb); have T1 := Lib.hid (Hst.out.below hb (Nat.le_refl _)); clear hb
                  go_wp2_with fail
                  refine (CU.out _ S1.out.2).mono ?_
                  rintro e y2 ⟨rfl, hb⟩
                  have S2 := Lib.hid (S1.out.step hb); have C2 := Lib.hid (cell_keep C1.out hb); have T2 := Lib.hid (T1.out.below hb (Nat.le_refl _)); clear hb
                  go_wp2_with fail
                  refine (CC.out _ S2.out.2).mono ?_
                  rw [Hbx.out]
                  rintro e y3 ⟨rfl, hb⟩
                  have S3 := Lib.hid (S2.out.step hb); have c3 := cell_keep C2.out hb; have T3 := Lib.hid (T2.out.below hb (Nat.le_refl _)); clear hb
                  go_wp2
                  go_roundw
                  case rel => exact ⟨n + 1, aB ++ x, by omega, by go_num, rfl, Lib.hid (by rw [app_toList, heq0.out Hz.out, List.nil_append]; exact hup1.out Hz.out), S3, T3⟩
                  case measure => simp [intOf]; omega
                · have Hbx : Hid (bs (childL aB.data.toList sB.data.toList) = x) := Lib.hid (by rw [Hchild.out, if_neg hm]; exact ba_ext (by rw [bs_toList]))
                  have ha1 := remptyT (heq0.out hz)
                  have hm2 : (m2.length : Int) - 1 ≤ (n : Int) := by rw [Hlen.out] at hm; omega
                  have Hz := Lib.hid hz; have Hmm := Lib.hid hm; clear hz hm
                  go_wp2_with fail
                  refine (CP.out).mono ?_
                  rintro e y1 ⟨rfl, hb⟩
                  have S1 := Lib.hid (HS.out.step hb); have C1 := Lib.hid (cell_keep Hcell.out hb); have T1 := Lib.hid (Hst.out.below hb (Nat.le_refl _)); clear hb
                  go_wp2_with fail
                  refine (CU.out _ S1.out.2).mono ?_
                  rintro e y2 ⟨rfl, hb⟩
                  have S2 := Lib.hid (S1.out.step hb); have C2 := Lib.hid (cell_keep C1.out hb); have T2 := Lib.hid (T1.out.below hb (Nat.le_refl _)); clear hb
                  go_wp2_with fail
                  refine (CC.out _ S2.out.2).mono ?_
                  rw [Hbx.out]
                  rintro e y3 ⟨rfl, hb⟩
                  have S3 := Lib.hid (S2.out.step hb); have c3 := cell_keep C2.out hb; have T3 := Lib.hid (T2.out.below hb (Nat.le_refl _)); clear hb
                  go_wp2
                  go_roundw
                  case rel => exact ⟨n + 1, aB ++ x, by omega, by go_num, rfl, Lib.hid (by rw [app_toList, heq0.out Hz.out, List.nil_append]; exact hup1.out Hz.out), S3, T3⟩
                  case measure => simp [intOf]; omega
              · by_cases hm : n + 1 < (splitL sB.data.toList).length
                · have Hbx : Hid (bs (childL aB.data.toList sB.data.toList) = x ++ ⟨#[47]⟩) := Lib.hid (by rw [Hchild.out, if_pos hm]; exact ba_ext (by rw [bs_toList, app_toList]))
                  have ha1 := remptyF (hne.out (by omega)); have ha2 := remptyG (hne.out (by omega))
                  have hm2 : (n : Int) < (m2.length : Int) - 1 := by rw [Hlen.out] at hm; omega
                  have Hz := Lib.hid hz; have Hmm := Lib.hid hm; clear hz hm
                  go_wp2_with fail
                  refine (CP.out).mono ?_
                  rintro e y1 ⟨rfl, hb⟩
                  have S1 := Lib.hid (HS.out.step hb); have C1 := Lib.hid (cell_keep Hcell.out hb); have T1 := Lib.hid (Hst.out.below hb (Nat.le_refl _)); clear hb
                  go_wp2_with fail
                  refine (CU.out _ S1.out.2).mono ?_
                  rintro e y2 ⟨rfl, hb⟩
                  have S2 := Lib.hid (S1.out.step hb); have C2 := Lib.hid (cell_keep C1.out hb); have T2 := Lib.hid (T1.out.below hb (Nat.le_refl _)); clear hb
                  go_wp2_with fail
                  refine (CC.out _ S2.out.2).mono ?_
                  rw [Hbx.out]
                  rintro e y3 ⟨rfl, hb⟩
                  have S3 := Lib.hid (S2.out.step hb); have c3 := cell_keep C2.out hb; have T3 := Lib.hid (T2.out.below hb (Nat.le_refl _)); clear hb
                  go_wp2
                  go_roundw
                  case rel => exact ⟨n + 1, (aB ++ ⟨#[47]⟩) ++ x, by omega, by go_num, rfl, Lib.hid (by rw [app_toList, app_toList, ← hup2.out (by have := Hz.out; omega)]; simp), S3, T3⟩
                  case measure => simp [intOf]; omega
                · have Hbx : Hid (bs (childL aB.data.toList sB.data.toList) = x) := Lib.hid (by rw [Hchild.out, if_neg hm]; exact ba_ext (by rw [bs_toList]))
                  have ha1 := remptyF (hne.out (by omega)); have ha2 := remptyG (hne.out (by omega))
                  have hm2 : (m2.length : Int) - 1 ≤ (n : Int) := by rw [Hlen.out] at hm; omega
                  have Hz := Lib.hid hz; have Hmm := Lib.hid hm; clear hz hm
                  go_wp2_with fail
                  refine (CP.out).mono ?_
                  rintro e y1 ⟨rfl, hb⟩
                  have S1 := Lib.hid (HS.out.step hb); have C1 := Lib.hid (cell_keep Hcell.out hb); have T1 := Lib.hid (Hst.out.below hb (Nat.le_refl _)); clear hb
                  go_wp2_with fail
                  refine (CU.out _ S1.out.2).mono ?_
                  rintro e y2 ⟨rfl, hb⟩
                  have S2 := Lib.hid (S1.out.step hb); have C2 := Lib.hid (cell_keep C1.out hb); have T2 := Lib.hid (T1.out.below hb (Nat.le_refl _)); clear hb
                  go_wp2_with fail
                  refine (CC.out _ S2.out.2).mono ?_
                  rw [Hbx.out]
                  rintro e y3 ⟨rfl, hb⟩
                  have S3 := Lib.hid (S2.out.step hb); have c3 := cell_keep C2.out hb; have T3 := Lib.hid (T2.out.below hb (Nat.le_refl _)); clear hb
                  go_wp2
                  go_roundw
                  case rel => exact ⟨n + 1, (aB ++ ⟨#[47]⟩) ++ x, by omega, by go_num, rfl, Lib.hid (by rw [app_toList, app_toList, ← hup2.out (by have := Hz.out; omega)]; simp), S3, T3⟩
                  case measure => simp [intOf]; omega
            · have Hal : Hid (aB = sB) := Lib.hid (ba_ext (by
                have : n = (splitL sB.data.toList).length := by rw [Hlen.out]; omega
                rw [haB.out, this, upTo_all]))
              have hge2 : (m2.length : Int) ≤ (n : Int) := by omega
              have he1 : (aB.toList == sB.toList) = true := by rw [Hal.out]; simp
              have cU := path_under sB sB Hsz.out Hsz.out wr HS.out.2
              rw [under_irr] at cU
              have CU := Lib.hid cU; clear cU
              go_wp2_with fail
              refine (CU.out).mono ?_
              rintro e y1 ⟨rfl, hb⟩
              have S1 := Lib.hid (HS.out.step hb); clear hb
              go_wp2_with fail
              refine (law16_works _ S1.out.2).mono ?_
              rintro e y2 ⟨rfl, hb⟩
              have S2 := Lib.hid (S1.out.step hb); clear hb
              go_wp2
              go_ret
              exact ⟨rfl, S2.out.1⟩
  · cases hh : heavyB l with
    | true =>
      have Hh := Lib.hid hh; clear hh hgo
      go_wp2_with fail
      refine (law16_works _ Hm.out.2).mono ?_
      rintro e w2 ⟨rfl, hb2⟩
      have H2 := Lib.hid (Hm.out.step hb2); clear hb2
      go_wp2
      go_ret
      exact ⟨rfl, H2.out.1⟩
    | false =>
      by_cases hz : l = []
      · subst hz
        clear hh hgo
        go_wp2_with fail
        refine (law16_works _ Hm.out.2).mono ?_
        rintro e w2 ⟨rfl, hb2⟩
        have H2 := Lib.hid (Hm.out.step hb2); clear hb2
        go_wp2
        go_ret
        exact ⟨rfl, H2.out.1⟩
      · have h8 : 8 < l.length := by
          have := List.length_pos_iff.2 hz
          simp only [hh, true_and] at hgo; omega
        have hB0 : ((l.length : Int) == 0) = false := by rw [beq_eq_false_iff_ne]; omega
        clear hh hgo
        go_wp2_with fail
        refine (law16_works _ Hm.out.2).mono ?_
        rintro e w2 ⟨rfl, hb2⟩
        have H2 := Lib.hid (Hm.out.step hb2); clear hb2
        go_wp2
        go_ret
        exact ⟨rfl, H2.out.1⟩
end Go.Proofs.YtnlolfhhemdojaaDoor
