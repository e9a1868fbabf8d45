/- The walk of scriniumlaw16.PathDeep: it answers true at any three texts. -/
import Derived.Test.YtnlolfhhemdojaaDoorLaw16n
import Derived.Deep.DeepCutAuto
namespace Go.Proofs.YtnlolfhhemdojaaDoor
open Go Go.RowKit Pth

theorem under_iff (p s : List UInt8) : underL p s = true ↔ prefL p = true ∧ (piecesL p).length < (piecesL s).length ∧ ∃ t, piecesL s = piecesL p ++ t := by
  rw [← under_eq]; unfold underR
  simp only [Bool.and_eq_true, decide_eq_true_eq, isPrefixOf_iff']
  constructor
  · rintro ⟨⟨a, b⟩, c⟩; exact ⟨a, b, c⟩
  · rintro ⟨a, b, c⟩; exact ⟨⟨a, b⟩, c⟩
theorem under_trans {a b c : List UInt8} (h1 : underL a b = true) (h2 : underL b c = true) : underL a c = true := by
  rw [under_iff] at *
  obtain ⟨p1, l1, t1, e1⟩ := h1
  obtain ⟨_, l2, t2, e2⟩ := h2
  exact ⟨p1, by omega, t1 ++ t2, by rw [e2, e1, List.append_assoc]⟩
theorem under_anti {a b : List UInt8} (h1 : underL a b = true) : underL b a = false := by
  rw [Bool.eq_false_iff]; intro h2
  rw [under_iff] at *
  omega
theorem under_irr (a : List UInt8) : underL a a = false := by
  rw [Bool.eq_false_iff]; intro h
  rw [under_iff] at h
  omega
theorem pref_may {p : List UInt8} (h : prefL p = true) (hne : ¬ p = []) : mayL p = true := by
  have : p.isEmpty = false := by simpa using hne
  simpa [prefL, this] using h
theorem pieces_inj {a b : List UInt8} (ha : mayL a = true) (hb : mayL b = true) (h : piecesL a = piecesL b) : a = b := by
  rw [pieces_may a ha, pieces_may b hb] at h
  rw [← joinL_splitL a, h, joinL_splitL]
theorem under_beside {a b c : List UInt8} (ha : ¬ a = []) (hb : ¬ b = []) (h1 : underL a c = true) (h2 : underL b c = true) (hne : ¬ a = b) (h3 : underL a b = false) : underL b a = true := by
  rw [under_iff] at h1 h2 ⊢
  obtain ⟨p1, l1, t1, e1⟩ := h1
  obtain ⟨p2, l2, t2, e2⟩ := h2
  have hma := pref_may p1 ha
  have hmb := pref_may p2 hb
  have ee : piecesL a ++ t1 = piecesL b ++ t2 := by rw [← e1, ← e2]
  rcases Nat.lt_trichotomy (piecesL a).length (piecesL b).length with h | h | h
  · rw [Bool.eq_false_iff] at h3
    refine absurd ((under_iff a b).2 ⟨p1, h, ?_⟩) h3
    rcases List.append_eq_append_iff.1 ee with ⟨s, hs, _⟩ | ⟨s, hs, _⟩
    · exact ⟨s, hs⟩
    · have := congrArg List.length hs; rw [List.length_append] at this; omega
  · rcases List.append_eq_append_iff.1 ee with ⟨s, hs, _⟩ | ⟨s, hs, _⟩
    · have h0 : s = [] := by
        have := congrArg List.length hs; rw [List.length_append] at this
        exact List.length_eq_zero_iff.1 (by omega)
      rw [h0, List.append_nil] at hs
      exact absurd (pieces_inj hma hmb hs.symm) hne
    · have h0 : s = [] := by
        have := congrArg List.length hs; rw [List.length_append] at this
        exact List.length_eq_zero_iff.1 (by omega)
      rw [h0, List.append_nil] at hs
      exact absurd (pieces_inj hma hmb hs) hne
  · refine ⟨p2, h, ?_⟩
    rcases List.append_eq_append_iff.1 ee with ⟨s, hs, _⟩ | ⟨s, hs, _⟩
    · have := congrArg List.length hs; rw [List.length_append] at this; omega
    · exact ⟨s, hs⟩
theorem names_one {a c : List UInt8} (h : underL a c = true) : namesL a [c] = [childL a c] := by
  unfold namesL
  have : nub (kidsL a [c]) = [childL a c] := by simp [kidsL, h, nub]
  rw [this]; exact List.mergeSort_singleton _
theorem names_two {a c : List UInt8} (h : underL a c = true) : namesL a [c, c] = [childL a c] := by
  unfold namesL
  have : nub (kidsL a [c, c]) = [childL a c] := by simp [kidsL, h, nub]
  rw [this]; exact List.mergeSort_singleton _

theorem under_at (x y : ByteArray) (hx : x.size ≤ 4096) (hy : y.size ≤ 4096) {u : Bool} (hu : underL x.data.toList y.data.toList = u) {w0 w : World} (h : St w0 w) :
    Calls Tryd.prog 17 #[.string x, .string y] w fun e w' => e = .returned (.bool u) ∧ Hid (St w0 w') := by
  rw [← hu]
  exact (path_under x y (by omega) (by omega) w h.2).mono fun e w' ⟨he, hb⟩ => ⟨he, h.step hb⟩

set_option maxRecDepth 100000 in
set_option maxHeartbeats 4000000 in
theorem law16_deep (a b c : ByteArray) (w : World) (ha : a.size ≤ 140737488351232) (hb : b.size ≤ 140737488351232) (hc : c.size ≤ 140737488351232) (hm : MX w) :
    Calls Tryd.prog 6 #[.string a, .string b, .string c] w fun e w' => e = .returned (.bool true) ∧ Below w.heap.size w w' := by
  have Hm := Lib.hid (St.start hm); clear hm
  have Ha := Lib.hid ha; have Hb := Lib.hid hb; have Hc := Lib.hid hc; clear ha hb hc
  go_enter Tryd.func6, Tryd.ntmps6
  go_wp2_with fail
  refine (law16_heavy _ [a, b, c] _ (IsStrs.new w [a, b, c] 3 9 (0, 0)) (by simp) (by
    intro i hi
    match i, hi with
    | 0, _ => exact Ha.out
    | 1, _ => exact Hb.out
    | 2, _ => exact Hc.out)).mono ?_
  rintro e w1 ⟨rfl, rfl⟩
  have H1 := Lib.hid (Hm.out.alloc (.cells (([a, b, c] : List ByteArray).map Value.string).toArray 9))
  cases hh : heavyB [a, b, c] with
  | true =>
    clear hh
    go_wp2_with fail
    refine (law16_works _ H1.out.2).mono ?_
    rintro e w2 ⟨rfl, hb2⟩
    have H2 := Lib.hid (H1.out.step hb2); clear hb2
    go_wp2
    go_ret
    exact ⟨rfl, H2.out.1⟩
  | false =>
    have hsz : a.size ≤ 4096 ∧ b.size ≤ 4096 ∧ c.size ≤ 4096 := by
      unfold heavyB at hh; simp [sumLen] at hh; omega
    clear hh Ha Hb Hc
    obtain ⟨ha, hb, hc⟩ := hsz
    have Ha := Lib.hid ha; have Hb := Lib.hid hb; have Hc := Lib.hid hc; clear ha hb hc
    obtain ⟨ab, hab⟩ : ∃ u, underL a.data.toList b.data.toList = u := ⟨_, rfl⟩
    obtain ⟨bc, hbc⟩ : ∃ u, underL b.data.toList c.data.toList = u := ⟨_, rfl⟩
    obtain ⟨ac, hac⟩ : ∃ u, underL a.data.toList c.data.toList = u := ⟨_, rfl⟩
    obtain ⟨ba, hba⟩ : ∃ u, underL b.data.toList a.data.toList = u := ⟨_, rfl⟩
    have haa := under_irr a.data.toList
    have Hab := Lib.hid hab; have Hbc := Lib.hid hbc; have Hac := Lib.hid hac; have Hba := Lib.hid hba; have Haa := Lib.hid haa
    have K1 : Hid (ab = true → bc = true → ac = true) := Lib.hid (fun x y => by rw [← hac]; exact under_trans (hab.trans x) (hbc.trans y))
    have K2 : Hid (ab = true → ba = false) := Lib.hid (fun x => by rw [← hba]; exact under_anti (hab.trans x))
    have K3 : Hid (¬ a.data.toList = [] → ¬ b.data.toList = [] → ac = true → bc = true → ¬ a.data.toList = b.data.toList → ab = false → ba = true) := Lib.hid (fun x y z u v t => by rw [← hba]; exact under_beside x y (hac.trans z) (hbc.trans u) v (hab.trans t))
    clear hab hbc hac hba haa
    go_upto_region 3 with fail
    go_cut [28] (fun s28 wx => s28 = .bool false ∧ Hid (St w wx))
    case first =>
      cases ab with
      | false =>
        go_wp2_with fail
        refine (under_at a b Ha.out Hb.out Hab.out H1.out).mono ?_
        rintro e w_G1 ⟨rfl, G1⟩
        go_wp2_with fail
        go_meet
        case rel => exact ⟨rfl, G1⟩
      | true =>
        cases bc with
        | false =>
          go_wp2_with fail
          refine (under_at a b Ha.out Hb.out Hab.out H1.out).mono ?_
          rintro e w_G1 ⟨rfl, G1⟩
          go_wp2_with fail
          refine (under_at b c Hb.out Hc.out Hbc.out G1.out).mono ?_
          rintro e w_G2 ⟨rfl, G2⟩
          go_wp2_with fail
          go_meet
          case rel => exact ⟨rfl, G2⟩
        | true =>
          obtain rfl : ac = true := K1.out rfl rfl
          go_wp2_with fail
          refine (under_at a b Ha.out Hb.out Hab.out H1.out).mono ?_
          rintro e w_G1 ⟨rfl, G1⟩
          go_wp2_with fail
          refine (under_at b c Hb.out Hc.out Hbc.out G1.out).mono ?_
          rintro e w_G2 ⟨rfl, G2⟩
          go_wp2_with fail
          refine (under_at a c Ha.out Hc.out Hac.out G2.out).mono ?_
          rintro e w_G3 ⟨rfl, G3⟩
          go_wp2_with fail
          go_meet
          case rel => exact ⟨rfl, G3⟩
    case rest =>
      obtain ⟨rfl, Hw3⟩ := hcut
      obtain ⟨w3, hw3⟩ : ∃ w3, w3 = wc := ⟨_, rfl⟩
      rw [← hw3] at Hw3 ⊢
      clear hw3
      go_upto_region 5 with fail
      go_cut [41] (fun s41 wx => s41 = .bool false ∧ Hid (St w wx))
      case first =>
        cases ab with
        | false =>
          go_wp2_with fail
          refine (under_at a b Ha.out Hb.out Hab.out Hw3.out).mono ?_
          rintro e w_G1 ⟨rfl, G1⟩
          go_wp2_with fail
          refine (under_at a a Ha.out Ha.out Haa.out G1.out).mono ?_
          rintro e w_G2 ⟨rfl, G2⟩
          go_wp2_with fail
          go_meet
          case rel => exact ⟨rfl, G2⟩
        | true =>
          obtain rfl : ba = false := K2.out rfl
          go_wp2_with fail
          refine (under_at a b Ha.out Hb.out Hab.out Hw3.out).mono ?_
          rintro e w_G1 ⟨rfl, G1⟩
          go_wp2_with fail
          refine (under_at b a Hb.out Ha.out Hba.out G1.out).mono ?_
          rintro e w_G2 ⟨rfl, G2⟩
          go_wp2_with fail
          refine (under_at a a Ha.out Ha.out Haa.out G2.out).mono ?_
          rintro e w_G3 ⟨rfl, G3⟩
          go_wp2_with fail
          go_meet
          case rel => exact ⟨rfl, G3⟩
      case rest =>
        obtain ⟨rfl, Hw5⟩ := hcut
        obtain ⟨w5, hw5⟩ : ∃ w5, w5 = wc := ⟨_, rfl⟩
        rw [← hw5] at Hw5 ⊢
        clear hw5
        go_upto_region 7 with fail
        go_cut [74] (fun s74 wx => s74 = .bool false ∧ Hid (St w wx))
        case first =>
          by_cases ea : a.data.toList = []
          · have ea1 := remptyT ea
            have Hea := Lib.hid ea; clear ea
            go_wp2_with fail
            go_meet
            case rel => exact ⟨rfl, Hw5⟩
          · have ea1 := remptyF ea; have ea2 := remptyG ea
            have Hea := Lib.hid ea; clear ea
            by_cases eb : b.data.toList = []
            · have eb1 := remptyT eb
              have Heb := Lib.hid eb; clear eb
              go_wp2_with fail
              go_meet
              case rel => exact ⟨rfl, Hw5⟩
            · have eb1 := remptyF eb; have eb2 := remptyG eb
              have Heb := Lib.hid eb; clear eb
              cases ac with
              | false =>
                go_wp2_with fail
                refine (under_at a c Ha.out Hc.out Hac.out Hw5.out).mono ?_
                rintro e w_G1 ⟨rfl, G1⟩
                go_wp2_with fail
                go_meet
                case rel => exact ⟨rfl, G1⟩
              | true =>
                cases bc with
                | false =>
                  go_wp2_with fail
                  refine (under_at a c Ha.out Hc.out Hac.out Hw5.out).mono ?_
                  rintro e w_G1 ⟨rfl, G1⟩
                  go_wp2_with fail
                  refine (under_at b c Hb.out Hc.out Hbc.out G1.out).mono ?_
                  rintro e w_G2 ⟨rfl, G2⟩
                  go_wp2_with fail
                  go_meet
                  case rel => exact ⟨rfl, G2⟩
                | true =>
                  by_cases eab : a.data.toList = b.data.toList
                  · have eab1 := eq_bytes eab
                    have Heab := Lib.hid eab; clear eab
                    go_wp2_with fail
                    refine (under_at a c Ha.out Hc.out Hac.out Hw5.out).mono ?_
                    rintro e w_G1 ⟨rfl, G1⟩
                    go_wp2_with fail
                    refine (under_at b c Hb.out Hc.out Hbc.out G1.out).mono ?_
                    rintro e w_G2 ⟨rfl, G2⟩
                    go_wp2_with fail
                    go_meet
                    case rel => exact ⟨rfl, G2⟩
                  · have eab1 := ne_bytes eab
                    have Heab := Lib.hid eab; clear eab
                    cases ab with
                    | true =>
                      go_wp2_with fail
                      refine (under_at a c Ha.out Hc.out Hac.out Hw5.out).mono ?_
                      rintro e w_G1 ⟨rfl, G1⟩
                      go_wp2_with fail
                      refine (under_at b c Hb.out Hc.out Hbc.out G1.out).mono ?_
                      rintro e w_G2 ⟨rfl, G2⟩
                      go_wp2_with fail
                      refine (under_at a b Ha.out Hb.out Hab.out G2.out).mono ?_
                      rintro e w_G3 ⟨rfl, G3⟩
                      go_wp2_with fail
                      go_meet
                      case rel => exact ⟨rfl, G3⟩
                    | false =>
                      obtain rfl : ba = true := K3.out Hea.out Heb.out rfl rfl Heab.out rfl
                      go_wp2_with fail
                      refine (under_at a c Ha.out Hc.out Hac.out Hw5.out).mono ?_
                      rintro e w_G1 ⟨rfl, G1⟩
                      go_wp2_with fail
                      refine (under_at b c Hb.out Hc.out Hbc.out G1.out).mono ?_
                      rintro e w_G2 ⟨rfl, G2⟩
                      go_wp2_with fail
                      refine (under_at a b Ha.out Hb.out Hab.out G2.out).mono ?_
                      rintro e w_G3 ⟨rfl, G3⟩
                      go_wp2_with fail
                      refine (under_at b a Hb.out Ha.out Hba.out G3.out).mono ?_
                      rintro e w_G4 ⟨rfl, G4⟩
                      go_wp2_with fail
                      go_meet
                      case rel => exact ⟨rfl, G4⟩
        case rest =>
          obtain ⟨rfl, Hw7⟩ := hcut
          obtain ⟨w7, hw7⟩ : ∃ w7, w7 = wc := ⟨_, rfl⟩
          rw [← hw7] at Hw7 ⊢
          clear hw7 K1 K2 K3
          have hch := path_child a c (by have := Ha.out; omega) (by have := Hc.out; omega) w7 Hw7.out.2
          rw [Hac.out] at hch
          have Hch := Lib.hid hch; clear hch
          cases ac with
          | false =>
            go_wp2_with fail
            refine (Hch.out).mono ?_
            rintro e w8 ⟨rfl, hb8⟩
            have H8 := Lib.hid (Hw7.out.step hb8); clear hb8
            go_wp2_with fail
            refine (under_at a c Ha.out Hc.out Hac.out H8.out).mono ?_
            rintro e w9 ⟨rfl, H9⟩
            go_wp2_with fail
            refine (law16_works _ H9.out.2).mono ?_
            rintro e w10 ⟨rfl, hb10⟩
            have H10 := Lib.hid (H9.out.step hb10); clear hb10
            go_wp2
            go_ret
            exact ⟨rfl, H10.out.1⟩
          | true =>
            obtain ⟨x, hx⟩ : ∃ x, x = bs (childL a.data.toList c.data.toList) := ⟨_, rfl⟩
            have hxs : 0 < x.size := by
              have := child_ne _ _ Hac.out
              rw [hx, bs_size]; exact List.length_pos_iff.2 this
            have hxl : x.size ≤ 4096 := by
              have := child_le a.data.toList c.data.toList
              have e0 : c.data.toList.length = c.size := rfl
              have := Hc.out
              rw [hx, bs_size]; omega
            rw [← hx] at Hch
            have Hx := Lib.hid hx; clear hx
            go_wp2_with fail
            refine (Hch.out).mono ?_
            rintro e w8 ⟨rfl, hb8⟩
            have H8 := Lib.hid (Hw7.out.step hb8); clear hb8
            go_wp2_with fail
            refine (under_at a c Ha.out Hc.out Hac.out H8.out).mono ?_
            rintro e w9 ⟨rfl, H9⟩
            go_wp2_with fail
            refine (path_names a [c] _ _ (by have := Ha.out; omega) (by simp) (by
              intro i hi
              match i, hi with
              | 0, _ => have := Hc.out; show c.size ≤ _; omega) (IsStrs.new w9 [c] 1 9 (0, 0)) (H9.out.alloc _).2).mono ?_
            rintro e w10 ⟨v10, rfl, hst10, hb10⟩
            rw [show ([c] : List ByteArray).map (·.data.toList) = [c.data.toList] from rfl, names_one Hac.out, show [childL a.data.toList c.data.toList].map bs = [bs (childL a.data.toList c.data.toList)] from rfl, ← Hx.out] at hst10
            have H10 := Lib.hid ((H9.out.alloc _).step hb10); clear hb10
            obtain ⟨a10, cap10, rfl, hc10⟩ := hst10
            clear hc10
            go_wp2_with fail
            refine (path_names a [c, c] _ _ (by have := Ha.out; omega) (by simp) (by
              intro i hi
              match i, hi with
              | 0, _ => have := Hc.out; show c.size ≤ _; omega
              | 1, _ => have := Hc.out; show c.size ≤ _; omega) (IsStrs.new w10 [c, c] 2 9 (0, 0)) (H10.out.alloc _).2).mono ?_
            rintro e w11 ⟨v11, rfl, hst11, hb11⟩
            rw [show ([c, c] : List ByteArray).map (·.data.toList) = [c.data.toList, c.data.toList] from rfl, names_two Hac.out, show [childL a.data.toList c.data.toList].map bs = [bs (childL a.data.toList c.data.toList)] from rfl, ← Hx.out] at hst11
            have H11 := Lib.hid ((H10.out.alloc _).step hb11); clear hb11
            obtain ⟨a11, cap11, rfl, hc11⟩ := hst11
            rcases hc11 with hn | ⟨b11, o11, rfl, _, hcc⟩
            · cases hn
            have hcell : w11.cell? ⟨b11, o11, none⟩ = some (.string x) := hcc 0 (by simp)
            clear hcc
            go_wp2_with fail
            refine (law16_works _ H11.out.2).mono ?_
            rintro e w12 ⟨rfl, hb12⟩
            have H12 := Lib.hid (H11.out.step hb12); clear hb12
            go_wp2
            go_ret
            exact ⟨rfl, H12.out.1⟩
end Go.Proofs.YtnlolfhhemdojaaDoor
