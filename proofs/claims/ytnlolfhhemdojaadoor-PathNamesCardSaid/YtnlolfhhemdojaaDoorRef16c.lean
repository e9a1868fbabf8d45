/- Contract for scriniumref16.Child. -/
import Derived.Test.YtnlolfhhemdojaaDoorRef16b
namespace Go.Proofs.YtnlolfhhemdojaaDoor
open Go Go.RowKit Pth

theorem child_rn {p s : List UInt8} (h : underR p s = false) : childR p s = [] := by unfold childR; rw [h]; rfl
theorem child_rs {p s : List UInt8} {m1 m2 : List ByteArray} (h : underR p s = true) (h1 : m1.map (·.data.toList) = piecesL p) (h2 : m2.map (·.data.toList) = piecesL s) (hlt : m1.length + 1 < m2.length) :
    childR p s = (m2.getD m1.length ByteArray.empty).data.toList ++ [47] := by
  unfold childR
  rw [if_pos h, ← h1, ← h2, List.length_map, List.length_map, if_pos hlt]
  congr 1
  rw [List.getD_eq_getElem?_getD, List.getD_eq_getElem?_getD, List.getElem?_map, List.getElem?_eq_getElem (show m1.length < m2.length by omega)]; rfl
theorem child_rl {p s : List UInt8} {m1 m2 : List ByteArray} (h : underR p s = true) (h1 : m1.map (·.data.toList) = piecesL p) (h2 : m2.map (·.data.toList) = piecesL s) (hlt : m1.length < m2.length) (hge : ¬ m1.length + 1 < m2.length) :
    childR p s = (m2.getD m1.length ByteArray.empty).data.toList := by
  unfold childR
  rw [if_pos h, ← h1, ← h2, List.length_map, List.length_map, if_neg hge]
  rw [List.getD_eq_getElem?_getD, List.getD_eq_getElem?_getD, List.getElem?_map, List.getElem?_eq_getElem hlt]; rfl
theorem under_lt {p s : List UInt8} (h : underR p s = true) : (piecesL p).length < (piecesL s).length := by
  unfold underR at h; simp only [Bool.and_eq_true, decide_eq_true_eq] at h; exact h.1.2
theorem pieces_small {s : List UInt8} {m : List ByteArray} (h : m.map (·.data.toList) = piecesL s) (i : Nat) (hi : i < m.length) : (m.getD i ByteArray.empty).size ≤ 128 := by
  have hm : piecesL s = splitL s ∧ s.length ≤ 128 := by
    cases hy : mayL s with
    | true => exact ⟨pieces_may s hy, ((may_iff s).1 hy).1⟩
    | false => rw [pieces_not s hy] at h; have : m = [] := by simpa using h
               subst this; simp at hi
  have := rel_small (h.trans hm.1) i hi
  omega

set_option maxHeartbeats 1000000 in
theorem ref16_child (p s : ByteArray) (hp : p.size ≤ 140737488351232) (hs : s.size ≤ 140737488351232) (w : World) :
    Calls Tryd.prog 11 #[.string p, .string s] w fun e w' => e = .returned (.string (bs (childR p.data.toList s.data.toList))) ∧ Below w.heap.size w w' := by
  have C0 := Lib.hid (ref16_under p s hp hs w)
  have C1 := Lib.hid (fun w => ref16_pieces p hp w)
  have C2 := Lib.hid (fun w => ref16_pieces s hs w)
  go_enter Tryd.func11, Tryd.ntmps11
  go_wp2_with fail
  refine (C0.out).mono ?_
  rintro e w0 ⟨rfl, hb0⟩
  have Hb0 := Lib.hid hb0; clear hb0
  cases h0 : underR p.data.toList s.data.toList with
  | false =>
    have H := Lib.hid (child_rn h0); clear h0
    go_wp2
    go_ret
    exact ⟨ret_str (by rw [H.out]; rfl), Hb0.out⟩
  | true =>
    have H0 := Lib.hid h0; clear h0
    go_wp2_with fail
    refine (C1.out _).mono ?_
    rintro e w1 ⟨v1, m1, rfl, hst1, hm1, hb1⟩
    have Hm1 := Lib.hid hm1; clear hm1
    obtain ⟨a1, cap1, rfl, hc1⟩ := hst1
    have Hb1 := Lib.hid hb1; clear hb1
    clear hc1
    go_wp2_with fail
    refine (C2.out _).mono ?_
    rintro e w2 ⟨v2, m2, rfl, hst2, hm2, hb2⟩
    have Hm2 := Lib.hid hm2; clear hm2
    obtain ⟨a2, cap2, rfl, hc2⟩ := hst2
    have Hb2 := Lib.hid hb2; clear hb2
    have hlt : m1.length < m2.length := by
      have := under_lt H0.out; rw [← Hm1.out, ← Hm2.out, List.length_map, List.length_map] at this; exact this
    have hle2 : m2.length ≤ 8 := by have := pieces_le s.data.toList; rw [← Hm2.out, List.length_map] at this; exact this
    have hsm := pieces_small Hm2.out m1.length hlt
    rcases hc2 with hn | ⟨b2, o2, rfl, hl2, hcc2⟩
    · subst hn; simp at hlt
    have hcell := hcc2 m1.length hlt
    clear hcc2
    obtain ⟨x, hx⟩ : ∃ x, x = m2.getD m1.length ByteArray.empty := ⟨_, rfl⟩
    rw [← hx] at hcell hsm
    have Hx := Lib.hid hx; clear hx
    have HB := Lib.hid ((Hb0.out.trans (Hb1.out.mono Hb0.out.size)).trans (Hb2.out.mono (Nat.le_trans Hb0.out.size Hb1.out.size)))
    by_cases hmore : m1.length + 1 < m2.length
    · have H := Lib.hid (child_rs H0.out Hm1.out Hm2.out hmore)
      go_wp2
      go_ret
      refine ⟨ret_str (ba_ext ?_), HB.out⟩
      rw [bs_toList, H.out, ← Hx.out]; simp
    · have H := Lib.hid (child_rl H0.out Hm1.out Hm2.out hlt hmore)
      go_wp2
      go_ret
      refine ⟨ret_str (ba_ext ?_), HB.out⟩
      rw [bs_toList, H.out, ← Hx.out]
end Go.Proofs.YtnlolfhhemdojaaDoor
