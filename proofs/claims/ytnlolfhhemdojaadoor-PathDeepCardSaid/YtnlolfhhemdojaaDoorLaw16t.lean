/- The walk of scriniumlaw16.PathTells: it answers true at every two texts. -/
import Derived.Test.YtnlolfhhemdojaaDoorLaw16w
namespace Go.Proofs.YtnlolfhhemdojaaDoor
open Go Go.RowKit Pth

theorem path_pieces_any (s : ByteArray) (hs : s.size ≤ 140737488351232) (w : World) (hm : MX w) :
    Calls Tryd.prog 14 #[.string s] w (GivesStrs (piecesL s.data.toList) w) := by
  cases h : mayL s.data.toList with
  | false =>
    refine (path_pieces_no s hs w hm h).mono ?_
    rintro e w' ⟨rfl, hb⟩
    exact ⟨_, [], rfl, IsStrs.nil _, by rw [pieces_not _ h]; rfl, hb⟩
  | true =>
    refine (path_pieces_yes s w hm h).mono ?_
    rintro e w' ⟨l, rfl, hl, hst, hb⟩
    exact ⟨_, l, rfl, hst, by rw [pieces_may _ h]; exact hl, hb⟩
theorem sameB_refl {a b : List ByteArray} {x : List (List UInt8)} (h : a.map (·.data.toList) = x) (h2 : b.map (·.data.toList) = x) : sameB a b = true := by
  unfold sameB; rw [h, h2]; simp
theorem may_len {s : List UInt8} {m : List ByteArray} (h : m.map (·.data.toList) = piecesL s) : mayL s = decide (0 < m.length) := by
  unfold mayL; rw [← h]; cases m <;> simp

theorem len_pieces {s : List UInt8} {m : List ByteArray} (h : m.map (·.data.toList) = piecesL s) : m.length ≤ 8 := by
  have := pieces_le s; rw [← h, List.length_map] at this; exact this

set_option maxRecDepth 100000 in
set_option maxHeartbeats 2000000 in
theorem law16_tells (p s : ByteArray) (hp : p.size ≤ 140737488351232) (hs : s.size ≤ 140737488351232) (w : World) (hm : MX w) :
    Calls Tryd.prog 3 #[.string p, .string s] w fun e w' => e = .returned (.bool true) ∧ Below w.heap.size w w' := by
  have Hm := Lib.hid (St.start hm); clear hm
  have Hp := Lib.hid hp; have Hs := Lib.hid hs; clear hp hs
  go_enter Tryd.func3, Tryd.ntmps3
  go_wp2_with fail
  refine (law16_heavy _ [p, s] _ (IsStrs.new w [p, s] 2 9 (0, 0)) (by simp) (by
    intro i hi
    match i, hi with
    | 0, _ => exact Hp.out
    | 1, _ => exact Hs.out)).mono ?_
  rintro e w1 ⟨rfl, rfl⟩
  have H1 := Lib.hid (Hm.out.alloc (.cells (([p, s] : List ByteArray).map Value.string).toArray 9))
  cases hh : heavyB [p, s] with
  | true =>
    clear hh
    go_wp2_with fail
    refine (law16_works _ H1.out.2).mono ?_
    rintro e w2 ⟨rfl, hb2⟩
    have H2 := Lib.hid (H1.out.step hb2); clear hb2
    go_wp2
    go_ret
    exact ⟨rfl, H2.out.1⟩
  | false =>
    have hsz : Hid (p.size ≤ 4096 ∧ s.size ≤ 4096) := Lib.hid (by
      unfold heavyB at hh; simp [sumLen] at hh; omega)
    clear hh
    obtain ⟨hp4, hs4⟩ := hsz.out
    have hps : p.size ≤ 140737488351232 := by omega
    have hss : s.size ≤ 140737488351232 := by omega
    have Hp := Lib.hid hps; have Hs := Lib.hid hss; clear hps hss hp4 hs4
    go_wp2_with fail
    refine (ref16_pieces s Hs.out _).mono ?_
    rintro e w2 ⟨v2, m2, rfl, hst2, hm2, hb2⟩
    have H2 := Lib.hid (H1.out.step hb2); clear hb2
    have Hst2 := Lib.hid hst2; have Hm2 := Lib.hid hm2; clear hst2 hm2
    go_wp2_with fail
    refine (path_child p s Hp.out Hs.out _ H2.out.2).mono ?_
    rintro e w3 ⟨rfl, hb3⟩
    have H3 := Lib.hid (H2.out.step hb3)
    have Hst3 := Lib.hid (Hst2.out.below hb3 (Nat.le_refl _)); clear hb3 Hst2
    go_wp2_with fail
    refine (ref16_child p s Hp.out Hs.out _).mono ?_
    rw [child_eq]
    rintro e w4 ⟨rfl, hb4⟩
    have H4 := Lib.hid (H3.out.step hb4)
    have Hst4 := Lib.hid (Hst3.out.below hb4 (Nat.le_refl _)); clear hb4 Hst3
    obtain ⟨d, hd⟩ : ∃ d, d = bs (childL p.data.toList s.data.toList) := ⟨_, rfl⟩
    obtain ⟨u, hu⟩ : ∃ u, u = underL p.data.toList s.data.toList := ⟨_, rfl⟩
    rw [← hd, ← hu]
    have hE : (u == !d.toList.isEmpty) = true := by
      rw [hd, ByteArray.toList_eq, bs_toList, hu]
      cases h : underL p.data.toList s.data.toList with
      | true => have := child_ne _ _ h; simp [this]
      | false => have := child_none _ _ h; simp [this]
    have Hd := Lib.hid hd; have Hu := Lib.hid hu; clear hd hu
    obtain ⟨a2, cap2, rfl, hc2⟩ := Hst4.out
    clear hc2
    go_wp2_with fail
    refine (path_may s Hs.out _ H4.out.2).mono ?_
    rw [may_len Hm2.out]
    rintro e w5 ⟨rfl, hb5⟩
    have H5 := Lib.hid (H4.out.step hb5)
    have Hst5 := Lib.hid (Hst4.out.below hb5 (Nat.le_refl _)); clear hb5 Hst4
    have hbb : (decide (0 < m2.length) == decide ((0 : Int) < (m2.length : Int))) = true := by
      have : decide ((0 : Int) < (m2.length : Int)) = decide (0 < m2.length) := by rw [decide_eq_decide]; omega
      rw [this]; simp
    go_wp2_with fail
    refine (path_pieces_any s Hs.out _ H5.out.2).mono ?_
    rintro e w6 ⟨v6, m6, rfl, hst6, hm6, hb6⟩
    have H6 := Lib.hid (H5.out.step hb6)
    have Hst6 := Lib.hid (Hst5.out.below hb6 (Nat.le_refl _)); clear hb6 Hst5
    have Hsame := Lib.hid (sameB_refl hm6 Hm2.out)
    have Hlen := Lib.hid (len_pieces hm6)
    clear hm6
    have Hst6b := Lib.hid hst6; clear hst6
    go_wp2_with fail
    refine (law16_same v6 _ m6 m2 _ Hst6b.out Hst6.out (by have := Hlen.out; omega)).mono ?_
    rw [Hsame.out]
    rintro e w7 ⟨rfl, hb7⟩
    have H7 := Lib.hid (H6.out.step hb7); clear hb7
    go_wp2_with fail
    refine (path_prefix s Hs.out _ H7.out.2).mono ?_
    rintro e w8 ⟨rfl, hb8⟩
    have H8 := Lib.hid (H7.out.step hb8); clear hb8
    go_wp2_with fail
    refine (ref16_prefix s Hs.out _).mono ?_
    rintro e w9 ⟨rfl, hb9⟩
    have H9 := Lib.hid (H8.out.step hb9); clear hb9
    go_wp2_with fail
    refine (path_under p s Hp.out Hs.out _ H9.out.2).mono ?_
    rintro e w10 ⟨rfl, hb10⟩
    have H10 := Lib.hid (H9.out.step hb10); clear hb10
    go_wp2_with fail
    refine (ref16_under p s Hp.out Hs.out _).mono ?_
    rw [under_eq]
    rintro e w11 ⟨rfl, hb11⟩
    have H11 := Lib.hid (H10.out.step hb11); clear hb11
    go_wp2_with fail
    refine (law16_works _ H11.out.2).mono ?_
    rintro e w12 ⟨rfl, hb12⟩
    have H12 := Lib.hid (H11.out.step hb12); clear hb12
    go_wp2
    go_ret
    exact ⟨rfl, H12.out.1⟩
end Go.Proofs.YtnlolfhhemdojaaDoor
