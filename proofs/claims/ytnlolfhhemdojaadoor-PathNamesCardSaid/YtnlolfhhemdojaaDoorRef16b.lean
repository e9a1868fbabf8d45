/- Contracts for scriniumref16: Pieces, Prefix, Under, Child. -/
import Derived.Test.YtnlolfhhemdojaaDoorRef16
import Derived.Deep.QuietTactic
import Derived.BigQuiet
namespace Go.Proofs.YtnlolfhhemdojaaDoor
open Go Go.RowKit Pth

/-- A value that reads as the strings l (as lists of bytes), in memory that may be new. -/
def GivesStrs (l : List (List UInt8)) (w : World) (e : Ending) (w' : World) : Prop :=
  ∃ (v : Value) (m : List ByteArray), e = .returned v ∧ IsStrs w' v m ∧ m.map (·.data.toList) = l ∧ Below w.heap.size w w'

theorem rpiece_small {s : List UInt8} : ∀ p ∈ splitL s, p.length ≤ s.length := by
  induction s with
  | nil => intro p hp; simp [splitL] at hp; subst hp; simp
  | cons c r ih =>
    intro p hp
    unfold splitL at hp
    split at hp
    · rcases List.mem_cons.1 hp with rfl | h
      · simp
      · have := ih p h; simp; omega
    · rcases hr : splitL r with _ | ⟨a, b⟩
      · exact absurd hr (splitL_ne r)
      · rw [hr] at hp ih
        simp [glue] at hp
        rcases hp with rfl | h
        · have := ih a (by simp); simp; omega
        · have := ih p (by simp [h]); simp; omega
theorem rel_small {l : List ByteArray} {s : List UInt8} (h : l.map (·.data.toList) = splitL s) (i : Nat) (hi : i < l.length) : (l.getD i ByteArray.empty).size ≤ s.length := by
  have : (l.getD i ByteArray.empty).data.toList ∈ splitL s := by
    rw [← h, List.getD_eq_getElem?_getD, List.getElem?_eq_getElem hi]
    exact List.mem_map.2 ⟨l[i], List.getElem_mem hi, rfl⟩
  exact rpiece_small _ this
theorem okAll_map {l : List ByteArray} {m : List (List UInt8)} (h : l.map (·.data.toList) = m) : l.all (fun s => okPiece s.data.toList) = m.all okPiece := by
  subst h; induction l with
  | nil => rfl
  | cons a t ih => simp [ih]
theorem all_take_snoc {l : List ByteArray} {k : Nat} {p : ByteArray → Bool} (hk : k < l.length) (h0 : (l.take k).all p = true) (h1 : p (l.getD k ByteArray.empty) = true) : (l.take (k + 1)).all p = true := by
  rw [List.take_succ_eq_append_getElem hk, List.all_append, h0]
  rw [List.getD_eq_getElem?_getD, List.getElem?_eq_getElem hk] at h1
  simpa using h1
theorem all_hit {l : List ByteArray} {k : Nat} {p : ByteArray → Bool} (hk : k < l.length) (h1 : p (l.getD k ByteArray.empty) = false) : l.all p = false := by
  rw [List.getD_eq_getElem?_getD, List.getElem?_eq_getElem hk] at h1
  exact List.all_eq_false.2 ⟨l[k], List.getElem_mem hk, by simpa using h1⟩

theorem pieces_long {s : List UInt8} (h : 128 < s.length) : piecesL s = [] := by unfold piecesL; rw [if_pos h]
theorem pieces_many {s : List UInt8} (h : 8 < (splitL s).length) : piecesL s = [] := by unfold piecesL; rw [if_pos h]; split <;> rfl
theorem pieces_bad {s : List UInt8} (h : (splitL s).all okPiece = false) : piecesL s = [] := by
  unfold piecesL; rw [if_neg (c := (splitL s).all okPiece = true) (by rw [h]; simp)]; split <;> (try split) <;> rfl
theorem pieces_good {s : List UInt8} (h : s.length ≤ 128) (h1 : (splitL s).length ≤ 8) (h2 : (splitL s).all okPiece = true) : piecesL s = splitL s := by
  unfold piecesL; rw [if_neg (by omega), if_neg (by omega), if_pos h2]

set_option maxHeartbeats 1000000 in
theorem ref16_pieces (s : ByteArray) (hs : s.size ≤ 140737488351232) (w : World) :
    Calls Tryd.prog 9 #[.string s] w (GivesStrs (piecesL s.data.toList) w) := by
  by_cases h1 : 128 < s.size
  · have H := Lib.hid (pieces_long (s := s.data.toList) h1)
    go_enter Tryd.func9, Tryd.ntmps9
    go_wp2
    go_ret
    exact ⟨_, [], rfl, IsStrs.nil _, by rw [H.out]; rfl, Below.refl _ _⟩
  · have c := fun w => ref16_cut s (by omega) w
    have C := Lib.hid c; clear c
    go_enter Tryd.func9, Tryd.ntmps9
    go_wp2_with fail
    refine (C.out _).mono ?_
    rintro e w1 ⟨v, L, rfl, hown, hL, hb⟩
    have HL := Lib.hid hL; clear hL
    have Hb := Lib.hid hb; clear hb
    have hst := IsStrs.own hown
    clear hown
    obtain ⟨a, cap, rfl, hc⟩ := hst
    have HC := Lib.hid hc; clear hc
    by_cases h2 : 8 < L.length
    · go_wp2
      go_ret
      exact ⟨_, [], rfl, IsStrs.nil _, by rw [pieces_many (by rw [← HL.out, List.length_map]; exact h2)]; rfl, Hb.out⟩
    · go_wp2
      go_loop [4] (fun i => ∃ k : Nat, k ≤ L.length ∧ i = .int .i64 k ∧ Hid ((L.take k).all (fun s => okPiece s.data.toList) = true)) (fun i => L.length - (intOf i).toNat)
      case atStart => exact ⟨0, Nat.zero_le _, rfl, Lib.hid rfl⟩
      case round =>
        obtain ⟨k, hk, rfl, hall⟩ := hrel
        by_cases hlt : k < L.length
        · rcases HC.out with hn | ⟨b, off, rfl, hblt, hcc⟩
          · subst hn; simp at hlt
          have hcell := hcc k hlt
          have hsz := rel_small HL.out k hlt
          obtain ⟨x, hx⟩ : ∃ x, x = L.getD k ByteArray.empty := ⟨_, rfl⟩
          rw [← hx] at hcell hsz
          have Hx := Lib.hid hx; clear hx hcc
          have e0 : s.data.toList.length = s.size := rfl
          have hxm : x.size ≤ maxLen := by unfold maxLen; omega
          clear hsz e0
          have hp := ref16_piece x hxm w1
          cases ho : okPiece x.data.toList with
          | true =>
            rw [ho] at hp
            have Ho := Lib.hid ho; clear ho
            have Hp := Lib.hid hp; clear hp
            go_wp2_with (go_at_call 22; refine (Hp.out).mono ?_; rintro e w' ⟨rfl, rfl⟩)
            go_round
            case rel => exact ⟨k + 1, by omega, by go_num, Lib.hid (all_take_snoc hlt hall.out (by rw [← Hx.out]; exact Ho.out))⟩
            case measure => simp [intOf]; omega
          | false =>
            rw [ho] at hp
            have Ho := Lib.hid ho; clear ho
            have Hp := Lib.hid hp; clear hp
            go_wp2_with (go_at_call 22; refine (Hp.out).mono ?_; rintro e w' ⟨rfl, rfl⟩)
            go_ret
            exact ⟨_, [], rfl, IsStrs.nil _, by rw [pieces_bad (by rw [← okAll_map HL.out]; exact all_hit hlt (by rw [← Hx.out]; exact Ho.out))]; rfl, Hb.out⟩
        · have hall2 := hall.out
          rw [List.take_of_length_le (by omega), okAll_map HL.out] at hall2
          have H2 := Lib.hid hall2; clear hall2
          go_wp2
          go_ret
          exact ⟨_, L, rfl, ⟨a, cap, rfl, HC.out⟩, by rw [HL.out, pieces_good (by show s.size ≤ 128; omega) (by rw [← HL.out, List.length_map]; omega) H2.out], Hb.out⟩

theorem remptyT {s : ByteArray} (h : s.data.toList = []) : s.toList = [] := by rw [ByteArray.toList_eq]; exact h
theorem remptyF {s : ByteArray} (h : ¬ s.data.toList = []) : s.toList.isEmpty = false := by rw [ByteArray.toList_eq]; simpa using h
theorem remptyG {s : ByteArray} (h : ¬ s.data.toList = []) : ¬ s.toList = [] := by rw [ByteArray.toList_eq]; exact h

set_option maxHeartbeats 1000000 in
theorem ref16_prefix (s : ByteArray) (hs : s.size ≤ 140737488351232) (w : World) :
    Calls Tryd.prog 16 #[.string s] w fun e w' => e = .returned (.bool (prefL s.data.toList)) ∧ Below w.heap.size w w' := by
  by_cases h : s.data.toList = []
  · have H := Lib.hid h; have h1 := remptyT h; clear h
    go_enter Tryd.func16, Tryd.ntmps16
    go_wp2_with fail
    go_ret
    exact ⟨ret_bool (by rw [H.out]; rfl), Below.refl _ _⟩
  · have c := ref16_pieces s hs w
    have C := Lib.hid c; clear c
    have H := Lib.hid h; have h1 := remptyF h; have h2 := remptyG h; clear h
    go_enter Tryd.func16, Tryd.ntmps16
    go_wp2_with (go_at_call 9; refine (C.out).mono ?_; rintro e w' ⟨v, m, rfl, ⟨a, cap, rfl, hc⟩, hm, hb⟩; have Hb := Lib.hid hb; clear hb; have Hc := Lib.hid hc; clear hc; have Hm := Lib.hid hm; clear hm)
    go_ret
    refine ⟨ret_bool ?_, Hb.out⟩
    have h3 : s.data.toList.isEmpty = false := by simpa using H.out
    simp only [prefL, mayL, h3, Bool.false_or, ← Hm.out]
    cases m <;> simp

theorem under_rf {p s : List UInt8} (h : prefL p = false) : underR p s = false := by simp [underR, h]
theorem under_rl {p s : List UInt8} (h : (piecesL s).length ≤ (piecesL p).length) : underR p s = false := by
  have : ¬ (piecesL p).length < (piecesL s).length := by omega
  simp [underR, this]
theorem under_rp {p s : List UInt8} (h : prefL p = true) (h2 : (piecesL p).length < (piecesL s).length) : underR p s = (piecesL p).isPrefixOf (piecesL s) := by simp [underR, h, h2]

def Agree (p l : List ByteArray) (k : Nat) : Prop := ∀ i, i < k → p.getD i ByteArray.empty = l.getD i ByteArray.empty
theorem Agree.snoc {p l : List ByteArray} {k : Nat} (h : Agree p l k) (h1 : p.getD k ByteArray.empty = l.getD k ByteArray.empty) : Agree p l (k + 1) := by
  intro i hi
  by_cases e : i = k
  · subst e; exact h1
  · exact h i (by omega)
theorem pieces_le (s : List UInt8) : (piecesL s).length ≤ 8 := by
  unfold piecesL; repeat' split
  all_goals first | omega | simp
theorem below_drewN' {B : Nat} {a w : World} (h : Below B a w) (q : Nat) : Below B a (w.drewN q) := ⟨h.os, h.tape, h.output, h.size, h.block⟩
theorem Agree.all {p l : List ByteArray} (hl : p.length ≤ l.length) (h : Agree p l p.length) : (p.map (·.data.toList)).isPrefixOf (l.map (·.data.toList)) = true := by
  rw [isPrefixOf_iff']
  refine ⟨(l.drop p.length).map (·.data.toList), ?_⟩
  rw [← List.map_append]
  congr 1
  refine List.ext_getElem (by simp; omega) fun i h1 h2 => ?_
  by_cases hi : i < p.length
  · rw [List.getElem_append_left hi]
    have := h i hi
    rw [List.getD_eq_getElem?_getD, List.getD_eq_getElem?_getD, List.getElem?_eq_getElem hi, List.getElem?_eq_getElem h1] at this
    exact this.symm
  · rw [List.getElem_append_right (by omega), List.getElem_drop]; congr 1; omega
theorem Agree.no {p l : List ByteArray} {k : Nat} (hk : k < p.length) (hl : p.length ≤ l.length) (h : p.getD k ByteArray.empty ≠ l.getD k ByteArray.empty) : (p.map (·.data.toList)).isPrefixOf (l.map (·.data.toList)) = false := by
  rw [Bool.eq_false_iff]
  intro hp
  rw [isPrefixOf_iff'] at hp
  obtain ⟨t, ht⟩ := hp
  have : (l.map (·.data.toList))[k]? = (p.map (·.data.toList))[k]? := by rw [ht, List.getElem?_append_left (by simpa using hk)]
  rw [List.getElem?_map, List.getElem?_map, List.getElem?_eq_getElem hk, List.getElem?_eq_getElem (show k < l.length by omega)] at this
  apply h
  rw [List.getD_eq_getElem?_getD, List.getD_eq_getElem?_getD, List.getElem?_eq_getElem hk, List.getElem?_eq_getElem (show k < l.length by omega)]
  exact ba_ext (by simpa using this.symm)

set_option maxHeartbeats 1000000 in
theorem ref16_under (p s : ByteArray) (hp : p.size ≤ 140737488351232) (hs : s.size ≤ 140737488351232) (w : World) :
    Calls Tryd.prog 18 #[.string p, .string s] w fun e w' => e = .returned (.bool (underR p.data.toList s.data.toList)) ∧ Below w.heap.size w w' := by
  have C1 := Lib.hid (ref16_pieces p hp w)
  have C2 := Lib.hid (fun w => ref16_pieces s hs w)
  have C3 := Lib.hid (fun w => ref16_prefix p hp w)
  go_enter Tryd.func18, Tryd.ntmps18
  go_wp2_with fail
  refine (C1.out).mono ?_
  rintro e w1 ⟨v1, m1, rfl, hst1, hm1, hb1⟩
  have Hm1 := Lib.hid hm1; clear hm1
  obtain ⟨a1, cap1, rfl, hc1⟩ := hst1
  have Hb1 := Lib.hid hb1; clear hb1
  have Hc1 := Lib.hid hc1; clear hc1
  go_wp2_with fail
  refine (C2.out _).mono ?_
  rintro e w2 ⟨v2, m2, rfl, hst2, hm2, hb2⟩
  have Hm2 := Lib.hid hm2; clear hm2
  obtain ⟨a2, cap2, rfl, hc2⟩ := hst2
  have Hb2 := Lib.hid hb2; clear hb2
  have Hc2 := Lib.hid hc2; clear hc2
  go_wp2_with fail
  refine (C3.out _).mono ?_
  rintro e w3 ⟨rfl, hb3⟩
  have Hb3 := Lib.hid hb3; clear hb3
  have hB : Below w.heap.size w w3 := (Hb1.out.trans (Hb2.out.mono Hb1.out.size)).trans (Hb3.out.mono (Nat.le_trans Hb1.out.size Hb2.out.size))
  have HB := Lib.hid hB; clear hB
  cases h1 : prefL p.data.toList with
  | false =>
    have H := Lib.hid (under_rf (s := s.data.toList) h1); clear h1
    go_wp2
    go_ret
    exact ⟨ret_bool H.out.symm, HB.out⟩
  | true =>
    by_cases h2 : m2.length ≤ m1.length
    · have H := Lib.hid (under_rl (p := p.data.toList) (s := s.data.toList) (by rw [← Hm1.out, ← Hm2.out, List.length_map, List.length_map]; exact h2)); clear h1
      go_wp2
      go_ret
      exact ⟨ret_bool H.out.symm, HB.out⟩
    · have h2' : m1.length < m2.length := by omega
      have H := Lib.hid (under_rp (p := p.data.toList) (s := s.data.toList) h1 (by rw [← Hm1.out, ← Hm2.out, List.length_map, List.length_map]; exact h2')); clear h1 h2
      have hst1 := (show IsStrs w1 (.slice a1 m1.length cap1) m1 from ⟨a1, cap1, rfl, Hc1.out⟩).below (Hb2.out.trans (Hb3.out.mono Hb2.out.size)) (Nat.le_refl _)
      have hst2 := (show IsStrs w2 (.slice a2 m2.length cap2) m2 from ⟨a2, cap2, rfl, Hc2.out⟩).below Hb3.out (Nat.le_refl _)
      clear Hc1 Hc2
      have hle1 : m1.length ≤ 8 := by have := pieces_le p.data.toList; rw [← Hm1.out, List.length_map] at this; exact this
      have hle2 : m2.length ≤ 8 := by have := pieces_le s.data.toList; rw [← Hm2.out, List.length_map] at this; exact this
      have Hst1 := Lib.hid hst1; have Hst2 := Lib.hid hst2; clear hst1 hst2
      go_wp2
      go_loopw [7] (fun i wr => ∃ k : Nat, k ≤ m1.length ∧ i = .int .i64 k ∧ Hid (Agree m1 m2 k) ∧ Below w3.heap.size w3 wr) (fun i _ => m1.length - (intOf i).toNat)
      case atStart => exact ⟨0, Nat.zero_le _, rfl, Lib.hid (fun i hi => by omega), Below.refl _ _⟩
      case round =>
        obtain ⟨k, hk, rfl, hag, hbw⟩ := hrel
        by_cases hlt : k < m1.length
        · obtain ⟨_, _, hv1, hcc1⟩ := Hst1.out
          obtain ⟨_, _, hv2, hcc2⟩ := Hst2.out
          simp only [Value.slice.injEq] at hv1 hv2
          obtain ⟨rfl, _, rfl⟩ := hv1
          obtain ⟨rfl, _, rfl⟩ := hv2
          rcases hcc1 with hn | ⟨b1, o1, rfl, hl1, hcc1⟩
          · subst hn; simp at hlt
          rcases hcc2 with hn | ⟨b2, o2, rfl, hl2, hcc2⟩
          · subst hn; simp at h2'
          have hcell1 := (hbw.cell (p := ⟨b1, o1 + k, none⟩) hl1).trans (hcc1 k hlt)
          have hcell2 := (hbw.cell (p := ⟨b2, o2 + k, none⟩) hl2).trans (hcc2 k (by omega))
          have hlt2 : k < m2.length := by omega
          clear hcc1 hcc2
          have Hbw := Lib.hid hbw; clear hbw
          obtain ⟨x, hx⟩ : ∃ x, x = m1.getD k ByteArray.empty := ⟨_, rfl⟩
          obtain ⟨y, hy⟩ : ∃ y, y = m2.getD k ByteArray.empty := ⟨_, rfl⟩
          rw [← hx] at hcell1
          rw [← hy] at hcell2
          have Hx := Lib.hid hx; have Hy := Lib.hid hy; clear hx hy
          by_cases hxy : x = y
          · have hB : (x.toList == y.toList) = true := by rw [hxy]; simp
            have Hxy := Lib.hid hxy; clear hxy
            go_wp2
            go_quiet (fail)
            go_wp2
            go_roundw
            case rel => exact ⟨k + 1, by omega, by go_num, Lib.hid (hag.out.snoc (by rw [← Hx.out, ← Hy.out]; exact Hxy.out)), below_drewN' Hbw.out _⟩
            case measure => simp [intOf]; omega
          · have hB : (x.toList == y.toList) = false := by
              rw [beq_eq_false_iff_ne, ByteArray.toList_eq, ByteArray.toList_eq]; exact fun h => hxy (ba_ext h)
            have Hxy := Lib.hid hxy; clear hxy
            go_wp2
            go_quiet (fail)
            go_wp2
            go_ret
            refine ⟨ret_bool ?_, HB.out.trans ((below_drewN' Hbw.out _).mono HB.out.size)⟩
            rw [H.out, ← Hm1.out, ← Hm2.out]
            exact (Agree.no hlt (by omega) (by rw [← Hx.out, ← Hy.out]; exact Hxy.out)).symm
        · obtain rfl : k = m1.length := by omega
          have Hbw := Lib.hid hbw; clear hbw
          go_wp2
          go_ret
          refine ⟨ret_bool ?_, HB.out.trans (Hbw.out.mono HB.out.size)⟩
          rw [H.out, ← Hm1.out, ← Hm2.out]
          exact (hag.out.all (by omega)).symm
end Go.Proofs.YtnlolfhhemdojaaDoor
