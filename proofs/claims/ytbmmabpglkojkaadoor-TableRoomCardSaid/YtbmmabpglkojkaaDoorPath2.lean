/- Contracts for package path: Pieces, May, Prefix, Under, Child. -/
import Derived.Test.YtbmmabpglkojkaaDoorPath1
namespace Go.Proofs.YtbmmabpglkojkaaDoor
open Go Go.RowKit Pth

theorem splitB_splitL (s : ByteArray) : (Lib.splitB ⟨#[47]⟩ 0 (Lib.countB s ⟨#[47]⟩) s).map (·.data.toList) = splitL s.data.toList := by
  rw [Lib.splitB_data]; exact split_eq s.data.toList

set_option maxHeartbeats 400000 in
theorem path_split (s : ByteArray) (hs : s.size < 4294967281) (w : World) (hm : MX w) :
    Calls Tryd.prog 53 #[.string s, .string ⟨#[47]⟩] w fun e w' => ∃ L : List ByteArray, e = .returned (.slice (some ⟨w.heap.size, 0, none⟩) L.length L.length) ∧ Hid (L.map (·.data.toList) = splitL s.data.toList) ∧ w' = w.alloc (.cells (L.map Value.string).toArray 9) := by
  obtain ⟨m, hm⟩ := hm
  refine (Tryd.strings_Split s ⟨#[47]⟩ m w hs hm (Nat.le_refl _)).mono ?_
  rintro e w' ⟨rfl, rfl⟩
  have h1 := Lib.splitB_all ⟨#[47]⟩ (Nat.le_refl _) 0 _ s rfl
  exact ⟨_, by rw [h1], Lib.hid (splitB_splitL s), rfl⟩

theorem map_all {l : List ByteArray} {m : List (List UInt8)} (h : l.map (·.data.toList) = m) : l.any (fun s => !okPiece s.data.toList) = !(m.all okPiece) := by
  subst h; induction l with
  | nil => rfl
  | cons a t ih => simp [ih]
theorem piece_small {s : List UInt8} {m : List (List UInt8)} (h : splitL s = m) : ∀ p ∈ m, p.length ≤ s.length := by
  subst h
  induction s with
  | nil => intro p hp; simp [splitL] at hp; subst hp; simp
  | cons c r ih =>
    intro p hp
    unfold splitL at hp
    split at hp
    · rcases List.mem_cons.1 hp with rfl | h
      · simp
      · have := ih p h; simp; omega
    · rcases hr : splitL r with _ | ⟨a, b⟩
      · exact absurd hr (splitL_ne r)
      · rw [hr] at hp ih
        simp [glue] at hp
        rcases hp with rfl | h
        · have := ih a (by simp); simp; omega
        · have := ih p (by simp [h]); simp; omega
theorem el_small {l : List ByteArray} {s : List UInt8} (h : l.map (·.data.toList) = splitL s) (i : Nat) (hi : i < l.length) : (l.getD i ByteArray.empty).size ≤ s.length := by
  have : (l.getD i ByteArray.empty).data.toList ∈ splitL s := by
    rw [← h, List.getD_eq_getElem?_getD, List.getElem?_eq_getElem hi]
    exact List.mem_map.2 ⟨l[i], List.getElem_mem hi, rfl⟩
  exact piece_small rfl _ this

set_option maxHeartbeats 1000000 in
theorem path_pieces_no (s : ByteArray) (hs : s.size ≤ 140737488351232) (w : World) (hm : MX w) (hno : mayL s.data.toList = false) :
    Calls Tryd.prog 41 #[.string s] w fun e w' => e = .returned (.slice none 0 0) ∧ Below w.heap.size w w' := by
  by_cases h1 : 128 < s.size
  · clear hm hno
    go_enter Tryd.func41, Tryd.ntmps41
    go_wp2
    go_ret
    exact ⟨rfl, Below.refl _ _⟩
  · have Hno := Lib.hid hno; clear hno
    have Hm := Lib.hid hm; clear hm
    go_enter Tryd.func41, Tryd.ntmps41
    go_wp2_with fail
    refine (path_split s (by omega) _ Hm.out).mono ?_
    rintro e w' ⟨L, rfl, HL, rfl⟩
    by_cases h2 : 8 < L.length
    · go_wp2
      go_ret
      exact ⟨rfl, (Below.refl _ _).alloc (Nat.le_refl _) _⟩
    · have h3 : Hid (L.any (fun s => !okPiece s.data.toList) = true) := by
        refine Lib.hid ?_
        rw [map_all HL.out]
        cases h : (splitL s.data.toList).all okPiece with
        | false => rfl
        | true =>
          have h4 := (may_iff s.data.toList).2 ⟨by show s.size ≤ 128; omega, by rw [← HL.out, List.length_map]; omega, h⟩
          rw [Hno.out] at h4; cases h4
      have hc := path_containsFunc L w.heap.size 0 L.length (w.alloc (.cells (L.map Value.string).toArray 9)) (by omega) (fun i hi => by have := el_small HL.out i hi; unfold maxLen; have e : s.data.toList.length = s.size := rfl; omega) (by simp)
        (fun i hi => by
          obtain ⟨a, cap, hv, h⟩ := IsStrs.new w L L.length 9 (0, 0)
          rcases h with h | ⟨b, off, ha, _, hcc⟩
          · subst h; simp at hi
          · simp only [Value.slice.injEq] at hv
            obtain ⟨rfl, _⟩ := hv
            simp only [Option.some.injEq, Addr.mk.injEq, and_true] at ha
            obtain ⟨rfl, rfl⟩ := ha
            exact hcc i hi)
      rw [h3.out] at hc
      have Hc := Lib.hid hc; clear hc
      go_wp2_with (go_at_call 54; refine (Hc.out).mono ?_; rintro e w' ⟨rfl, hb⟩; have Hb := Lib.hid hb; clear hb)
      go_ret
      exact ⟨rfl, ((Below.refl _ _).alloc (Nat.le_refl _) _).trans (Hb.out.mono (by simp))⟩

def PiecesYes (s : ByteArray) (w : World) (e : Ending) (w' : World) : Prop :=
  ∃ l : List ByteArray, e = .returned (.slice (some ⟨w.heap.size, 0, none⟩) l.length l.length) ∧ l.map (·.data.toList) = splitL s.data.toList ∧ IsStrs w' (.slice (some ⟨w.heap.size, 0, none⟩) l.length l.length) l ∧ Below w.heap.size w w'

set_option maxHeartbeats 1000000 in
theorem path_pieces_yes (s : ByteArray) (w : World) (hm : MX w) (hyes : mayL s.data.toList = true) :
    Calls Tryd.prog 41 #[.string s] w (PiecesYes s w) := by
  obtain ⟨g1, g2, g3⟩ := (may_iff s.data.toList).1 hyes
  have h1 : s.size ≤ 128 := g1
  clear g1 hyes
  have G2 := Lib.hid g2; have G3 := Lib.hid g3; clear g2 g3
  have Hm := Lib.hid hm; clear hm
  go_enter Tryd.func41, Tryd.ntmps41
  go_wp2_with fail
  refine (path_split s (by omega) _ Hm.out).mono ?_
  rintro e w' ⟨L, rfl, HL, rfl⟩
  have h2 : L.length ≤ 8 := by have := G2.out; rw [← HL.out, List.length_map] at this; exact this
  have hc := path_containsFunc L w.heap.size 0 L.length (w.alloc (.cells (L.map Value.string).toArray 9)) (by omega) (fun i hi => by have := el_small HL.out i hi; unfold maxLen; have e : s.data.toList.length = s.size := rfl; omega) (by simp)
    (fun i hi => by
      obtain ⟨a, cap, hv, h⟩ := IsStrs.new w L L.length 9 (0, 0)
      rcases h with h | ⟨b, off, ha, _, hcc⟩
      · subst h; simp at hi
      · simp only [Value.slice.injEq] at hv
        obtain ⟨rfl, _⟩ := hv
        simp only [Option.some.injEq, Addr.mk.injEq, and_true] at ha
        obtain ⟨rfl, rfl⟩ := ha
        exact hcc i hi)
  rw [map_all HL.out, G3.out] at hc
  have Hc := Lib.hid hc; clear hc
  go_wp2_with (go_at_call 54; refine (Hc.out).mono ?_; rintro e w' ⟨rfl, hb⟩; have Hb := Lib.hid hb; clear hb)
  go_ret
  exact ⟨L, rfl, HL.out, (IsStrs.new w L L.length 9 (0, 0)).below Hb.out (Nat.le_refl _), ((Below.refl _ _).alloc (Nat.le_refl _) _).trans (Hb.out.mono (by simp))⟩

set_option maxHeartbeats 1000000 in
theorem path_may (s : ByteArray) (hs : s.size ≤ 140737488351232) (w : World) (hm : MX w) :
    Calls Tryd.prog 30 #[.string s] w fun e w' => e = .returned (.bool (mayL s.data.toList)) ∧ Below w.heap.size w w' := by
  cases h : mayL s.data.toList with
  | false =>
    have c := path_pieces_no s hs w hm h
    have C := Lib.hid c; clear c h hm
    have hne := fun w => run_neq_slice_nil_any (P := Tryd.prog) w 25 9 none 0 0 0 0 Tryd.underlying25
    go_enter Tryd.func30, Tryd.ntmps30
    go_wp2_with (go_at_call 41; refine (C.out).mono ?_; rintro e w' ⟨rfl, hb⟩; have Hb := Lib.hid hb; clear hb)
    go_ret
    exact ⟨rfl, Hb.out⟩
  | true =>
    have c := path_pieces_yes s w hm h
    have C := Lib.hid c; clear c h hm
    have hne := fun w n => run_neq_slice_nil_any (P := Tryd.prog) w 25 9 (some ⟨w.heap.size, 0, none⟩) n n 0 0 Tryd.underlying25
    go_enter Tryd.func30, Tryd.ntmps30
    go_wp2_with (go_at_call 41; refine (C.out).mono ?_; rintro e w' ⟨L, rfl, _, _, hb⟩; have Hb := Lib.hid hb; clear hb)
    go_ret
    exact ⟨rfl, Hb.out⟩

theorem emptyT {s : ByteArray} (h : s.data.toList = []) : s.toList = [] := by rw [ByteArray.toList_eq]; exact h
theorem emptyF {s : ByteArray} (h : ¬ s.data.toList = []) : s.toList.isEmpty = false := by rw [ByteArray.toList_eq]; simpa using h
theorem emptyG {s : ByteArray} (h : ¬ s.data.toList = []) : ¬ s.toList = [] := by rw [ByteArray.toList_eq]; exact h

set_option maxHeartbeats 1000000 in
theorem path_prefix (s : ByteArray) (hs : s.size ≤ 140737488351232) (w : World) (hm : MX w) :
    Calls Tryd.prog 79 #[.string s] w fun e w' => e = .returned (.bool (prefL s.data.toList)) ∧ Below w.heap.size w w' := by
  by_cases h : s.data.toList = []
  · have H := Lib.hid h; have h1 := emptyT h; clear h hm
    go_enter Tryd.func79, Tryd.ntmps79
    go_wp2_with fail
    go_ret
    exact ⟨ret_bool (by rw [H.out]; rfl), Below.refl _ _⟩
  · have c := path_may s hs w hm
    have C := Lib.hid c; clear c hm
    have H := Lib.hid h; have h1 := emptyF h; have h2 := emptyG h; clear h
    go_enter Tryd.func79, Tryd.ntmps79
    go_wp2_with (go_at_call 30; refine (C.out).mono ?_; rintro e w' ⟨rfl, hb⟩; have Hb := Lib.hid hb; clear hb)
    go_ret
    refine ⟨ret_bool ?_, Hb.out⟩
    have h3 : s.data.toList.isEmpty = false := by simpa using H.out
    simp only [prefL, h3, Bool.false_or]

theorem under_ff {p s : List UInt8} (h : prefL p = false) : underL p s = false := by simp [underL, h]
theorem under_tf {p s : List UInt8} (h : mayL s = false) : underL p s = false := by simp [underL, h]
theorem under_tt {p s : List UInt8} (h : prefL p = true) (h2 : mayL s = true) (h3 : p = []) : underL p s = true := by subst h3; simp [underL, h, h2]
theorem under_tp {p s : List UInt8} (h : prefL p = true) (h2 : mayL s = true) (h3 : ¬ p = []) : (p ++ [47]).isPrefixOf s = underL p s := by simp [underL, h, h2, h3]

set_option maxHeartbeats 1000000 in
theorem path_under (p s : ByteArray) (hp : p.size ≤ 140737488351232) (hs : s.size ≤ 140737488351232) (w : World) (hm : MX w) :
    Calls Tryd.prog 59 #[.string p, .string s] w fun e w' => e = .returned (.bool (underL p.data.toList s.data.toList)) ∧ Below w.heap.size w w' := by
  have c := path_prefix p hp w hm
  cases h1 : prefL p.data.toList with
  | false =>
    rw [h1] at c
    have C := Lib.hid c; clear c hm
    have H := Lib.hid (under_ff (s := s.data.toList) h1); clear h1
    go_enter Tryd.func59, Tryd.ntmps59
    go_wp2_with (go_at_call 79; refine (C.out).mono ?_; rintro e w' ⟨rfl, hb⟩; have Hb := Lib.hid hb; clear hb)
    go_ret
    exact ⟨ret_bool H.out.symm, Hb.out⟩
  | true =>
    rw [h1] at c
    have C := Lib.hid c; clear c
    have Hm := Lib.hid hm; clear hm
    have c2 := fun w hm => path_may s hs w hm
    cases h2 : mayL s.data.toList with
    | false =>
      rw [h2] at c2
      have C2 := Lib.hid c2; clear c2
      have H := Lib.hid (under_tf (p := p.data.toList) h2); clear h1 h2
      go_enter Tryd.func59, Tryd.ntmps59
      go_wp2_with (first | (go_at_call 79; refine (C.out).mono ?_; rintro e w' ⟨rfl, hb⟩; have Hb := Lib.hid hb; clear hb) | (go_at_call 30; refine (C2.out _ (Hm.out.below Hb.out (Nat.le_refl _))).mono ?_; rintro e w2 ⟨rfl, hb⟩; have Hb2 := Lib.hid (Hb.out.trans (hb.mono Hb.out.size)); clear hb))
      go_ret
      exact ⟨ret_bool H.out.symm, Hb2.out⟩
    | true =>
      rw [h2] at c2
      have C2 := Lib.hid c2; clear c2
      by_cases h3 : p.data.toList = []
      · have H := Lib.hid (under_tt h1 h2 h3); have h4 := emptyT h3; clear h1 h2 h3
        go_enter Tryd.func59, Tryd.ntmps59
        go_wp2_with (first | (go_at_call 79; refine (C.out).mono ?_; rintro e w' ⟨rfl, hb⟩; have Hb := Lib.hid hb; clear hb) | (go_at_call 30; refine (C2.out _ (Hm.out.below Hb.out (Nat.le_refl _))).mono ?_; rintro e w2 ⟨rfl, hb⟩; have Hb2 := Lib.hid (Hb.out.trans (hb.mono Hb.out.size)); clear hb))
        go_ret
        exact ⟨ret_bool H.out.symm, Hb2.out⟩
      · have H := Lib.hid (under_tp h1 h2 h3); have h4 := emptyF h3; have h5 := emptyG h3; clear h1 h2 h3
        go_enter Tryd.func59, Tryd.ntmps59
        go_wp2_with (first | (go_at_call 79; refine (C.out).mono ?_; rintro e w' ⟨rfl, hb⟩; have Hb := Lib.hid hb; clear hb) | (go_at_call 30; refine (C2.out _ (Hm.out.below Hb.out (Nat.le_refl _))).mono ?_; rintro e w2 ⟨rfl, hb⟩; have Hb2 := Lib.hid (Hb.out.trans (hb.mono Hb.out.size)); clear hb))
        refine (Tryd.strings_HasPrefix _ _ _).mono ?_
        rintro e w' ⟨rfl, rfl⟩
        go_wp2
        go_ret
        refine ⟨ret_bool ?_, Hb2.out⟩
        rw [← H.out]
        rfl

theorem under_len {p s : List UInt8} (h : underL p s = true) (h2 : ¬ p = []) : p.length + 1 ≤ s.length := by
  unfold underL at h
  simp only [Bool.and_eq_true] at h
  have h3 := h.2
  have : p.isEmpty = false := by simpa using h2
  rw [this, Bool.false_or, isPrefixOf_iff'] at h3
  obtain ⟨t, rfl⟩ := h3
  simp
theorem child_no {p s : List UInt8} (h : underL p s = true) {r : List UInt8} (hr : restL p s = r) (h2 : Lib.indexByte r 47 = -1) : childL p s = r := by
  unfold childL headL; rw [if_pos h, hr, Lib.index_one, h2]; rfl
theorem child_yes {p s : List UInt8} (h : underL p s = true) {r : List UInt8} (hr : restL p s = r) {i : Nat} (h2 : Lib.indexByte r 47 = i) : childL p s = r.take (i + 1) := by
  unfold childL headL; rw [if_pos h, hr, Lib.index_one, h2, if_pos (by omega)]; rfl
theorem rest_e {p s : List UInt8} (h : p = []) : restL p s = s := by subst h; rfl
theorem rest_p {p s : List UInt8} (h : ¬ p = []) : restL p s = s.drop (p.length + 1) := by
  have : p.isEmpty = false := by simpa using h
  unfold restL; rw [this]; rfl
theorem indexByte_lt {r : List UInt8} {i : Nat} (h : Lib.indexByte r 47 = i) : i < r.length := by
  have := (Lib.indexByte_some h).1
  exact (List.getElem?_eq_some_iff.1 this).1

set_option maxHeartbeats 1000000 in
theorem path_child (p s : ByteArray) (hp : p.size ≤ 140737488351232) (hs : s.size ≤ 140737488351232) (w : World) (hm : MX w) :
    Calls Tryd.prog 45 #[.string p, .string s] w fun e w' => e = .returned (.tuple #[.string (bs (childL p.data.toList s.data.toList)), .bool (underL p.data.toList s.data.toList)]) ∧ Below w.heap.size w w' := by
  have c := path_under p s hp hs w hm
  clear hm
  cases h1 : underL p.data.toList s.data.toList with
  | false =>
    rw [h1] at c
    have C := Lib.hid c; clear c
    have H := Lib.hid (child_none _ _ h1); clear h1
    go_enter Tryd.func45, Tryd.ntmps45
    go_wp2_with (go_at_call 59; refine (C.out).mono ?_; rintro e w' ⟨rfl, hb⟩; have Hb := Lib.hid hb; clear hb)
    go_ret2
    exact ⟨ret_strb (by rw [H.out]; rfl) rfl, Hb.out⟩
  | true =>
    rw [h1] at c
    have C := Lib.hid c; clear c
    by_cases h3 : p.data.toList = []
    · have hr := rest_e (s := s.data.toList) h3
      have h4 := emptyT h3; clear h3
      have hge := Lib.indexByte_ge s.data.toList 47
      rcases (show Lib.indexByte s.data.toList 47 = -1 ∨ ∃ i : Nat, Lib.indexByte s.data.toList 47 = i by
        by_cases hx : Lib.indexByte s.data.toList 47 = -1
        · exact Or.inl hx
        · exact Or.inr ⟨(Lib.indexByte s.data.toList 47).toNat, by omega⟩) with hi | ⟨i, hi⟩
      · have H := Lib.hid (child_no h1 hr hi); clear h1 hr hge
        have HI := Lib.hid hi; clear hi
        go_enter Tryd.func45, Tryd.ntmps45
        go_wp2_with (first | (go_at_call 59; refine (C.out).mono ?_; rintro e w' ⟨rfl, hb⟩; have Hb := Lib.hid hb; clear hb) | (go_at_call 60; refine (Tryd.strings_IndexByte _ _ _).mono ?_; rw [show Lib.indexByte s.data.toList (Int.toNat 47).toUInt8 = -1 from HI.out]; rintro e w2 ⟨rfl, rfl⟩))
        go_ret2
        exact ⟨ret_strb (by rw [H.out]; rfl) rfl, Hb.out⟩
      · have H := Lib.hid (child_yes h1 hr hi)
        have hlt : i < s.size := indexByte_lt hi
        clear h1 hr hge
        have HI := Lib.hid hi; clear hi
        go_enter Tryd.func45, Tryd.ntmps45
        go_wp2_with (first | (go_at_call 59; refine (C.out).mono ?_; rintro e w' ⟨rfl, hb⟩; have Hb := Lib.hid hb; clear hb) | (go_at_call 60; refine (Tryd.strings_IndexByte _ _ _).mono ?_; rw [show Lib.indexByte s.data.toList (Int.toNat 47).toUInt8 = i from HI.out]; rintro e w2 ⟨rfl, rfl⟩))
        go_ret2
        refine ⟨ret_strb (ba_ext ?_) rfl, Hb.out⟩
        rw [bs_toList, H.out, Lib.extract_data]; simp
    · have hr := rest_p (s := s.data.toList) h3
      have hln : p.size + 1 ≤ s.size := under_len h1 h3
      have h4 := emptyF h3; have h5 := emptyG h3; clear h3
      obtain ⟨r, hrr⟩ : ∃ r, r = s.extract (p.size + 1) s.size := ⟨_, rfl⟩
      have hrd : r.data.toList = s.data.toList.drop (p.size + 1) := by rw [hrr, Lib.extract_to_end]
      have hrs : r.size ≤ s.size := by
        have : r.data.toList.length = s.data.toList.length - (p.size + 1) := by rw [hrd, List.length_drop]
        have e1 : r.data.toList.length = r.size := rfl
        have e2 : s.data.toList.length = s.size := rfl
        omega
      have hr2 : restL p.data.toList s.data.toList = r.data.toList := by rw [hr, hrd]; rfl
      clear hrd hr
      have hge := Lib.indexByte_ge r.data.toList 47
      have HR := Lib.hid hrr
      rcases (show Lib.indexByte r.data.toList 47 = -1 ∨ ∃ i : Nat, Lib.indexByte r.data.toList 47 = i by
        by_cases hx : Lib.indexByte r.data.toList 47 = -1
        · exact Or.inl hx
        · exact Or.inr ⟨(Lib.indexByte r.data.toList 47).toNat, by omega⟩) with hi | ⟨i, hi⟩
      · have H := Lib.hid (child_no h1 hr2 hi); clear h1 hr2 hge hrr
        have HI := Lib.hid hi; clear hi
        go_enter Tryd.func45, Tryd.ntmps45
        go_wp2_with (first | (go_at_call 59; refine (C.out).mono ?_; rintro e w' ⟨rfl, hb⟩; have Hb := Lib.hid hb; clear hb) | (go_at_call 60; rw [← HR.out]; refine (Tryd.strings_IndexByte _ _ _).mono ?_; rw [show Lib.indexByte r.data.toList (Int.toNat 47).toUInt8 = -1 from HI.out]; rintro e w2 ⟨rfl, rfl⟩))
        go_ret2
        exact ⟨ret_strb (by rw [H.out]; rfl) rfl, Hb.out⟩
      · have H := Lib.hid (child_yes h1 hr2 hi)
        have hlt : i < r.size := indexByte_lt hi
        clear h1 hr2 hge hrr
        have HI := Lib.hid hi; clear hi
        go_enter Tryd.func45, Tryd.ntmps45
        go_wp2_with (first | (go_at_call 59; refine (C.out).mono ?_; rintro e w' ⟨rfl, hb⟩; have Hb := Lib.hid hb; clear hb) | (go_at_call 60; rw [← HR.out]; refine (Tryd.strings_IndexByte _ _ _).mono ?_; rw [show Lib.indexByte r.data.toList (Int.toNat 47).toUInt8 = i from HI.out]; rintro e w2 ⟨rfl, rfl⟩))
        go_ret2
        refine ⟨ret_strb (ba_ext ?_) rfl, Hb.out⟩
        rw [bs_toList, H.out, Lib.extract_data]; simp
end Go.Proofs.YtbmmabpglkojkaaDoor
