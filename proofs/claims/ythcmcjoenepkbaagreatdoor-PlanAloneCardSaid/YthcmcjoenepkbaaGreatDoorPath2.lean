/- Contracts for package path: Pieces, May, Prefix, Under, Child. -/
import Derived.Test.YthcmcjoenepkbaaGreatDoorPath1
namespace Go.Proofs.YthcmcjoenepkbaaGreatDoor
open Go Go.RowKit Pth

theorem splitB_splitL (s : ByteArray) : (Lib.splitB ⟨#[47]⟩ 0 (Lib.countB s ⟨#[47]⟩) s).map (·.data.toList) = splitL s.data.toList := by
  rw [Lib.splitB_data]; exact split_eq s.data.toList

set_option maxHeartbeats 400000 in
theorem path_split (s : ByteArray) (hs : s.size < 4294967281) (w : World) (hm : MX w) :
    Calls Tryz.prog 95 #[.string s, .string ⟨#[47]⟩] w fun e w' => ∃ L : List ByteArray, e = .returned (.slice (some ⟨w.heap.size, 0, none⟩) L.length L.length) ∧ Hid (L.map (·.data.toList) = splitL s.data.toList) ∧ w' = w.alloc (.cells (L.map Value.string).toArray 9) := by
  obtain ⟨m, hm⟩ := hm
  refine (Tryz.strings_Split s ⟨#[47]⟩ m w hs hm (Nat.le_refl _)).mono ?_
  rintro e w' ⟨rfl, rfl⟩
  have h1 := Lib.splitB_all ⟨#[47]⟩ (Nat.le_refl _) 0 _ s rfl
  exact ⟨_, by rw [h1], Lib.hid (splitB_splitL s), rfl⟩

theorem map_all {l : List ByteArray} {m : List (List UInt8)} (h : l.map (·.data.toList) = m) : l.any (fun s => !okPiece s.data.toList) = !(m.all okPiece) := by
  subst h; induction l with
  | nil => rfl
  | cons a t ih => simp [ih]
theorem piece_small {s : List UInt8} {m : List (List UInt8)} (h : splitL s = m) : ∀ p ∈ m, p.length ≤ s.length := by
  subst h
  induction s with
  | nil => intro p hp; simp [splitL] at hp; subst hp; simp
  | cons c r ih =>
    intro p hp
    unfold splitL at hp
    split at hp
    · rcases List.mem_cons.1 hp with rfl | h
      · simp
      · have := ih p h; simp; omega
    · rcases hr : splitL r with _ | ⟨a, b⟩
      · exact absurd hr (splitL_ne r)
      · rw [hr] at hp ih
        simp [glue] at hp
        rcases hp with rfl | h
        · have := ih a (by simp); simp; omega
        · have := ih p (by simp [h]); simp; omega
theorem el_small {l : List ByteArray} {s : List UInt8} (h : l.map (·.data.toList) = splitL s) (i : Nat) (hi : i < l.length) : (l.getD i ByteArray.empty).size ≤ s.length := by
  have : (l.getD i ByteArray.empty).data.toList ∈ splitL s := by
    rw [← h, List.getD_eq_getElem?_getD, List.getElem?_eq_getElem hi]
    exact List.mem_map.2 ⟨l[i], List.getElem_mem hi, rfl⟩
  exact piece_small rfl _ this

set_option maxHeartbeats 1000000 in
theorem path_pieces_no (s : ByteArray) (hs : s.size ≤ 140737488351232) (w : World) (hm : MX w) (hno : mayL s.data.toList = false) :
    Calls Tryz.prog 70 #[.string s] w fun e w' => e = .returned (.slice none 0 0) ∧ Below w.heap.size w w' := by
  by_cases h1 : 128 < s.size
  · clear hm hno
    go_enter Tryz.func70, Tryz.ntmps70
    go_wp2
    go_ret
    exact ⟨rfl, Below.refl _ _⟩
  · have Hno := Lib.hid hno; clear hno
    have Hm := Lib.hid hm; clear hm
    go_enter Tryz.func70, Tryz.ntmps70
    go_wp2_with fail
    refine (path_split s (by omega) _ Hm.out).mono ?_
    rintro e w' ⟨L, rfl, HL, rfl⟩
    by_cases h2 : 8 < L.length
    · go_wp2
      go_ret
      exact ⟨rfl, (Below.refl _ _).alloc (Nat.le_refl _) _⟩
    · have h3 : Hid (L.any (fun s => !okPiece s.data.toList) = true) := by
        refine Lib.hid ?_
        rw [map_all HL.out]
        cases h : (splitL s.data.toList).all okPiece with
        | false => rfl
        | true =>
          have h4 := (may_iff s.data.toList).2 ⟨by show s.size ≤ 128; omega, by rw [← HL.out, List.length_map]; omega, h⟩
          rw [Hno.out] at h4; cases h4
      have hc := path_containsFunc L w.heap.size 0 L.length (w.alloc (.cells (L.map Value.string).toArray 9)) (by omega) (fun i hi => by have := el_small HL.out i hi; unfold maxLen; have e : s.data.toList.length = s.size := rfl; omega) (by simp)
        (fun i hi => by
          obtain ⟨a, cap, hv, h⟩ := IsStrs.new w L L.length 9 (0, 0)
          rcases h with h | ⟨b, off, ha, _, hcc⟩
          · subst h; simp at hi
          · simp only [Value.slice.injEq] at hv
            obtain ⟨rfl, _⟩ := hv
            simp only [Option.some.injEq, Addr.mk.injEq, and_true] at ha
            obtain ⟨rfl, rfl⟩ := ha
            exact hcc i hi)
      rw [h3.out] at hc
      have Hc := Lib.hid hc; clear hc
      go_wp2_with (go_at_call 96; refine (Hc.out).mono ?_; rintro e w' ⟨rfl, hb⟩; have Hb := Lib.hid hb; clear hb)
      go_ret
      exact ⟨rfl, ((Below.refl _ _).alloc (Nat.le_refl _) _).trans (Hb.out.mono (by simp))⟩

def PiecesYes (s : ByteArray) (w : World) (e : Ending) (w' : World) : Prop :=
  ∃ l : List ByteArray, e = .returned (.slice (some ⟨w.heap.size, 0, none⟩) l.length l.length) ∧ l.map (·.data.toList) = splitL s.data.toList ∧ IsStrs w' (.slice (some ⟨w.heap.size, 0, none⟩) l.length l.length) l ∧ Below w.heap.size w w'

set_option maxHeartbeats 1000000 in
theorem path_pieces_yes (s : ByteArray) (w : World) (hm : MX w) (hyes : mayL s.data.toList = true) :
    Calls Tryz.prog 70 #[.string s] w (PiecesYes s w) := by
  obtain ⟨g1, g2, g3⟩ := (may_iff s.data.toList).1 hyes
  have h1 : s.size ≤ 128 := g1
  clear g1 hyes
  have G2 := Lib.hid g2; have G3 := Lib.hid g3; clear g2 g3
  have Hm := Lib.hid hm; clear hm
  go_enter Tryz.func70, Tryz.ntmps70
  go_wp2_with fail
  refine (path_split s (by omega) _ Hm.out).mono ?_
  rintro e w' ⟨L, rfl, HL, rfl⟩
  have h2 : L.length ≤ 8 := by have := G2.out; rw [← HL.out, List.length_map] at this; exact this
  have hc := path_containsFunc L w.heap.size 0 L.length (w.alloc (.cells (L.map Value.string).toArray 9)) (by omega) (fun i hi => by have := el_small HL.out i hi; unfold maxLen; have e : s.data.toList.length = s.size := rfl; omega) (by simp)
    (fun i hi => by
      obtain ⟨a, cap, hv, h⟩ := IsStrs.new w L L.length 9 (0, 0)
      rcases h with h | ⟨b, off, ha, _, hcc⟩
      · subst h; simp at hi
      · simp only [Value.slice.injEq] at hv
        obtain ⟨rfl, _⟩ := hv
        simp only [Option.some.injEq, Addr.mk.injEq, and_true] at ha
        obtain ⟨rfl, rfl⟩ := ha
        exact hcc i hi)
  rw [map_all HL.out, G3.out] at hc
  have Hc := Lib.hid hc; clear hc
  go_wp2_with (go_at_call 96; refine (Hc.out).mono ?_; rintro e w' ⟨rfl, hb⟩; have Hb := Lib.hid hb; clear hb)
  go_ret
  exact ⟨L, rfl, HL.out, (IsStrs.new w L L.length 9 (0, 0)).below Hb.out (Nat.le_refl _), ((Below.refl _ _).alloc (Nat.le_refl _) _).trans (Hb.out.mono (by simp))⟩

set_option maxHeartbeats 1000000 in
theorem path_may (s : ByteArray) (hs : s.size ≤ 140737488351232) (w : World) (hm : MX w) :
    Calls Tryz.prog 34 #[.string s] w fun e w' => e = .returned (.bool (mayL s.data.toList)) ∧ Below w.heap.size w w' := by
  cases h : mayL s.data.toList with
  | false =>
    have c := path_pieces_no s hs w hm h
    have C := Lib.hid c; clear c h hm
    have hne := fun w => run_neq_slice_nil_any (P := Tryz.prog) w 49 9 none 0 0 0 0 Tryz.underlying49
    go_enter Tryz.func34, Tryz.ntmps34
    go_wp2_with (go_at_call 70; refine (C.out).mono ?_; rintro e w' ⟨rfl, hb⟩; have Hb := Lib.hid hb; clear hb)
    go_ret
    exact ⟨rfl, Hb.out⟩
  | true =>
    have c := path_pieces_yes s w hm h
    have C := Lib.hid c; clear c h hm
    have hne := fun w n => run_neq_slice_nil_any (P := Tryz.prog) w 49 9 (some ⟨w.heap.size, 0, none⟩) n n 0 0 Tryz.underlying49
    go_enter Tryz.func34, Tryz.ntmps34
    go_wp2_with (go_at_call 70; refine (C.out).mono ?_; rintro e w' ⟨L, rfl, _, _, hb⟩; have Hb := Lib.hid hb; clear hb)
    go_ret
    exact ⟨rfl, Hb.out⟩

theorem emptyT {s : ByteArray} (h : s.data.toList = []) : s.toList = [] := by rw [ByteArray.toList_eq]; exact h
theorem emptyF {s : ByteArray} (h : ¬ s.data.toList = []) : s.toList.isEmpty = false := by rw [ByteArray.toList_eq]; simpa using h
theorem emptyG {s : ByteArray} (h : ¬ s.data.toList = []) : ¬ s.toList = [] := by rw [ByteArray.toList_eq]; exact h

set_option maxHeartbeats 1000000 in
theorem path_prefix (s : ByteArray) (hs : s.size ≤ 140737488351232) (w : World) (hm : MX w) :
    Calls Tryz.prog 38 #[.string s] w fun e w' => e = .returned (.bool (prefL s.data.toList)) ∧ Below w.heap.size w w' := by
  by_cases h : s.data.toList = []
  · have H := Lib.hid h; have h1 := emptyT h; clear h hm
    go_enter Tryz.func38, Tryz.ntmps38
    go_wp2_with fail
    go_ret
    exact ⟨ret_bool (by rw [H.out]; rfl), Below.refl _ _⟩
  · have c := path_may s hs w hm
    have C := Lib.hid c; clear c hm
    have H := Lib.hid h; have h1 := emptyF h; have h2 := emptyG h; clear h
    go_enter Tryz.func38, Tryz.ntmps38
    go_wp2_with (go_at_call 34; refine (C.out).mono ?_; rintro e w' ⟨rfl, hb⟩; have Hb := Lib.hid hb; clear hb)
    go_ret
    refine ⟨ret_bool ?_, Hb.out⟩
    have h3 : s.data.toList.isEmpty = false := by simpa using H.out
    simp only [prefL, h3, Bool.false_or]

end Go.Proofs.YthcmcjoenepkbaaGreatDoor
