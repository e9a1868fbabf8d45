/- The walk of scriniumlaw16.PathNames: it answers true at every prefix and texts. -/
import Derived.Test.YtnlolfhhemdojaaDoorLaw16t
namespace Go.Proofs.YtnlolfhhemdojaaDoor
open Go Go.RowKit Pth

theorem sorted_ext : ∀ (a b : List (List UInt8)), a.Pairwise (· < ·) → b.Pairwise (· < ·) → (∀ x, x ∈ a ↔ x ∈ b) → a = b
  | [], [], _, _, _ => rfl
  | [], y :: t, _, _, h => by have := (h y).2 (by simp); simp at this
  | x :: t, [], _, _, h => by have := (h x).1 (by simp); simp at this
  | x :: s, y :: t, ha, hb, h => by
    rw [List.pairwise_cons] at ha hb
    have hxy : x = y := by
      rcases List.mem_cons.1 ((h x).1 (by simp)) with e | h1
      · exact e
      · rcases List.mem_cons.1 ((h y).2 (by simp)) with e | h2
        · exact e.symm
        · exact absurd (List.lt_trans (ha.1 y h2) (hb.1 x h1)) (List.lt_irrefl _)
    subst hxy
    congr 1
    refine sorted_ext s t ha.2 hb.2 fun z => ?_
    constructor
    · intro hz
      rcases List.mem_cons.1 ((h z).1 (List.mem_cons_of_mem _ hz)) with e | h1
      · subst e; exact absurd (ha.1 z hz) (List.lt_irrefl _)
      · exact h1
    · intro hz
      rcases List.mem_cons.1 ((h z).2 (List.mem_cons_of_mem _ hz)) with e | h1
      · subst e; exact absurd (hb.1 z hz) (List.lt_irrefl _)
      · exact h1
theorem mem_kids (p x : List UInt8) (l : List (List UInt8)) : x ∈ kidsR p l ↔ x ∈ kidsL p l := by
  unfold kidsR kidsL
  rw [List.mem_filter, List.mem_map, List.mem_map]
  constructor
  · rintro ⟨⟨s, hs, rfl⟩, hne⟩
    rw [child_eq] at hne ⊢
    refine ⟨s, List.mem_filter.2 ⟨hs, ?_⟩, rfl⟩
    cases h : underL p s with
    | true => rfl
    | false => rw [child_none _ _ h] at hne; simp at hne
  · rintro ⟨s, hs, rfl⟩
    obtain ⟨hs, hu⟩ := List.mem_filter.1 hs
    refine ⟨⟨s, hs, child_eq p s⟩, ?_⟩
    have := child_ne p s hu
    simpa using this
theorem names_sorted (p : List UInt8) (l : List (List UInt8)) : (namesL p l).Pairwise (· < ·) := by
  unfold namesL
  have h1 := List.pairwise_mergeSort (le := fun x y : List UInt8 => decide (x ≤ y)) (fun a b c h1 h2 => by simp only [decide_eq_true_eq] at *; exact List.le_trans h1 h2) (fun a b => by simp only [Bool.or_eq_true, decide_eq_true_eq]; exact List.le_total a b) (nub (kidsL p l))
  have h2 : ((nub (kidsL p l)).mergeSort (fun x y => decide (x ≤ y))).Nodup := (List.mergeSort_perm _ _).nodup_iff.2 (nub_nodup _)
  have h3 := h1.and h2
  refine h3.imp ?_
  rintro a b ⟨hab, hne⟩
  simp only [decide_eq_true_eq] at hab
  rcases List.le_iff_lt_or_eq.1 hab with h | h
  · exact h
  · exact absurd h hne
theorem names_mem (p x : List UInt8) (l : List (List UInt8)) : x ∈ namesL p l ↔ x ∈ kidsL p l := by
  unfold namesL; rw [(List.mergeSort_perm _ _).mem_iff, mem_nub]
theorem ins_names {p : List UInt8} {l Z : List ByteArray} (h : InsRel p l l.length Z) : Z.map (·.data.toList) = namesL p (l.map (·.data.toList)) := by
  refine sorted_ext _ _ h.sorted (names_sorted _ _) fun x => ?_
  rw [h.mem, List.take_length, mem_kids, names_mem]
theorem names_len (p : List UInt8) (l : List (List UInt8)) : (namesL p l).length ≤ l.length := by
  unfold namesL
  rw [List.length_mergeSort]
  have h1 : ∀ m : List (List UInt8), (nub m).length ≤ m.length := by
    intro m; induction m with
    | nil => simp [nub]
    | cons a t ih => unfold nub; split <;> simp <;> omega
  refine Nat.le_trans (h1 _) ?_
  unfold kidsL; rw [List.length_map]; exact List.length_filter_le _ _
theorem map_bs (l : List (List UInt8)) : (l.map bs).map (·.data.toList) = l := by
  rw [List.map_map]; induction l with
  | nil => rfl
  | cons a t ih => rw [List.map_cons, ih]; rfl

set_option maxRecDepth 100000 in
set_option maxHeartbeats 2000000 in
theorem law16_names (p : ByteArray) (l : List ByteArray) (v : Value) (w : World) (hp : p.size ≤ 140737488351232) (hl : l.length * 16 ≤ 140737488351232) (hls : ∀ i, i < l.length → (l.getD i ByteArray.empty).size ≤ 140737488351232)
    (hv : IsStrs w v l) (hm : MX w) :
    Calls Tryd.prog 4 #[.string p, v] w fun e w' => e = .returned (.bool true) ∧ Below w.heap.size w w' := by
  have Hm := Lib.hid (St.start hm); clear hm
  have Hp := Lib.hid hp; have Hl := Lib.hid hl; have Hls := Lib.hid hls; have Hv := Lib.hid hv; clear hp hls hv hl
  have hp2 : p.size ≤ 9223372036854775807 := by have := Hp.out; omega
  go_enter Tryd.func4, Tryd.ntmps4
  go_wp2_with fail
  refine (law16_heavy v l _ Hv.out (by have := Hl.out; omega) Hls.out).mono ?_
  rintro e w1 ⟨rfl, rfl⟩
  cases hh : heavyB l with
  | true =>
    clear hh
    go_wp2_with fail
    refine (law16_works _ Hm.out.2).mono ?_
    rintro e w2 ⟨rfl, hb2⟩
    have H2 := Lib.hid (Hm.out.step hb2); clear hb2
    go_wp2
    go_ret
    exact ⟨rfl, H2.out.1⟩
  | false =>
    have hsz : Hid (l.length ≤ 100) := Lib.hid (by
      unfold heavyB at hh; simp only [Bool.or_eq_false_iff, decide_eq_false_iff_not] at hh; omega)
    clear hh
    by_cases h300 : 300 < p.size
    · go_wp2_with fail
      refine (law16_works _ Hm.out.2).mono ?_
      rintro e w2 ⟨rfl, hb2⟩
      have H2 := Lib.hid (Hm.out.step hb2); clear hb2
      go_wp2
      go_ret
      exact ⟨rfl, H2.out.1⟩
    · go_wp2_with fail
      refine (path_names p l v _ Hp.out Hl.out Hls.out Hv.out Hm.out.2).mono ?_
      rintro e w2 ⟨v2, rfl, hst2, hb2⟩
      have H2 := Lib.hid (Hm.out.step hb2)
      have Hv2 := Lib.hid (Hv.out.below hb2 (Nat.le_refl _))
      have Hst2 := Lib.hid hst2; clear hb2 hst2
      go_wp2_with fail
      refine (ref16_names p l v _ Hp.out hsz.out Hls.out Hv2.out).mono ?_
      rintro e w3 ⟨v3, Z, rfl, hst3, hins, hb3⟩
      have H3 := Lib.hid (H2.out.step hb3)
      have Hst2b := Lib.hid (Hst2.out.below hb3 (Nat.le_refl _))
      have Hst3 := Lib.hid hst3
      have Hsame := Lib.hid (sameB_refl (map_bs _) (ins_names hins)); clear hb3 hst3 hins
      go_wp2_with fail
      refine (law16_same v2 v3 _ Z _ Hst2b.out Hst3.out (by have := names_len p.data.toList (l.map (·.data.toList)); have := hsz.out; simp at *; omega)).mono ?_
      rw [Hsame.out]
      rintro e w4 ⟨rfl, hb4⟩
      have H4 := Lib.hid (H3.out.step hb4); clear hb4
      go_wp2_with fail
      refine (law16_works _ H4.out.2).mono ?_
      rintro e w5 ⟨rfl, hb5⟩
      have H5 := Lib.hid (H4.out.step hb5); clear hb5
      go_wp2
      go_ret
      exact ⟨rfl, H5.out.1⟩
end Go.Proofs.YtnlolfhhemdojaaDoor
