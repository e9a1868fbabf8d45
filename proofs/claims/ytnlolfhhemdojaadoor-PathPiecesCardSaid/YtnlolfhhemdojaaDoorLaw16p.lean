/- The walk of scriniumlaw16.PathPieces: it answers true at any texts. -/
import Derived.Test.YtnlolfhhemdojaaDoorLaw16d
import Derived.Deep.LoopGhost
namespace Go.Proofs.YtnlolfhhemdojaaDoor
open Go Go.RowKit Pth

theorem joinL_snoc (l : List (List UInt8)) (x : List UInt8) (h : l ≠ []) : joinL (l ++ [x]) = joinL l ++ 47 :: x := by
  rw [joinL_app l [x] h (by simp)]; rfl
theorem joinL_len (l : List (List UInt8)) : (joinL l).length ≤ (l.map List.length).sum + l.length := by
  induction l with
  | nil => simp [joinL]
  | cons a t ih =>
    cases t with
    | nil => simp [joinL]
    | cons b u => simp only [joinL, List.length_append, List.length_cons, List.map_cons, List.sum_cons] at *; omega

/-- The first k pieces of a path, with slashes between. -/
def upTo (s : List UInt8) (k : Nat) : List UInt8 := joinL ((splitL s).take k)
theorem upTo_zero (s : List UInt8) : upTo s 0 = [] := by simp [upTo, joinL]
theorem upTo_succ {s : List UInt8} {k : Nat} (hk : k < (splitL s).length) (h0 : 0 < k) : upTo s (k + 1) = upTo s k ++ 47 :: (splitL s).getD k [] := by
  unfold upTo
  rw [List.take_succ_eq_append_getElem hk, joinL_snoc _ _ (by
    intro e; have := congrArg List.length e; rw [List.length_take, List.length_nil] at this; omega), List.getD_eq_getElem?_getD, List.getElem?_eq_getElem hk]; rfl
theorem upTo_one {s : List UInt8} (hk : 0 < (splitL s).length) : upTo s 1 = (splitL s).getD 0 [] := by
  unfold upTo
  rcases h : splitL s with _ | ⟨a, t⟩
  · rw [h] at hk; simp at hk
  · simp [joinL]
theorem upTo_all (s : List UInt8) : upTo s (splitL s).length = s := by
  unfold upTo; rw [List.take_length, joinL_splitL]
theorem upTo_split {s : List UInt8} {k : Nat} (h0 : 0 < k) : splitL (upTo s k) = (splitL s).take k := by
  unfold upTo
  refine splitL_joinL _ ?_ fun p hp => splitL_noslash s p (List.mem_of_mem_take hp)
  intro e; have := congrArg List.length e; rw [List.length_take, List.length_nil] at this
  have h1 : 0 < (splitL s).length := List.length_pos_iff.2 (splitL_ne s)
  omega
theorem joinL_take_len (l : List (List UInt8)) (k : Nat) : (joinL (l.take k)).length ≤ (joinL l).length := by
  by_cases hk : k < l.length
  · by_cases h0 : k = 0
    · subst h0; simp [joinL]
    · have h1 : l.take k ≠ [] := by
        intro e; have := congrArg List.length e; rw [List.length_take, List.length_nil] at this; omega
      have h2 : l.drop k ≠ [] := by
        intro e; have := congrArg List.length e; rw [List.length_drop, List.length_nil] at this; omega
      have := joinL_app (l.take k) (l.drop k) h1 h2
      rw [List.take_append_drop] at this
      rw [this, List.length_append]; omega
  · rw [List.take_of_length_le (by omega)]; exact Nat.le_refl _
theorem upTo_len (s : List UInt8) (k : Nat) : (upTo s k).length ≤ s.length := by
  have := joinL_take_len (splitL s) k
  rw [joinL_splitL] at this; exact this
theorem upTo_may {s : List UInt8} {k : Nat} (h : mayL s = true) (h0 : 0 < k) : mayL (upTo s k) = true := by
  obtain ⟨h1, h2, h3⟩ := (may_iff s).1 h
  refine (may_iff _).2 ⟨Nat.le_trans (upTo_len s k) h1, ?_, ?_⟩
  · rw [upTo_split h0, List.length_take]; omega
  · rw [upTo_split h0]
    rw [List.all_eq_true] at h3 ⊢
    exact fun x hx => h3 x (List.mem_of_mem_take hx)
theorem upTo_pref {s : List UInt8} {k : Nat} (h : mayL s = true) : prefL (upTo s k) = true := by
  by_cases h0 : 0 < k
  · unfold prefL; rw [upTo_may h h0]; simp
  · obtain rfl : k = 0 := by omega
    rw [upTo_zero]; rfl
theorem upTo_pieces {s : List UInt8} {k : Nat} (h : mayL s = true) : piecesL (upTo s k) = (splitL s).take k := by
  by_cases h0 : 0 < k
  · rw [pieces_may _ (upTo_may h h0), upTo_split h0]
  · obtain rfl : k = 0 := by omega
    rw [upTo_zero, pieces_nil, List.take_zero]
theorem upTo_under {s : List UInt8} {k : Nat} (h : mayL s = true) (hk : k < (splitL s).length) : underL (upTo s k) s = true := by
  rw [under_iff]
  refine ⟨upTo_pref h, ?_, (splitL s).drop k, ?_⟩
  · rw [upTo_pieces h, pieces_may s h, List.length_take]; omega
  · rw [upTo_pieces h, pieces_may s h, List.take_append_drop]
theorem upTo_child {s : List UInt8} {k : Nat} (h : mayL s = true) (hk : k < (splitL s).length) : childL (upTo s k) s = if k + 1 < (splitL s).length then (splitL s).getD k [] ++ [47] else (splitL s).getD k [] := by
  rw [← child_eq]; unfold childR
  have h1 : ((splitL s).take k).length = k := by rw [List.length_take]; omega
  rw [under_eq, upTo_under h hk, if_pos rfl, upTo_pieces h, pieces_may s h, h1]
theorem upTo_ne {s : List UInt8} {k : Nat} (h : mayL s = true) (h0 : 0 < k) : ¬ upTo s k = [] := may_ne _ (upTo_may h h0)

theorem strings_sum (l : List ByteArray) : ((l.map (·.data.toList)).map List.length).sum = sumLen l := by
  induction l with
  | nil => rfl
  | cons a t ih => simp only [List.map_cons, List.sum_cons, sumLen, ih]; rfl
theorem sumLen_le_take (l : List ByteArray) (k : Nat) : sumLen (l.take k) ≤ sumLen l := by
  induction l generalizing k with
  | nil => simp
  | cons a t ih =>
    cases k with
    | zero => simp [sumLen]
    | succ k => simp only [List.take_succ_cons, sumLen]; have := ih k; omega
theorem joined_len (l : List ByteArray) (k : Nat) (hk : k ≤ 8) : (joinL ((l.take k).map (·.data.toList))).length ≤ sumLen l + 8 := by
  have h1 := joinL_len ((l.take k).map (·.data.toList))
  rw [strings_sum] at h1
  have h2 := sumLen_le_take l k
  have h3 : ((l.take k).map (·.data.toList)).length ≤ 8 := by rw [List.length_map, List.length_take]; omega
  omega
theorem joined_succ {l : List ByteArray} {k : Nat} (h0 : 0 < k) (hk : k < l.length) : joinL ((l.take (k + 1)).map (·.data.toList)) = joinL ((l.take k).map (·.data.toList)) ++ 47 :: (l.getD k ByteArray.empty).data.toList := by
  rw [rtake_map_snoc l k hk, joinL_snoc]
  intro e; have := congrArg List.length e; rw [List.length_map, List.length_take, List.length_nil] at this; omega
theorem joined_one {l : List ByteArray} (hk : 0 < l.length) : joinL ((l.take 1).map (·.data.toList)) = (l.getD 0 ByteArray.empty).data.toList := by
  cases l with
  | nil => simp at hk
  | cons a t => simp [joinL]
theorem app_toList (a b : ByteArray) : (a ++ b).data.toList = a.data.toList ++ b.data.toList := by simp
theorem getD_map (m : List ByteArray) (k : Nat) (hk : k < m.length) : (m.getD k ByteArray.empty).data.toList = (m.map (·.data.toList)).getD k [] := by
  rw [List.getD_eq_getElem?_getD, List.getD_eq_getElem?_getD, List.getElem?_map, List.getElem?_eq_getElem hk]; rfl
end Go.Proofs.YtnlolfhhemdojaaDoor
