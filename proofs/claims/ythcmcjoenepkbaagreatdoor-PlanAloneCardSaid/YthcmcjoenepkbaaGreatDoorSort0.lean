/- One step of each plain function of the library's sort (Derived/Sort/Defs.lean). -/
import Derived.Test.YthcmcjoenepkbaaGreatDoorBut
namespace Go.Proofs.YthcmcjoenepkbaaGreatDoor
open Go Go.RowKit Go.Sort
section
variable {α : Type} [Inhabited α] {lt : α → α → Bool}

theorem ins_go {a j : Nat} {d : Array α} (hj : a < j) (hl : lt d[j]! d[j - 1]! = true) : insInner lt a j d = insInner lt a (j - 1) (swp d j (j - 1)) := by
  obtain _ | k := j
  · omega
  · rw [insInner]; simp only [Nat.add_sub_cancel] at hl ⊢
    rw [if_pos (by simp [hl]; omega)]
theorem ins_stop {a j : Nat} {d : Array α} (h : j ≤ a ∨ lt d[j]! d[j - 1]! = false) : insInner lt a j d = d := by
  obtain _ | k := j
  · rw [insInner]
  · rw [insInner]; simp only [Nat.add_sub_cancel] at h
    rw [if_neg]
    rintro h2
    simp only [Bool.and_eq_true, decide_eq_true_eq] at h2
    rcases h with h | h
    · omega
    · rw [h] at h2; cases h2.2
theorem insOut_go {a b i : Nat} {d : Array α} (h : i < b) : insOuter lt a b i d = insOuter lt a b (i + 1) (insInner lt a i d) := by rw [insOuter, if_pos h]
theorem insOut_stop {a b i : Nat} {d : Array α} (h : ¬ i < b) : insOuter lt a b i d = d := by rw [insOuter, if_neg h]

theorem sift_end {hi F root : Nat} {d : Array α} (h : hi ≤ 2 * root + 1) : siftDown lt hi F root d = d := by rw [siftDown, dif_pos h]
/-- c is the greater child of root. -/
def Child (lt : α → α → Bool) (hi F root : Nat) (d : Array α) (c : Nat) : Prop :=
  c < hi ∧ root < c ∧ siftDown lt hi F root d = if lt d[F + root]! d[F + c]! then siftDown lt hi F c (swp d (F + root) (F + c)) else d
theorem child_right {hi F root : Nat} {d : Array α} (h1 : 2 * root + 2 < hi) (h2 : lt d[F + (2 * root + 1)]! d[F + (2 * root + 2)]! = true) : Child lt hi F root d (2 * root + 2) := by
  refine ⟨h1, by omega, ?_⟩
  rw [siftDown, dif_neg (by omega), if_pos (by rw [show F + (2 * root + 1) + 1 = F + (2 * root + 2) by omega, h2]; simp; omega), dif_pos h1]
  cases lt d[F + root]! d[F + (2 * root + 2)]! <;> simp
theorem child_left {hi F root : Nat} {d : Array α} (h1 : 2 * root + 1 < hi) (h2 : 2 * root + 2 < hi → lt d[F + (2 * root + 1)]! d[F + (2 * root + 2)]! = false) : Child lt hi F root d (2 * root + 1) := by
  refine ⟨h1, by omega, ?_⟩
  rw [siftDown, dif_neg (by omega), if_neg]
  · cases lt d[F + root]! d[F + (2 * root + 1)]! <;> simp
  · intro h
    simp only [Bool.and_eq_true, decide_eq_true_eq] at h
    rw [show F + (2 * root + 1) + 1 = F + (2 * root + 2) by omega, h2 (by omega)] at h
    cases h.2

theorem up_go {p : α → Bool} {d : Array α} {j i : Nat} (h : i ≤ j) (hp : p d[i]! = true) : scanUp p d j i = scanUp p d j (i + 1) := by
  rw [scanUp, if_pos (by simp [h, hp])]
theorem up_end {p : α → Bool} {d : Array α} {j i : Nat} (h : ¬ i ≤ j ∨ p d[i]! = false) : scanUp p d j i = i := by
  rw [scanUp, if_neg]
  intro h2
  simp only [Bool.and_eq_true, decide_eq_true_eq] at h2
  rcases h with h | h
  · exact h h2.1
  · rw [h] at h2; cases h2.2
theorem down_go {p : α → Bool} {d : Array α} {j i : Nat} (h : i ≤ j) (h0 : 0 < j) (hp : p d[j]! = true) : scanDown p d i j = scanDown p d i (j - 1) := by
  obtain _ | k := j
  · omega
  · rw [scanDown, if_pos (by simp [h, hp]), Nat.add_sub_cancel]
theorem down_end {p : α → Bool} {d : Array α} {j i : Nat} (h : ¬ i ≤ j ∨ p d[j]! = false) : scanDown p d i j = j := by
  obtain _ | k := j
  · rw [scanDown]
  · rw [scanDown, if_neg]
    intro h2
    simp only [Bool.and_eq_true, decide_eq_true_eq] at h2
    rcases h with h | h
    · exact h h2.1
    · rw [h] at h2; cases h2.2

theorem sorted_go {d : Array α} {b i : Nat} (h : i < b) (hl : lt d[i]! d[i - 1]! = false) : scanSorted lt d b i = scanSorted lt d b (i + 1) := by
  rw [scanSorted, if_pos (by simp [h, hl])]
theorem sorted_end {d : Array α} {b i : Nat} (h : ¬ i < b ∨ lt d[i]! d[i - 1]! = true) : scanSorted lt d b i = i := by
  rw [scanSorted, if_neg]
  intro h2
  simp only [Bool.and_eq_true, decide_eq_true_eq, Bool.not_eq_true'] at h2
  rcases h with h | h
  · exact h h2.1
  · rw [h] at h2; cases h2.2
theorem shd_go {j : Nat} {d : Array α} (hj : 1 ≤ j) (hl : lt d[j]! d[j - 1]! = true) : shiftDown lt j d = shiftDown lt (j - 1) (swp d j (j - 1)) := by
  obtain _ | k := j
  · omega
  · rw [shiftDown]; simp only [Nat.add_sub_cancel] at hl ⊢
    rw [if_neg (by simp [hl])]
theorem shd_stop {j : Nat} {d : Array α} (h : j = 0 ∨ lt d[j]! d[j - 1]! = false) : shiftDown lt j d = d := by
  obtain _ | k := j
  · rw [shiftDown]
  · rw [shiftDown]; simp only [Nat.add_sub_cancel] at h
    rw [if_pos]
    rcases h with h | h
    · omega
    · simp [h]
theorem shu_go {b j : Nat} {d : Array α} (hj : j < b) (hl : lt d[j]! d[j - 1]! = true) : shiftUp lt b j d = shiftUp lt b (j + 1) (swp d j (j - 1)) := by
  rw [shiftUp, if_pos hj, if_neg (by simp [hl])]
theorem shu_stop {b j : Nat} {d : Array α} (h : ¬ j < b ∨ lt d[j]! d[j - 1]! = false) : shiftUp lt b j d = d := by
  rw [shiftUp]
  by_cases hj : j < b
  · rw [if_pos hj, if_pos (by rcases h with h | h; (· exact absurd hj h); (· simp [h]))]
  · rw [if_neg hj]

theorem partL_stop {a i j : Nat} {d : Array α} {i2 j2 : Nat} (hi : scanUp (fun x => lt x d[a]!) d j i = i2) (hj : scanDown (fun x => !lt x d[a]!) d i2 j = j2) (h : j2 < i2) : partLoop lt a i j d = (j2, d) := by
  rw [partLoop_eq]; subst hi; subst hj; simp [h]
theorem partL_go {a i j : Nat} {d : Array α} {i2 j2 : Nat} (hi : scanUp (fun x => lt x d[a]!) d j i = i2) (hj : scanDown (fun x => !lt x d[a]!) d i2 j = j2) (h : ¬ j2 < i2) : partLoop lt a i j d = partLoop lt a (i2 + 1) (j2 - 1) (swp d i2 j2) := by
  rw [partLoop_eq]; subst hi; subst hj; simp [h]
theorem partE_stop {a i j : Nat} {d : Array α} {i2 j2 : Nat} (hi : scanUp (fun x => !lt d[a]! x) d j i = i2) (hj : scanDown (fun x => lt d[a]! x) d i2 j = j2) (h : j2 < i2) : partEqLoop lt a i j d = (i2, d) := by
  rw [partEqLoop_eq]; subst hi; subst hj; simp [h]
theorem partE_go {a i j : Nat} {d : Array α} {i2 j2 : Nat} (hi : scanUp (fun x => !lt d[a]! x) d j i = i2) (hj : scanDown (fun x => lt d[a]! x) d i2 j = j2) (h : ¬ j2 < i2) : partEqLoop lt a i j d = partEqLoop lt a (i2 + 1) (j2 - 1) (swp d i2 j2) := by
  rw [partEqLoop_eq]; subst hi; subst hj; simp [h]
end
end Go.Proofs.YthcmcjoenepkbaaGreatDoor
