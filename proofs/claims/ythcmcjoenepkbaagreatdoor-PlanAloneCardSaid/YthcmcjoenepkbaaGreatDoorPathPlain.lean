/- Plain mathematics of paths: splitting at slashes, pieces, under, child. No program is named here. -/
import Derived.Lib.Split
namespace Go.Proofs.YthcmcjoenepkbaaGreatDoor.Pth
open Go

def okc (c : UInt8) : Bool :=
  decide (97 ≤ c.toNat ∧ c.toNat ≤ 122) || decide (48 ≤ c.toNat ∧ c.toNat ≤ 57) || decide (c.toNat = 46) || decide (c.toNat = 95) || decide (c.toNat = 45)
def okPiece (l : List UInt8) : Bool := decide (1 ≤ l.length) && decide (l.length ≤ 32) && l.all okc

def glue (x : List UInt8) : List (List UInt8) → List (List UInt8)
  | [] => [x]
  | h :: t => (x ++ h) :: t
def splitL : List UInt8 → List (List UInt8)
  | [] => [[]]
  | c :: r => if c = 47 then [] :: splitL r else glue [c] (splitL r)
def joinL : List (List UInt8) → List UInt8
  | [] => []
  | [p] => p
  | p :: q :: t => p ++ 47 :: joinL (q :: t)

theorem glue_ne (x : List UInt8) (l : List (List UInt8)) : glue x l ≠ [] := by cases l <;> simp [glue]
theorem splitL_ne (s : List UInt8) : splitL s ≠ [] := by
  cases s with
  | nil => simp [splitL]
  | cons c r => unfold splitL; split <;> simp [glue_ne]
theorem glue_glue (x y : List UInt8) (l : List (List UInt8)) (h : l ≠ []) : glue x (glue y l) = glue (x ++ y) l := by
  cases l with
  | nil => exact absurd rfl h
  | cons a t => simp [glue]
theorem glue_nil (l : List (List UInt8)) (h : l ≠ []) : glue [] l = l := by
  cases l with
  | nil => exact absurd rfl h
  | cons a t => simp [glue]
theorem splitL_app (x r : List UInt8) (h : ∀ c ∈ x, c ≠ 47) : splitL (x ++ r) = glue x (splitL r) := by
  induction x with
  | nil => exact (glue_nil _ (splitL_ne r)).symm
  | cons c t ih =>
    have hc := h c (by simp)
    rw [List.cons_append, splitL, if_neg hc, ih (fun d hd => h d (by simp [hd])), glue_glue _ _ _ (splitL_ne r)]; rfl
theorem splitL_slash (r : List UInt8) : splitL (47 :: r) = [] :: splitL r := by simp [splitL]
theorem splitL_cut (x r : List UInt8) (h : ∀ c ∈ x, c ≠ 47) : splitL (x ++ 47 :: r) = x :: splitL r := by
  rw [splitL_app x _ h, splitL_slash]; simp [glue]
theorem splitL_whole (x : List UInt8) (h : ∀ c ∈ x, c ≠ 47) : splitL x = [x] := by
  have := splitL_app x [] h; rw [List.append_nil] at this; rw [this]; simp [splitL, glue]
theorem splitL_join2 (p r : List UInt8) : splitL (p ++ 47 :: r) = splitL p ++ splitL r := by
  induction p with
  | nil => simp [splitL]
  | cons c t ih =>
    rw [List.cons_append, splitL, splitL, ih]
    split
    · simp
    · rcases h : splitL t with _ | ⟨a, b⟩
      · exact absurd h (splitL_ne t)
      · simp [glue]
theorem mem_glue {x : List UInt8} {l : List (List UInt8)} {p : List UInt8} (hx : ∀ c ∈ x, c ≠ 47) (hl : ∀ p ∈ l, ∀ c ∈ p, c ≠ 47) (h : p ∈ glue x l) : ∀ c ∈ p, c ≠ 47 := by
  cases l with
  | nil => simp [glue] at h; subst h; exact hx
  | cons a t =>
    simp [glue] at h
    rcases h with rfl | h
    · intro c hc
      rcases List.mem_append.1 hc with h | h
      · exact hx c h
      · exact hl a (by simp) c h
    · exact hl p (by simp [h])
theorem splitL_noslash (s : List UInt8) : ∀ p ∈ splitL s, ∀ c ∈ p, c ≠ 47 := by
  induction s with
  | nil => intro p hp; simp [splitL] at hp; subst hp; simp
  | cons c r ih =>
    intro p hp
    unfold splitL at hp
    split at hp
    · rcases List.mem_cons.1 hp with rfl | h
      · simp
      · exact ih p h
    · rename_i hc
      exact mem_glue (by simpa using hc) ih hp
theorem joinL_glue (x : List UInt8) (l : List (List UInt8)) (h : l ≠ []) : joinL (glue x l) = x ++ joinL l := by
  cases l with
  | nil => exact absurd rfl h
  | cons a t => cases t <;> simp [glue, joinL]
theorem joinL_splitL (s : List UInt8) : joinL (splitL s) = s := by
  induction s with
  | nil => rfl
  | cons c r ih =>
    unfold splitL
    split
    · rename_i hc; subst hc
      rcases h : splitL r with _ | ⟨a, b⟩
      · exact absurd h (splitL_ne r)
      · rw [joinL, ← h, ih]; rfl
    · rw [joinL_glue _ _ (splitL_ne r), ih]; rfl
theorem joinL_app (l m : List (List UInt8)) (hl : l ≠ []) (hm : m ≠ []) : joinL (l ++ m) = joinL l ++ 47 :: joinL m := by
  induction l with
  | nil => exact absurd rfl hl
  | cons a t ih =>
    cases t with
    | nil =>
      cases m with
      | nil => exact absurd rfl hm
      | cons b u => simp [joinL]
    | cons b u =>
      have := ih (by simp)
      rw [List.cons_append, List.cons_append, joinL, joinL, ← List.cons_append, this]; simp
theorem splitL_joinL (l : List (List UInt8)) (hl : l ≠ []) (h : ∀ p ∈ l, ∀ c ∈ p, c ≠ 47) : splitL (joinL l) = l := by
  induction l with
  | nil => exact absurd rfl hl
  | cons a t ih =>
    cases t with
    | nil => exact splitL_whole a (h a (by simp))
    | cons b u => rw [joinL, splitL_cut a _ (h a (by simp)), ih (by simp) (fun p hp => h p (by simp [hp]))]

-- how the library cuts
theorem occ_iff (s : List UInt8) (i : Nat) : Lib.occAt s [47] i = true ↔ s[i]? = some 47 := by
  unfold Lib.occAt
  rcases h : s.drop i with _ | ⟨a, t⟩
  · have : s[i]? = none := by rw [List.getElem?_eq_none_iff]; simpa using h
    simp [this]
  · have e : s[i]? = some a := by
      have := congrArg List.head? h; simpa [List.head?_drop] using this
    simp only [e, List.isPrefixOf, Bool.and_true, beq_iff_eq, Option.some.injEq]; exact eq_comm
theorem index_none (s : List UInt8) (h : Lib.index s [47] = -1) : ∀ c ∈ s, c ≠ 47 := by
  rcases Lib.index_spec s [47] with ⟨_, h2⟩ | ⟨i, h1, _⟩
  · intro c hc e; subst e
    obtain ⟨i, hi, he⟩ := List.mem_iff_getElem.1 hc
    have := h2 i (by omega)
    have h3 := (occ_iff s i).2 (by rw [List.getElem?_eq_getElem hi, he])
    rw [h3] at this; cases this
  · omega
theorem index_some (s : List UInt8) (i : Nat) (h : Lib.index s [47] = i) : i < s.length ∧ s = s.take i ++ 47 :: s.drop (i + 1) ∧ ∀ c ∈ s.take i, c ≠ 47 := by
  rcases Lib.index_spec s [47] with ⟨h1, _⟩ | ⟨j, h1, h2, h3, h4⟩
  · omega
  · have hj : j = i := by omega
    subst hj
    have hs := (occ_iff s j).1 h3
    obtain ⟨hlt, he⟩ := List.getElem?_eq_some_iff.1 hs
    refine ⟨hlt, ?_, ?_⟩
    · have := List.take_append_drop j s
      rw [List.drop_eq_getElem_cons hlt, he] at this
      exact this.symm
    · intro c hc e; subst e
      obtain ⟨k, hk, hke⟩ := List.mem_iff_getElem.1 hc
      have hk2 : k < j := by simp at hk; omega
      have := h4 k hk2
      have h5 := (occ_iff s k).2 (by rw [List.getElem_take] at hke; rw [List.getElem?_eq_getElem (by omega), hke])
      rw [h5] at this; cases this
theorem splitK_eq : ∀ (fuel : Nat) (s : List UInt8), s.length < fuel → Lib.splitK [47] 0 (Lib.countFrom [47] fuel s) s = splitL s
  | 0, _, h => absurd h (Nat.not_lt_zero _)
  | fuel + 1, s, h => by
    unfold Lib.countFrom
    by_cases h1 : Lib.index s [47] = -1
    · rw [if_pos (by simp [h1])]
      rw [Lib.splitK, splitL_whole s (index_none s h1)]
    · have hge := Lib.index_ge s [47]
      obtain ⟨i, hi⟩ : ∃ i : Nat, Lib.index s [47] = i := ⟨(Lib.index s [47]).toNat, by omega⟩
      obtain ⟨hlt, he, hno⟩ := index_some s i hi
      have hm : ¬ (Lib.index s [47] == -1) = true := by simpa using h1
      rw [if_neg hm, Nat.add_comm, Lib.splitK, if_neg hm, hi]
      have e1 : ([47] : List UInt8).length = 1 := rfl
      rw [Int.toNat_natCast, Nat.add_zero, e1]
      rw [splitK_eq fuel _ (by rw [List.length_drop]; omega)]
      conv => rhs; rw [he]
      rw [splitL_cut _ _ hno]
theorem split_eq (s : List UInt8) : Lib.split s [47] = splitL s := splitK_eq _ s (Nat.lt_succ_self _)

def piecesL (s : List UInt8) : List (List UInt8) :=
  if 128 < s.length then [] else if 8 < (splitL s).length then [] else if (splitL s).all okPiece then splitL s else []
def mayL (s : List UInt8) : Bool := !(piecesL s).isEmpty
def prefL (s : List UInt8) : Bool := s.isEmpty || mayL s
def underL (p s : List UInt8) : Bool := prefL p && mayL s && (p.isEmpty || (p ++ [47]).isPrefixOf s)
def underR (p s : List UInt8) : Bool := prefL p && decide ((piecesL p).length < (piecesL s).length) && (piecesL p).isPrefixOf (piecesL s)
def restL (p s : List UInt8) : List UInt8 := if p.isEmpty then s else s.drop (p.length + 1)
def headL (s : List UInt8) : List UInt8 := if 0 ≤ Lib.index s [47] then s.take ((Lib.index s [47]).toNat + 1) else s
def childL (p s : List UInt8) : List UInt8 := if underL p s then headL (restL p s) else []
def childR (p s : List UInt8) : List UInt8 :=
  if underR p s then (if (piecesL p).length + 1 < (piecesL s).length then (piecesL s).getD (piecesL p).length [] ++ [47] else (piecesL s).getD (piecesL p).length []) else []

theorem pieces_nil : piecesL [] = [] := by decide
theorem may_iff (s : List UInt8) : mayL s = true ↔ s.length ≤ 128 ∧ (splitL s).length ≤ 8 ∧ (splitL s).all okPiece = true := by
  unfold mayL piecesL
  have hne := splitL_ne s
  split
  · simp; omega
  · split
    · simp; omega
    · split
      · rename_i h; simp [h, hne]; constructor <;> omega
      · rename_i h; simp only [List.isEmpty_nil, Bool.not_true, Bool.false_eq_true, false_iff]; intro hh; exact h hh.2.2
theorem pieces_may (s : List UInt8) (h : mayL s = true) : piecesL s = splitL s := by
  obtain ⟨a, b, c⟩ := (may_iff s).1 h
  unfold piecesL; rw [if_neg (by omega), if_neg (by omega), if_pos c]
theorem pieces_not (s : List UInt8) (h : mayL s = false) : piecesL s = [] := by
  unfold mayL at h; simpa using h
theorem may_ne (s : List UInt8) (h : mayL s = true) : s ≠ [] := by
  rintro rfl; revert h; decide

theorem isPrefixOf_iff' {α : Type} [BEq α] [LawfulBEq α] (a b : List α) : a.isPrefixOf b = true ↔ ∃ t, b = a ++ t := by
  rw [List.isPrefixOf_iff_prefix]; exact ⟨fun ⟨t, h⟩ => ⟨t, h.symm⟩, fun ⟨t, h⟩ => ⟨t, h.symm⟩⟩

theorem slash_prefix (p s : List UInt8) : (p ++ [47]).isPrefixOf s = true ↔ ((splitL p).length < (splitL s).length ∧ (splitL p).isPrefixOf (splitL s) = true) := by
  rw [isPrefixOf_iff', isPrefixOf_iff']
  constructor
  · rintro ⟨t, rfl⟩
    have e : p ++ [47] ++ t = p ++ 47 :: t := by simp
    rw [e, splitL_join2]
    have := splitL_ne t
    refine ⟨?_, _, rfl⟩
    rw [List.length_append]
    have : 0 < (splitL t).length := List.length_pos_iff.2 this
    omega
  · rintro ⟨h, t, ht⟩
    have hne : t ≠ [] := by rintro rfl; rw [ht, List.append_nil] at h; omega
    have := joinL_splitL s
    rw [ht, joinL_app _ _ (splitL_ne p) hne, joinL_splitL] at this
    exact ⟨joinL t, by rw [← this]; simp⟩

theorem under_eq (p s : List UInt8) : underR p s = underL p s := by
  unfold underR underL
  by_cases hp : p = []
  · subst hp
    rw [pieces_nil]
    cases hm : mayL s with
    | true =>
      have : piecesL s ≠ [] := by rw [pieces_may s hm]; exact splitL_ne s
      have h2 : 0 < (piecesL s).length := List.length_pos_iff.2 this
      simp [prefL, h2]
    | false => simp [pieces_not s hm]
  · have hpe : p.isEmpty = false := by simpa using hp
    cases hm : mayL p with
    | false => simp [prefL, hm, hpe]
    | true =>
      cases hs : mayL s with
      | false => simp [pieces_not s hs]
      | true =>
        rw [pieces_may p hm, pieces_may s hs]
        have := slash_prefix p s
        cases h : (p ++ [47]).isPrefixOf s with
        | true =>
          obtain ⟨h1, h2⟩ := this.1 h
          simp [prefL, hm, h1, h2]
        | false =>
          rw [Bool.eq_false_iff] at h
          simp only [prefL, hm, hpe, Bool.or_true, Bool.true_and, Bool.or_self]
          by_cases h1 : (splitL p).length < (splitL s).length
          · by_cases h2 : (splitL p).isPrefixOf (splitL s) = true
            · exact absurd (this.2 ⟨h1, h2⟩) h
            · simp [h2]
          · simp [h1]

/-- What is behind the prefix: its pieces are those that are left. -/
theorem rest_split (p s : List UInt8) (h : underL p s = true) : splitL s = piecesL p ++ splitL (restL p s) := by
  unfold underL at h
  simp only [Bool.and_eq_true] at h
  obtain ⟨⟨h1, h2⟩, h3⟩ := h
  unfold restL
  by_cases hp : p = []
  · subst hp; rw [pieces_nil]; simp
  · have hpe : p.isEmpty = false := by simpa using hp
    rw [hpe] at h3 ⊢
    simp only [prefL, hpe, Bool.false_or] at h1 h3
    obtain ⟨t, rfl⟩ := (isPrefixOf_iff' _ _).1 h3
    have e : p ++ [47] ++ t = p ++ 47 :: t := by simp
    rw [pieces_may p h1, e, splitL_join2]
    congr 1
    have : (p ++ 47 :: t).drop (p.length + 1) = t := by
      rw [List.drop_append]; simp
    simp [this]
theorem head_eq (s : List UInt8) : headL s = if 1 < (splitL s).length then (splitL s).getD 0 [] ++ [47] else (splitL s).getD 0 [] := by
  unfold headL
  have hge := Lib.index_ge s [47]
  by_cases h : 0 ≤ Lib.index s [47]
  · obtain ⟨i, hi⟩ : ∃ i : Nat, Lib.index s [47] = i := ⟨(Lib.index s [47]).toNat, by omega⟩
    obtain ⟨hlt, he, hno⟩ := index_some s i hi
    rw [if_pos h]
    have hs : splitL s = s.take i :: splitL (s.drop (i + 1)) := by
      conv => lhs; rw [he]
      exact splitL_cut _ _ hno
    have hp : 0 < (splitL (s.drop (i + 1))).length := List.length_pos_iff.2 (splitL_ne _)
    rw [hs, if_pos (by simp; omega), hi]
    simp only [Int.toNat_natCast, List.getD_cons_zero]
    conv => lhs; rw [he]
    rw [List.take_append]
    simp [Nat.min_eq_left (Nat.le_of_lt hlt), List.take_take]
  · have h1 : Lib.index s [47] = -1 := by omega
    rw [if_neg h, splitL_whole s (index_none s h1)]; simp
theorem getD_app {α : Type} (a b : List α) (d : α) : (a ++ b).getD a.length d = b.getD 0 d := by
  rw [List.getD_eq_getElem?_getD, List.getD_eq_getElem?_getD, List.getElem?_append_right (Nat.le_refl _), Nat.sub_self]
theorem child_eq (p s : List UInt8) : childR p s = childL p s := by
  unfold childR childL
  rw [under_eq]
  by_cases h : underL p s = true
  · rw [if_pos h, if_pos h, head_eq]
    have hs := rest_split p s h
    have hm : mayL s = true := by
      unfold underL at h; simp only [Bool.and_eq_true] at h; exact h.1.2
    rw [pieces_may s hm, hs, getD_app]
    have e : (piecesL p).length + 1 < (piecesL p ++ splitL (restL p s)).length ↔ 1 < (splitL (restL p s)).length := by
      rw [List.length_append]; omega
    by_cases h2 : 1 < (splitL (restL p s)).length
    · rw [if_pos (e.2 h2), if_pos h2]
    · rw [if_neg (fun x => h2 (e.1 x)), if_neg h2]
  · rw [if_neg h, if_neg h]
theorem okPiece_ne (l : List UInt8) (h : okPiece l = true) : l ≠ [] := by
  rintro rfl; simp [okPiece] at h
theorem child_ne (p s : List UInt8) (h : underL p s = true) : childL p s ≠ [] := by
  have hs := rest_split p s h
  have hm : mayL s = true := by
    unfold underL at h; simp only [Bool.and_eq_true] at h; exact h.1.2
  have hall := ((may_iff s).1 hm).2.2
  unfold childL; rw [if_pos h, head_eq]
  rcases hr : splitL (restL p s) with _ | ⟨a, t⟩
  · exact absurd hr (splitL_ne _)
  · rw [hs, hr, List.all_append, List.all_cons] at hall
    simp only [Bool.and_eq_true] at hall
    have := okPiece_ne a hall.2.1
    split <;> simp [this]
theorem child_none (p s : List UInt8) (h : underL p s = false) : childL p s = [] := by
  unfold childL; rw [h]; rfl
end Go.Proofs.YthcmcjoenepkbaaGreatDoor.Pth
