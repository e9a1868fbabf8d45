/- Plain: when a split is done, and what it makes. -/
import Derived.Test.YthcmcjoenepkbaaGreatSmU
namespace Go.Proofs.YthcmcjoenepkbaaGreat
open Go Go.RowKit

def splitL (sp : List (Nat × Nat)) (f t tw : Nat) : List (Nat × Nat) := (upto (nthRg sp) sp.length).foldl (stepS f t tw) []
def Fits (f t was tw : Nat) (xs : List Rg) : Prop := ∀ x ∈ xs, Meets f t x → x.2.2 = was ∧ x.2.2 ≠ tw
theorem splitL_law {O : Nat → Nat} {f t : Nat} (tw : Nat) (hft : f ≤ t) {sp : List (Nat × Nat)} (h : SpI O sp M64) : SpI (splitO O f t tw) (splitL sp f t tw) M64 := by
  have hl := List.length_pos_iff.2 h.ne
  have := fold_law (tw := tw) hft h sp.length hl (Nat.le_refl _)
  rwa [if_neg (Nat.lt_irrefl _)] at this
theorem splitL_length (sp : List (Nat × Nat)) (f t tw : Nat) : (splitL sp f t tw).length ≤ 3 * sp.length := by
  have := foldS_length f t tw (upto (nthRg sp) sp.length) []
  rw [upto_length] at this
  simpa [splitL] using this
theorem fits_iff {O : Nat → Nat} {f t tw : Nat} (hft : f ≤ t) (ht : t < M64) {sp : List (Nat × Nat)} (h : SpI O sp M64) : Fits f t (O f) tw (upto (nthRg sp) sp.length) ↔ (∀ u, f ≤ u → u ≤ t → O u = O f) ∧ O f ≠ tw := by
  constructor
  · intro hF
    have key : ∀ u, f ≤ u → u ≤ t → O u = O f ∧ O u ≠ tw := fun u h1 h2 => by
      obtain ⟨k, hk, a, b⟩ := cover h (u := u) (Nat.lt_of_le_of_lt h2 ht)
      obtain ⟨c, d⟩ := hF (nthRg sp k) (List.mem_map.2 ⟨k, by simpa using hk, rfl⟩) ⟨Nat.le_trans a h2, Nat.le_trans h1 b⟩
      have e := h.at_ hk a b
      exact ⟨e.trans c, fun h => d (e.symm.trans h)⟩
    exact ⟨fun u h1 h2 => (key u h1 h2).1, (key f (Nat.le_refl _) hft).2⟩
  · rintro ⟨h1, h2⟩ x hx ⟨m1, m2⟩
    obtain ⟨k, hk, rfl⟩ := List.mem_map.1 hx
    have hk' : k < sp.length := by simpa using hk
    have hn := (endOf_next h hk').1
    have m1' : (sp.getD k d0).1 ≤ t := m1
    have m2' : f ≤ endOf sp k := m2
    have e := h.at_ hk' (u := max f (sp.getD k d0).1) (Nat.le_max_right _ _) (Nat.max_le.2 ⟨m2', hn⟩)
    have e2 := h1 _ (Nat.le_max_left f (sp.getD k d0).1) (Nat.max_le.2 ⟨hft, m1'⟩)
    have e3 : (nthRg sp k).2.2 = O f := e.symm.trans e2
    exact ⟨e3, fun h => h2 (e3.symm.trans h)⟩
theorem splitO_back {O : Nat → Nat} {f t : Nat} (tw : Nat) (h : ∀ u, f ≤ u → u ≤ t → O u = O f) : splitO (splitO O f t tw) f t (O f) = O := by
  funext u
  unfold splitO
  by_cases c : f ≤ u ∧ u ≤ t
  · rw [if_pos c]; exact (h u c.1 c.2).symm
  · rw [if_neg c, if_neg c]
theorem splitO_swap (O : Nat → Nat) {f t f' t' : Nat} (a b : Nat) (h : ¬ (f' ≤ t ∧ f ≤ t')) : splitO (splitO O f t a) f' t' b = splitO (splitO O f' t' b) f t a := by
  funext u
  unfold splitO
  by_cases c : f ≤ u ∧ u ≤ t
  · by_cases d : f' ≤ u ∧ u ≤ t'
    · exact absurd ⟨by omega, by omega⟩ h
    · rw [if_neg d, if_pos c, if_pos c]
  · by_cases d : f' ≤ u ∧ u ≤ t'
    · rw [if_pos d, if_neg c, if_pos d]
    · rw [if_neg d, if_neg c, if_neg c, if_neg d]
theorem splitO_in {O : Nat → Nat} {f t tw u : Nat} (h : f ≤ u ∧ u ≤ t) : splitO O f t tw u = tw := if_pos h
theorem splitO_out {O : Nat → Nat} {f t tw u : Nat} (h : ¬ (f ≤ u ∧ u ≤ t)) : splitO O f t tw u = O u := if_neg h
/-- As the program reckons: what comes behind the range's end wraps. -/
def stepW (f t tw : Nat) (sp : List (Nat × Nat)) (x : Rg) : List (Nat × Nat) :=
  if Meets f t x then
    let s1 := if x.1 < f then addS sp x.1 x.2.2 else sp
    let s2 := addS s1 (max f x.1) tw
    if t < x.2.1 then addS s2 ((t + 1) % M64) x.2.2 else s2
  else addS sp x.1 x.2.2
theorem stepW_eq {f t tw : Nat} {sp : List (Nat × Nat)} {x : Rg} (h : x.2.1 < M64) : stepW f t tw sp x = stepS f t tw sp x := by
  unfold stepW stepS
  by_cases hm : Meets f t x
  · rw [if_pos hm, if_pos hm]
    by_cases e : t < x.2.1
    · simp only [if_pos e]; rw [Nat.mod_eq_of_lt (by omega)]
    · simp only [if_neg e]
  · rw [if_neg hm, if_neg hm]
theorem foldW_eq {f t tw : Nat} : ∀ (xs : List Rg) (sp : List (Nat × Nat)), (∀ x ∈ xs, x.2.1 < M64) → xs.foldl (stepW f t tw) sp = xs.foldl (stepS f t tw) sp
  | [], _, _ => rfl
  | x :: xs, sp, h => by
    rw [List.foldl_cons, List.foldl_cons, stepW_eq (h x (by simp)), foldW_eq xs _ (fun y hy => h y (List.mem_cons_of_mem _ hy))]
theorem stepW_length (f t tw : Nat) (sp : List (Nat × Nat)) (x : Rg) : (stepW f t tw sp x).length ≤ sp.length + 3 := by
  unfold stepW
  split
  · simp only
    have h1 : (if x.1 < f then addS sp x.1 x.2.2 else sp).length ≤ sp.length + 1 := by
      split
      · exact addS_length _ _ _
      · omega
    have h2 := addS_length (if x.1 < f then addS sp x.1 x.2.2 else sp) (max f x.1) tw
    split
    · have := addS_length (addS (if x.1 < f then addS sp x.1 x.2.2 else sp) (max f x.1) tw) ((t + 1) % M64) x.2.2; omega
    · omega
  · have := addS_length sp x.1 x.2.2; omega
theorem foldW_length (f t tw : Nat) : ∀ (xs : List Rg) (sp : List (Nat × Nat)), (xs.foldl (stepW f t tw) sp).length ≤ sp.length + 3 * xs.length
  | [], sp => by simp
  | x :: xs, sp => by
    rw [List.foldl_cons, List.length_cons]
    have h1 := foldW_length f t tw xs (stepW f t tw sp x)
    have h2 := stepW_length f t tw sp x
    omega
theorem endOf_lt {O : Nat → Nat} {sp : List (Nat × Nat)} (h : SpI O sp M64) {k : Nat} (hk : k < sp.length) : endOf sp k < M64 := by
  have h1 := (endOf_next h hk).2
  have h2 : ∀ x ∈ sp, x.1 < M64 := h.lt
  split at h1
  · rename_i h3
    have := h2 (sp.getD (k + 1) d0) (by rw [List.getD_eq_getElem?_getD, List.getElem?_eq_getElem h3]; exact List.getElem_mem _)
    omega
  · omega
theorem splitW_eq {O : Nat → Nat} {sp : List (Nat × Nat)} (h : SpI O sp M64) (f t tw : Nat) : (upto (nthRg sp) sp.length).foldl (stepW f t tw) [] = splitL sp f t tw :=
  foldW_eq _ _ (fun x hx => by
    obtain ⟨k, hk, rfl⟩ := List.mem_map.1 hx
    exact endOf_lt h (by simpa using hk))
end Go.Proofs.YthcmcjoenepkbaaGreat
