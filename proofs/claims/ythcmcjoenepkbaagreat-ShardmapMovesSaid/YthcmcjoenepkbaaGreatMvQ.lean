/- Plain: what was written is read. -/
import Derived.Test.YthcmcjoenepkbaaGreatRdA
import Derived.Test.YthcmcjoenepkbaaGreatSmA
namespace Go.Proofs.YthcmcjoenepkbaaGreat
open Go Go.RowKit

theorem num_put (n : Nat) : ∀ k, n < 256 ^ k → Sh.num (Sh.put n k) 0 = n := by
  have key : ∀ (k n : Nat), Sh.num (Sh.put n k) 0 = n % 256 ^ k := by
    intro k
    induction k with
    | zero => intro n; simp [Sh.put, Sh.num, Nat.mod_one]
    | succ k ih =>
      intro n
      have hsn : Sh.put n (k + 1) = Sh.put (n / 256) k ++ [n % 256] := by
        apply List.ext_getElem?
        intro i
        by_cases hi : i < k
        · rw [List.getElem?_append_left (by rw [Sh.put_length]; exact hi), put_get n (k + 1) i (by omega), put_get (n / 256) k i hi, Nat.div_div_eq_div_mul]
          congr 3
          rw [show k + 1 - 1 - i = (k - 1 - i) + 1 by omega, Nat.pow_succ, Nat.mul_comm]
        · by_cases e : i = k
          · subst e
            rw [List.getElem?_append_right (by rw [Sh.put_length]; exact Nat.le_refl _), Sh.put_length, Nat.sub_self, put_get n (i + 1) i (by omega)]
            simp
          · rw [List.getElem?_eq_none (by rw [Sh.put_length]; omega), List.getElem?_eq_none (by rw [List.length_append, Sh.put_length]; simp; omega)]
      rw [hsn, num_app, ih, Nat.pow_succ, Nat.mul_comm (256 ^ k) 256, Nat.mod_mul]
      omega
  intro k h
  rw [key k n, Nat.mod_eq_of_lt h]
theorem encM_bytes (e : Nat) (sp : List (Nat × Nat)) : Sh.Bytes (encM e sp) := by
  intro x hx
  unfold encM at hx
  rcases List.mem_append.1 hx with hx | hx
  · rcases List.mem_append.1 hx with hx | hx
    · exact Sh.put_bytes _ _ x hx
    · exact Sh.put_bytes _ _ x hx
  · obtain ⟨y, _, hy⟩ := List.mem_flatMap.1 hx
    unfold encX at hy
    rcases List.mem_append.1 hy with hy | hy
    · exact Sh.put_bytes _ _ x hy
    · exact Sh.put_bytes _ _ x hy
theorem encX_len (l : List (Nat × Nat)) : (l.flatMap encX).length = 12 * l.length := by
  induction l with
  | nil => rfl
  | cons a l ih => rw [List.flatMap_cons, List.length_append, ih]; simp [encX, Sh.put_length]; omega
theorem encX_drop : ∀ (l : List (Nat × Nat)) (i : Nat), i < l.length → ∃ r, (l.flatMap encX).drop (12 * i) = Sh.put (l.getD i d0).1 8 ++ (Sh.put (l.getD i d0).2 4 ++ r)
  | [], i, h => by simp at h
  | a :: l, 0, _ => ⟨l.flatMap encX, by simp [encX]⟩
  | a :: l, i + 1, h => by
    obtain ⟨r, hr⟩ := encX_drop l i (by simpa using h)
    refine ⟨r, ?_⟩
    have hlen : (encX a).length = 12 := by simp [encX, Sh.put_length]
    have hd : (encX a ++ l.flatMap encX).drop 12 = l.flatMap encX := by
      have h1 := List.drop_left (l₁ := encX a) (l₂ := l.flatMap encX)
      rwa [hlen] at h1
    rw [List.flatMap_cons, show 12 * (i + 1) = 12 + 12 * i by omega, ← List.drop_drop, hd]
    exact hr
theorem take_put {n k : Nat} (r : List Nat) : (Sh.put n k ++ r).take k = Sh.put n k := by
  have h := List.take_left (l₁ := Sh.put n k) (l₂ := r)
  rwa [Sh.put_length] at h
theorem drop_put {n k : Nat} (r : List Nat) : (Sh.put n k ++ r).drop k = r := by
  have h := List.drop_left (l₁ := Sh.put n k) (l₂ := r)
  rwa [Sh.put_length] at h
theorem read_back (e : Nat) (sp : List (Nat × Nat)) (he : e < M64) (hl : sp.length < 4294967296) (h64 : ∀ x ∈ sp, x.1 < M64) (h32 : ∀ x ∈ sp, x.2 < 4294967296) :
    rdE (sb (encM e sp)) = e ∧ rdN (sb (encM e sp)) = sp.length ∧ (sb (encM e sp)).size = 12 + 12 * sp.length ∧ ∀ i, i < sp.length → ent (sb (encM e sp)) i = sp.getD i d0 := by
  have hnb := nb_sb (encM_bytes e sp)
  have hd8 : (encM e sp).drop 8 = Sh.put sp.length 4 ++ sp.flatMap encX := by unfold encM; rw [List.append_assoc, drop_put]
  have hd12 : (encM e sp).drop 12 = sp.flatMap encX := by
    rw [show (12 : Nat) = 8 + 4 from rfl, ← List.drop_drop, hd8, drop_put]
  refine ⟨?_, ?_, ?_, fun i hi => ?_⟩
  · unfold rdE
    rw [hnb, List.drop_zero]
    unfold encM
    rw [List.append_assoc, take_put]
    exact num_put e 8 he
  · unfold rdN
    rw [hnb, hd8, take_put]
    exact num_put _ 4 hl
  · rw [sb_size, show (encM e sp).length = 12 + (sp.flatMap encX).length by unfold encM; simp [Sh.put_length]; omega, encX_len]
  · obtain ⟨r, hr⟩ := encX_drop sp i hi
    have hmem : sp.getD i d0 ∈ sp := by rw [List.getD_eq_getElem?_getD, List.getElem?_eq_getElem hi]; exact List.getElem_mem _
    have h1 : (encM e sp).drop (12 + 12 * i) = Sh.put (sp.getD i d0).1 8 ++ (Sh.put (sp.getD i d0).2 4 ++ r) := by rw [← List.drop_drop, hd12, hr]
    have h2 : (encM e sp).drop (20 + 12 * i) = Sh.put (sp.getD i d0).2 4 ++ r := by
      rw [show 20 + 12 * i = (12 + 12 * i) + 8 by omega, ← List.drop_drop, h1, drop_put]
    unfold ent
    rw [hnb, h1, h2, take_put, take_put, num_put _ 8 (h64 _ hmem), num_put _ 4 (h32 _ hmem)]
/-- A map's bytes are a map's. -/
theorem read_ok {O : Nat → Nat} {sp : List (Nat × Nat)} (hS : SpI O sp M64) (hO : ∀ u, 1 ≤ O u ∧ O u < 4294967296) {e : Nat} (he : e < M64) (he0 : e ≠ 0) (hl : sp.length ≤ 2048) :
    RdOk (sb (encM e sp)) ∧ rdE (sb (encM e sp)) = e ∧ upto (ent (sb (encM e sp))) (rdN (sb (encM e sp))) = sp := by
  have h32 := hS.b32 (fun u => (hO u).2)
  obtain ⟨h1, h2, h3, h4⟩ := read_back e sp he (by omega) hS.lt h32
  have hpos := List.length_pos_iff.2 hS.ne
  have hown : ∀ i, i < sp.length → (sp.getD i d0).2 ≠ 0 := fun i hi => by
    have := hS.at_ hi (Nat.le_refl _) (endOf_next hS hi).1
    rw [← this]
    have := (hO (sp.getD i d0).1).1
    omega
  refine ⟨⟨⟨by omega, by rw [h1]; exact he0, by rw [h2]; exact hpos, by rw [h2]; exact hl, by rw [h2]; exact h3⟩, fun i hi => ?_⟩, h1, ?_⟩
  · rw [h2] at hi
    unfold entOk
    rw [h4 i hi]
    refine ⟨hown i hi, fun h0 => by rw [h0]; exact hS.zero, fun h0 => ?_⟩
    rw [h4 (i - 1) (by omega)]
    refine ⟨?_, ?_⟩
    · have := List.pairwise_iff_getElem.1 hS.rise (i - 1) i (by omega) hi (by omega)
      rw [List.getD_eq_getElem?_getD, List.getD_eq_getElem?_getD, List.getElem?_eq_getElem (by omega : i - 1 < sp.length), List.getElem?_eq_getElem hi]; exact this
    · have := hS.adj (i - 1) (by omega)
      rwa [show i - 1 + 1 = i by omega] at this
  · rw [h2]
    apply List.ext_getElem
    · exact upto_length _ _
    · intro i g1 g2
      have g3 := ents_get (sb (encM e sp)) sp.length i g2
      rw [List.getD_eq_getElem?_getD, List.getElem?_eq_getElem g1] at g3
      have g4 := h4 i g2
      rw [List.getD_eq_getElem?_getD, List.getElem?_eq_getElem g2] at g4
      exact g3.trans g4
end Go.Proofs.YthcmcjoenepkbaaGreat
