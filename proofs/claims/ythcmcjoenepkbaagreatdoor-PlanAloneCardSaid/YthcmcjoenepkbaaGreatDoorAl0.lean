/- Plain laws: a call whose paths are all one shard's is one ask. -/
import Derived.Test.YthcmcjoenepkbaaGreatDoorPlC
namespace Go.Proofs.YthcmcjoenepkbaaGreatDoor
open Go Go.RowKit Pth

def alR (p : ByteArray) (n : Nat) : List Rd := upto (fun i => ⟨p, i⟩) n
def alE (p : ByteArray) (n : Nat) : List Ed := upto (fun i => ⟨1 + i % 3, p, true, 0, i, ByteArray.empty⟩) n
theorem alR_len (p : ByteArray) (n : Nat) : (alR p n).length = n := upto_length _ _
theorem alE_len (p : ByteArray) (n : Nat) : (alE p n).length = n := upto_length _ _
theorem upto_getD {α : Type} (f : Nat → α) (z : α) {n i : Nat} (h : i < n) : (upto f n).getD i z = f i := by
  unfold upto
  rw [List.getD_eq_getElem?_getD, List.getElem?_map, List.getElem?_range h]; rfl
theorem alR_at {p : ByteArray} {n i : Nat} (h : i < n) : (alR p n).getD i dRd = ⟨p, i⟩ := upto_getD _ _ h
theorem alE_at {p : ByteArray} {n i : Nat} (h : i < n) : (alE p n).getD i dEd = ⟨1 + i % 3, p, true, 0, i, ByteArray.empty⟩ := upto_getD _ _ h
theorem alR_mem {p : ByteArray} {n : Nat} {r : Rd} (h : r ∈ alR p n) : ∃ i, i < n ∧ r = ⟨p, i⟩ := by
  obtain ⟨i, hi, rfl⟩ := List.mem_map.1 h
  exact ⟨i, List.mem_range.1 hi, rfl⟩
theorem alE_mem {p : ByteArray} {n : Nat} {x : Ed} (h : x ∈ alE p n) : ∃ i, i < n ∧ x = ⟨1 + i % 3, p, true, 0, i, ByteArray.empty⟩ := by
  obtain ⟨i, hi, rfl⟩ := List.mem_map.1 h
  exact ⟨i, List.mem_range.1 hi, rfl⟩
theorem alR_ok {p : ByteArray} (hp : mayL p.data.toList = true) (n : Nat) : (alR p n).any badR = false := by
  rw [List.any_eq_false]
  intro r hr
  obtain ⟨i, _, rfl⟩ := alR_mem hr
  simp [badR, hp]
theorem alE_ok {p : ByteArray} (hp : mayL p.data.toList = true) (n : Nat) : (alE p n).any badE = false := by
  rw [List.any_eq_false]
  intro x hx
  obtain ⟨i, _, rfl⟩ := alE_mem hx
  have h3 : ¬ (3 < 1 + i % 3) := by omega
  have h1 : ¬ (1 + i % 3 < 1) := by omega
  simp [badE, hp, h3, h1]
theorem alE_short (p : ByteArray) (n : Nat) : (alE p n).any longE = false := by
  rw [List.any_eq_false]
  intro x hx
  obtain ⟨i, _, rfl⟩ := alE_mem hx
  simp [longE]
theorem al_one (O : Nat → Nat) (p : ByteArray) (a b : Nat) (hb : 1 ≤ b) (ss : List Nat) (h1 : ss.Pairwise (· < ·)) (h2 : ∀ s, s ∈ ss ↔ Sk O (alR p a) (alE p b) a b s) : ss = [ownP O p] := by
  have h3 : ∀ s, s ∈ ss ↔ s = ownP O p := by
    intro s
    rw [h2]
    constructor
    · rintro (⟨i, hi, e⟩ | ⟨i, hi, e⟩)
      · rw [alR_at hi] at e; exact e.symm
      · rw [alE_at hi] at e; exact e.symm
    · rintro rfl
      exact Or.inr ⟨0, hb, by rw [alE_at hb]⟩
  match ss, h1, h3 with
  | [], _, h3 => exact absurd ((h3 _).2 rfl) (by simp)
  | [x], _, h3 => rw [(h3 x).1 (by simp)]
  | x :: y :: t, h1, h3 =>
    exfalso
    have hx := (h3 x).1 (by simp)
    have hy := (h3 y).1 (by simp)
    have := (List.pairwise_cons.1 h1).1 y (by simp)
    omega
theorem al_ask (O : Nat → Nat) (p : ByteArray) (a b : Nat) : askTo O (alR p a) (alE p b) a b (ownP O p) = { Ask.new (ownP O p) with reads := alR p a, readAt := List.range a, edits := alE p b, editAt := List.range b } := by
  have e1 : rdsTo O (alR p a) a (ownP O p) = alR p a := by
    unfold rdsTo
    rw [List.take_of_length_le (by rw [alR_len]; exact Nat.le_refl _), List.filter_eq_self.2 (fun r hr => by obtain ⟨i, _, rfl⟩ := alR_mem hr; simp)]
  have e2 : rAtTo O (alR p a) a (ownP O p) = List.range a := by
    unfold rAtTo
    exact List.filter_eq_self.2 (fun i hi => by rw [alR_at (List.mem_range.1 hi)]; simp)
  have e3 : edsTo O (alE p b) b (ownP O p) = alE p b := by
    unfold edsTo
    rw [List.take_of_length_le (by rw [alE_len]; exact Nat.le_refl _), List.filter_eq_self.2 (fun r hr => by obtain ⟨i, _, rfl⟩ := alE_mem hr; simp)]
  have e4 : eAtTo O (alE p b) b (ownP O p) = List.range b := by
    unfold eAtTo
    exact List.filter_eq_self.2 (fun i hi => by rw [alE_at (List.mem_range.1 hi)]; simp)
  unfold askTo
  rw [e1, e2, e3, e4]
theorem isl_at {α : Type} {k : Nat} {C : α → List Value} {z : α} {w : World} {a : Option Addr} {n c j : Nat} {l : List α} (h : IsL k C z w (.slice a n c) l) (hj : j < l.length) : ∃ b off, a = some ⟨b, off, none⟩ ∧ ∀ q u, (C (l.getD j z))[q]? = some u → w.cell? ⟨b, off + j * k + q, none⟩ = some u := by
  obtain ⟨a', c', he, h⟩ := h
  cases he
  obtain ⟨b, off, rfl, _, hc⟩ := h.resolve_left (fun h => by rw [h] at hj; simp at hj)
  exact ⟨b, off, rfl, hc j hj⟩
end Go.Proofs.YthcmcjoenepkbaaGreatDoor
