/- Plain: all ranges of all shards together are all places. -/
import Derived.Test.YthcmcjoenepkbaaGreatSmA
import Derived.Test.YthcmcjoenepkbaaGreatSm9
namespace Go.Proofs.YthcmcjoenepkbaaGreat
open Go Go.RowKit

def rgSize (x : Rg) : Nat := x.2.1 - x.1 + 1
def szSum (l : List Rg) : Nat := (l.map rgSize).sum
theorem sum_one (a c : Nat) : ∀ S : List Nat, S.Nodup → a ∈ S → (S.map (fun s => if a = s then c else 0)).sum = c
  | [], _, h => by cases h
  | s :: S, hn, h => by
    rw [List.map_cons, List.sum_cons]
    have hn' := List.nodup_cons.1 hn
    by_cases e : a = s
    · subst e
      have h0 : (S.map (fun s => if a = s then c else 0)).sum = 0 := by
        have : S.map (fun s => if a = s then c else 0) = S.map (fun _ => 0) := List.map_congr_left (fun x hx => if_neg (fun e2 : a = x => hn'.1 (by rw [e2]; exact hx)))
        rw [this]
        clear this hn hn' h
        induction S with
        | nil => rfl
        | cons _ _ ih => rw [List.map_cons, List.sum_cons, ih]
      rw [if_pos rfl, h0]; omega
    · rw [if_neg e, sum_one a c S hn'.2 ((List.mem_cons.1 h).resolve_left e)]; omega
theorem sum_add (f g : Nat → Nat) : ∀ S : List Nat, (S.map (fun s => f s + g s)).sum = (S.map f).sum + (S.map g).sum
  | [] => rfl
  | s :: S => by rw [List.map_cons, List.map_cons, List.map_cons, List.sum_cons, List.sum_cons, List.sum_cons, sum_add f g S]; omega
theorem sum_zero : ∀ S : List Nat, (S.map (fun _ => 0)).sum = 0
  | [] => rfl
  | _ :: S => by rw [List.map_cons, List.sum_cons, sum_zero S]
theorem sum_parts (f : Rg → Nat) {S : List Nat} (hS : S.Nodup) : ∀ xs : List Rg, (∀ x ∈ xs, x.2.2 ∈ S) → (S.map (fun s => ((rgOf s xs).map f).sum)).sum = (xs.map f).sum
  | [], _ => sum_zero S
  | x :: xs, h => by
    have ih := sum_parts f hS xs (fun y hy => h y (List.mem_cons_of_mem _ hy))
    have e : ∀ s, ((rgOf s (x :: xs)).map f).sum = (if x.2.2 = s then f x else 0) + ((rgOf s xs).map f).sum := fun s => by
      unfold rgOf
      by_cases e : x.2.2 = s
      · rw [List.filter_cons_of_pos (by simp [e]), if_pos e, List.map_cons, List.sum_cons]
      · rw [List.filter_cons_of_neg (by simp [e]), if_neg e]; omega
    rw [show (fun s => ((rgOf s (x :: xs)).map f).sum) = fun s => (if x.2.2 = s then f x else 0) + ((rgOf s xs).map f).sum from funext e, sum_add, sum_one _ _ S hS (h x (by simp)), ih, List.map_cons, List.sum_cons]
theorem len_parts {S : List Nat} (hS : S.Nodup) (xs : List Rg) (h : ∀ x ∈ xs, x.2.2 ∈ S) : (S.map (fun s => (rgOf s xs).length)).sum = xs.length := by
  have h1 := sum_parts (fun _ => 1) hS xs h
  have e : ∀ l : List Rg, (l.map (fun _ => 1)).sum = l.length := fun l => by
    induction l with
    | nil => rfl
    | cons a l ih => rw [List.map_cons, List.sum_cons, ih, List.length_cons]; omega
  rw [e] at h1
  rw [← h1]
  congr 1
  exact List.map_congr_left (fun s _ => (e _).symm)
theorem sz_upto {O : Nat → Nat} {sp : List (Nat × Nat)} (h : SpI O sp M64) : ∀ k, k ≤ sp.length → szSum (upto (nthRg sp) k) = if k < sp.length then (sp.getD k d0).1 else M64 := by
  intro k
  induction k with
  | zero => intro _; rw [if_pos (List.length_pos_iff.2 h.ne), h.zero]; rfl
  | succ k ih =>
    intro hk
    have h1 := ih (by omega)
    rw [if_pos (by omega)] at h1
    obtain ⟨e1, e2⟩ := endOf_next h (k := k) (by omega)
    rw [upto_succ]
    unfold szSum at h1 ⊢
    rw [List.map_append, List.sum_append, h1, ← e2]
    show (sp.getD k d0).1 + (rgSize (nthRg sp k) + 0) = _
    have : rgSize (nthRg sp k) = endOf sp k - (sp.getD k d0).1 + 1 := rfl
    omega
theorem sz_all {O : Nat → Nat} {sp : List (Nat × Nat)} (h : SpI O sp M64) : szSum (upto (nthRg sp) sp.length) = M64 := by
  rw [sz_upto h sp.length (Nat.le_refl _), if_neg (Nat.lt_irrefl _)]
/-- What the first i shards' ranges have. -/
def szTo (xs : List Rg) (S : List Nat) (i : Nat) : Nat := ((S.take i).map (fun s => szSum (rgOf s xs))).sum
def lnTo (xs : List Rg) (S : List Nat) (i : Nat) : Nat := ((S.take i).map (fun s => (rgOf s xs).length)).sum
theorem szTo_succ (xs : List Rg) (S : List Nat) (i : Nat) (hi : i < S.length) : szTo xs S (i + 1) = szTo xs S i + szSum (rgOf (S.getD i 0) xs) := by
  unfold szTo
  rw [List.take_succ_eq_append_getElem hi, List.map_append, List.sum_append, List.getD_eq_getElem?_getD, List.getElem?_eq_getElem hi]
  simp
theorem lnTo_succ (xs : List Rg) (S : List Nat) (i : Nat) (hi : i < S.length) : lnTo xs S (i + 1) = lnTo xs S i + (rgOf (S.getD i 0) xs).length := by
  unfold lnTo
  rw [List.take_succ_eq_append_getElem hi, List.map_append, List.sum_append, List.getD_eq_getElem?_getD, List.getElem?_eq_getElem hi]
  simp
theorem szSum_take (l : List Rg) (k : Nat) (hk : k < l.length) : szSum (l.take (k + 1)) = szSum (l.take k) + rgSize (l.getD k (0, 0, 0)) := by
  unfold szSum
  rw [List.take_succ_eq_append_getElem hk, List.map_append, List.sum_append, List.getD_eq_getElem?_getD, List.getElem?_eq_getElem hk]
  simp
theorem rise_nodup {S : List Nat} (h : S.Pairwise (· < ·)) : S.Nodup := h.imp (fun h e => by omega)
theorem szTo_all {O : Nat → Nat} {sp : List (Nat × Nat)} (h : SpI O sp M64) {S : List Nat} (hS : S.Pairwise (· < ·)) (hm : ∀ s, s ∈ S ↔ ∃ k, k < sp.length ∧ (sp.getD k d0).2 = s) : szTo (upto (nthRg sp) sp.length) S S.length = M64 ∧ lnTo (upto (nthRg sp) sp.length) S S.length = sp.length := by
  have hx : ∀ x ∈ upto (nthRg sp) sp.length, x.2.2 ∈ S := fun x hx => by
    obtain ⟨k, hk, rfl⟩ := List.mem_map.1 hx
    exact (hm _).2 ⟨k, List.mem_range.1 hk, rfl⟩
  unfold szTo lnTo
  rw [List.take_length]
  refine ⟨(sum_parts rgSize (rise_nodup hS) _ hx).trans (sz_all h), (len_parts (rise_nodup hS) _ hx).trans (upto_length _ _)⟩
/-- A range of a shard: its ends, and whose they are. -/
theorem rgOf_get {O : Nat → Nat} {sp : List (Nat × Nat)} (h : SpI O sp M64) (s k : Nat) (hk : k < (rgOf s (upto (nthRg sp) sp.length)).length) : ∃ a b, (rgOf s (upto (nthRg sp) sp.length)).getD k (0, 0, 0) = (a, b, s) ∧ a ≤ b ∧ b < M64 ∧ O a = s ∧ O b = s := by
  have hmem : (rgOf s (upto (nthRg sp) sp.length)).getD k (0, 0, 0) ∈ rgOf s (upto (nthRg sp) sp.length) := by
    rw [List.getD_eq_getElem?_getD, List.getElem?_eq_getElem hk]; exact List.getElem_mem _
  obtain ⟨hm, hs⟩ := List.mem_filter.1 hmem
  obtain ⟨i, hi, he⟩ := List.mem_map.1 hm
  have hi' := List.mem_range.1 hi
  rw [← he] at hs ⊢
  have hs' : (sp.getD i d0).2 = s := eq_of_beq hs
  have h1 := (endOf_next h hi').1
  refine ⟨(sp.getD i d0).1, endOf sp i, by unfold nthRg; rw [hs'], h1, endOf_lt h hi', ?_, ?_⟩
  · rw [h.at_ hi' (Nat.le_refl _) h1, hs']
  · rw [h.at_ hi' h1 (Nat.le_refl _), hs']
end Go.Proofs.YthcmcjoenepkbaaGreat
