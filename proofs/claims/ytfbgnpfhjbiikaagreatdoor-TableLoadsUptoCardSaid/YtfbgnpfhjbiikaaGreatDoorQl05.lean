/- Plain facts: the document's rows beside what a table's map holds. No walk. Contracts: scriniumref17 May, Now, Size, at. Contract: scriniumref17.comes. Contracts: scriniumref17 Put, Delete. Contracts: scriniumref17 Destroy, Read. Contracts for scriniumref16 (piece, cut, Pieces, Prefix, Under, Child). Contracts for scriniumref16 (cut, Pieces, Prefix, Under, Child). -/
import Derived.Test.YtfbgnpfhjbiikaaGreatDoorQl00
import Derived.Test.YtfbgnpfhjbiikaaGreatDoorQl01
import Derived.Test.YtfbgnpfhjbiikaaGreatDoorQl02
import Derived.Test.YtfbgnpfhjbiikaaGreatDoorQl04
import Derived.Deep.DeepMust
namespace Go.Proofs.YtfbgnpfhjbiikaaGreatDoor
open Go Go.RowKit
open Pth
open Go.Maps (has size Canon CanonK Tidy IsMap KeysOf Keyed Merged)
abbrev Rw := ByteArray × Cel
def pL (x : Rw) : List UInt8 := x.1.data.toList
theorem pL_inj {x y : ByteArray} (h : x.data.toList = y.data.toList) : x = y := ba_ext h
def Up (l : List Rw) : Prop := l.Pairwise (fun x y => pL x < pL y)
theorem up_ext : ∀ (a b : List Rw), Up a → Up b → (∀ x, x ∈ a ↔ x ∈ b) → a = b
  | [], [], _, _, _ => rfl
  | [], y :: t, _, _, h => by have := (h y).2 (by simp); simp at this
  | x :: t, [], _, _, h => by have := (h x).1 (by simp); simp at this
  | x :: s, y :: t, ha, hb, h => by
    unfold Up at ha hb
    rw [List.pairwise_cons] at ha hb
    have hxy : x = y := by
      rcases List.mem_cons.1 ((h x).1 (by simp)) with e | h1
      · exact e
      · rcases List.mem_cons.1 ((h y).2 (by simp)) with e | h2
        · exact e.symm
        · exact absurd (List.lt_trans (ha.1 y h2) (hb.1 x h1)) (List.lt_irrefl _)
    subst hxy
    congr 1
    refine up_ext s t ha.2 hb.2 fun z => ?_
    constructor
    · intro hz
      rcases List.mem_cons.1 ((h z).1 (List.mem_cons_of_mem _ hz)) with e | h1
      · subst e; exact absurd (ha.1 z hz) (List.lt_irrefl _)
      · exact h1
    · intro hz
      rcases List.mem_cons.1 ((h z).2 (List.mem_cons_of_mem _ hz)) with e | h1
      · subst e; exact absurd (hb.1 z hz) (List.lt_irrefl _)
      · exact h1

def wStep (r : Rw) (s : List Rw × Bool) (x : Rw) : List Rw × Bool :=
  let a : List Rw × Bool := if s.2 = false ∧ ¬ pL x < pL r then (s.1 ++ [r], true) else s
  (if x.1 ≠ r.1 then a.1 ++ [x] else a.1, a.2)
def withS (r : Rw) (l : List Rw) : List Rw × Bool := l.foldl (wStep r) ([], false)
def withR (l : List Rw) (r : Rw) : List Rw := if (withS r l).2 then (withS r l).1 else (withS r l).1 ++ [r]
theorem withS_snoc (r : Rw) (l : List Rw) (x : Rw) : withS r (l ++ [x]) = wStep r (withS r l) x := by
  unfold withS; rw [List.foldl_append]; rfl
theorem withS_take {r : Rw} {l : List Rw} {k : Nat} (h : k < l.length) : withS r (l.take (k + 1)) = wStep r (withS r (l.take k)) (l.getD k dR) := by
  rw [List.take_succ_eq_append_getElem h, withS_snoc, List.getD_eq_getElem?_getD, List.getElem?_eq_getElem h]; rfl
theorem wStep_done (r : Rw) (l : List Rw) : ∀ m : List Rw, l.foldl (wStep r) (m, true) = (m ++ l.filter (fun x => decide (x.1 ≠ r.1)), true) := by
  induction l with
  | nil => intro m; simp
  | cons x t ih =>
    intro m
    rw [List.foldl_cons]
    by_cases h : x.1 = r.1
    · have : wStep r (m, true) x = (m, true) := by unfold wStep; simp [h]
      rw [this, ih]; simp [h]
    · have : wStep r (m, true) x = (m ++ [x], true) := by unfold wStep; simp [h]
      rw [this, ih]; simp [h]
theorem lt_tri (a b : List UInt8) : a < b ∨ a = b ∨ b < a := by
  by_cases h1 : a < b
  · exact Or.inl h1
  by_cases h2 : b < a
  · exact Or.inr (Or.inr h2)
  · exact Or.inr (Or.inl (List.le_antisymm (List.not_lt.1 h2) (List.not_lt.1 h1)))
theorem lt_ne {x y : Rw} (h : pL x < pL y) : x.1 ≠ y.1 := by
  intro e
  unfold pL at h
  rw [e] at h; exact List.lt_irrefl _ h
theorem filter_none {l : List Rw} {p : Rw → Bool} (h : ∀ x ∈ l, p x = false) : l.filter p = [] := by
  rw [List.filter_eq_nil_iff]; intro a ha; rw [h a ha]; simp
theorem filter_all {l : List Rw} {p : Rw → Bool} (h : ∀ x ∈ l, p x = true) : l.filter p = l := by
  rw [List.filter_eq_self]; exact h
theorem wStep_go (r : Rw) (l : List Rw) : ∀ m : List Rw, Up l → l.foldl (wStep r) (m, false) = if l.all (fun x => decide (pL x < pL r)) then (m ++ l, false)
    else (m ++ l.filter (fun x => decide (pL x < pL r)) ++ r :: l.filter (fun x => decide (pL r < pL x)), true) := by
  induction l with
  | nil => intro m _; simp
  | cons x t ih =>
    intro m hu
    unfold Up at hu
    rw [List.pairwise_cons] at hu
    rw [List.foldl_cons]
    by_cases h : pL x < pL r
    · have hne := lt_ne h
      have e1 : wStep r (m, false) x = (m ++ [x], false) := by unfold wStep; simp [h, hne]
      have h2 : ¬ pL r < pL x := fun h' => List.lt_irrefl _ (List.lt_trans h h')
      rw [e1, ih _ hu.2]
      simp only [List.all_cons, h, decide_true, Bool.true_and, List.filter_cons, h2, decide_false, if_true, Bool.false_eq_true, if_false]
      split <;> simp
    · have hgt : ∀ y ∈ t, pL r < pL y := by
        intro y hy
        rcases lt_tri (pL x) (pL r) with h1 | h1 | h1
        · exact absurd h1 h
        · rw [← h1]; exact hu.1 y hy
        · exact List.lt_trans h1 (hu.1 y hy)
      have f1 : t.filter (fun x => decide (pL x < pL r)) = [] := filter_none fun y hy => by
        have := hgt y hy
        simp only [decide_eq_false_iff_not]
        intro h'; exact List.lt_irrefl _ (List.lt_trans this h')
      have f2 : t.filter (fun x => decide (pL r < pL x)) = t := filter_all fun y hy => by simp [hgt y hy]
      have f3 : t.filter (fun x => decide (x.1 ≠ r.1)) = t := filter_all fun y hy => by
        have := (lt_ne (hgt y hy)).symm
        simpa using this
      simp only [List.all_cons, h, decide_false, Bool.false_and, Bool.false_eq_true, if_false, List.filter_cons, f1, f2]
      by_cases he : x.1 = r.1
      · have e1 : wStep r (m, false) x = (m ++ [r], true) := by unfold wStep; simp [h, he]
        have h2 : ¬ pL r < pL x := by unfold pL; rw [he]; exact List.lt_irrefl _
        rw [e1, wStep_done, f3]
        simp [h2]
      · have e1 : wStep r (m, false) x = (m ++ [r] ++ [x], true) := by unfold wStep; simp [h, he]
        have h2 : pL r < pL x := by
          rcases lt_tri (pL x) (pL r) with h1 | h1 | h1
          · exact absurd h1 h
          · exact absurd (pL_inj h1) he
          · exact h1
        rw [e1, wStep_done, f3]
        simp [h2]
theorem with_eq {l : List Rw} (h : Up l) (r : Rw) : withR l r = l.filter (fun x => decide (pL x < pL r)) ++ r :: l.filter (fun x => decide (pL r < pL x)) := by
  unfold withR withS
  rw [wStep_go r l [] h]
  by_cases ha : l.all (fun x => decide (pL x < pL r)) = true
  · rw [if_pos ha]
    have h1 : ∀ x ∈ l, pL x < pL r := fun x hx => by simpa using List.all_eq_true.1 ha x hx
    rw [filter_all (p := fun x => decide (pL x < pL r)) (fun x hx => by simp [h1 x hx]), filter_none (p := fun x => decide (pL r < pL x)) (fun x hx => by
      have := h1 x hx
      simp only [decide_eq_false_iff_not]
      intro h'; exact List.lt_irrefl _ (List.lt_trans this h'))]
    simp
  · rw [if_neg ha]; simp
theorem with_mem {l : List Rw} (h : Up l) (r x : Rw) : x ∈ withR l r ↔ x = r ∨ (x ∈ l ∧ x.1 ≠ r.1) := by
  rw [with_eq h]
  simp only [List.mem_append, List.mem_cons, List.mem_filter, decide_eq_true_eq]
  constructor
  · rintro (⟨h1, h2⟩ | h1 | ⟨h1, h2⟩)
    · exact Or.inr ⟨h1, lt_ne h2⟩
    · exact Or.inl h1
    · exact Or.inr ⟨h1, (lt_ne h2).symm⟩
  · rintro (h1 | ⟨h1, h2⟩)
    · exact Or.inr (Or.inl h1)
    · rcases lt_tri (pL x) (pL r) with h3 | h3 | h3
      · exact Or.inl ⟨h1, h3⟩
      · exact absurd (pL_inj h3) h2
      · exact Or.inr (Or.inr ⟨h1, h3⟩)
theorem with_up {l : List Rw} (h : Up l) (r : Rw) : Up (withR l r) := by
  rw [with_eq h]
  unfold Up
  rw [List.pairwise_append, List.pairwise_cons]
  refine ⟨h.filter _, ⟨fun y hy => ?_, h.filter _⟩, fun x hx y hy => ?_⟩
  · simpa using (List.mem_filter.1 hy).2
  · have h1 : pL x < pL r := by simpa using (List.mem_filter.1 hx).2
    rcases List.mem_cons.1 hy with rfl | hy
    · exact h1
    · have h2 : pL r < pL y := by simpa using (List.mem_filter.1 hy).2
      exact List.lt_trans h1 h2

def AtG (l : List Rw) (p : ByteArray) (z : Int) : Prop := (∃ k : Nat, k < l.length ∧ z = k ∧ (l.getD k dR).1 = p ∧ ∀ j, j < k → (l.getD j dR).1 ≠ p) ∨ (z = -1 ∧ ∀ x ∈ l, x.1 ≠ p)
theorem getD_memR {l : List Rw} {k : Nat} (h : k < l.length) : l.getD k dR ∈ l := by rw [List.getD_eq_getElem?_getD, List.getElem?_eq_getElem h]; exact List.getElem_mem h
theorem AtG.uniq {l : List Rw} {p : ByteArray} {z z' : Int} (h : AtG l p z) (h' : AtG l p z') : z = z' := by
  rcases h with ⟨k, hk, rfl, he, hm⟩ | ⟨rfl, hn⟩ <;> rcases h' with ⟨k', hk', rfl, he', hm'⟩ | ⟨rfl, hn'⟩
  · rcases Nat.lt_trichotomy k k' with h | h | h
    · exact absurd he (hm' k h)
    · rw [h]
    · exact absurd he' (hm k' h)
  · exact absurd he (hn' _ (getD_memR hk))
  · exact absurd he' (hn _ (getD_memR hk'))
  · rfl
theorem AtG.ex (l : List Rw) (p : ByteArray) : ∃ z, AtG l p z := by
  have : ∀ n, n ≤ l.length → (∃ z, AtG l p z) ∨ ∀ j, j < n → (l.getD j dR).1 ≠ p := by
    intro n
    induction n with
    | zero => intro _; exact Or.inr fun j hj => absurd hj (Nat.not_lt_zero _)
    | succ n ih =>
      intro hn
      rcases ih (by omega) with h | h
      · exact Or.inl h
      · by_cases e : (l.getD n dR).1 = p
        · exact Or.inl ⟨n, Or.inl ⟨n, by omega, rfl, e, h⟩⟩
        · refine Or.inr fun j hj => ?_
          rcases Nat.lt_or_ge j n with hjn | hjn
          · exact h j hjn
          · obtain rfl : j = n := by omega
            exact e
  rcases this l.length (Nat.le_refl _) with h | h
  · exact h
  · refine ⟨-1, Or.inr ⟨rfl, fun x hx => ?_⟩⟩
    obtain ⟨j, hj, rfl⟩ := List.getElem_of_mem hx
    have := h j hj
    rwa [List.getD_eq_getElem?_getD, List.getElem?_eq_getElem hj] at this
def cellR (l : List Rw) (p : ByteArray) : Cel := match l.find? (fun x => decide (x.1 = p)) with | some x => x.2 | none => ⟨0, []⟩
theorem up_inj {l : List Rw} (h : Up l) {x y : Rw} (hx : x ∈ l) (hy : y ∈ l) (e : x.1 = y.1) : x = y := by
  induction l with
  | nil => cases hx
  | cons a t ih =>
    unfold Up at h
    rw [List.pairwise_cons] at h
    rcases List.mem_cons.1 hx with e1 | hx
    · rcases List.mem_cons.1 hy with e2 | hy
      · rw [e1, e2]
      · rw [e1] at e; exact absurd e (lt_ne (h.1 y hy))
    · rcases List.mem_cons.1 hy with e2 | hy
      · rw [e2] at e; exact absurd e.symm (lt_ne (h.1 x hx))
      · exact ih h.2 hx hy
theorem cellR_of {l : List Rw} (h : Up l) {x : Rw} (hx : x ∈ l) : cellR l x.1 = x.2 := by
  unfold cellR
  cases hf : l.find? (fun y => decide (y.1 = x.1)) with
  | none =>
    have := List.find?_eq_none.1 hf x hx
    simp at this
  | some y =>
    have h1 := List.mem_of_find?_eq_some hf
    have h2 : y.1 = x.1 := by simpa using List.find?_some hf
    rw [up_inj h h1 hx h2]
theorem cellR_none {l : List Rw} {p : ByteArray} (h : ∀ x ∈ l, x.1 ≠ p) : cellR l p = ⟨0, []⟩ := by
  unfold cellR
  rw [List.find?_eq_none.2 (fun x hx => by simpa using h x hx)]
theorem rows_up {M : DataW Cel} (c : CanonK (KeysOf Tryz.prog 9) M) : Up (rowsL M) := by
  obtain ⟨es, rfl, hp, hk⟩ := canon_strs c
  have h1 := List.pairwise_mergeSort (le := fun x y : List UInt8 => decide (x ≤ y)) (fun a b c h1 h2 => by simp only [decide_eq_true_eq] at *; exact List.le_trans h1 h2) (fun a b => by simp only [Bool.or_eq_true, decide_eq_true_eq]; exact List.le_total a b) (strKeys (.map es : DataW Cel))
  have h2 : ((strKeys (.map es : DataW Cel)).mergeSort (fun x y => decide (x ≤ y))).Nodup := (List.mergeSort_perm _ _).nodup_iff.2 (strKeys_nodup hp hk)
  unfold Up rowsL
  refine List.pairwise_map.2 ?_
  refine (h1.and h2).imp ?_
  rintro a b ⟨h3, h4⟩
  show a < b
  have h5 : a ≤ b := by simpa using h3
  rcases lt_tri a b with h | h | h
  · exact h
  · exact absurd h h4
  · exact absurd (List.le_antisymm h5 (List.le_of_lt h)) h4
theorem bs_of_toList (p : ByteArray) : bs p.data.toList = p := ba_ext rfl
theorem rows_mem {M : DataW Cel} (c : CanonK (KeysOf Tryz.prog 9) M) (x : Rw) : x ∈ rowsL M ↔ has M (kS x.1) = true ∧ cellAt M x.1 = x.2 := by
  unfold rowsL
  rw [List.mem_map]
  constructor
  · rintro ⟨k, hk, rfl⟩
    exact ⟨keysL_mem c hk, rfl⟩
  · rintro ⟨h1, h2⟩
    refine ⟨x.1.data.toList, ?_, ?_⟩
    · obtain ⟨es, rfl, hp, hk⟩ := canon_strs c
      unfold keysL
      exact (List.mergeSort_perm _ _).mem_iff.2 ((mem_strKeys' hk _).2 h1)
    · unfold rowAt
      rw [bs_of_toList, h2]
theorem rows_length {M : DataW Cel} (c : CanonK (KeysOf Tryz.prog 9) M) : (rowsL M).length = size M := by
  unfold rowsL; rw [List.length_map]; exact keysL_length c
theorem cellR_rows {M : DataW Cel} (c : CanonK (KeysOf Tryz.prog 9) M) (p : ByteArray) : cellR (rowsL M) p = cellAt M p := by
  cases h : has M (kS p) with
  | true =>
    exact cellR_of (x := (p, cellAt M p)) (rows_up c) ((rows_mem c _).2 ⟨h, rfl⟩)
  | false =>
    rw [cellR_none, cellAt_none h]
    intro x hx e
    have := ((rows_mem c x).1 hx).1
    rw [e, h] at this; cases this
theorem cellAt_put_same {M : DataW Cel} (c : CanonK (KeysOf Tryz.prog 9) M) (p : ByteArray) (d : Cel) : cellAt (M.put (kS p) (.held d)) p = d := by
  unfold cellAt
  rw [Maps.atKey_put_same (canonK_isMap c) (kS_key _)]
theorem cellAt_put_other {M : DataW Cel} {p q : ByteArray} (h : q ≠ p) (d : Cel) : cellAt (M.put (kS p) (.held d)) q = cellAt M q := by
  unfold cellAt
  rw [Maps.atKey_put_other (kS_ne h)]
theorem keysOf_path {p : ByteArray} (h : mayP p = true) : KeysOf Tryz.prog 9 (kS p) := ⟨_, keyS Tryz.underlying9 (by have := mayP_size h; unfold maxLen; omega)⟩
theorem rows_put {M : DataW Cel} (c : CanonK (KeysOf Tryz.prog 9) M) {p : ByteArray} (hp : KeysOf Tryz.prog 9 (kS p)) (d : Cel) : rowsL (M.put (kS p) (.held d)) = withR (rowsL M) (p, d) := by
  have c2 := Maps.canonK_put strKeyed.one hp (.held d) c
  refine up_ext _ _ (rows_up c2) (with_up (rows_up c) _) fun x => ?_
  rw [rows_mem c2, with_mem (rows_up c), rows_mem c]
  by_cases e : x.1 = p
  · rw [e, Maps.has_put_same (canonK_isMap c) (kS_key _), cellAt_put_same c]
    constructor
    · rintro ⟨_, h⟩; left; exact Prod.ext e h.symm
    · rintro (h | ⟨_, h⟩)
      · exact ⟨rfl, by rw [h]⟩
      · exact absurd rfl h
  · rw [Maps.has_put_other (kS_ne e), cellAt_put_other e]
    constructor
    · intro h; exact Or.inr ⟨h, e⟩
    · rintro (h | ⟨h, _⟩)
      · exact absurd (congrArg Prod.fst h) e
      · exact h
theorem cellAt_del_other {M : DataW Cel} {p q : ByteArray} (h : q ≠ p) : cellAt (M.del (kS p)) q = cellAt M q := by
  unfold cellAt
  rw [Maps.atKey_del_other (kS_ne h)]
theorem rows_del {M : DataW Cel} (c : CanonK (KeysOf Tryz.prog 9) M) (p : ByteArray) : rowsL (M.del (kS p)) = (rowsL M).filter (fun x => decide (x.1 ≠ p)) := by
  have c2 := canonK_del c (kS p)
  refine up_ext _ _ (rows_up c2) ((rows_up c).filter _) fun x => ?_
  rw [rows_mem c2, List.mem_filter, rows_mem c]
  by_cases e : x.1 = p
  · rw [e, Maps.has_del_same]; simp
  · rw [Maps.has_del_other (kS_ne e), cellAt_del_other e]; simp [e]

def bytesR : List Rw → Nat
  | [] => 0
  | x :: t => x.1.size + sizeL x.2.l + bytesR t
theorem bytesR_append (a b : List Rw) : bytesR (a ++ b) = bytesR a + bytesR b := by
  induction a with
  | nil => simp [bytesR]
  | cons x t ih => simp only [List.cons_append, bytesR, ih]; omega
theorem bytesR_take {l : List Rw} {k : Nat} (h : k < l.length) : bytesR (l.take (k + 1)) = bytesR (l.take k) + ((l.getD k dR).1.size + sizeL (l.getD k dR).2.l) := by
  rw [List.take_succ_eq_append_getElem h, bytesR_append, List.getD_eq_getElem?_getD, List.getElem?_eq_getElem h]; simp [bytesR]
theorem bytesR_three (l : List Rw) (p : ByteArray) : bytesR l = bytesR (l.filter (fun x => decide (pL x < p.data.toList))) + bytesR (l.filter (fun x => decide (x.1 = p))) + bytesR (l.filter (fun x => decide (p.data.toList < pL x))) := by
  induction l with
  | nil => rfl
  | cons x t ih =>
    simp only [List.filter_cons, bytesR]
    rcases lt_tri (pL x) p.data.toList with h | h | h
    · have h1 : ¬ p.data.toList < pL x := fun h' => List.lt_irrefl _ (List.lt_trans h h')
      have h2 : x.1 ≠ p := by intro e; unfold pL at h; rw [e] at h; exact List.lt_irrefl _ h
      simp only [h, h1, h2, decide_true, decide_false, if_true, Bool.false_eq_true, if_false, bytesR]; omega
    · have h1 : ¬ p.data.toList < pL x := by rw [h]; exact List.lt_irrefl _
      have h3 : ¬ pL x < p.data.toList := by rw [h]; exact List.lt_irrefl _
      have h2 : x.1 = p := pL_inj h
      simp only [h1, h2, h3, decide_true, decide_false, if_true, Bool.false_eq_true, if_false, bytesR]; omega
    · have h1 : ¬ pL x < p.data.toList := fun h' => List.lt_irrefl _ (List.lt_trans h h')
      have h2 : x.1 ≠ p := by intro e; unfold pL at h; rw [e] at h; exact List.lt_irrefl _ h
      simp only [h, h1, h2, decide_true, decide_false, if_true, Bool.false_eq_true, if_false, bytesR]; omega
theorem up_eqs {l : List Rw} (h : Up l) (p : ByteArray) : l.filter (fun x => decide (x.1 = p)) = if ∃ x ∈ l, x.1 = p then [(p, cellR l p)] else [] := by
  split
  · rename_i hx
    obtain ⟨x, hx, rfl⟩ := hx
    refine up_ext _ _ (h.filter _) (List.pairwise_singleton _ _) fun y => ?_
    rw [List.mem_filter, List.mem_singleton, cellR_of h hx]
    constructor
    · rintro ⟨h1, h2⟩
      exact up_inj h h1 hx (by simpa using h2)
    · rintro rfl; exact ⟨hx, by simp⟩
  · rename_i hx
    exact filter_none fun x h' => by simpa using fun e => hx ⟨x, h', e⟩
theorem rows_eqs {M : DataW Cel} (c : CanonK (KeysOf Tryz.prog 9) M) (p : ByteArray) : bytesR ((rowsL M).filter (fun x => decide (x.1 = p))) = if has M (kS p) = true then p.size + sizeL (cellAt M p).l else 0 := by
  rw [up_eqs (rows_up c)]
  cases h : has M (kS p) with
  | true =>
    rw [if_pos ⟨(p, cellAt M p), (rows_mem c _).2 ⟨h, rfl⟩, rfl⟩, if_pos rfl, cellR_rows c]
    simp [bytesR]
  | false =>
    rw [if_neg, if_neg (by simp)]
    · rfl
    · rintro ⟨x, hx, rfl⟩
      have := ((rows_mem c x).1 hx).1
      rw [h] at this; cases this
theorem weight_has {M : DataW Cel} (h : Good Tryz.prog 9 M) (p : ByteArray) : (if has M (kS p) = true then p.size + sizeL (cellAt M p).l else 0) = weightE p (cellAt M p) := by
  cases hh : has M (kS p) with
  | true =>
    obtain ⟨p', c, e, hc, _, h2, _⟩ := h.cells _ hh
    have : cellAt M p = c := cellAt_of hc
    rw [if_pos rfl, this]
    unfold weightE
    rw [if_neg (by simpa using h2)]
  | false =>
    rw [if_neg (by simp), cellAt_none hh]; rfl
theorem bytes_with {l : List Rw} (h : Up l) (r : Rw) : bytesR (withR l r) + bytesR (l.filter (fun x => decide (x.1 = r.1))) = bytesR l + (r.1.size + sizeL r.2.l) := by
  rw [with_eq h, bytesR_append, bytesR_three l r.1]
  show _ + (r.1.size + sizeL r.2.l + _) + _ = _
  unfold pL; omega
theorem bytes_put {M : DataW Cel} (h : Good Tryz.prog 9 M) {p : ByteArray} (hp : KeysOf Tryz.prog 9 (kS p)) {d : Cel} (hd : d.l ≠ []) : (bytesR (rowsL (M.put (kS p) (.held d))) : Int) = bytesR (rowsL M) + ((weightE p d : Int) - (weightE p (cellAt M p) : Int)) := by
  have h1 := bytes_with (rows_up h.canon) (p, d)
  rw [rows_eqs h.canon, weight_has h] at h1
  rw [rows_put h.canon hp]
  have h2 : weightE p d = p.size + sizeL d.l := by unfold weightE; rw [if_neg (by simpa using hd)]
  rw [h2]
  simp only at h1 ⊢
  omega
theorem bytes_del {M : DataW Cel} (h : Good Tryz.prog 9 M) (p : ByteArray) : (bytesR (rowsL (M.del (kS p))) : Int) = bytesR (rowsL M) - (weightE p (cellAt M p) : Int) := by
  rw [rows_del h.canon]
  have h1 := rows_eqs h.canon p
  rw [weight_has h] at h1
  have h2 : ∀ l : List Rw, bytesR (l.filter (fun x => decide (x.1 ≠ p))) + bytesR (l.filter (fun x => decide (x.1 = p))) = bytesR l := by
    intro l
    induction l with
    | nil => rfl
    | cons x t ih =>
      simp only [List.filter_cons]
      by_cases e : x.1 = p
      · simp only [e, ne_eq, not_true, decide_false, decide_true, Bool.false_eq_true, if_false, if_true, bytesR] at ih ⊢; omega
      · simp only [e, ne_eq, not_false_iff, decide_false, decide_true, Bool.false_eq_true, if_false, if_true, bytesR] at ih ⊢; omega
  have h3 := h2 (rowsL M)
  rw [h1] at h3
  have h4 : ((bytesR ((rowsL M).filter (fun x => decide (x.1 ≠ p))) : Nat) : Int) + (weightE p (cellAt M p) : Int) = (bytesR (rowsL M) : Int) := by exact_mod_cast h3
  rw [← h4]; simp

def editR (l : List Rw) (x : Edt) : Cel × Nat := if x.kind < 1 ∨ 3 < x.kind ∨ mayP x.path = false then (cellR l x.path, 2) else outcomeE (cellR l x.path) x
def runR (l : List Rw) (vs : List Nat) (i : Nat) : List Edt → (Nat × Nat) × List Rw × List Nat
  | [] => ((0, 0), l, vs)
  | x :: t => if (editR l x).2 ≠ 0 then ((i, (editR l x).2), l, vs) else runR (withR l (x.path, (editR l x).1)) (vs ++ [(editR l x).1.last]) (i + 1) t
theorem editR_rows {M : DataW Cel} (c : CanonK (KeysOf Tryz.prog 9) M) (x : Edt) : editR (rowsL M) x = editE M x := by
  unfold editR editE; rw [cellR_rows c]
theorem run_rows (l : List Edt) : ∀ {M : DataW Cel} {vs : List Nat} {B : Int} {i : Nat}, Good Tryz.prog 9 M → B = bytesR (rowsL M) →
    runR (rowsL M) vs i l = ((runT M vs B i l).1, rowsL (runT M vs B i l).2.1, (runT M vs B i l).2.2.1) ∧ (runT M vs B i l).2.2.2 = bytesR (rowsL (runT M vs B i l).2.1) := by
  induction l with
  | nil => intro M vs B i _ hB; exact ⟨rfl, hB⟩
  | cons x t ih =>
    intro M vs B i hg hB
    by_cases he : (editE M x).2 = 0
    · rw [runT_go he, runR, editR_rows hg.canon, if_neg (by simp [he])]
      obtain ⟨a, b, c, d⟩ := edit_ok hg he
      have hK := keysOf_path d
      have h1 := ih (M := stepM M x) (vs := vs ++ [(editE M x).1.last]) (B := B + ((weightE x.path (editE M x).1 : Int) - (weightE x.path (cellAt M x.path) : Int))) (i := i + 1) (hg.step Tryz.underlying9 he) (by
        unfold stepM
        rw [bytes_put hg hK b, hB])
      have e1 : rowsL (stepM M x) = withR (rowsL M) (x.path, (editE M x).1) := by unfold stepM; exact rows_put hg.canon hK _
      rw [e1] at h1
      exact h1
    · rw [runT_stop he, runR, editR_rows hg.canon, if_pos he]
      exact ⟨rfl, hB⟩
end Go.Proofs.YtfbgnpfhjbiikaaGreatDoor

namespace Go.Proofs.YtfbgnpfhjbiikaaGreatDoor
open Go Go.RowKit
theorem may_many {c : Cel} {L : List Ver} (hL : c.l = L) (h : 8 < L.length) : mayC c = false := by
  cases e : mayC c with
  | false => rfl
  | true => have := may_len e; rw [hL] at this; omega

set_option maxRecDepth 100000 in
set_option maxHeartbeats 4000000 in
theorem ref17_may (c : Cel) (v : Value) (w : World) (hv : IsVers w v c.l) (hl : c.l.length ≤ 9223372036854775807) :
    Calls Tryz.prog 73 #[.agg #[.int .u64 c.last, v]] w fun e w' => e = .returned (.bool (mayC c)) ∧ Below w.heap.size w w' := by
  obtain ⟨cl, L⟩ := c
  obtain ⟨a, cap, rfl, hc⟩ := hv
  simp only at hc hl ⊢
  have HC := Lib.hid hc; clear hc
  have HB1 := Lib.hid ((Below.refl w.heap.size w).alloc (Nat.le_refl _) (.cells #[.int .u64 cl, .slice a L.length cap] 46))
  by_cases h8 : 8 < L.length
  · have H := Lib.hid (may_many (c := ⟨cl, L⟩) rfl h8)
    have h8i : (8 : Int) < (L.length : Int) := by omega
    go_enter Tryz.func73, Tryz.ntmps73
    go_wp2_with fail
    go_ret
    exact ⟨ret_bool H.out.symm, HB1.out⟩
  have h8i : ¬ (8 : Int) < (L.length : Int) := by omega
  have H8 : Hid (L.length ≤ 8) := Lib.hid (by omega)
  clear h8
  go_enter Tryz.func73, Tryz.ntmps73
  go_wp2_with fail
  go_loopw [3, 4] (fun x i wr => ∃ k y : Nat, k ≤ L.length ∧ i = .int .i64 k ∧ x = .int .u64 y ∧ Hid (okFrom 0 (L.take k) = some y) ∧ Hid (Below (w.heap.size + 1) (w.alloc (.cells #[.int .u64 cl, .slice a L.length cap] 46)) wr)) (fun _ i _ => L.length - (intOf i).toNat)
  case atStart => exact ⟨0, 0, Nat.zero_le _, rfl, rfl, Lib.hid rfl, Lib.hid (Below.refl _ _)⟩
  case round =>
    obtain ⟨k, y, hk, rfl, rfl, hok, hbw⟩ := hrel
    have hsz := hbw.out.size
    have hsz1 : w.heap.size + 1 ≤ wr.heap.size := by simpa using hsz
    clear hsz
    have hbx0 : wr.cell? ⟨w.heap.size, 0, none⟩ = some (.int .u64 cl) := (hbw.out.cell (p := ⟨w.heap.size, 0, none⟩) (by show w.heap.size < w.heap.size + 1; omega)).trans (World.cell?_alloc_mark _ _ _ _ _)
    have hbx1 : wr.cell? ⟨w.heap.size, 1, none⟩ = some (.slice a L.length cap) := (hbw.out.cell (p := ⟨w.heap.size, 1, none⟩) (by show w.heap.size < w.heap.size + 1; omega)).trans (World.cell?_alloc_mark _ _ _ _ _)
    have HB0 := Lib.hid (HB1.out.trans (hbw.out.mono (Nat.le_succ _)))
    by_cases hlt : k < L.length
    · rcases HC.out with hn | ⟨b, off, rfl, hblt, hcc⟩
      · subst hn; simp at hlt
      obtain ⟨h1, h2, h3⟩ := hcc k hlt
      have g1 := (HB0.out.cell (p := ⟨b, off + k * 3, none⟩) hblt).trans h1
      have g2 := (HB0.out.cell (p := ⟨b, off + k * 3 + 1, none⟩) hblt).trans h2
      have g3 := (HB0.out.cell (p := ⟨b, off + k * 3 + 2, none⟩) hblt).trans h3
      clear h1 h2 h3 hcc
      obtain ⟨x, hx⟩ : ∃ x, x = L.getD k dV := ⟨_, rfl⟩
      rw [← hx] at g1 g2 g3
      have Hx := Lib.hid hx; clear hx
      have hltI : (k : Int) < (L.length : Int) := by omega
      rcases ver_cases y x with ⟨ho, hx⟩ | ⟨ho, hx⟩ | ⟨ho, hx⟩ | ⟨ho, hx⟩ | ⟨ho, hx⟩ | ⟨ho, hx⟩ | ⟨ho, hx⟩
      iterate 5
        · have Ho := Lib.hid ho; clear ho
          have hbn : ((x.st : Int) != 1) = !((x.st : Int) == 1) := rfl
          try rw [hx.2.2.1] at hbn
          try simp only [Bool.not_true, Bool.not_false] at hbn
          go_wp2
          go_ret
          refine ⟨ret_bool (may_bad rfl hlt hok.out (by rw [← Hx.out]; exact Ho.out)).symm, ?_⟩
          exact HB0.out.alloc (by omega) _
      iterate 2
        · have Ho := Lib.hid ho; clear ho
          have hbn : ((x.st : Int) != 1) = !((x.st : Int) == 1) := rfl
          try rw [hx.2.2.1] at hbn
          try simp only [Bool.not_true, Bool.not_false] at hbn
          go_wp2
          go_roundw
          case rel => exact ⟨k + 1, x.n, by omega, by go_num, rfl, Lib.hid (by rw [okFrom_snoc hlt hok.out, ← Hx.out, Ho.out]; rfl), Lib.hid (hbw.out.alloc (by simpa using hsz1) _)⟩
          case measure => simp [intOf]; omega
    · have hge : (L.length : Int) ≤ (k : Int) := by omega
      have H := Lib.hid (may_end (c := ⟨cl, L⟩) rfl hlt hok.out)
      have hbb : ((cl : Int) == (y : Int)) = decide (cl = y) := by
        by_cases e : cl = y
        · simp [e]
        · have : ¬ (cl : Int) = (y : Int) := by omega
          simp [e, this]
      go_wp2
      go_ret
      refine ⟨ret_bool ?_, HB0.out⟩
      rw [H.out]; simp [H8.out]

set_option maxRecDepth 100000 in
set_option maxHeartbeats 2000000 in
theorem ref17_now (c : Cel) (v : Value) (w : World) (hv : IsVers w v c.l) (hl : c.l.length ≤ 9223372036854775807) :
    Calls Tryz.prog 59 #[.agg #[.int .u64 c.last, v]] w fun e w' => e = .returned (.int .u64 (nowC c)) ∧ Below w.heap.size w w' := by
  obtain ⟨cl, L⟩ := c
  obtain ⟨a, cap, rfl, hc⟩ := hv
  simp only at hc hl ⊢
  have HC := Lib.hid hc; clear hc
  have HB1 := Lib.hid ((Below.refl w.heap.size w).alloc (Nat.le_refl _) (.cells #[.int .u64 cl, .slice a L.length cap] 46))
  by_cases h0 : L.length = 0
  · have hz : Hid (nowC ⟨cl, L⟩ = 0) := Lib.hid (by rw [List.length_eq_zero_iff.1 h0]; rfl)
    have hB : ((L.length : Int) == 0) = true := by simp [h0]
    clear h0
    go_enter Tryz.func59, Tryz.ntmps59
    go_wp2_with fail
    go_ret
    exact ⟨ret_int (by rw [hz.out]; rfl), HB1.out⟩
  · have hB : ((L.length : Int) == 0) = false := by rw [beq_eq_false_iff_ne]; omega
    obtain ⟨k, hk⟩ : ∃ k, k = L.length - 1 := ⟨_, rfl⟩
    have hlt : k < L.length := by omega
    rcases HC.out with hn | ⟨b, off, rfl, hblt, hcc⟩
    · subst hn; simp at h0
    obtain ⟨h1, h2, h3⟩ := hcc k hlt
    have g1 := (HB1.out.cell (p := ⟨b, off + k * 3, none⟩) hblt).trans h1
    have g2 := (HB1.out.cell (p := ⟨b, off + k * 3 + 1, none⟩) hblt).trans h2
    obtain ⟨x, hx⟩ : ∃ x, x = L.getD k dV := ⟨_, rfl⟩
    rw [← hx] at g1 g2
    have hz : Hid (nowC ⟨cl, L⟩ = if x.st = 1 then x.n else 0) := Lib.hid (by rw [hx, hk]; rfl)
    have hsub : (L.length : Int) - 1 = (k : Int) := by omega
    have hwk : IntKind.i64.wrap (k : Int) = (k : Int) := by rw [IntKind.wrap_i64]; omega
    have hki : (k : Int) < (L.length : Int) := by omega
    clear h1 h2 h3 hcc hx hk h0
    by_cases hs : x.st = 1
    · have hS : ((x.st : Int) != 1) = false := by simp [hs]
      have Hs := Lib.hid hs; clear hs
      go_enter Tryz.func59, Tryz.ntmps59
      go_wp2_with fail
      go_ret
      exact ⟨ret_int (by rw [hz.out, if_pos Hs.out]), HB1.out⟩
    · have hS : ((x.st : Int) != 1) = true := by simp; omega
      have Hs := Lib.hid hs; clear hs
      go_enter Tryz.func59, Tryz.ntmps59
      go_wp2_with fail
      go_ret
      exact ⟨ret_int (by rw [hz.out, if_neg Hs.out]; rfl), HB1.out⟩

set_option maxRecDepth 100000 in
set_option maxHeartbeats 1000000 in
theorem ref17_size (c : Cel) (v : Value) (w : World) (hv : IsVers w v c.l) (hl : c.l.length ≤ 65536) (hs : ∀ i, i < c.l.length → (c.l.getD i dV).tx.size ≤ 140737488351232) :
    Calls Tryz.prog 82 #[.agg #[.int .u64 c.last, v]] w fun e w' => e = .returned (.int .i64 (sizeL c.l)) ∧ Below w.heap.size w w' := by
  obtain ⟨cl, L⟩ := c
  obtain ⟨a, cap, rfl, hc⟩ := hv
  simp only at hc hl hs ⊢
  have HC := Lib.hid hc; have Hs := Lib.hid hs; clear hc hs
  have HB1 := Lib.hid ((Below.refl w.heap.size w).alloc (Nat.le_refl _) (.cells #[.int .u64 cl, .slice a L.length cap] 46))
  go_enter Tryz.func82, Tryz.ntmps82
  go_wp2_with fail
  go_loopw [3, 4] (fun n i wr => ∃ k N : Nat, k ≤ L.length ∧ i = .int .i64 k ∧ n = .int .i64 N ∧ Hid (N = sizeL (L.take k)) ∧ Hid (N ≤ k * 140737488351232) ∧ wr = w.alloc (.cells #[.int .u64 cl, .slice a L.length cap] 46)) (fun _ i _ => L.length - (intOf i).toNat)
  case atStart => exact ⟨0, 0, Nat.zero_le _, rfl, rfl, Lib.hid rfl, Lib.hid (by omega), rfl⟩
  case round =>
    obtain ⟨k, N, hk, rfl, rfl, hN, hNb, rfl⟩ := hrel
    have hNs : N ≤ 9223372036854775807 := by have := hNb.out; omega
    by_cases hlt : k < L.length
    · rcases HC.out with hn | ⟨b, off, rfl, hblt, hcc⟩
      · subst hn; simp at hlt
      obtain ⟨h1, h2, h3⟩ := hcc k hlt
      have g3 := (HB1.out.cell (p := ⟨b, off + k * 3 + 2, none⟩) hblt).trans h3
      have hx0 := Hs.out k hlt
      clear h1 h2 h3 hcc
      obtain ⟨x, hx⟩ : ∃ x, x = L.getD k dV := ⟨_, rfl⟩
      rw [← hx] at g3 hx0
      have Hx := Lib.hid hx; clear hx
      have hNx : N + x.tx.size ≤ 9223372036854775807 := by have := hNb.out; omega
      have Hx0 := Lib.hid hx0; clear hx0
      have hltI : (k : Int) < (L.length : Int) := by omega
      go_wp2_with fail
      go_roundw
      case rel => exact ⟨k + 1, N + x.tx.size, by omega, by go_num, by go_num, Lib.hid (by rw [sizeL_snoc hlt, ← hN.out, ← Hx.out]), Lib.hid (by have := hNb.out; have := Hx0.out; omega), trivial⟩
      case measure => simp [intOf]; omega
    · have hge : (L.length : Int) ≤ (k : Int) := by omega
      have H : Hid (N = sizeL L) := Lib.hid (by have := hN.out; rw [List.take_of_length_le (by omega)] at this; exact this)
      go_wp2_with fail
      go_ret
      exact ⟨ret_int (by rw [H.out]), HB1.out⟩

set_option maxRecDepth 100000 in
set_option maxHeartbeats 1000000 in
theorem ref17_at (c : Cel) (v : Value) (n : Nat) (w : World) (hv : IsVers w v c.l) (hl : c.l.length ≤ 65536) :
    Calls Tryz.prog 86 #[.agg #[.int .u64 c.last, v], .int .u64 n] w fun e w' => e = .returned (.int .i64 (idxV c.l n)) ∧ Below w.heap.size w w' := by
  obtain ⟨cl, L⟩ := c
  obtain ⟨a, cap, rfl, hc⟩ := hv
  simp only at hc hl ⊢
  have HC := Lib.hid hc; clear hc
  have HB1 := Lib.hid ((Below.refl w.heap.size w).alloc (Nat.le_refl _) (.cells #[.int .u64 cl, .slice a L.length cap] 46))
  go_enter Tryz.func86, Tryz.ntmps86
  go_wp2_with fail
  go_loopw [5] (fun i wr => ∃ k : Nat, k ≤ L.length ∧ i = .int .i64 k ∧ Hid (∀ j, j < k → (L.getD j dV).n ≠ n) ∧ wr = w.alloc (.cells #[.int .u64 cl, .slice a L.length cap] 46)) (fun i _ => L.length - (intOf i).toNat)
  case atStart => exact ⟨0, Nat.zero_le _, rfl, Lib.hid (fun j hj => absurd hj (Nat.not_lt_zero _)), rfl⟩
  case round =>
    obtain ⟨k, hk, rfl, hm, rfl⟩ := hrel
    by_cases hlt : k < L.length
    · rcases HC.out with hn | ⟨b, off, rfl, hblt, hcc⟩
      · subst hn; simp at hlt
      obtain ⟨h1, h2, h3⟩ := hcc k hlt
      have g1 := (HB1.out.cell (p := ⟨b, off + k * 3, none⟩) hblt).trans h1
      clear h1 h2 h3 hcc
      obtain ⟨x, hx⟩ : ∃ x, x = L.getD k dV := ⟨_, rfl⟩
      rw [← hx] at g1
      have Hx := Lib.hid hx; clear hx
      have hltI : (k : Int) < (L.length : Int) := by omega
      by_cases he : x.n = n
      · have hB : ((x.n : Int) == (n : Int)) = true := by simp [he]
        have H := Lib.hid (idxV_hit hlt hm.out (by rw [← Hx.out]; exact he))
        clear he
        go_wp2_with fail
        go_ret
        exact ⟨ret_int H.out.symm, HB1.out⟩
      · have hB : ((x.n : Int) == (n : Int)) = false := by rw [beq_eq_false_iff_ne]; omega
        have He := Lib.hid he; clear he
        go_wp2_with fail
        go_roundw
        case rel => exact ⟨k + 1, by omega, by go_num, Lib.hid (fun j hj => by
          rcases Nat.lt_or_ge j k with h | h
          · exact hm.out j h
          · obtain rfl : j = k := by omega
            rw [← Hx.out]; exact He.out), trivial⟩
        case measure => simp [intOf]; omega
    · have hge : (L.length : Int) ≤ (k : Int) := by omega
      have H := Lib.hid (idxV_miss (l := L) (n := n) (fun j hj => hm.out j (by omega)))
      go_wp2_with fail
      go_ret
      exact ⟨ret_int H.out.symm, HB1.out⟩
end Go.Proofs.YtfbgnpfhjbiikaaGreatDoor

namespace Go.Proofs.YtfbgnpfhjbiikaaGreatDoor
open Go Go.RowKit
theorem run_append_empty' (a : Option Addr) (c : Nat) (ty : TypeId) (w : World) : (Builtin.append_ #[44, 44] ty #[.slice none 0 0, .slice a 0 c]).run Tryz.prog w = .ok (.slice none 0 0) w := by
  obtain ⟨j0, hj, hy0, hy1, hy2⟩ := info_parts infoVer
  cases a <;> simp [Builtin.append_, run_underlying Tryz.underlying44, sizeOf, typeInfo, hj, Builtin.lenOf, Builtin.firstCells, loadCells, loadCellsFrom]
theorem wpList_append_vers {w : World} {ops : Array Oper} {rest : List Oper} {o : Oper} {a : Act} {Q : Exit → Act → World → Prop} (hgd : o.guard = none) (s x : Operand)
    (ho : o.op = .call { callee := .builtin .append, args := #[s, x], argTypes := #[44, 44] })
    (hs : a.eval s = .slice none 0 0) (v : Value) (l : List Ver) (hx : a.eval x = v) (hv : IsVers w v l) (hl : l.length ≤ 65536) (base : Nat) (hbase : base ≤ w.heap.size)
    (h : ∀ a' c' w', w'.ownsRow base 50 3 (.slice a' l.length c') l.length (flat l) → w.grownBy w' none → wpList Tryz.prog ops Q rest (a.put o.dst (.slice a' l.length c')) w') : wpList Tryz.prog ops Q (o :: rest) a w := by
  obtain ⟨av, cv, rfl, hc⟩ := hv
  by_cases hL : l = []
  · subst hL
    refine wpList_plain hgd fun K hK => ?_
    have hrun := run_append_empty' av cv o.type w
    unfold Oper.wp execOp
    simp only [ho, resolve, invoke, builtin, Sem.run_bind, Sem.run_pure, Result.andThen_ok, List.map_toArray, List.map_cons, List.map_nil, hs, hx, List.length_nil, hrun]
    exact hK _ _ (h none 0 w (World.ownsRow_nil _ _ _ _) ⟨rfl, rfl, rfl, Nat.le_refl _, fun _ _ _ => rfl⟩)
  · rcases hc with hn | ⟨bv, ov, rfl, hblv, hvv⟩
    · exact absurd hn hL
    obtain ⟨j0, hj, hy0, hy1, hy2⟩ := info_parts infoVer
    have hnews : ∀ j u, (flat l)[j]? = some u → w.cell? ((⟨bv, ov, none⟩ : Addr).add j) = some u := fun j u hu => by
      rw [addrAdd]; exact flat_cell hvv j u hu
    refine wpList_append_own _ hgd s x 44 ho base 50 j0 (.agg #[.int .u64 0, .int .u8 0, .string ByteArray.empty]) 3 32 Tryz.underlying44 hj hy0 hy1 hy2 rfl (by decide) _ 0 [] hs (World.ownsRow_nil _ _ _ _) ⟨bv, ov, none⟩ l.length cv (flat l) hx (flat_length l) hnews (flat_one l) (by unfold maxLen; omega) (by omega) hbase ?_
    intro v2 W2 hown2 hg2 _
    simp only [Nat.zero_add, List.nil_append] at hown2
    obtain ⟨a9, c9, rfl⟩ := ownShape hown2
    exact h a9 c9 W2 hown2 hg2

theorem threeOnes (w : World) (C1 C2 C3 : Array Value) (t1 t2 t3 : TypeId) : One w.heap.size C1 (((w.alloc (.cells C1 t1)).alloc (.cells C2 t2)).alloc (.cells C3 t3)) ∧ One (w.heap.size + 1) C2 (((w.alloc (.cells C1 t1)).alloc (.cells C2 t2)).alloc (.cells C3 t3)) ∧
    One (w.heap.size + 1 + 1) C3 (((w.alloc (.cells C1 t1)).alloc (.cells C2 t2)).alloc (.cells C3 t3)) ∧ Below w.heap.size w (((w.alloc (.cells C1 t1)).alloc (.cells C2 t2)).alloc (.cells C3 t3)) ∧ (((w.alloc (.cells C1 t1)).alloc (.cells C2 t2)).alloc (.cells C3 t3)).heap.size = w.heap.size + 1 + 1 + 1 := by
  refine ⟨((One.of w C1 t1).step ((Below.refl _ _).alloc (Nat.le_refl _) _)).step ((Below.refl _ _).alloc (Nat.le_refl _) _), ?_, ?_, (((Below.refl _ _).alloc (Nat.le_refl _) _).alloc (by simp) _).alloc (by simp; omega) _, by simp⟩
  · have h := One.of (w.alloc (.cells C1 t1)) C2 t2
    rw [show (w.alloc (.cells C1 t1)).heap.size = w.heap.size + 1 by simp] at h
    exact h.step ((Below.refl _ _).alloc (Nat.le_refl _) _)
  · have h := One.of ((w.alloc (.cells C1 t1)).alloc (.cells C2 t2)) C3 t3
    rw [show ((w.alloc (.cells C1 t1)).alloc (.cells C2 t2)).heap.size = w.heap.size + 1 + 1 by simp] at h
    exact h

set_option maxRecDepth 100000 in
set_option maxHeartbeats 2000000 in
theorem ref17_comes (c : Cel) (v : Value) (st : Nat) (tx : ByteArray) (w : World) (hv : IsVers w v c.l) (hl : c.l.length ≤ 8) (hlast : c.last + 1 < 18446744073709551616) :
    Calls Tryz.prog 122 #[.agg #[.int .u64 c.last, v], .int .u8 st, .string tx] w fun e w' => ∃ s, e = .returned (.agg #[.int .u64 (putC c ⟨0, st, tx⟩).last, s]) ∧ IsVers w' s (putC c ⟨0, st, tx⟩).l ∧ Below w.heap.size w w' := by
  have Hp : Hid (putC c ⟨0, st, tx⟩ = ⟨c.last + 1, (c.l ++ [(⟨c.last + 1, st, tx⟩ : Ver)]).drop (c.l.length + 1 - 8)⟩) := Lib.hid rfl
  generalize putC c ⟨0, st, tx⟩ = pc at Hp
  obtain ⟨cl, L⟩ := c
  simp only at hv hl hlast Hp ⊢
  have hv2 := hv
  obtain ⟨a, cap, rfl, hc⟩ := hv2
  clear hc
  have Hv := Lib.hid hv; clear hv
  have hcl : IntKind.u64.wrap ((cl : Int) + 1) = ((cl + 1 : Nat) : Int) := by rw [IntKind.wrap_u64]; omega
  go_enter Tryz.func122, Tryz.ntmps122
  go_upto_region 2 with fail
  refine wp_abs (F := fun W => One w.heap.size #[.int .u64 cl, .slice a L.length cap] W ∧ One (w.heap.size + 1) #[.int .u64 0, .slice none 0 0] W ∧ One (w.heap.size + 1 + 1) #[.int .u64 ((cl : Int) + 1), .slice none 0 0] W ∧ Below w.heap.size w W ∧ W.heap.size = w.heap.size + 1 + 1 + 1) (threeOnes w _ _ _ _ _ _) ?_
  rintro W ⟨h1, h2, h3, hb, hsz⟩
  have q1 := h1.c 1; have y1 := h3.c 1; have z1 := h3.f 1
  simp at q1 y1
  have H2 := Lib.hid h2; have H3 := Lib.hid h3; have HB := Lib.hid hb; have HS := Lib.hid hsz
  clear h1 h2 h3 hb hsz
  go_upto_region 3 with (
    at_builtin
    refine wpList_append_vers rfl (.tmp 13) (.tmp 15) rfl rfl _ L rfl (Hv.out.below HB.out (Nat.le_refl _)) (by omega) W.heap.size (Nat.le_refl _) ?_
    intro a2 c2 W2 hown2 hg2
    have hb2 : Below W.heap.size W W2 := (Below.refl _ _).grown hg2 (Nat.le_refl _) (fun k hk => by cases hk)
    have y1 := (H3.out.step hb2).c 1; have z1 := (H3.out.step hb2).f 1
    simp at y1
    have HO2 := Lib.hid hown2; have HB2 := Lib.hid hb2
    clear hown2 hg2 hb2)
  clear q1 y1 z1
  refine wp_abs (F := fun X => One (w.heap.size + 1) #[.int .u64 0, .slice none 0 0] X ∧ One (w.heap.size + 1 + 1) #[.int .u64 ((cl : Int) + 1), .slice a2 L.length c2] X ∧ X.ownsRow (w.heap.size + 3) 50 3 (.slice a2 L.length c2) L.length (flat L) ∧ Below w.heap.size w X ∧ w.heap.size + 3 ≤ X.heap.size) ⟨(H2.out.step HB2.out).far (by simp) _, (H3.out.step HB2.out).set (i := 1) (by simp) _, ?_, ?_, ?_⟩ ?_
  · have := HS.out
    exact ownBase (ownsRow_setCell_below HO2.out (by dsimp only; omega) _) (by omega)
  · exact (HB.out.trans (HB2.out.mono HB.out.size)).setCell (by dsimp only; omega) _
  · have := HB2.out.size; have := HS.out; simp; omega
  rintro X ⟨h2, h3, hown, hb, hsz⟩
  have y0 := h3.c 0; have y1 := h3.c 1; have z1 := h3.f 1
  simp at y0 y1
  have K2 := Lib.hid h2; have K3 := Lib.hid h3; have KB := Lib.hid hb; have KO := Lib.hid hown; have KS := Lib.hid hsz
  clear h2 h3 hb hown hsz H2 H3 HB HS HO2 HB2
  obtain ⟨i0, hi, hz0, hz1, hz2⟩ := info_parts infoVer
  go_upto_region 4 with (
    at_builtin
    refine wpList_append_lies _ rfl (.tmp 19) (.tmp 25) 44 rfl (w.heap.size + 3) 50 i0 (.agg #[.int .u64 0, .int .u8 0, .string ByteArray.empty]) 3 32 Tryz.underlying44 hi hz0 hz1 hz2 rfl (by decide) _ L.length (flat L) rfl (ownBelow KO.out ((Below.refl _ _).alloc (Nat.le_refl _) _)) ⟨X.heap.size, 0, none⟩ 1 1 (verCells ⟨cl + 1, st, tx⟩) rfl rfl (World.news_of_block (MapKept.heap_alloc _ _).1) (flat_one [⟨cl + 1, st, tx⟩]) (by decide) (by unfold maxLen; omega) (by omega) (by have := KS.out; simp; omega) (X.heap.size + 1) (by simp) ?go
    intro g cp w8 hown8 hg8 hat8 hlt8
    have hb8 : Below (w.heap.size + 3) X w8 := ((Below.refl _ _).alloc KS.out _).grown hg8 (by have := KS.out; simp; omega) (fun k hk => ownAbove KO.out k hk)
    have y1 : w8.cell? ⟨w.heap.size + 1 + 1, 1, none⟩ = some (.slice a2 L.length c2) := (hb8.cell (by dsimp only; omega)).trans y1
    have z1 : w8.frozen? ⟨w.heap.size + 1 + 1, 1, none⟩ = false := (hb8.frozen (by dsimp only; omega)).trans z1
    have K8 := Lib.hid hown8; have B8 := Lib.hid hb8
    clear hown8 hg8 hat8 hlt8 hb8)
  clear y0 y1 z1
  obtain ⟨g, cp, hform, hgB, hgl⟩ : ∃ g' cp', Value.slice (some ⟨g, 0, none⟩) (L.length + 1) cp = .slice (some ⟨g', 0, none⟩) (L.length + 1) cp' ∧ True ∧ True := ⟨g, cp, rfl, trivial, trivial⟩
  have hcap : L.length + 1 ≤ cp := by cases hform; exact ownCap K8.out
  cases hform
  clear hgB hgl
  refine wp_abs (F := fun Y => One (w.heap.size + 1) #[.int .u64 0, .slice none 0 0] Y ∧ One (w.heap.size + 1 + 1) #[.int .u64 ((cl : Int) + 1), .slice (some ⟨g, 0, none⟩) (L.length + 1) cp] Y ∧ Y.ownsRow (w.heap.size + 3) 50 3 (.slice (some ⟨g, 0, none⟩) (L ++ [(⟨cl + 1, st, tx⟩ : Ver)]).length cp) (L ++ [(⟨cl + 1, st, tx⟩ : Ver)]).length (flat (L ++ [(⟨cl + 1, st, tx⟩ : Ver)])) ∧ Below w.heap.size w Y) ⟨?_, ?_, ?_, ?_⟩ ?_
  · exact One.far ⟨by have := K2.out.lt; have := B8.out.size; omega, fun j => (B8.out.cell (by dsimp only; omega)).trans (K2.out.c j), fun j => (B8.out.frozen (by dsimp only; omega)).trans (K2.out.f j)⟩ (by simp) _
  · exact One.set (C := #[.int .u64 ((cl : Int) + 1), .slice a2 L.length c2]) (i := 1) ⟨by have := K3.out.lt; have := B8.out.size; omega, fun j => (B8.out.cell (by dsimp only; omega)).trans (K3.out.c j), fun j => (B8.out.frozen (by dsimp only; omega)).trans (K3.out.f j)⟩ (by simp) _
  · rw [flat_append, List.length_append]
    exact ownsRow_setCell_below K8.out (by dsimp only; omega) _
  · exact (KB.out.trans (B8.out.mono (by omega))).setCell (by dsimp only; omega) _
  rintro Y ⟨h2, h3, hown, hb⟩
  have y0 := h3.c 0; have y1 := h3.c 1; have z1 := h3.f 1; have x0 := h2.c 0; have x1 := h2.c 1; have f0 := h2.f 0; have f1 := h2.f 1
  simp at y0 y1 x0 x1
  have G2 := Lib.hid h2; have G3 := Lib.hid h3; have GB := Lib.hid hb; have GO := Lib.hid hown
  clear h2 h3 hb hown K2 K3 KB KO KS K8 B8
  have Hend : Hid (∀ u1 u2 u3 : Value, ∀ d cap' : Nat, IsVers (((Y.setCell ⟨w.heap.size + 1 + 1, 1, none⟩ u1).setCell ⟨w.heap.size + 1, 0, none⟩ u2).setCell ⟨w.heap.size + 1, 1, none⟩ u3) (.slice (some ⟨g, d * 3, none⟩) ((L ++ [(⟨cl + 1, st, tx⟩ : Ver)]).drop d).length cap') ((L ++ [(⟨cl + 1, st, tx⟩ : Ver)]).drop d) ∧ Below w.heap.size w (((Y.setCell ⟨w.heap.size + 1 + 1, 1, none⟩ u1).setCell ⟨w.heap.size + 1, 0, none⟩ u2).setCell ⟨w.heap.size + 1, 1, none⟩ u3)) := Lib.hid (fun u1 u2 u3 d cap' =>
    ⟨IsVers.ownDrop (ownsRow_setCell_below (ownsRow_setCell_below (ownsRow_setCell_below GO.out (by dsimp only; omega) _) (by dsimp only; omega) _) (by dsimp only; omega) _) d cap', ((GB.out.setCell (by dsimp only; omega) _).setCell (by dsimp only; omega) _).setCell (by dsimp only; omega) _⟩)
  have Hend0 : Hid (∀ u2 u3 : Value, ∀ d cap' : Nat, IsVers ((Y.setCell ⟨w.heap.size + 1, 0, none⟩ u2).setCell ⟨w.heap.size + 1, 1, none⟩ u3) (.slice (some ⟨g, d * 3, none⟩) ((L ++ [(⟨cl + 1, st, tx⟩ : Ver)]).drop d).length cap') ((L ++ [(⟨cl + 1, st, tx⟩ : Ver)]).drop d) ∧ Below w.heap.size w ((Y.setCell ⟨w.heap.size + 1, 0, none⟩ u2).setCell ⟨w.heap.size + 1, 1, none⟩ u3)) := Lib.hid (fun u2 u3 d cap' =>
    ⟨IsVers.ownDrop (ownsRow_setCell_below (ownsRow_setCell_below GO.out (by dsimp only; omega) _) (by dsimp only; omega) _) d cap', (GB.out.setCell (by dsimp only; omega) _).setCell (by dsimp only; omega) _⟩)
  by_cases h8 : L.length = 8
  · have hd : L.length + 1 - 8 = 1 := by omega
    have h8i : (8 : Int) < (L.length : Int) + 1 := by omega
    have HD := Lib.hid hd; have H8 := Lib.hid h8
    clear hd h8
    go_wp2_with fail
    refine bodyPost_ret (v := .agg #[.int .u64 ((cl : Int) + 1), .slice (some ⟨g, 3, none⟩) L.length (cp - 1)]) ?_ rfl ⟨.slice (some ⟨g, 3, none⟩) L.length (cp - 1), ?_, ?_⟩
    · simp [results, Tryz.results122, go_sem, x0, x1]
    · rw [Hp.out]; rfl
    · rw [Hp.out]
      simp only
      rw [HD.out]
      simpa using Hend.out _ _ _ 1 (cp - 1)
  · have hd : L.length + 1 - 8 = 0 := by omega
    have h8i : ¬ (8 : Int) < (L.length : Int) + 1 := by omega
    have HD := Lib.hid hd
    clear hd h8
    go_wp2_with fail
    refine bodyPost_ret (v := .agg #[.int .u64 ((cl : Int) + 1), .slice (some ⟨g, 0, none⟩) (L.length + 1) cp]) ?_ rfl ⟨.slice (some ⟨g, 0, none⟩) (L.length + 1) cp, ?_, ?_⟩
    · simp [results, Tryz.results122, go_sem, x0, x1]
    · rw [Hp.out]; rfl
    · rw [Hp.out]
      simp only
      rw [HD.out]
      simpa using Hend0.out _ _ 0 cp
end Go.Proofs.YtfbgnpfhjbiikaaGreatDoor

namespace Go.Proofs.YtfbgnpfhjbiikaaGreatDoor
open Go Go.RowKit
def RefErr (r : Cel × Nat) (w : World) (e : Ending) (w' : World) : Prop :=
  ∃ v, e = .returned (.tuple #[.agg #[.int .u64 r.1.last, v], .int .i64 r.2]) ∧ IsVers w' v r.1.l ∧ Below w.heap.size w w'
theorem Two.refEnd {w W : World} {C1 C2 : Array Value} (h : Two w C1 C2 W) (u1 u2 : Value) : Below w.heap.size w ((W.setCell ⟨w.heap.size + 1, 0, none⟩ u1).setCell ⟨w.heap.size + 1, 1, none⟩ u2) :=
  (h.b.setCell (by dsimp only; omega) _).setCell (by dsimp only; omega) _

theorem IsVers.notTwo {w W : World} {s : Value} {l : List Ver} {C1 : Array Value} {x : Int} {a : Option Addr} {m c : Nat} (h : IsVers W s l) (T : Two w C1 #[.int .u64 x, .slice a m c] W) (u1 u2 : Value) : IsVers ((W.setCell ⟨w.heap.size + 1, 0, none⟩ u1).setCell ⟨w.heap.size + 1, 1, none⟩ u2) s l := by
  obtain ⟨a', cap, hv, h⟩ := h
  refine ⟨a', cap, hv, ?_⟩
  rcases h with h | ⟨b2, off, ha, hlt, hc⟩
  · exact Or.inl h
  · by_cases hl : l = []
    · exact Or.inl hl
    have hne : b2 ≠ w.heap.size + 1 := by
      intro e
      subst e
      obtain ⟨_, h2, _⟩ := hc 0 (List.length_pos_iff.2 hl)
      rw [Nat.zero_mul, Nat.add_zero, T.c2] at h2
      rcases Nat.lt_or_ge off 1 with ho | ho
      · obtain rfl : off = 0 := by omega
        simp at h2
      · rw [Array.getElem?_eq_none (by simp; omega)] at h2; cases h2
    refine Or.inr ⟨b2, off, ha, by simpa using hlt, fun i hi => ?_⟩
    obtain ⟨h1, h2, h3⟩ := hc i hi
    have far : ∀ (X : World) (o j : Nat) (u : Value), (X.setCell ⟨w.heap.size + 1, o, none⟩ u).cell? ⟨b2, j, none⟩ = X.cell? ⟨b2, j, none⟩ := fun X o j u => World.cell?_setCell_far _ _ _ _ (fun e => hne e.symm)
    refine ⟨?_, ?_, ?_⟩
    · rw [far, far]; exact h1
    · rw [far, far]; exact h2
    · rw [far, far]; exact h3

set_option maxRecDepth 100000 in
set_option maxHeartbeats 2000000 in
theorem ref17_put (c : Cel) (v : Value) (any : Bool) (want : Nat) (tx : ByteArray) (w : World) (hv : IsVers w v c.l) (hl : c.l.length ≤ 65536) (hlast : c.last < 18446744073709551616) (htx : tx.size ≤ 9223372036854775807) :
    Calls Tryz.prog 100 #[.agg #[.int .u64 c.last, v], .bool any, .int .u64 want, .string tx] w (RefErr (putE c any want tx) w) := by
  have Hr : Hid (putE c any want tx = if mayC c = false then (c, 2) else if 4096 < tx.size then (c, 5) else if stale c any want then (c, 170) else if c.last + 1 = 18446744073709551616 then (c, 4) else (putC c ⟨0, 1, tx⟩, 0)) := Lib.hid rfl
  generalize putE c any want tx = r at Hr
  have Hmay := Lib.hid (fun (v : Value) (w : World) (h : IsVers w v c.l) => ref17_may c v w h (by omega))
  have Hnow := Lib.hid (fun (v : Value) (w : World) (h : IsVers w v c.l) => ref17_now c v w h (by omega))
  have Hcom : Hid (mayC c = true → c.last + 1 < 18446744073709551616 → ∀ (v : Value) (w : World), IsVers w v c.l → Calls Tryz.prog 122 #[.agg #[.int .u64 c.last, v], .int .u8 1, .string tx] w fun e w' => ∃ s, e = .returned (.agg #[.int .u64 (putC c ⟨0, 1, tx⟩).last, s]) ∧ IsVers w' s (putC c ⟨0, 1, tx⟩).l ∧ Below w.heap.size w w') :=
    Lib.hid (fun hm hf v w h => ref17_comes c v 1 tx w h (may_len hm) hf)
  generalize putC c ⟨0, 1, tx⟩ = pc at Hr Hcom
  have ht : stale c any want = (!any && !decide (want = nowC c)) := rfl
  generalize stale c any want = t at ht Hr
  generalize mayC c = y at Hr Hmay Hcom
  generalize nowC c = m at Hr Hnow ht
  have Ht := Lib.hid ht; clear ht
  obtain ⟨cl, L⟩ := c
  simp only at hv hl hlast Hmay Hnow Hcom Hr ⊢
  have hv2 := hv
  obtain ⟨a, cap, rfl, hc⟩ := hv2
  clear hc
  have Hv := Lib.hid hv; clear hv
  go_enter Tryz.func100, Tryz.ntmps100
  go_upto_region 1 with fail
  refine wp_abs (F := Two w #[.int .u64 cl, .slice a L.length cap] #[.int .u64 0, .slice none 0 0]) (Two.of w _ _ _ _) ?_
  intro W T
  have q0 := T.c1 0; have q1 := T.c1 1
  have T := Lib.hid T
  simp at q0 q1
  cases y with
  | false =>
    go_wp2_with fail
    refine (Hmay.out _ _ (Hv.out.below T.out.b (Nat.le_refl _))).mono ?_
    rintro e w1 ⟨rfl, hb1⟩
    have T1 := Lib.hid (T.out.step hb1)
    clear q0 q1 hb1
    have q0 := T1.out.c1 0; have q1 := T1.out.c1 1; have z0 := T1.out.c2 0; have z1 := T1.out.c2 1; have g0 := T1.out.f2 0; have g1 := T1.out.f2 1
    simp at q0 q1 z0 z1
    obtain rfl : r = (⟨cl, L⟩, 2) := by rw [Hr.out, if_pos trivial]
    go_wp2_with fail
    refine bodyPost_ret (v := .tuple #[.agg #[.int .u64 cl, .slice a L.length cap], .int .i64 2]) ?_ rfl ⟨.slice a L.length cap, rfl, Hv.out.below (T1.out.refEnd _ _) (Nat.le_refl _), T1.out.refEnd _ _⟩
    simp [results, Tryz.results100, go_sem, z0, z1]
  | true =>
    go_wp2_with fail
    refine (Hmay.out _ _ (Hv.out.below T.out.b (Nat.le_refl _))).mono ?_
    rintro e w2 ⟨rfl, hb2⟩
    have T2 := Lib.hid (T.out.step hb2)
    clear q0 q1 hb2
    have q0 := T2.out.c1 0; have q1 := T2.out.c1 1; have z0 := T2.out.c2 0; have z1 := T2.out.c2 1; have g0 := T2.out.f2 0; have g1 := T2.out.f2 1
    simp at q0 q1 z0 z1
    by_cases htl : 4096 < tx.size
    · have htI : (4096 : Int) < (tx.size : Int) := by omega
      obtain rfl : r = (⟨cl, L⟩, 5) := by rw [Hr.out, if_neg (by simp), if_pos htl]
      go_wp2_with fail
      refine bodyPost_ret (v := .tuple #[.agg #[.int .u64 cl, .slice a L.length cap], .int .i64 5]) ?_ rfl ⟨.slice a L.length cap, rfl, Hv.out.below (T2.out.refEnd _ _) (Nat.le_refl _), T2.out.refEnd _ _⟩
      simp [results, Tryz.results100, go_sem, z0, z1]
    have htI : ¬ (4096 : Int) < (tx.size : Int) := by omega
    go_upto_region 5 with fail
    go_cut [25] (fun s wx => s = .bool t ∧ Hid (Below w2.heap.size w2 wx))
    case first =>
      cases any with
      | true =>
        go_wp2_with fail
        go_meet
        case rel => exact ⟨by rw [Ht.out]; rfl, Lib.hid (Below.refl _ _)⟩
      | false =>
        go_wp2_with fail
        refine (Hnow.out _ _ (Hv.out.below T2.out.b (Nat.le_refl _))).mono ?_
        rintro e wn ⟨rfl, hbn⟩
        have Hbn := Lib.hid hbn; clear hbn
        go_wp2_with fail
        go_meet
        case rel =>
          refine ⟨?_, Hbn⟩
          rw [Ht.out]
          simp only [Bool.not_false, Bool.true_and]
          exact congrArg _ (neNat _ _)
    case rest =>
      obtain ⟨rfl, HX⟩ := hcut
      have TX := Lib.hid (T2.out.step HX.out)
      clear q0 q1 z0 z1 g0 g1
      have q0 := TX.out.c1 0; have q1 := TX.out.c1 1; have z0 := TX.out.c2 0; have z1 := TX.out.c2 1; have g0 := TX.out.f2 0; have g1 := TX.out.f2 1
      simp at q0 q1 z0 z1
      cases t with
      | true =>
        obtain rfl : r = (⟨cl, L⟩, 170) := by rw [Hr.out, if_neg (by simp), if_neg htl, if_pos rfl]
        go_wp2_with fail
        refine bodyPost_ret (v := .tuple #[.agg #[.int .u64 cl, .slice a L.length cap], .int .i64 170]) ?_ rfl ⟨.slice a L.length cap, rfl, Hv.out.below (TX.out.refEnd _ _) (Nat.le_refl _), TX.out.refEnd _ _⟩
        simp [results, Tryz.results100, go_sem, z0, z1]
      | false =>
        by_cases hf : cl + 1 = 18446744073709551616
        · have hfB : ((cl : Int) == 18446744073709551615) = true := by simp; omega
          obtain rfl : r = (⟨cl, L⟩, 4) := by rw [Hr.out, if_neg (by simp), if_neg htl, if_neg (by decide), if_pos hf]
          go_wp2_with fail
          refine bodyPost_ret (v := .tuple #[.agg #[.int .u64 cl, .slice a L.length cap], .int .i64 4]) ?_ rfl ⟨.slice a L.length cap, rfl, Hv.out.below (TX.out.refEnd _ _) (Nat.le_refl _), TX.out.refEnd _ _⟩
          simp [results, Tryz.results100, go_sem, z0, z1]
        have hfB : ((cl : Int) == 18446744073709551615) = false := by rw [beq_eq_false_iff_ne]; omega
        obtain rfl : r = (pc, 0) := by rw [Hr.out, if_neg (by simp), if_neg htl, if_neg (by decide), if_neg hf]
        go_wp2_with fail
        refine (Hcom.out trivial (by omega) _ _ (Hv.out.below TX.out.b (Nat.le_refl _))).mono ?_
        rintro e w9 ⟨s, rfl, hs, hb9⟩
        have T9 := Lib.hid (TX.out.step hb9)
        clear q0 q1 z0 z1 g0 g1 
        have z0 := T9.out.c2 0; have z1 := T9.out.c2 1; have g0 := T9.out.f2 0; have g1 := T9.out.f2 1
        simp at z0 z1
        have hs2 := hs
        obtain ⟨a9, c9, rfl, hc9⟩ := hs2
        have hne9 : Hid (∀ u1 u2 : Value, IsVers ((w9.setCell ⟨w.heap.size + 1, 0, none⟩ u1).setCell ⟨w.heap.size + 1, 1, none⟩ u2) (.slice a9 pc.l.length c9) pc.l) := Lib.hid (fun u1 u2 => hs.notTwo T9.out u1 u2)
        clear hc9 hs hb9
        go_wp2_with fail
        refine bodyPost_ret (v := .tuple #[.agg #[.int .u64 pc.last, .slice a9 pc.l.length c9], .int .i64 0]) ?_ rfl ⟨.slice a9 pc.l.length c9, rfl, hne9.out _ _, T9.out.refEnd _ _⟩
        simp [results, Tryz.results100, go_sem, z0, z1]

set_option maxRecDepth 100000 in
set_option maxHeartbeats 2000000 in
theorem ref17_delete (c : Cel) (v : Value) (any : Bool) (want : Nat) (w : World) (hv : IsVers w v c.l) (hl : c.l.length ≤ 65536) (hlast : c.last < 18446744073709551616) :
    Calls Tryz.prog 101 #[.agg #[.int .u64 c.last, v], .bool any, .int .u64 want] w (RefErr (deleteE c any want) w) := by
  have Hr : Hid (deleteE c any want = if mayC c = false then (c, 2) else if nowC c = 0 then (c, 3) else if stale c any want then (c, 170) else if c.last + 1 = 18446744073709551616 then (c, 4) else (putC c ⟨0, 2, ByteArray.empty⟩, 0)) := Lib.hid rfl
  generalize deleteE c any want = r at Hr
  have Hmay := Lib.hid (fun (v : Value) (w : World) (h : IsVers w v c.l) => ref17_may c v w h (by omega))
  have Hnow := Lib.hid (fun (v : Value) (w : World) (h : IsVers w v c.l) => ref17_now c v w h (by omega))
  have Hcom : Hid (mayC c = true → c.last + 1 < 18446744073709551616 → ∀ (v : Value) (w : World), IsVers w v c.l → Calls Tryz.prog 122 #[.agg #[.int .u64 c.last, v], .int .u8 2, .string ByteArray.empty] w fun e w' => ∃ s, e = .returned (.agg #[.int .u64 (putC c ⟨0, 2, ByteArray.empty⟩).last, s]) ∧ IsVers w' s (putC c ⟨0, 2, ByteArray.empty⟩).l ∧ Below w.heap.size w w') :=
    Lib.hid (fun hm hf v w h => ref17_comes c v 2 ByteArray.empty w h (may_len hm) hf)
  generalize putC c ⟨0, 2, ByteArray.empty⟩ = pc at Hr Hcom
  have ht : stale c any want = (!any && !decide (want = nowC c)) := rfl
  generalize stale c any want = t at ht Hr
  generalize mayC c = y at Hr Hmay Hcom
  generalize nowC c = m at Hr Hnow ht
  have Ht := Lib.hid ht; clear ht
  obtain ⟨cl, L⟩ := c
  simp only at hv hl hlast Hmay Hnow Hcom Hr ⊢
  have hv2 := hv
  obtain ⟨a, cap, rfl, hc⟩ := hv2
  clear hc
  have Hv := Lib.hid hv; clear hv
  go_enter Tryz.func101, Tryz.ntmps101
  go_upto_region 1 with fail
  refine wp_abs (F := Two w #[.int .u64 cl, .slice a L.length cap] #[.int .u64 0, .slice none 0 0]) (Two.of w _ _ _ _) ?_
  intro W T
  have q0 := T.c1 0; have q1 := T.c1 1
  have T := Lib.hid T
  simp at q0 q1
  cases y with
  | false =>
    go_wp2_with fail
    refine (Hmay.out _ _ (Hv.out.below T.out.b (Nat.le_refl _))).mono ?_
    rintro e w1 ⟨rfl, hb1⟩
    have T1 := Lib.hid (T.out.step hb1)
    clear q0 q1 hb1
    have q0 := T1.out.c1 0; have q1 := T1.out.c1 1; have z0 := T1.out.c2 0; have z1 := T1.out.c2 1; have g0 := T1.out.f2 0; have g1 := T1.out.f2 1
    simp at q0 q1 z0 z1
    obtain rfl : r = (⟨cl, L⟩, 2) := by rw [Hr.out, if_pos trivial]
    go_wp2_with fail
    refine bodyPost_ret (v := .tuple #[.agg #[.int .u64 cl, .slice a L.length cap], .int .i64 2]) ?_ rfl ⟨.slice a L.length cap, rfl, Hv.out.below (T1.out.refEnd _ _) (Nat.le_refl _), T1.out.refEnd _ _⟩
    simp [results, Tryz.results101, go_sem, z0, z1]
  | true =>
    go_wp2_with fail
    refine (Hmay.out _ _ (Hv.out.below T.out.b (Nat.le_refl _))).mono ?_
    rintro e w2 ⟨rfl, hb2⟩
    have T2 := Lib.hid (T.out.step hb2)
    clear q0 q1 hb2
    have q0 := T2.out.c1 0; have q1 := T2.out.c1 1; have z0 := T2.out.c2 0; have z1 := T2.out.c2 1; have g0 := T2.out.f2 0; have g1 := T2.out.f2 1
    simp at q0 q1 z0 z1
    by_cases htl : m = 0
    · have htB : ((m : Int) == 0) = true := by simp [htl]
      go_wp2_with fail
      refine (Hnow.out _ _ (Hv.out.below T2.out.b (Nat.le_refl _))).mono ?_
      rintro e w3 ⟨rfl, hb3⟩
      have T3 := Lib.hid (T2.out.step hb3)
      clear q0 q1 hb3
      have q0 := T3.out.c1 0; have q1 := T3.out.c1 1; have z0 := T3.out.c2 0; have z1 := T3.out.c2 1; have g0 := T3.out.f2 0; have g1 := T3.out.f2 1
      simp at q0 q1 z0 z1
      obtain rfl : r = (⟨cl, L⟩, 3) := by rw [Hr.out, if_neg (by simp), if_pos htl]
      go_wp2_with fail
      refine bodyPost_ret (v := .tuple #[.agg #[.int .u64 cl, .slice a L.length cap], .int .i64 3]) ?_ rfl ⟨.slice a L.length cap, rfl, Hv.out.below (T3.out.refEnd _ _) (Nat.le_refl _), T3.out.refEnd _ _⟩
      simp [results, Tryz.results101, go_sem, z0, z1]
    have htB : ((m : Int) == 0) = false := by rw [beq_eq_false_iff_ne]; omega
    go_wp2_with fail
    refine (Hnow.out _ _ (Hv.out.below T2.out.b (Nat.le_refl _))).mono ?_
    rintro e w4 ⟨rfl, hb4⟩
    have T4 := Lib.hid (T2.out.step hb4)
    clear q0 q1 hb4
    have q0 := T4.out.c1 0; have q1 := T4.out.c1 1; have z0 := T4.out.c2 0; have z1 := T4.out.c2 1; have g0 := T4.out.f2 0; have g1 := T4.out.f2 1
    simp at q0 q1 z0 z1
    go_upto_region 5 with fail
    go_cut [23] (fun s wx => s = .bool t ∧ Hid (Below w4.heap.size w4 wx))
    case first =>
      cases any with
      | true =>
        go_wp2_with fail
        go_meet
        case rel => exact ⟨by rw [Ht.out]; rfl, Lib.hid (Below.refl _ _)⟩
      | false =>
        go_wp2_with fail
        refine (Hnow.out _ _ (Hv.out.below T4.out.b (Nat.le_refl _))).mono ?_
        rintro e wn ⟨rfl, hbn⟩
        have Hbn := Lib.hid hbn; clear hbn
        go_wp2_with fail
        go_meet
        case rel =>
          refine ⟨?_, Hbn⟩
          rw [Ht.out]
          simp only [Bool.not_false, Bool.true_and]
          exact congrArg _ (neNat _ _)
    case rest =>
      obtain ⟨rfl, HX⟩ := hcut
      have TX := Lib.hid (T4.out.step HX.out)
      clear q0 q1 z0 z1 g0 g1
      have q0 := TX.out.c1 0; have q1 := TX.out.c1 1; have z0 := TX.out.c2 0; have z1 := TX.out.c2 1; have g0 := TX.out.f2 0; have g1 := TX.out.f2 1
      simp at q0 q1 z0 z1
      cases t with
      | true =>
        obtain rfl : r = (⟨cl, L⟩, 170) := by rw [Hr.out, if_neg (by simp), if_neg htl, if_pos rfl]
        go_wp2_with fail
        refine bodyPost_ret (v := .tuple #[.agg #[.int .u64 cl, .slice a L.length cap], .int .i64 170]) ?_ rfl ⟨.slice a L.length cap, rfl, Hv.out.below (TX.out.refEnd _ _) (Nat.le_refl _), TX.out.refEnd _ _⟩
        simp [results, Tryz.results101, go_sem, z0, z1]
      | false =>
        by_cases hf : cl + 1 = 18446744073709551616
        · have hfB : ((cl : Int) == 18446744073709551615) = true := by simp; omega
          obtain rfl : r = (⟨cl, L⟩, 4) := by rw [Hr.out, if_neg (by simp), if_neg htl, if_neg (by decide), if_pos hf]
          go_wp2_with fail
          refine bodyPost_ret (v := .tuple #[.agg #[.int .u64 cl, .slice a L.length cap], .int .i64 4]) ?_ rfl ⟨.slice a L.length cap, rfl, Hv.out.below (TX.out.refEnd _ _) (Nat.le_refl _), TX.out.refEnd _ _⟩
          simp [results, Tryz.results101, go_sem, z0, z1]
        have hfB : ((cl : Int) == 18446744073709551615) = false := by rw [beq_eq_false_iff_ne]; omega
        obtain rfl : r = (pc, 0) := by rw [Hr.out, if_neg (by simp), if_neg htl, if_neg (by decide), if_neg hf]
        go_wp2_with fail
        refine (Hcom.out trivial (by omega) _ _ (Hv.out.below TX.out.b (Nat.le_refl _))).mono ?_
        rintro e w9 ⟨s, rfl, hs, hb9⟩
        have T9 := Lib.hid (TX.out.step hb9)
        clear q0 q1 z0 z1 g0 g1 
        have z0 := T9.out.c2 0; have z1 := T9.out.c2 1; have g0 := T9.out.f2 0; have g1 := T9.out.f2 1
        simp at z0 z1
        have hs2 := hs
        obtain ⟨a9, c9, rfl, hc9⟩ := hs2
        have hne9 : Hid (∀ u1 u2 : Value, IsVers ((w9.setCell ⟨w.heap.size + 1, 0, none⟩ u1).setCell ⟨w.heap.size + 1, 1, none⟩ u2) (.slice a9 pc.l.length c9) pc.l) := Lib.hid (fun u1 u2 => hs.notTwo T9.out u1 u2)
        clear hc9 hs hb9
        go_wp2_with fail
        refine bodyPost_ret (v := .tuple #[.agg #[.int .u64 pc.last, .slice a9 pc.l.length c9], .int .i64 0]) ?_ rfl ⟨.slice a9 pc.l.length c9, rfl, hne9.out _ _, T9.out.refEnd _ _⟩
        simp [results, Tryz.results101, go_sem, z0, z1]

end Go.Proofs.YtfbgnpfhjbiikaaGreatDoor

namespace Go.Proofs.YtfbgnpfhjbiikaaGreatDoor
open Go Go.RowKit
set_option maxRecDepth 100000 in
set_option maxHeartbeats 2000000 in
theorem ref17_destroy (c : Cel) (v : Value) (n : Nat) (w : World) (hv : IsVers w v c.l) (hl : c.l.length ≤ 65536) :
    Calls Tryz.prog 102 #[.agg #[.int .u64 c.last, v], .int .u64 n] w (RefErr (destroyE c n) w) := by
  have Hr : Hid (destroyE c n = if (findE c n).2 ≠ 0 then (c, (findE c n).2) else (⟨c.last, c.l.set (findE c n).1 ⟨n, 3, ByteArray.empty⟩⟩, 0)) := Lib.hid rfl
  generalize destroyE c n = r at Hr
  have Hp : Hid (findE c n = if mayC c = false then (0, 2) else if idxV c.l n < 0 then (0, 3) else if (c.l.getD (idxV c.l n).toNat dV).st ≠ 1 then (0, 171) else ((idxV c.l n).toNat, 0)) := Lib.hid rfl
  have Hmay := Lib.hid (fun (v : Value) (w : World) (h : IsVers w v c.l) => ref17_may c v w h (by omega))
  have Hat := Lib.hid (fun (v : Value) (w : World) (h : IsVers w v c.l) => ref17_at c v n w h hl)
  have Hz := Lib.hid (idxV_cases c.l n)
  generalize findE c n = p at Hr Hp
  generalize mayC c = y at Hp Hmay
  generalize idxV c.l n = z at Hp Hat Hz
  obtain ⟨cl, L⟩ := c
  simp only at hv hl Hmay Hat Hp Hz Hr ⊢
  have hv2 := hv
  obtain ⟨a, cap, rfl, hc⟩ := hv2
  have HC := Lib.hid hc
  clear hc
  have Hv := Lib.hid hv; clear hv
  go_enter Tryz.func102, Tryz.ntmps102
  go_upto_region 1 with fail
  refine wp_abs (F := Two w #[.int .u64 cl, .slice a L.length cap] #[.int .u64 0, .slice none 0 0]) (Two.of w _ _ _ _) ?_
  intro W T
  have q0 := T.c1 0; have q1 := T.c1 1
  have T := Lib.hid T
  simp at q0 q1
  go_wp2_with fail
  refine (Hmay.out _ _ (Hv.out.below T.out.b (Nat.le_refl _))).mono ?_
  rintro e w1 ⟨rfl, hb1⟩
  have T1 := Lib.hid (T.out.step hb1)
  clear q0 q1 hb1
  have q0 := T1.out.c1 0; have q1 := T1.out.c1 1; have z0 := T1.out.c2 0; have z1 := T1.out.c2 1; have g0 := T1.out.f2 0; have g1 := T1.out.f2 1
  simp at q0 q1 z0 z1
  cases y with
  | false =>
    obtain rfl : p = (0, 2) := by rw [Hp.out, if_pos rfl]
    obtain rfl : r = (⟨cl, L⟩, 2) := by rw [Hr.out, if_pos (by simp)]
    go_wp2_with fail
    refine bodyPost_ret (v := .tuple #[.agg #[.int .u64 cl, .slice a L.length cap], .int .i64 2]) ?_ rfl ⟨.slice a L.length cap, rfl, Hv.out.below (T1.out.refEnd _ _) (Nat.le_refl _), T1.out.refEnd _ _⟩
    simp [results, Tryz.results102, go_sem, z0, z1]
  | true =>
    go_wp2_with fail
    refine (Hat.out _ _ (Hv.out.below T1.out.b (Nat.le_refl _))).mono ?_
    rintro e w2 ⟨rfl, hb2⟩
    have T2 := Lib.hid (T1.out.step hb2)
    clear q0 q1 z0 z1 g0 g1 hb2
    have q0 := T2.out.c1 0; have q1 := T2.out.c1 1; have z0 := T2.out.c2 0; have z1 := T2.out.c2 1; have g0 := T2.out.f2 0; have g1 := T2.out.f2 1
    simp at q0 q1 z0 z1
    rcases Hz.out with hz | ⟨k, hz, hk⟩
    · subst hz
      obtain rfl : p = (0, 3) := by rw [Hp.out, if_neg (by simp), if_pos (by decide)]
      obtain rfl : r = (⟨cl, L⟩, 3) := by rw [Hr.out, if_pos (by simp)]
      go_wp2_with fail
      refine bodyPost_ret (v := .tuple #[.agg #[.int .u64 cl, .slice a L.length cap], .int .i64 3]) ?_ rfl ⟨.slice a L.length cap, rfl, Hv.out.below (T2.out.refEnd _ _) (Nat.le_refl _), T2.out.refEnd _ _⟩
      simp [results, Tryz.results102, go_sem, z0, z1]
    · subst hz
      rcases HC.out with hn | ⟨b, off, rfl, hblt, hcc⟩
      · subst hn; simp at hk
      obtain ⟨h1, h2, h3⟩ := hcc k hk
      have k2 := (T2.out.b.cell (p := ⟨b, off + k * 3 + 1, none⟩) hblt).trans h2
      have hki : (k : Int) < (L.length : Int) := by omega
      clear h1 h2 h3 hcc
      obtain ⟨x, hx⟩ : ∃ x, x = L.getD k dV := ⟨_, rfl⟩
      rw [← hx] at k2
      have HX := Lib.hid hx
      clear hx
      by_cases hs : x.st = 1
      · have hS : ((x.st : Int) != 1) = false := by simp [hs]
        obtain rfl : p = (k, 0) := by rw [Hp.out, if_neg (by simp), if_neg (by omega), Int.toNat_natCast, ← HX.out, if_neg (by simp [hs])]
        obtain rfl : r = (⟨cl, L.set k ⟨n, 3, ByteArray.empty⟩⟩, 0) := by rw [Hr.out, if_neg (by simp)]
        clear hs
        go_upto_region 9 with fail
        obtain ⟨d, hd⟩ : ∃ d, w2.heap.size = d := ⟨_, rfl⟩
        have hdw : w.heap.size + 1 < d := by have := T2.out.sz; omega
        refine wp_abs (F := fun X => Two w #[.int .u64 cl, .slice (some ⟨b, off, none⟩) L.length cap] #[.int .u64 0, .slice none 0 0] X ∧ One d #[.int .u64 cl, .slice none 0 0] X ∧ Below w2.heap.size w2 X ∧ d < X.heap.size) ⟨T2.out.step ((Below.refl _ _).alloc (Nat.le_refl _) _), by rw [← hd]; exact One.of _ _ _, (Below.refl _ _).alloc (Nat.le_refl _) _, by rw [← hd]; simp⟩ ?_
        rintro X ⟨t3, o3, hb3, hsz3⟩
        rw [hd]
        clear q0 q1 z0 z1 g0 g1 k2
        have q1 := t3.c1 1; have y1 := o3.c 1; have x1 := o3.f 1
        simp at q1 y1
        have T3 := Lib.hid t3; have O3 := Lib.hid o3; have B3 := Lib.hid hb3; have S3 := Lib.hid hsz3
        clear t3 o3 hb3 hsz3
        have hL65 : L.length ≤ 65536 := hl
        go_upto_region 10 with (
          at_builtin
          refine wpList_append_vers rfl (.tmp 30) (.tmp 32) rfl rfl _ L rfl (Hv.out.below T3.out.b (Nat.le_refl _)) hL65 X.heap.size (Nat.le_refl _) ?_
          intro a4 c4 W4 hown4 hg4
          have hb4 : Below X.heap.size X W4 := (Below.refl _ _).grown hg4 (Nat.le_refl _) (fun k hk => by cases hk)
          have y1 := (O3.out.step hb4).c 1; have x1 := (O3.out.step hb4).f 1
          simp at y1
          have HO4 := Lib.hid hown4; have HB4 := Lib.hid hb4
          clear hown4 hg4 hb4)
        obtain ⟨g, c5, hform⟩ : ∃ g c5, Value.slice a4 L.length c4 = .slice (some ⟨g, 0, none⟩) L.length c5 := by
          rcases HO4.out.2 with ⟨_, hn⟩ | ⟨g', cap'', cur, hv, _⟩
          · rw [hn] at hk; simp at hk
          · exact ⟨_, _, hv⟩
        cases hform
        have hgB : X.heap.size ≤ g := ownAbove HO4.out g rfl
        clear q1 y1 x1
        refine wp_abs (F := fun Y => Two w #[.int .u64 cl, .slice (some ⟨b, off, none⟩) L.length cap] #[.int .u64 0, .slice none 0 0] Y ∧ One d #[.int .u64 cl, .slice (some ⟨g, 0, none⟩) L.length c4] Y ∧ Y.ownsRow X.heap.size 50 3 (.slice (some ⟨g, 0, none⟩) L.length c4) L.length (flat L)) ⟨?_, (O3.out.step HB4.out).set (i := 1) (by simp) _, ?_⟩ ?_
        · have h4 := T3.out.step HB4.out
          exact ⟨by simpa using h4.sz, fun j => (World.cell?_setCell_far _ _ _ _ (by dsimp only; omega)).trans (h4.c1 j), fun j => (World.cell?_setCell_far _ _ _ _ (by dsimp only; omega)).trans (h4.c2 j), fun j => by rw [World.frozen?_setCell]; exact h4.f1 j, fun j => by rw [World.frozen?_setCell]; exact h4.f2 j, h4.b.setCell (by dsimp only; omega) _⟩
        · have := S3.out
          exact ownsRow_setCell_below HO4.out (by dsimp only; omega) _
        rintro Y ⟨t5, o5, hown⟩
        have y0 := o5.c 0; have y1 := o5.c 1; have f0 := o5.f 0; have f1 := o5.f 1
        have z0 := t5.c2 0; have z1 := t5.c2 1; have g0 := t5.f2 0; have g1 := t5.f2 1
        simp at y0 y1 z0 z1
        obtain ⟨x1, x2, x3⟩ := flat_at L k hk
        have k1 := World.ownsRow.cellAt hown (k * 3) (by omega)
        have k2 := World.ownsRow.cellAt hown (k * 3 + 1) (by omega)
        have k3 := World.ownsRow.cellAt hown (k * 3 + 2) (by omega)
        rw [x1] at k1; rw [x2] at k2; rw [x3] at k3
        clear x1 x2 x3
        have j1 := ownFrozen hown (k * 3)
        have j2 := ownFrozen hown (k * 3 + 1)
        have j3 := ownFrozen hown (k * 3 + 2)
        have S3' := S3.out
        have hne1 : ¬ g = w.heap.size + 1 := by omega
        have hne3 : ¬ w.heap.size + 1 = g := by omega
        have hne4 : ¬ g = d := by omega
        have hne5 : ¬ d = g := by omega
        have T5 := Lib.hid t5; have HO5 := Lib.hid hown; have O5 := Lib.hid o5
        clear t5 o5 hown
        have Hend : Hid (∀ u1 u2 : Value, let Z := ((((Y.setCell ⟨g, k * 3, none⟩ (.int .u64 n)).setCell ⟨g, k * 3 + 1, none⟩ (.int .u8 3)).setCell ⟨g, k * 3 + 2, none⟩ (.string ByteArray.empty)).setCell ⟨w.heap.size + 1, 0, none⟩ u1).setCell ⟨w.heap.size + 1, 1, none⟩ u2; IsVers Z (.slice (some ⟨g, 0, none⟩) L.length c4) (L.set k ⟨n, 3, ByteArray.empty⟩) ∧ Below w.heap.size w Z) := Lib.hid (fun u1 u2 => by
          refine ⟨((ownSet3 HO5.out hk ⟨n, 3, ByteArray.empty⟩).setFar (p := ⟨w.heap.size + 1, 0, none⟩) ?_ _).setFar (p := ⟨w.heap.size + 1, 1, none⟩) ?_ _, ?_⟩
          · intro k hk; cases hk; dsimp only; omega
          · intro k hk; cases hk; dsimp only; omega
          · refine (((((T5.out.b.setCell ?_ _).setCell ?_ _).setCell ?_ _).setCell ?_ _).setCell ?_ _) <;> dsimp only <;> omega)
        go_wp2_with fail
        refine bodyPost_ret (v := .tuple #[.agg #[.int .u64 cl, .slice (some ⟨g, 0, none⟩) L.length c4], .int .i64 0]) ?_ rfl ⟨.slice (some ⟨g, 0, none⟩) L.length c4, rfl, (Hend.out _ _).1, (Hend.out _ _).2⟩
        simp [results, Tryz.results102, go_sem, z0, z1]
      · have hS : ((x.st : Int) != 1) = true := by simp; omega
        obtain rfl : p = (0, 171) := by rw [Hp.out, if_neg (by simp), if_neg (by omega), Int.toNat_natCast, ← HX.out, if_pos hs]
        obtain rfl : r = (⟨cl, L⟩, 171) := by rw [Hr.out, if_pos (by simp)]
        go_wp2_with fail
        refine bodyPost_ret (v := .tuple #[.agg #[.int .u64 cl, .slice (some ⟨b, off, none⟩) L.length cap], .int .i64 171]) ?_ rfl ⟨.slice (some ⟨b, off, none⟩) L.length cap, rfl, Hv.out.below (T2.out.refEnd _ _) (Nat.le_refl _), T2.out.refEnd _ _⟩
        simp [results, Tryz.results102, go_sem, z0, z1]

end Go.Proofs.YtfbgnpfhjbiikaaGreatDoor

namespace Go.Proofs.YtfbgnpfhjbiikaaGreatDoor
open Go Go.RowKit Pth
theorem take_snoc (s : ByteArray) (k : Nat) (h : k < s.size) : s.data.toList.take (k + 1) = s.data.toList.take k ++ [s[k]] := by
  rw [List.take_succ_eq_append_getElem (by simpa using h)]; rfl

theorem all_take_succ (s : ByteArray) (k : Nat) (h : k < s.size) (h0 : (s.data.toList.take k).all okc = true) (hc : okc s[k] = true) : (s.data.toList.take (k + 1)).all okc = true := by
  rw [take_snoc s k h, List.all_append, h0]; simp [hc]
theorem okPiece_no (s : ByteArray) (k : Nat) (h : k < s.size) (hc : okc s[k] = false) : okPiece s.data.toList = false := by
  have : s.data.toList.all okc = false := by
    rw [List.all_eq_false]; exact ⟨s[k], by simp only [Array.mem_toList_iff]; exact Array.getElem_mem h, by simp [hc]⟩
  simp [okPiece, this]
theorem okPiece_yes (s : ByteArray) (h1 : 1 ≤ s.size) (h2 : s.size ≤ 32) (k : Nat) (h : ¬ k < s.size) (h0 : (s.data.toList.take k).all okc = true) : okPiece s.data.toList = true := by
  rw [List.take_of_length_le (by simp; omega)] at h0
  simp [okPiece, h0]; exact ⟨h1, h2⟩
theorem okPiece_size (s : ByteArray) (h : ¬ (1 ≤ s.size ∧ s.size ≤ 32)) : okPiece s.data.toList = false := by
  have e : s.data.toList.length = s.size := by simp
  simp only [okPiece, e, Bool.and_eq_false_iff]
  by_cases h1 : 1 ≤ s.size
  · left; right; rw [decide_eq_false_iff_not]; omega
  · left; left; rw [decide_eq_false_iff_not]; omega
theorem okc_cases (c : UInt8) : (okc c = true ∧ (97 ≤ (c.toNat : Int) ∧ (c.toNat : Int) ≤ 122)) ∨ (okc c = true ∧ (c.toNat : Int) < 97 ∧ 48 ≤ (c.toNat : Int) ∧ (c.toNat : Int) ≤ 57) ∨ (okc c = true ∧ (c.toNat : Int) ≤ 46 ∧ 46 ≤ (c.toNat : Int)) ∨ (okc c = true ∧ (c.toNat : Int) ≤ 95 ∧ 95 ≤ (c.toNat : Int)) ∨ (okc c = true ∧ (c.toNat : Int) ≤ 45 ∧ 45 ≤ (c.toNat : Int)) ∨
    (okc c = false ∧ (c.toNat : Int) < 45) ∨ (okc c = false ∧ 46 < (c.toNat : Int) ∧ (c.toNat : Int) < 48) ∨ (okc c = false ∧ 57 < (c.toNat : Int) ∧ (c.toNat : Int) < 95) ∨ (okc c = false ∧ 95 < (c.toNat : Int) ∧ (c.toNat : Int) < 97) ∨ (okc c = false ∧ 122 < (c.toNat : Int)) := by
  simp only [okc, Bool.or_eq_true, decide_eq_true_eq, Bool.or_eq_false_iff, decide_eq_false_iff_not]
  omega

set_option maxHeartbeats 1000000 in
theorem ref16_piece (s : ByteArray) (hs : s.size ≤ maxLen) (w : World) :
    Calls Tryz.prog 85 #[.string s] w fun e w' => e = .returned (.bool (okPiece s.data.toList)) ∧ w = w' := by
  unfold maxLen at hs
  by_cases h1 : 1 ≤ s.size ∧ s.size ≤ 32
  · obtain ⟨h1, h2⟩ := h1
    go_enter Tryz.func85, Tryz.ntmps85
    go_wp2
    go_loop [3] (fun i => ∃ k : Nat, k ≤ s.size ∧ i = .int .i64 k ∧ Hid ((s.data.toList.take k).all okc = true)) (fun i => s.size - (intOf i).toNat)
    case atStart => exact ⟨0, Nat.zero_le _, rfl, Lib.hid rfl⟩
    case round =>
      obtain ⟨k, hk, rfl, hall⟩ := hrel
      by_cases hlt : k < s.size
      · rcases okc_cases s[k] with ⟨ho, hx⟩ | ⟨ho, hx⟩ | ⟨ho, hx⟩ | ⟨ho, hx⟩ | ⟨ho, hx⟩ | ⟨ho, hx⟩ | ⟨ho, hx⟩ | ⟨ho, hx⟩ | ⟨ho, hx⟩ | ⟨ho, hx⟩
        all_goals (have Ho := Lib.hid ho; clear ho; go_wp2)
        all_goals first
          | (exfalso; omega)
          | (go_round
             case rel => exact ⟨k + 1, by omega, by go_num, Lib.hid (all_take_succ s k hlt hall.out Ho.out)⟩
             case measure => simp [intOf]; omega)
          | (go_ret; exact ⟨ret_bool (okPiece_no s k hlt Ho.out).symm, rfl⟩)
          | (exfalso; simp at *; omega)
      · go_wp2
        go_ret
        exact ⟨ret_bool (okPiece_yes s h1 h2 k hlt hall.out).symm, rfl⟩
  · have H := Lib.hid (okPiece_size s h1)
    rcases (show s.size < 1 ∨ (1 ≤ s.size ∧ 32 < s.size) by omega) with h1 | ⟨h1, h2⟩
    all_goals
      go_enter Tryz.func85, Tryz.ntmps85
      go_wp2
      go_ret
      exact ⟨ret_bool H.out.symm, rfl⟩

end Go.Proofs.YtfbgnpfhjbiikaaGreatDoor

namespace Go.Proofs.YtfbgnpfhjbiikaaGreatDoor
open Go Go.RowKit Pth
theorem info9 : (Tryz.prog.info? 9).map (fun i => (i.zero, i.size, i.bytes)) = some (some (.string ByteArray.empty), 1, 16) := by kernel_rfl

def CutRel (s : List UInt8) (k p : Nat) (done : List ByteArray) : Prop :=
  (k ≤ s.length ∧ p ≤ k ∧ (∀ c ∈ (s.drop p).take (k - p), c ≠ 47) ∧ done.map (·.data.toList) ++ glue ((s.drop p).take (k - p)) (splitL (s.drop k)) = splitL s) ∨ (k = s.length + 1 ∧ done.map (·.data.toList) = splitL s)
theorem CutRel.start (s : List UInt8) : CutRel s 0 0 [] := by
  left; refine ⟨Nat.zero_le _, Nat.le_refl _, by simp, ?_⟩
  simp [glue_nil _ (splitL_ne s)]
theorem CutRel.skip {s : List UInt8} {k p : Nat} {done : List ByteArray} (h : CutRel s k p done) (hk : k < s.length) (hc : s[k] ≠ 47) : CutRel s (k + 1) p done := by
  rcases h with ⟨_, hp, hno, he⟩ | ⟨h1, _⟩
  · left
    have e1 : (s.drop p).take (k + 1 - p) = (s.drop p).take (k - p) ++ [s[k]] := by
      rw [show k + 1 - p = (k - p) + 1 by omega, List.take_succ_eq_append_getElem (by rw [List.length_drop]; omega)]
      congr 2
      rw [List.getElem_drop]; congr 1; omega
    have e2 : splitL (s.drop k) = glue [s[k]] (splitL (s.drop (k + 1))) := by
      rw [List.drop_eq_getElem_cons hk, splitL, if_neg hc]
    refine ⟨by omega, by omega, ?_, ?_⟩
    · rw [e1]; intro c hc2
      rcases List.mem_append.1 hc2 with h | h
      · exact hno c h
      · rw [List.mem_singleton] at h; subst h; exact hc
    · rw [e2, glue_glue _ _ _ (splitL_ne _)] at he
      rw [e1]; exact he
  · omega
theorem CutRel.slash {s : List UInt8} {k p : Nat} {done : List ByteArray} (h : CutRel s k p done) (hk : k < s.length) (hc : s[k] = 47) {x : ByteArray} (hx : x.data.toList = (s.drop p).take (k - p)) : CutRel s (k + 1) (k + 1) (done ++ [x]) := by
  rcases h with ⟨_, hp, hno, he⟩ | ⟨h1, _⟩
  · left
    refine ⟨by omega, by omega, by simp, ?_⟩
    rw [List.drop_eq_getElem_cons hk, hc, splitL_slash] at he
    rw [Nat.sub_self, List.take_zero, glue_nil _ (splitL_ne _), List.map_append, ← he]
    simp [glue, hx]
  · omega
theorem CutRel.last {s : List UInt8} {k p : Nat} {done : List ByteArray} (h : CutRel s k p done) (hk : k = s.length) {x : ByteArray} (hx : x.data.toList = (s.drop p).take (k - p)) : CutRel s (k + 1) (k + 1) (done ++ [x]) := by
  rcases h with ⟨_, hp, hno, he⟩ | ⟨h1, _⟩
  · right
    refine ⟨by omega, ?_⟩
    rw [hk, List.drop_length] at he
    rw [← he, List.map_append]
    simp [splitL, glue, hx, hk]
  · omega
theorem CutRel.fin {s : List UInt8} {k p : Nat} {done : List ByteArray} (h : CutRel s k p done) (hk : s.length < k) : done.map (·.data.toList) = splitL s := by
  rcases h with ⟨h1, _⟩ | ⟨_, h2⟩
  · omega
  · exact h2
theorem CutRel.bound {s : List UInt8} {k p : Nat} {done : List ByteArray} (h : CutRel s k p done) (hk : k ≤ s.length) : p ≤ k := by
  rcases h with ⟨_, hp, _⟩ | ⟨h1, _⟩ <;> omega
theorem one_str (x : ByteArray) : ∀ u ∈ [Value.string x], u.oneCell' = true := by intro u hu; simp at hu; subst hu; rfl

theorem own_above {w : World} {B e n : Nat} {v : Value} {xs : List Value} (h : w.ownsRow B e 1 v n xs) : ∀ k, v.ownBlock = some k → B ≤ k := by
  intro k hk
  rcases h.2 with ⟨hv, _⟩ | ⟨g, cap, cur, hv, hB, _⟩
  · subst hv; cases hk
  · subst hv; cases hk; exact hB
def CutGives (s : List UInt8) (w : World) (e : Ending) (w' : World) : Prop :=
  ∃ (v : Value) (l : List ByteArray), e = .returned v ∧ w'.ownsRow w.heap.size 9 1 v l.length (l.map Value.string) ∧ l.map (·.data.toList) = splitL s ∧ Below w.heap.size w w'

set_option maxRecDepth 100000 in
set_option maxHeartbeats 1000000 in
theorem ref16_cut (s : ByteArray) (hs : s.size ≤ 128) (w : World) :
    Calls Tryz.prog 84 #[.string s] w (CutGives s.data.toList w) := by
  have e0 : s.data.toList.length = s.size := rfl
  obtain ⟨i0, hi, hz0, hz1, hz2⟩ := info_parts info9
  go_enter Tryz.func84, Tryz.ntmps84
  go_wp2
  go_loopw [3, 4, 5] (fun v p i wr => ∃ (k q : Nat) (done : List ByteArray), k ≤ s.size + 1 ∧ q ≤ k ∧ done.length ≤ k ∧ i = .int .i64 k ∧ p = .int .i64 q ∧ wr.ownsRow w.heap.size 9 1 v done.length (done.map Value.string) ∧ Hid (CutRel s.data.toList k q done) ∧ Below w.heap.size w wr) (fun _ _ i _ => s.size + 1 - (intOf i).toNat)
  case atStart => exact ⟨0, 0, [], Nat.zero_le _, Nat.le_refl _, Nat.le_refl _, rfl, rfl, World.ownsRow_nil _ _ _ _, Lib.hid (CutRel.start _), Below.refl _ _⟩
  case round =>
    obtain ⟨k, q, done, hk, hq, hd, rfl, rfl, hown, hrl, hbw⟩ := hrel
    rcases (show k < s.size ∨ k = s.size ∨ k = s.size + 1 by omega) with hlt | heq | hgt
    · by_cases hc : s.data.toList[k]'hlt = 47
      · have Hc := Lib.hid hc
        have hcb : 47 ≤ (s[k].toNat : Int) ∧ (s[k].toNat : Int) ≤ 47 := by
          have : s[k] = 47 := hc
          rw [this]; decide
        have hcB : ((s[k].toNat : Int) == 47) = true := by rw [beq_iff_eq]; omega
        clear hc e0
        go_wp2_with (at_builtin; (refine wpList_append_own _ rfl _ _ 24 rfl w.heap.size 9 i0 (.string ByteArray.empty) 1 16 Tryz.underlying24 hi hz0 hz1 hz2 rfl (by decide) _ _ _ rfl (hown.alloc _) ⟨wr.heap.size, 0, none⟩ 1 1 [.string (s.extract q k)] rfl rfl (cell_one_new _ _ _) (one_str _) (by unfold maxLen; omega) (by omega) (by have := hbw.size; simp; omega) ?_); intro v' w1 hown' hgrow hnil)
        have R := hrl.out.slash hlt Hc.out (x := s.extract q k) (by rw [Lib.extract_data])
        have hcl := hbw.size
        have Hown := Lib.hid hown'
        have Hb := Lib.hid ((hbw.alloc hcl _).grown hgrow (by simp; omega) (own_above hown))
        clear hown' hgrow hnil hown hbw
        go_wp2
        go_roundw
        case rel => exact ⟨k + 1, k + 1, done ++ [s.extract q k], by omega, by omega, by simp; omega, by go_num, by go_num, by rw [List.length_append, List.map_append]; exact Hown.out, Lib.hid R, Hb.out⟩
        case measure => simp [intOf]; omega
      · have Hc := Lib.hid hc
        have hcB : ((s[k].toNat : Int) == 47) = false := by
          have : s[k].toNat ≠ 47 := fun h => hc (UInt8.toNat_inj.1 h)
          rw [beq_eq_false_iff_ne]; omega
        have hcN : ¬ ((s[k].toNat : Int) = 47) := by rw [beq_eq_false_iff_ne] at hcB; exact hcB
        clear hc e0
        · go_wp2
          go_roundw
          case rel => exact ⟨k + 1, q, done, by omega, by omega, by omega, by go_num, rfl, hown, Lib.hid (hrl.out.skip hlt Hc.out), hbw⟩
          case measure => simp [intOf]; omega
    · have hkB : ((k : Int) == (s.size : Int)) = true := by rw [beq_iff_eq]; omega
      have hle : k ≤ s.size := by omega
      have Heq := Lib.hid heq
      clear heq e0
      go_wp2_with (at_builtin; (refine wpList_append_own _ rfl _ _ 24 rfl w.heap.size 9 i0 (.string ByteArray.empty) 1 16 Tryz.underlying24 hi hz0 hz1 hz2 rfl (by decide) _ _ _ rfl (hown.alloc _) ⟨wr.heap.size, 0, none⟩ 1 1 [.string (s.extract q k)] rfl rfl (cell_one_new _ _ _) (one_str _) (by unfold maxLen; omega) (by omega) (by have := hbw.size; simp; omega) ?_); intro v' w1 hown' hgrow hnil)
      have R := hrl.out.last Heq.out (x := s.extract q k) (by rw [Lib.extract_data])
      have hcl := hbw.size
      have Hown := Lib.hid hown'
      have Hb := Lib.hid ((hbw.alloc hcl _).grown hgrow (by simp; omega) (own_above hown))
      clear hown' hgrow hnil hown hbw
      go_wp2
      have heq := Heq.out
      go_roundw
      case rel => exact ⟨k + 1, k + 1, done ++ [s.extract q k], by omega, by omega, by simp; omega, by go_num, by go_num, by rw [List.length_append, List.map_append]; exact Hown.out, Lib.hid R, Hb.out⟩
      case measure => simp [intOf]; omega
    · have Hown := Lib.hid hown; have Hb := Lib.hid hbw
      have hgt2 : ¬ (k : Int) ≤ (s.size : Int) := by omega
      have Hf := Lib.hid (hrl.out.fin (by omega))
      have hlt : (s.size : Int) < (k : Int) := by omega
      clear hgt hown hbw e0
      go_wp2
      go_ret
      exact ⟨_, done, rfl, Hown.out, Hf.out, Hb.out⟩
end Go.Proofs.YtfbgnpfhjbiikaaGreatDoor
