/- Plain facts: the document's rows beside what a table's map holds. No walk. Contracts: scriniumref17 Put, Delete. Contracts for scriniumref16 (cut, Pieces, Prefix, Under, Child). Contracts for scriniumref16: Pieces, Prefix, Under, Child. Contract for scriniumref16.Names: insertion into a sorted list. Contract: scriniumref18.with. Contract: scriniumref18.one. The document's table in memory; contract: scriniumref18 Apply. Contracts: scriniumref18 List, Load. Contract: scriniumref18 Load. Contract: scriniumref18 Drop. Contract: scriniumref18 Drop: the walk. Contracts: Table.Now, Last, Read. Contract: Table.Load, told exactly. Plain laws of scriniumlaw18.TablePlays: the table's answers are the document's. Contracts of scriniumlaw18: numbers over any two lists; edits kept beside what else is written. Contract: Table.Load of a table whose versions all lie in new blocks: they do so behind it too. Contract: Table.Rows: what it tells lies in blocks of the call's own. Contract: scriniumlaw18.does: one act, done by the table and by the document's. Contract: scriniumlaw18.stands, where the document's rows are the table's. Region lemma of TablePlays: the two new tables. scriniumlaw18.TablePlays: the walk. Two tables of scriniumlaw18.TableLoads' quota, side by side. Contracts: model.does and its closures. -/
import Derived.Test.YtfbgnpfhjbiikaaGreatDoorQp00
import Derived.Test.YtfbgnpfhjbiikaaGreatDoorQp01
import Derived.Test.YtfbgnpfhjbiikaaGreatDoorQp02
import Derived.Test.YtfbgnpfhjbiikaaGreatDoorQp04
import Derived.Test.YtfbgnpfhjbiikaaGreatDoorQp06
import Derived.Deep.DeepMust
import Derived.Deep.QuietTactic
import Derived.BigQuiet
import Derived.Laws.AppendOwnNone
import Derived.Sort.Walk0
import Derived.Deep.RegionWith
import Derived.Deep.RegionHeld3
namespace Go.Proofs.YtfbgnpfhjbiikaaGreatDoor
open Go Go.RowKit
open Pth
open Go.Maps (has size Canon CanonK Tidy IsMap KeysOf Keyed Merged)
abbrev Rw := ByteArray × Cel
def pL (x : Rw) : List UInt8 := x.1.data.toList
theorem pL_inj {x y : ByteArray} (h : x.data.toList = y.data.toList) : x = y := ba_ext h
def Up (l : List Rw) : Prop := l.Pairwise (fun x y => pL x < pL y)
theorem up_ext : ∀ (a b : List Rw), Up a → Up b → (∀ x, x ∈ a ↔ x ∈ b) → a = b
  | [], [], _, _, _ => rfl
  | [], y :: t, _, _, h => by have := (h y).2 (by simp); simp at this
  | x :: t, [], _, _, h => by have := (h x).1 (by simp); simp at this
  | x :: s, y :: t, ha, hb, h => by
    unfold Up at ha hb
    rw [List.pairwise_cons] at ha hb
    have hxy : x = y := by
      rcases List.mem_cons.1 ((h x).1 (by simp)) with e | h1
      · exact e
      · rcases List.mem_cons.1 ((h y).2 (by simp)) with e | h2
        · exact e.symm
        · exact absurd (List.lt_trans (ha.1 y h2) (hb.1 x h1)) (List.lt_irrefl _)
    subst hxy
    congr 1
    refine up_ext s t ha.2 hb.2 fun z => ?_
    constructor
    · intro hz
      rcases List.mem_cons.1 ((h z).1 (List.mem_cons_of_mem _ hz)) with e | h1
      · subst e; exact absurd (ha.1 z hz) (List.lt_irrefl _)
      · exact h1
    · intro hz
      rcases List.mem_cons.1 ((h z).2 (List.mem_cons_of_mem _ hz)) with e | h1
      · subst e; exact absurd (hb.1 z hz) (List.lt_irrefl _)
      · exact h1

def wStep (r : Rw) (s : List Rw × Bool) (x : Rw) : List Rw × Bool :=
  let a : List Rw × Bool := if s.2 = false ∧ ¬ pL x < pL r then (s.1 ++ [r], true) else s
  (if x.1 ≠ r.1 then a.1 ++ [x] else a.1, a.2)
def withS (r : Rw) (l : List Rw) : List Rw × Bool := l.foldl (wStep r) ([], false)
def withR (l : List Rw) (r : Rw) : List Rw := if (withS r l).2 then (withS r l).1 else (withS r l).1 ++ [r]
theorem wStep_done (r : Rw) (l : List Rw) : ∀ m : List Rw, l.foldl (wStep r) (m, true) = (m ++ l.filter (fun x => decide (x.1 ≠ r.1)), true) := by
  induction l with
  | nil => intro m; simp
  | cons x t ih =>
    intro m
    rw [List.foldl_cons]
    by_cases h : x.1 = r.1
    · have : wStep r (m, true) x = (m, true) := by unfold wStep; simp [h]
      rw [this, ih]; simp [h]
    · have : wStep r (m, true) x = (m ++ [x], true) := by unfold wStep; simp [h]
      rw [this, ih]; simp [h]
theorem lt_tri (a b : List UInt8) : a < b ∨ a = b ∨ b < a := by
  by_cases h1 : a < b
  · exact Or.inl h1
  by_cases h2 : b < a
  · exact Or.inr (Or.inr h2)
  · exact Or.inr (Or.inl (List.le_antisymm (List.not_lt.1 h2) (List.not_lt.1 h1)))
theorem lt_ne {x y : Rw} (h : pL x < pL y) : x.1 ≠ y.1 := by
  intro e
  unfold pL at h
  rw [e] at h; exact List.lt_irrefl _ h
theorem filter_none {l : List Rw} {p : Rw → Bool} (h : ∀ x ∈ l, p x = false) : l.filter p = [] := by
  rw [List.filter_eq_nil_iff]; intro a ha; rw [h a ha]; simp
theorem filter_all {l : List Rw} {p : Rw → Bool} (h : ∀ x ∈ l, p x = true) : l.filter p = l := by
  rw [List.filter_eq_self]; exact h
theorem wStep_go (r : Rw) (l : List Rw) : ∀ m : List Rw, Up l → l.foldl (wStep r) (m, false) = if l.all (fun x => decide (pL x < pL r)) then (m ++ l, false)
    else (m ++ l.filter (fun x => decide (pL x < pL r)) ++ r :: l.filter (fun x => decide (pL r < pL x)), true) := by
  induction l with
  | nil => intro m _; simp
  | cons x t ih =>
    intro m hu
    unfold Up at hu
    rw [List.pairwise_cons] at hu
    rw [List.foldl_cons]
    by_cases h : pL x < pL r
    · have hne := lt_ne h
      have e1 : wStep r (m, false) x = (m ++ [x], false) := by unfold wStep; simp [h, hne]
      have h2 : ¬ pL r < pL x := fun h' => List.lt_irrefl _ (List.lt_trans h h')
      rw [e1, ih _ hu.2]
      simp only [List.all_cons, h, decide_true, Bool.true_and, List.filter_cons, h2, decide_false, if_true, Bool.false_eq_true, if_false]
      split <;> simp
    · have hgt : ∀ y ∈ t, pL r < pL y := by
        intro y hy
        rcases lt_tri (pL x) (pL r) with h1 | h1 | h1
        · exact absurd h1 h
        · rw [← h1]; exact hu.1 y hy
        · exact List.lt_trans h1 (hu.1 y hy)
      have f1 : t.filter (fun x => decide (pL x < pL r)) = [] := filter_none fun y hy => by
        have := hgt y hy
        simp only [decide_eq_false_iff_not]
        intro h'; exact List.lt_irrefl _ (List.lt_trans this h')
      have f2 : t.filter (fun x => decide (pL r < pL x)) = t := filter_all fun y hy => by simp [hgt y hy]
      have f3 : t.filter (fun x => decide (x.1 ≠ r.1)) = t := filter_all fun y hy => by
        have := (lt_ne (hgt y hy)).symm
        simpa using this
      simp only [List.all_cons, h, decide_false, Bool.false_and, Bool.false_eq_true, if_false, List.filter_cons, f1, f2]
      by_cases he : x.1 = r.1
      · have e1 : wStep r (m, false) x = (m ++ [r], true) := by unfold wStep; simp [h, he]
        have h2 : ¬ pL r < pL x := by unfold pL; rw [he]; exact List.lt_irrefl _
        rw [e1, wStep_done, f3]
        simp [h2]
      · have e1 : wStep r (m, false) x = (m ++ [r] ++ [x], true) := by unfold wStep; simp [h, he]
        have h2 : pL r < pL x := by
          rcases lt_tri (pL x) (pL r) with h1 | h1 | h1
          · exact absurd h1 h
          · exact absurd (pL_inj h1) he
          · exact h1
        rw [e1, wStep_done, f3]
        simp [h2]
theorem with_eq {l : List Rw} (h : Up l) (r : Rw) : withR l r = l.filter (fun x => decide (pL x < pL r)) ++ r :: l.filter (fun x => decide (pL r < pL x)) := by
  unfold withR withS
  rw [wStep_go r l [] h]
  by_cases ha : l.all (fun x => decide (pL x < pL r)) = true
  · rw [if_pos ha]
    have h1 : ∀ x ∈ l, pL x < pL r := fun x hx => by simpa using List.all_eq_true.1 ha x hx
    rw [filter_all (p := fun x => decide (pL x < pL r)) (fun x hx => by simp [h1 x hx]), filter_none (p := fun x => decide (pL r < pL x)) (fun x hx => by
      have := h1 x hx
      simp only [decide_eq_false_iff_not]
      intro h'; exact List.lt_irrefl _ (List.lt_trans this h'))]
    simp
  · rw [if_neg ha]; simp
theorem with_mem {l : List Rw} (h : Up l) (r x : Rw) : x ∈ withR l r ↔ x = r ∨ (x ∈ l ∧ x.1 ≠ r.1) := by
  rw [with_eq h]
  simp only [List.mem_append, List.mem_cons, List.mem_filter, decide_eq_true_eq]
  constructor
  · rintro (⟨h1, h2⟩ | h1 | ⟨h1, h2⟩)
    · exact Or.inr ⟨h1, lt_ne h2⟩
    · exact Or.inl h1
    · exact Or.inr ⟨h1, (lt_ne h2).symm⟩
  · rintro (h1 | ⟨h1, h2⟩)
    · exact Or.inr (Or.inl h1)
    · rcases lt_tri (pL x) (pL r) with h3 | h3 | h3
      · exact Or.inl ⟨h1, h3⟩
      · exact absurd (pL_inj h3) h2
      · exact Or.inr (Or.inr ⟨h1, h3⟩)
theorem with_up {l : List Rw} (h : Up l) (r : Rw) : Up (withR l r) := by
  rw [with_eq h]
  unfold Up
  rw [List.pairwise_append, List.pairwise_cons]
  refine ⟨h.filter _, ⟨fun y hy => ?_, h.filter _⟩, fun x hx y hy => ?_⟩
  · simpa using (List.mem_filter.1 hy).2
  · have h1 : pL x < pL r := by simpa using (List.mem_filter.1 hx).2
    rcases List.mem_cons.1 hy with rfl | hy
    · exact h1
    · have h2 : pL r < pL y := by simpa using (List.mem_filter.1 hy).2
      exact List.lt_trans h1 h2

def cellR (l : List Rw) (p : ByteArray) : Cel := match l.find? (fun x => decide (x.1 = p)) with | some x => x.2 | none => ⟨0, []⟩
theorem up_inj {l : List Rw} (h : Up l) {x y : Rw} (hx : x ∈ l) (hy : y ∈ l) (e : x.1 = y.1) : x = y := by
  induction l with
  | nil => cases hx
  | cons a t ih =>
    unfold Up at h
    rw [List.pairwise_cons] at h
    rcases List.mem_cons.1 hx with e1 | hx
    · rcases List.mem_cons.1 hy with e2 | hy
      · rw [e1, e2]
      · rw [e1] at e; exact absurd e (lt_ne (h.1 y hy))
    · rcases List.mem_cons.1 hy with e2 | hy
      · rw [e2] at e; exact absurd e.symm (lt_ne (h.1 x hx))
      · exact ih h.2 hx hy
theorem cellR_of {l : List Rw} (h : Up l) {x : Rw} (hx : x ∈ l) : cellR l x.1 = x.2 := by
  unfold cellR
  cases hf : l.find? (fun y => decide (y.1 = x.1)) with
  | none =>
    have := List.find?_eq_none.1 hf x hx
    simp at this
  | some y =>
    have h1 := List.mem_of_find?_eq_some hf
    have h2 : y.1 = x.1 := by simpa using List.find?_some hf
    rw [up_inj h h1 hx h2]
theorem cellR_none {l : List Rw} {p : ByteArray} (h : ∀ x ∈ l, x.1 ≠ p) : cellR l p = ⟨0, []⟩ := by
  unfold cellR
  rw [List.find?_eq_none.2 (fun x hx => by simpa using h x hx)]
theorem rows_up {M : DataW Cel} (c : CanonK (KeysOf Tryz.prog 9) M) : Up (rowsL M) := by
  obtain ⟨es, rfl, hp, hk⟩ := canon_strs c
  have h1 := List.pairwise_mergeSort (le := fun x y : List UInt8 => decide (x ≤ y)) (fun a b c h1 h2 => by simp only [decide_eq_true_eq] at *; exact List.le_trans h1 h2) (fun a b => by simp only [Bool.or_eq_true, decide_eq_true_eq]; exact List.le_total a b) (strKeys (.map es : DataW Cel))
  have h2 : ((strKeys (.map es : DataW Cel)).mergeSort (fun x y => decide (x ≤ y))).Nodup := (List.mergeSort_perm _ _).nodup_iff.2 (strKeys_nodup hp hk)
  unfold Up rowsL
  refine List.pairwise_map.2 ?_
  refine (h1.and h2).imp ?_
  rintro a b ⟨h3, h4⟩
  show a < b
  have h5 : a ≤ b := by simpa using h3
  rcases lt_tri a b with h | h | h
  · exact h
  · exact absurd h h4
  · exact absurd (List.le_antisymm h5 (List.le_of_lt h)) h4
theorem bs_of_toList (p : ByteArray) : bs p.data.toList = p := ba_ext rfl
theorem rows_mem {M : DataW Cel} (c : CanonK (KeysOf Tryz.prog 9) M) (x : Rw) : x ∈ rowsL M ↔ has M (kS x.1) = true ∧ cellAt M x.1 = x.2 := by
  unfold rowsL
  rw [List.mem_map]
  constructor
  · rintro ⟨k, hk, rfl⟩
    exact ⟨keysL_mem c hk, rfl⟩
  · rintro ⟨h1, h2⟩
    refine ⟨x.1.data.toList, ?_, ?_⟩
    · obtain ⟨es, rfl, hp, hk⟩ := canon_strs c
      unfold keysL
      exact (List.mergeSort_perm _ _).mem_iff.2 ((mem_strKeys' hk _).2 h1)
    · unfold rowAt
      rw [bs_of_toList, h2]
theorem rows_length {M : DataW Cel} (c : CanonK (KeysOf Tryz.prog 9) M) : (rowsL M).length = size M := by
  unfold rowsL; rw [List.length_map]; exact keysL_length c
theorem cellR_rows {M : DataW Cel} (c : CanonK (KeysOf Tryz.prog 9) M) (p : ByteArray) : cellR (rowsL M) p = cellAt M p := by
  cases h : has M (kS p) with
  | true =>
    exact cellR_of (x := (p, cellAt M p)) (rows_up c) ((rows_mem c _).2 ⟨h, rfl⟩)
  | false =>
    rw [cellR_none, cellAt_none h]
    intro x hx e
    have := ((rows_mem c x).1 hx).1
    rw [e, h] at this; cases this
theorem cellAt_put_same {M : DataW Cel} (c : CanonK (KeysOf Tryz.prog 9) M) (p : ByteArray) (d : Cel) : cellAt (M.put (kS p) (.held d)) p = d := by
  unfold cellAt
  rw [Maps.atKey_put_same (canonK_isMap c) (kS_key _)]
theorem cellAt_put_other {M : DataW Cel} {p q : ByteArray} (h : q ≠ p) (d : Cel) : cellAt (M.put (kS p) (.held d)) q = cellAt M q := by
  unfold cellAt
  rw [Maps.atKey_put_other (kS_ne h)]
theorem keysOf_path {p : ByteArray} (h : mayP p = true) : KeysOf Tryz.prog 9 (kS p) := ⟨_, keyS Tryz.underlying9 (by have := mayP_size h; unfold maxLen; omega)⟩
theorem rows_put {M : DataW Cel} (c : CanonK (KeysOf Tryz.prog 9) M) {p : ByteArray} (hp : KeysOf Tryz.prog 9 (kS p)) (d : Cel) : rowsL (M.put (kS p) (.held d)) = withR (rowsL M) (p, d) := by
  have c2 := Maps.canonK_put strKeyed.one hp (.held d) c
  refine up_ext _ _ (rows_up c2) (with_up (rows_up c) _) fun x => ?_
  rw [rows_mem c2, with_mem (rows_up c), rows_mem c]
  by_cases e : x.1 = p
  · rw [e, Maps.has_put_same (canonK_isMap c) (kS_key _), cellAt_put_same c]
    constructor
    · rintro ⟨_, h⟩; left; exact Prod.ext e h.symm
    · rintro (h | ⟨_, h⟩)
      · exact ⟨rfl, by rw [h]⟩
      · exact absurd rfl h
  · rw [Maps.has_put_other (kS_ne e), cellAt_put_other e]
    constructor
    · intro h; exact Or.inr ⟨h, e⟩
    · rintro (h | ⟨h, _⟩)
      · exact absurd (congrArg Prod.fst h) e
      · exact h
def bytesR : List Rw → Nat
  | [] => 0
  | x :: t => x.1.size + sizeL x.2.l + bytesR t
theorem bytesR_append (a b : List Rw) : bytesR (a ++ b) = bytesR a + bytesR b := by
  induction a with
  | nil => simp [bytesR]
  | cons x t ih => simp only [List.cons_append, bytesR, ih]; omega
theorem bytesR_three (l : List Rw) (p : ByteArray) : bytesR l = bytesR (l.filter (fun x => decide (pL x < p.data.toList))) + bytesR (l.filter (fun x => decide (x.1 = p))) + bytesR (l.filter (fun x => decide (p.data.toList < pL x))) := by
  induction l with
  | nil => rfl
  | cons x t ih =>
    simp only [List.filter_cons, bytesR]
    rcases lt_tri (pL x) p.data.toList with h | h | h
    · have h1 : ¬ p.data.toList < pL x := fun h' => List.lt_irrefl _ (List.lt_trans h h')
      have h2 : x.1 ≠ p := by intro e; unfold pL at h; rw [e] at h; exact List.lt_irrefl _ h
      simp only [h, h1, h2, decide_true, decide_false, if_true, Bool.false_eq_true, if_false, bytesR]; omega
    · have h1 : ¬ p.data.toList < pL x := by rw [h]; exact List.lt_irrefl _
      have h3 : ¬ pL x < p.data.toList := by rw [h]; exact List.lt_irrefl _
      have h2 : x.1 = p := pL_inj h
      simp only [h1, h2, h3, decide_true, decide_false, if_true, Bool.false_eq_true, if_false, bytesR]; omega
    · have h1 : ¬ pL x < p.data.toList := fun h' => List.lt_irrefl _ (List.lt_trans h h')
      have h2 : x.1 ≠ p := by intro e; unfold pL at h; rw [e] at h; exact List.lt_irrefl _ h
      simp only [h, h1, h2, decide_true, decide_false, if_true, Bool.false_eq_true, if_false, bytesR]; omega
theorem up_eqs {l : List Rw} (h : Up l) (p : ByteArray) : l.filter (fun x => decide (x.1 = p)) = if ∃ x ∈ l, x.1 = p then [(p, cellR l p)] else [] := by
  split
  · rename_i hx
    obtain ⟨x, hx, rfl⟩ := hx
    refine up_ext _ _ (h.filter _) (List.pairwise_singleton _ _) fun y => ?_
    rw [List.mem_filter, List.mem_singleton, cellR_of h hx]
    constructor
    · rintro ⟨h1, h2⟩
      exact up_inj h h1 hx (by simpa using h2)
    · rintro rfl; exact ⟨hx, by simp⟩
  · rename_i hx
    exact filter_none fun x h' => by simpa using fun e => hx ⟨x, h', e⟩
theorem rows_eqs {M : DataW Cel} (c : CanonK (KeysOf Tryz.prog 9) M) (p : ByteArray) : bytesR ((rowsL M).filter (fun x => decide (x.1 = p))) = if has M (kS p) = true then p.size + sizeL (cellAt M p).l else 0 := by
  rw [up_eqs (rows_up c)]
  cases h : has M (kS p) with
  | true =>
    rw [if_pos ⟨(p, cellAt M p), (rows_mem c _).2 ⟨h, rfl⟩, rfl⟩, if_pos rfl, cellR_rows c]
    simp [bytesR]
  | false =>
    rw [if_neg, if_neg (by simp)]
    · rfl
    · rintro ⟨x, hx, rfl⟩
      have := ((rows_mem c x).1 hx).1
      rw [h] at this; cases this
theorem weight_has {M : DataW Cel} (h : Good Tryz.prog 9 M) (p : ByteArray) : (if has M (kS p) = true then p.size + sizeL (cellAt M p).l else 0) = weightE p (cellAt M p) := by
  cases hh : has M (kS p) with
  | true =>
    obtain ⟨p', c, e, hc, _, h2, _⟩ := h.cells _ hh
    have : cellAt M p = c := cellAt_of hc
    rw [if_pos rfl, this]
    unfold weightE
    rw [if_neg (by simpa using h2)]
  | false =>
    rw [if_neg (by simp), cellAt_none hh]; rfl
theorem bytes_with {l : List Rw} (h : Up l) (r : Rw) : bytesR (withR l r) + bytesR (l.filter (fun x => decide (x.1 = r.1))) = bytesR l + (r.1.size + sizeL r.2.l) := by
  rw [with_eq h, bytesR_append, bytesR_three l r.1]
  show _ + (r.1.size + sizeL r.2.l + _) + _ = _
  unfold pL; omega
theorem bytes_put {M : DataW Cel} (h : Good Tryz.prog 9 M) {p : ByteArray} (hp : KeysOf Tryz.prog 9 (kS p)) {d : Cel} (hd : d.l ≠ []) : (bytesR (rowsL (M.put (kS p) (.held d))) : Int) = bytesR (rowsL M) + ((weightE p d : Int) - (weightE p (cellAt M p) : Int)) := by
  have h1 := bytes_with (rows_up h.canon) (p, d)
  rw [rows_eqs h.canon, weight_has h] at h1
  rw [rows_put h.canon hp]
  have h2 : weightE p d = p.size + sizeL d.l := by unfold weightE; rw [if_neg (by simpa using hd)]
  rw [h2]
  simp only at h1 ⊢
  omega
def editR (l : List Rw) (x : Edt) : Cel × Nat := if x.kind < 1 ∨ 3 < x.kind ∨ mayP x.path = false then (cellR l x.path, 2) else outcomeE (cellR l x.path) x
def runR (l : List Rw) (vs : List Nat) (i : Nat) : List Edt → (Nat × Nat) × List Rw × List Nat
  | [] => ((0, 0), l, vs)
  | x :: t => if (editR l x).2 ≠ 0 then ((i, (editR l x).2), l, vs) else runR (withR l (x.path, (editR l x).1)) (vs ++ [(editR l x).1.last]) (i + 1) t
theorem editR_rows {M : DataW Cel} (c : CanonK (KeysOf Tryz.prog 9) M) (x : Edt) : editR (rowsL M) x = editE M x := by
  unfold editR editE; rw [cellR_rows c]
theorem run_rows (l : List Edt) : ∀ {M : DataW Cel} {vs : List Nat} {B : Int} {i : Nat}, Good Tryz.prog 9 M → B = bytesR (rowsL M) →
    runR (rowsL M) vs i l = ((runT M vs B i l).1, rowsL (runT M vs B i l).2.1, (runT M vs B i l).2.2.1) ∧ (runT M vs B i l).2.2.2 = bytesR (rowsL (runT M vs B i l).2.1) := by
  induction l with
  | nil => intro M vs B i _ hB; exact ⟨rfl, hB⟩
  | cons x t ih =>
    intro M vs B i hg hB
    by_cases he : (editE M x).2 = 0
    · rw [runT_go he, runR, editR_rows hg.canon, if_neg (by simp [he])]
      obtain ⟨a, b, c, d⟩ := edit_ok hg he
      have hK := keysOf_path d
      have h1 := ih (M := stepM M x) (vs := vs ++ [(editE M x).1.last]) (B := B + ((weightE x.path (editE M x).1 : Int) - (weightE x.path (cellAt M x.path) : Int))) (i := i + 1) (hg.step Tryz.underlying9 he) (by
        unfold stepM
        rw [bytes_put hg hK b, hB])
      have e1 : rowsL (stepM M x) = withR (rowsL M) (x.path, (editE M x).1) := by unfold stepM; exact rows_put hg.canon hK _
      rw [e1] at h1
      exact h1
    · rw [runT_stop he, runR, editR_rows hg.canon, if_pos he]
      exact ⟨rfl, hB⟩
end Go.Proofs.YtfbgnpfhjbiikaaGreatDoor

namespace Go.Proofs.YtfbgnpfhjbiikaaGreatDoor
open Go Go.RowKit
def RefErr (r : Cel × Nat) (w : World) (e : Ending) (w' : World) : Prop :=
  ∃ v, e = .returned (.tuple #[.agg #[.int .u64 r.1.last, v], .int .i64 r.2]) ∧ IsVers w' v r.1.l ∧ Below w.heap.size w w'
end Go.Proofs.YtfbgnpfhjbiikaaGreatDoor

namespace Go.Proofs.YtfbgnpfhjbiikaaGreatDoor
open Go Go.RowKit Pth
def CutRel (s : List UInt8) (k p : Nat) (done : List ByteArray) : Prop :=
  (k ≤ s.length ∧ p ≤ k ∧ (∀ c ∈ (s.drop p).take (k - p), c ≠ 47) ∧ done.map (·.data.toList) ++ glue ((s.drop p).take (k - p)) (splitL (s.drop k)) = splitL s) ∨ (k = s.length + 1 ∧ done.map (·.data.toList) = splitL s)
theorem CutRel.start (s : List UInt8) : CutRel s 0 0 [] := by
  left; refine ⟨Nat.zero_le _, Nat.le_refl _, by simp, ?_⟩
  simp [glue_nil _ (splitL_ne s)]
theorem CutRel.skip {s : List UInt8} {k p : Nat} {done : List ByteArray} (h : CutRel s k p done) (hk : k < s.length) (hc : s[k] ≠ 47) : CutRel s (k + 1) p done := by
  rcases h with ⟨_, hp, hno, he⟩ | ⟨h1, _⟩
  · left
    have e1 : (s.drop p).take (k + 1 - p) = (s.drop p).take (k - p) ++ [s[k]] := by
      rw [show k + 1 - p = (k - p) + 1 by omega, List.take_succ_eq_append_getElem (by rw [List.length_drop]; omega)]
      congr 2
      rw [List.getElem_drop]; congr 1; omega
    have e2 : splitL (s.drop k) = glue [s[k]] (splitL (s.drop (k + 1))) := by
      rw [List.drop_eq_getElem_cons hk, splitL, if_neg hc]
    refine ⟨by omega, by omega, ?_, ?_⟩
    · rw [e1]; intro c hc2
      rcases List.mem_append.1 hc2 with h | h
      · exact hno c h
      · rw [List.mem_singleton] at h; subst h; exact hc
    · rw [e2, glue_glue _ _ _ (splitL_ne _)] at he
      rw [e1]; exact he
  · omega
theorem CutRel.last {s : List UInt8} {k p : Nat} {done : List ByteArray} (h : CutRel s k p done) (hk : k = s.length) {x : ByteArray} (hx : x.data.toList = (s.drop p).take (k - p)) : CutRel s (k + 1) (k + 1) (done ++ [x]) := by
  rcases h with ⟨_, hp, hno, he⟩ | ⟨h1, _⟩
  · right
    refine ⟨by omega, ?_⟩
    rw [hk, List.drop_length] at he
    rw [← he, List.map_append]
    simp [splitL, glue, hx, hk]
  · omega
end Go.Proofs.YtfbgnpfhjbiikaaGreatDoor

namespace Go.Proofs.YtfbgnpfhjbiikaaGreatDoor
open Go Go.RowKit Pth
def Agree (p l : List ByteArray) (k : Nat) : Prop := ∀ i, i < k → p.getD i ByteArray.empty = l.getD i ByteArray.empty
theorem Agree.all {p l : List ByteArray} (hl : p.length ≤ l.length) (h : Agree p l p.length) : (p.map (·.data.toList)).isPrefixOf (l.map (·.data.toList)) = true := by
  rw [isPrefixOf_iff']
  refine ⟨(l.drop p.length).map (·.data.toList), ?_⟩
  rw [← List.map_append]
  congr 1
  refine List.ext_getElem (by simp; omega) fun i h1 h2 => ?_
  by_cases hi : i < p.length
  · rw [List.getElem_append_left hi]
    have := h i hi
    rw [List.getD_eq_getElem?_getD, List.getD_eq_getElem?_getD, List.getElem?_eq_getElem hi, List.getElem?_eq_getElem h1] at this
    exact this.symm
  · rw [List.getElem_append_right (by omega), List.getElem_drop]; congr 1; omega
end Go.Proofs.YtfbgnpfhjbiikaaGreatDoor

namespace Go.Proofs.YtfbgnpfhjbiikaaGreatDoor
open Go Go.RowKit Pth Go.Sort
def kidsR (p : List UInt8) (l : List (List UInt8)) : List (List UInt8) := (l.map (childR p)).filter (fun c => !c.isEmpty)
theorem kidsR_snoc (p s : List UInt8) (l : List (List UInt8)) : kidsR p (l ++ [s]) = if childR p s = [] then kidsR p l else kidsR p l ++ [childR p s] := by
  unfold kidsR
  rw [List.map_append, List.filter_append]
  by_cases h : childR p s = []
  · simp [h]
  · simp [h]
structure InsRel (p : List UInt8) (l : List ByteArray) (k : Nat) (Z : List ByteArray) : Prop where
  sorted : (Z.map (·.data.toList)).Pairwise (· < ·)
  mem : ∀ x, x ∈ Z.map (·.data.toList) ↔ x ∈ kidsR p ((l.take k).map (·.data.toList))
  len : Z.length ≤ k
theorem InsRel.start (p : List UInt8) (l : List ByteArray) : InsRel p l 0 [] := ⟨List.Pairwise.nil, fun x => by simp [kidsR], Nat.le_refl _⟩
theorem rtake_map_snoc (l : List ByteArray) (k : Nat) (hk : k < l.length) : (l.take (k + 1)).map (·.data.toList) = (l.take k).map (·.data.toList) ++ [(l.getD k ByteArray.empty).data.toList] := by
  rw [List.take_succ_eq_append_getElem hk, List.map_append, List.getD_eq_getElem?_getD, List.getElem?_eq_getElem hk]; rfl
theorem InsRel.skip {p : List UInt8} {l : List ByteArray} {k : Nat} {Z : List ByteArray} (h : InsRel p l k Z) (hk : k < l.length) {s : ByteArray} (hs : s = l.getD k ByteArray.empty) (hc : childR p s.data.toList = []) : InsRel p l (k + 1) Z := by
  refine ⟨h.sorted, fun x => ?_, Nat.le_succ_of_le h.len⟩
  rw [rtake_map_snoc l k hk, kidsR_snoc, ← hs, if_pos hc]; exact h.mem x
end Go.Proofs.YtfbgnpfhjbiikaaGreatDoor

namespace Go.Proofs.YtfbgnpfhjbiikaaGreatDoor
open Go Go.RowKit
def CapV (v : Value) : Prop := ∀ a n c, v = .slice a n c → n ≤ c
theorem CapV.own {w : World} {B e n k : Nat} {v : Value} {xs : List Value} (h : w.ownsRow B e k v n xs) : CapV v := by
  intro a m c he
  rcases h.2 with ⟨hv, _⟩ | ⟨g, cap, cur, hv, _, _, hn, _⟩
  · rw [hv] at he; cases he; exact Nat.le_refl _
  · rw [hv] at he; cases he; exact hn
end Go.Proofs.YtfbgnpfhjbiikaaGreatDoor

namespace Go.Proofs.YtfbgnpfhjbiikaaGreatDoor
open Go Go.RowKit
open Pth
theorem RefErr.intro {r : Cel × Nat} {w : World} {e : Ending} {w' : World} (h : RefErr r w e w') : ∃ a c, e = .returned (.tuple #[.agg #[.int .u64 r.1.last, .slice a r.1.l.length c], .int .i64 r.2]) ∧ IsVers w' (.slice a r.1.l.length c) r.1.l ∧ Below w.heap.size w w' := by
  obtain ⟨v, he, ⟨a, c, rfl, hc⟩, hb⟩ := h
  exact ⟨a, c, he, ⟨a, c, rfl, hc⟩, hb⟩
end Go.Proofs.YtfbgnpfhjbiikaaGreatDoor

namespace Go.Proofs.YtfbgnpfhjbiikaaGreatDoor
open Go Go.RowKit
open Pth
theorem quiet_skip {P : Program} {ops : Array Oper} {C : World → Prop} {Q : Act → Prop} {a : Act} {o : Oper} {rest : List Oper} (hw : Region.wanted o (yielded ops a.tmps) = false)
    (k : wpQuiet P ops C Q rest (a.put o.dst undef)) : wpQuiet P ops C Q (o :: rest) a := by
  refine wpQuiet_step (fun K hK => ?_)
  rw [if_neg (by rw [hw]; decide)]
  exact hK _ k
structure OkR (R : List Rw) : Prop where
  up : Up R
  ok : ∀ x ∈ R, OkRow x ∧ x.2.last < 18446744073709551616
theorem OkR.cell {R : List Rw} (h : OkR R) (p : ByteArray) : mayC (cellR R p) = true ∧ (cellR R p).last < 18446744073709551616 := by
  unfold cellR
  cases hf : R.find? (fun x => decide (x.1 = p)) with
  | none => exact ⟨mayC_none, by decide⟩
  | some x =>
    have hx := List.mem_of_find?_eq_some hf
    exact ⟨(h.ok x hx).1.2.1, (h.ok x hx).2⟩
theorem OkR.at {R : List Rw} (h : OkR R) {i : Nat} (hi : i < R.length) : OkRow (R.getD i dR) ∧ (R.getD i dR).2.last < 18446744073709551616 := by
  have hm : R.getD i dR ∈ R := by rw [List.getD_eq_getElem?_getD, List.getElem?_eq_getElem hi]; exact List.getElem_mem hi
  exact h.ok _ hm
theorem OkR.bytes {R : List Rw} (h : OkR R) : bytesR R ≤ R.length * 33000 := by
  have : ∀ l : List Rw, (∀ x ∈ l, OkRow x) → bytesR l ≤ l.length * 33000 := by
    intro l
    induction l with
    | nil => intro _; simp [bytesR]
    | cons x t ih =>
      intro hx
      have h1 := ih (fun y hy => hx y (List.mem_cons_of_mem _ hy))
      have h2 := hx x (by simp)
      have h3 := mayP_size h2.1
      have h4 := may_size h2.2.1
      simp only [bytesR, List.length_cons]; omega
  exact this R (fun x hx => (h.ok x hx).1)

structure RefAt (w : World) (t : Nat) (q1 q2 : Int) (R : List Rw) : Prop where
  c0 : w.cell? ⟨t, 0, none⟩ = some (.int .i64 q1)
  c1 : w.cell? ⟨t, 1, none⟩ = some (.int .i64 q2)
  c2 : ∃ a c, w.cell? ⟨t, 2, none⟩ = some (.slice a R.length c) ∧ IsRows w (.slice a R.length c) R ∧ R.length ≤ c
  cn : ∀ j, w.cell? ⟨t, j + 3, none⟩ = none
  f2 : w.frozen? ⟨t, 2, none⟩ = false
theorem RefAt.lt {w : World} {t : Nat} {q1 q2 : Int} {R : List Rw} (h : RefAt w t q1 q2 R) : t < w.heap.size := cell_lt h.c0
theorem RefAt.bare {w : World} {t : Nat} {q1 q2 : Int} {R : List Rw} (h : RefAt w t q1 q2 R) : Bare w t := by
  intro o v h1
  rcases (show o = 0 ∨ o = 1 ∨ o = 2 ∨ ∃ j, o = j + 3 from by rcases o with _ | _ | _ | j <;> simp) with rfl | rfl | rfl | ⟨j, rfl⟩
  · rw [h.c0] at h1; cases h1; exact ⟨fun n => (by simp), fun s => (by simp)⟩
  · rw [h.c1] at h1; cases h1; exact ⟨fun n => (by simp), fun s => (by simp)⟩
  · obtain ⟨a, c, h2, _⟩ := h.c2
    rw [h2] at h1; cases h1; exact ⟨fun n => (by simp), fun s => (by simp)⟩
  · rw [h.cn] at h1; cases h1
theorem RefAt.below {w w' : World} {t : Nat} {q1 q2 : Int} {R : List Rw} (h : RefAt w t q1 q2 R) (hb : Below w.heap.size w w') : RefAt w' t q1 q2 R := by
  have hl := h.lt
  obtain ⟨a, c, h2, hr, hcp⟩ := h.c2
  exact ⟨(hb.cell hl).trans h.c0, (hb.cell hl).trans h.c1, ⟨a, c, (hb.cell hl).trans h2, hr.below hb (Nat.le_refl _), hcp⟩, fun j => (hb.cell hl).trans (h.cn j), (hb.frozen hl).trans h.f2⟩
theorem RefAt.but {S : Nat → Prop} {w w' : World} {t : Nat} {q1 q2 : Int} {R : List Rw} (h : RefAt w t q1 q2 R) (hb : ButS S w w') (hS : ∀ k, S k → NoStr w k ∧ NoVers w k) (ht : ¬ S t) : RefAt w' t q1 q2 R := by
  have hl := h.lt
  obtain ⟨a, c, h2, hr, hcp⟩ := h.c2
  exact ⟨(hb.cell hl ht).trans h.c0, (hb.cell hl ht).trans h.c1, ⟨a, c, (hb.cell hl ht).trans h2, hr.but2 hb hS, hcp⟩, fun j => (hb.cell hl ht).trans (h.cn j), (hb.frozen hl ht).trans h.f2⟩
theorem RefAt.store {w : World} {t : Nat} {q1 q2 : Int} {R R' : List Rw} (h : RefAt w t q1 q2 R) {v : Value} (hr : IsRows w v R') (hcp : CapV v) : RefAt (w.setCell ⟨t, 2, none⟩ v) t q1 q2 R' := by
  have hb := h.bare
  obtain ⟨a', c', h2, _⟩ := h.c2
  have no : ∀ j, j ≠ 2 → (w.setCell ⟨t, 2, none⟩ v).cell? ⟨t, j, none⟩ = w.cell? ⟨t, j, none⟩ := fun j hj => World.cell?_setCell_other _ _ _ _ (by intro e; injection e with _ e; exact hj e.symm)
  have hbut : ButS (fun k => k = t) w (w.setCell ⟨t, 2, none⟩ v) := ButS.set (S := fun k => k = t) w (p := ⟨t, 2, none⟩) rfl _
  have hr2 := hr.but2 hbut (fun k hk => by subst hk; exact ⟨hb.noStr, hb.noVers⟩)
  obtain ⟨a, c, rfl, _⟩ := hr
  refine ⟨(no 0 (by omega)).trans h.c0, (no 1 (by omega)).trans h.c1, ⟨a, c, World.cell?_setCell_same' _ _ _ (by rw [h2]; rfl), hr2, hcp _ _ _ rfl⟩, fun j => (no (j + 3) (by omega)).trans (h.cn j), ?_⟩
  rw [World.frozen?_setCell]; exact h.f2

def overR (R' R : List Rw) (q1 q2 : Int) : Bool := (decide (q1 < (R'.length : Int)) && decide (R.length < R'.length)) || (decide (q2 < (bytesR R' : Int)) && decide (bytesR R < bytesR R'))
def triedR (R : List Rw) (q1 q2 : Int) (l : List Edt) : (Nat × Nat) × List Rw × List Nat :=
  let r := runR R [] 0 l
  if r.1.2 ≠ 0 then r else if overR r.2.1 R q1 q2 then ((l.length, 180), r.2) else r
end Go.Proofs.YtfbgnpfhjbiikaaGreatDoor

namespace Go.Proofs.YtfbgnpfhjbiikaaGreatDoor
open Go Go.RowKit
open Pth
def liveR (R : List Rw) : List ByteArray := (R.filter (fun x => decide (0 < nowC x.2))).map (·.1)
theorem liveR_len (R : List Rw) (k : Nat) : (liveR (R.take k)).length ≤ k := by
  unfold liveR
  rw [List.length_map]
  exact Nat.le_trans (List.length_filter_le _ _) (by simp; omega)
end Go.Proofs.YtfbgnpfhjbiikaaGreatDoor

namespace Go.Proofs.YtfbgnpfhjbiikaaGreatDoor
open Go Go.RowKit
open Pth
theorem IsRows.take {w : World} {a : Option Addr} {cap : Nat} {l : List Rw} (h : IsRows w (.slice a l.length cap) l) {k : Nat} (hk : k ≤ l.length) (cap' : Nat) : IsRows w (.slice a k cap') (l.take k) := by
  obtain ⟨a', c', he, hc⟩ := h
  cases he
  refine ⟨a, cap', by rw [List.length_take, Nat.min_eq_left hk], ?_⟩
  rcases hc with rfl | ⟨b, off, rfl, hb, hcc⟩
  · left; simp
  · right
    refine ⟨b, off, rfl, hb, fun i hi => ?_⟩
    rw [List.length_take, Nat.min_eq_left hk] at hi
    have hg : (l.take k).getD i dR = l.getD i dR := by rw [List.getD_eq_getElem?_getD, List.getD_eq_getElem?_getD, List.getElem?_take_of_lt hi]
    rw [hg]
    exact hcc i (by omega)
end Go.Proofs.YtfbgnpfhjbiikaaGreatDoor

namespace Go.Proofs.YtfbgnpfhjbiikaaGreatDoor
open Go Go.RowKit
open Pth
def offR (R : List Rw) (p : ByteArray) : List Rw := R.filter (fun x => decide (x.1 ≠ p))
theorem OkR.off {R : List Rw} (h : OkR R) (p : ByteArray) : OkR (offR R p) := ⟨h.up.filter _, fun x hx => h.ok x (List.mem_filter.1 hx).1⟩
theorem IsRows.cells {w : World} {b off cap : Nat} {l : List Rw} (h : IsRows w (.slice (some ⟨b, off, none⟩) l.length cap) l) : ∃ T : List (Rw × Value), T.map (·.1) = l ∧ (∀ x ∈ T, IsVers w x.2 x.1.2.l) ∧ ∀ j u, (rowCells T)[j]? = some u → w.cell? ⟨b, off + j, none⟩ = some u := by
  obtain ⟨a', c', he, hc⟩ := h
  cases he
  rcases hc with rfl | ⟨b', off', he, _, hcc⟩
  · exact ⟨[], rfl, fun x hx => (by cases hx), fun j u hu => (by cases hu)⟩
  · cases he
    have hS : ∀ i, ∃ s, i < l.length → w.cell? ⟨b, off + i * 3 + 2, none⟩ = some s ∧ IsVers w s (l.getD i dR).2.l := fun i => by
      by_cases hi : i < l.length
      · obtain ⟨_, _, s, h1, h2⟩ := hcc i hi
        exact ⟨s, fun _ => ⟨h1, h2⟩⟩
      · exact ⟨.slice none 0 0, fun h => absurd h hi⟩
    obtain ⟨S, hS⟩ := Classical.axiomOfChoice hS
    have hlen : ((List.range l.length).map (fun i => (l.getD i dR, S i))).length = l.length := by simp
    have hget : ∀ i, i < l.length → ((List.range l.length).map (fun i => (l.getD i dR, S i))).getD i dRV = (l.getD i dR, S i) := fun i hi => by simp [List.getD_eq_getElem?_getD, hi]
    refine ⟨(List.range l.length).map (fun i => (l.getD i dR, S i)), ?_, ?_, ?_⟩
    · rw [List.map_map]
      refine List.ext_getElem (by simp) fun i h1 h2 => ?_
      simp [List.getD_eq_getElem?_getD, h2]
    · intro x hx
      obtain ⟨i, hi, rfl⟩ := List.mem_map.1 hx
      exact (hS i (List.mem_range.1 hi)).2
    · intro j u hu
      have hj : j < l.length * 3 := by
        have := (List.getElem?_eq_some_iff.1 hu).1
        rwa [rowCells_length, hlen] at this
      obtain ⟨r0, r1, r2⟩ := rowCells_at _ (j / 3) (by rw [hlen]; omega)
      rw [hget _ (by omega)] at r0 r1 r2
      obtain ⟨g0, g1, _⟩ := hcc (j / 3) (by omega)
      obtain ⟨g2, _⟩ := hS (j / 3) (by omega)
      rcases (show j = j / 3 * 3 ∨ j = j / 3 * 3 + 1 ∨ j = j / 3 * 3 + 2 by omega) with e | e | e
      · rw [← e] at r0 g0; rw [r0] at hu; rw [← hu]; exact g0
      · rw [← e] at r1; rw [r1] at hu; rw [← hu]
        have e2 : off + j / 3 * 3 + 1 = off + j := by omega
        rw [e2] at g1; exact g1
      · rw [← e] at r2; rw [r2] at hu; rw [← hu]
        have e2 : off + j / 3 * 3 + 2 = off + j := by omega
        rw [e2] at g2; exact g2
theorem IsVers.one {w : World} {v : Value} {l : List Ver} (h : IsVers w v l) : v.oneCell' = true := by
  obtain ⟨a, c, rfl, _⟩ := h; rfl
end Go.Proofs.YtfbgnpfhjbiikaaGreatDoor

namespace Go.Proofs.YtfbgnpfhjbiikaaGreatDoor
open Go Go.RowKit
open Pth
theorem strs_but {S : Nat → Prop} {w w' : World} {v : Value} {l : List ByteArray} (h : IsStrs w v l) (hb : ButS S w w') (hS : ∀ k, S k → NoStr w k) : IsStrs w' v l := by
  obtain ⟨a, cap, hv, h⟩ := h
  refine ⟨a, cap, hv, ?_⟩
  rcases h with h | ⟨b, off, ha, hlt, hc⟩
  · exact Or.inl h
  · by_cases hl : l = []
    · exact Or.inl hl
    have hne : ¬ S b := fun hs => hS b hs _ _ (hc 0 (List.length_pos_iff.2 hl))
    exact Or.inr ⟨b, off, ha, Nat.lt_of_lt_of_le hlt hb.size, fun i hi => (hb.cell (p := ⟨b, off + i, none⟩) hlt hne).trans (hc i hi)⟩
end Go.Proofs.YtfbgnpfhjbiikaaGreatDoor

namespace Go.Proofs.YtfbgnpfhjbiikaaGreatDoor
open Go Go.RowKit
open Pth
open Go.Maps (has size Canon CanonK Tidy IsMap KeysOf Keyed Merged)
def readT (M : DataW Cel) (p : ByteArray) (n : Nat) : Ver × Nat := if mayP p = false then (dV, 2) else if has M (kS p) = false then (dV, 3) else readE (cellAt M p) n
set_option maxRecDepth 100000 in
set_option maxHeartbeats 2000000 in
theorem tab_read (w : World) {t b : Nat} {q1 q2 B : Int} {M : DataW Cel} (h : TabAt w t b q1 q2 M B) (hg : Good Tryz.prog 9 M) (hm : MX w) (p : ByteArray) (n : Nat) (hp : p.size ≤ 140737488351232) :
    Calls Tryz.prog 20 #[.pointer (some ⟨t, 0, none⟩), .string p, .int .u64 n] w fun e w' => e = .returned (.tuple #[verVal (readT M p n).1, .int .i64 (readT M p n).2]) ∧ Below w.heap.size w w' := by
  have HRR : Hid (readT M p n = if mayP p = false then (dV, 2) else if has M (kS p) = false then (dV, 3) else readE (cellAt M p) n) := Lib.hid rfl
  generalize readT M p n = r at HRR
  have HT := Lib.hid h; have HM := Lib.hid hm
  have Hmade := Lib.hid (fun (w' : World) (hb : Below w.heap.size w w') => tab_made w' (h.below hb))
  have HP := Lib.hid (fun (w' : World) (hb : Below w.heap.size w w') => path_may p hp w' (hm.below hb (Nat.le_refl _)))
  have HRD := Lib.hid (fun (s : Value) (w' : World) (hs : IsVers w' s (cellAt M p).l) => cell_read (cellAt M p) s n w' hs (by have := may_len (hg.cellAt p).1; omega))
  have HL := Lib.hid (fun (w' : World) (h' : TabAt w' t b q1 q2 M B) => h'.m.look2 p (by unfold maxLen; omega))
  have hy : mayP p = mayL p.data.toList := rfl
  rw [hy] at HRR
  clear hy
  generalize mayL p.data.toList = y at HRR HP
  generalize has M (kS p) = hs0 at HRR HL
  generalize readE (cellAt M p) n = E at HRR HRD
  generalize cellAt M p = C at HRD HL
  clear h hg hm
  go_enter Tryz.func20, Tryz.ntmps20
  go_upto_region 1 with fail
  refine wp_abs (F := fun W => One w.heap.size #[.int .u64 0, .int .u8 0, .string ByteArray.empty] W ∧ Below w.heap.size w W) ⟨One.of w _ _, (Below.refl _ _).alloc (Nat.le_refl _) _⟩ ?_
  rintro W ⟨ho, hb⟩
  have HO := Lib.hid ho; have HB := Lib.hid hb
  clear ho hb
  have Hend : Hid (∀ (U : World) (u0 u1 u2 : Value), Below w.heap.size w U → Below w.heap.size w (((U.setCell ⟨w.heap.size, 0, none⟩ u0).setCell ⟨w.heap.size, 1, none⟩ u1).setCell ⟨w.heap.size, 2, none⟩ u2)) := Lib.hid (fun U u0 u1 u2 h => ((h.setCell (Nat.le_refl _) _).setCell (Nat.le_refl _) _).setCell (Nat.le_refl _) _)
  go_wp2_with fail
  refine (Hmade.out _ HB.out).mono ?_
  rintro e w1 ⟨rfl, hb1⟩
  have HB1 := Lib.hid (HB.out.trans (hb1.mono HB.out.size))
  have HO1 := Lib.hid (HO.out.step hb1)
  clear hb1
  go_wp2_with fail
  refine (HP.out _ HB1.out).mono ?_
  rintro e w2 ⟨rfl, hb2⟩
  have HB2 := Lib.hid (HB1.out.trans (hb2.mono HB1.out.size))
  have HO2 := Lib.hid (HO1.out.step hb2)
  have hT2 := HT.out.below HB2.out
  have c2 := hT2.c2
  obtain ⟨s, is, hise, hs, hl, _⟩ := HL.out w2 hT2
  have HS := Lib.hid hs
  obtain ⟨sa, sc, rfl, _⟩ := hs
  have z0 := HO2.out.c 0; have z1 := HO2.out.c 1; have z2 := HO2.out.c 2; have g0 := HO2.out.f 0; have g1 := HO2.out.f 1; have g2 := HO2.out.f 2
  simp at z0 z1 z2
  clear hb2 hT2
  cases y with
  | false =>
    obtain rfl : r = (dV, 2) := by rw [HRR.out, if_pos rfl]
    go_wp2_with fail
    refine bodyPost_ret (v := .tuple #[verVal dV, .int .i64 2]) ?_ rfl ⟨rfl, Hend.out _ _ _ _ HB2.out⟩
    simp [results, Tryz.results20, go_sem, z0, z1, z2, verVal, dV]; rfl
  | true =>
    go_upto_region 6 with fail
    refine wp_abs (F := fun X => One w.heap.size #[.int .u64 0, .int .u8 0, .string ByteArray.empty] X ∧ One w2.heap.size #[.int .u64 C.last, .slice sa C.l.length sc] X ∧ IsVers X (.slice sa C.l.length sc) C.l ∧ Below w.heap.size w X) ⟨HO2.out.step ((Below.refl _ _).alloc (Nat.le_refl _) _), One.of _ _ _, HS.out.below ((Below.refl _ _).alloc (Nat.le_refl _) _) (Nat.le_refl _), HB2.out.alloc HB2.out.size _⟩ ?_
    rintro X ⟨o1, o2, hsX, hbX⟩
    clear z0 z1 z2 g0 g1 g2 c2 hl
    have y0 := o2.c 0; have y1 := o2.c 1
    have z0 := o1.c 0; have z1 := o1.c 1; have z2 := o1.c 2; have g0 := o1.f 0; have g1 := o1.f 1; have g2 := o1.f 2
    simp at y0 y1 z0 z1 z2
    have O1 := Lib.hid o1; have HSX := Lib.hid hsX; have HBX := Lib.hid hbX
    clear o1 o2 hsX hbX
    subst hise
    cases is with
    | false =>
      obtain rfl : r = (dV, 3) := by rw [HRR.out, if_neg (by simp), if_pos rfl]
      go_wp2_with fail
      refine bodyPost_ret (v := .tuple #[verVal dV, .int .i64 3]) ?_ rfl ⟨rfl, Hend.out _ _ _ _ HBX.out⟩
      simp [results, Tryz.results20, go_sem, z0, z1, z2, verVal, dV]; rfl
    | true =>
      obtain rfl : r = E := by rw [HRR.out, if_neg (by simp), if_neg (by simp)]
      go_wp2_with fail
      refine (HRD.out _ _ HSX.out).mono ?_
      rintro e w3 ⟨rfl, hb3⟩
      have HO3 := Lib.hid (O1.out.step hb3)
      have HB3 := Lib.hid (HBX.out.trans (hb3.mono HBX.out.size))
      clear z0 z1 z2 g0 g1 g2
      have z0 := HO3.out.c 0; have z1 := HO3.out.c 1; have z2 := HO3.out.c 2; have g0 := HO3.out.f 0; have g1 := HO3.out.f 1; have g2 := HO3.out.f 2
      simp at z0 z1 z2
      clear hb3
      unfold verVal
      go_wp2_with fail
      refine bodyPost_ret (v := .tuple #[verVal r.1, .int .i64 r.2]) ?_ rfl ⟨rfl, Hend.out _ _ _ _ HB3.out⟩
      simp [results, Tryz.results20, go_sem, z0, z1, z2, verVal]
end Go.Proofs.YtfbgnpfhjbiikaaGreatDoor

namespace Go.Proofs.YtfbgnpfhjbiikaaGreatDoor
open Go Go.RowKit
open Pth
open Go.Maps (has size Canon CanonK Tidy IsMap KeysOf Keyed Merged)
def seenN (l : List Rw) (k : Nat) (q : ByteArray) : Int := if (l.take k).any (fun x => decide (x.1 = q)) then 1 else 0
def SeenRel (l : List Rw) (k : Nat) (D : DataW Unit) : Prop := IsMap D ∧ ∀ q : ByteArray, D.atKey (kS q) (.lit (.int .i64 0)) = .lit (.int .i64 (seenN l k q))
theorem SeenRel.start (l : List Rw) : SeenRel l 0 (.map []) := ⟨Maps.isMap_empty, fun _q => rfl⟩
theorem SeenRel.step {l : List Rw} {k : Nat} {D : DataW Unit} (h : SeenRel l k D) (hk : k < l.length) {x : Rw} (hx : l.getD k dR = x) {cc : Int} (hcc : D.atKey (kS x.1) (.lit (.int .i64 0)) = .lit (.int .i64 cc)) (h0 : ¬ 0 < cc) : SeenRel l (k + 1) (D.put (kS x.1) (.lit (.int .i64 (wrap64 (cc + 1))))) := by
  have he : cc = seenN l k x.1 := by
    have := (h.2 x.1).symm.trans hcc
    injection this with this
    injection this with _ this
    exact this.symm
  have hc0 : cc = 0 := by
    unfold seenN at he
    split at he <;> omega
  have hs : ∀ q, seenN l (k + 1) q = if x.1 = q then 1 else seenN l k q := by
    intro q
    unfold seenN
    rw [List.take_succ_eq_append_getElem hk, List.any_append, List.any_cons, List.any_nil]
    have hg : l[k] = x := by rw [← hx, List.getD_eq_getElem?_getD, List.getElem?_eq_getElem hk]; rfl
    rw [hg]
    by_cases e : x.1 = q
    · rw [if_pos e]; simp [e]
    · have hd : decide (x.1 = q) = false := decide_eq_false e
      rw [if_neg e, hd, Bool.or_false, Bool.or_false]
  refine ⟨h.1.put _ _, fun q => ?_⟩
  rw [hs q]
  by_cases e : x.1 = q
  · subst e
    rw [if_pos rfl, Maps.atKey_put_same h.1 (kS_key _), hc0]
    exact congrArg (fun z => DataW.lit (.int .i64 z)) (by unfold wrap64; omega)
  · rw [if_neg e, Maps.atKey_put_other (kS_ne (fun h => e h.symm))]
    exact h.2 q

end Go.Proofs.YtfbgnpfhjbiikaaGreatDoor

namespace Go.Proofs.YtfbgnpfhjbiikaaGreatDoor
open Go Go.RowKit
open Pth
open Go.Maps (has size Canon CanonK Tidy IsMap KeysOf Keyed Merged)
theorem sorted_ext : ∀ (a b : List (List UInt8)), a.Pairwise (· < ·) → b.Pairwise (· < ·) → (∀ x, x ∈ a ↔ x ∈ b) → a = b
  | [], [], _, _, _ => rfl
  | [], y :: t, _, _, h => by have := (h y).2 (by simp); simp at this
  | x :: t, [], _, _, h => by have := (h x).1 (by simp); simp at this
  | x :: s, y :: t, ha, hb, h => by
    rw [List.pairwise_cons] at ha hb
    have hxy : x = y := by
      rcases List.mem_cons.1 ((h x).1 (by simp)) with e | h1
      · exact e
      · rcases List.mem_cons.1 ((h y).2 (by simp)) with e | h2
        · exact e.symm
        · exact absurd (List.lt_trans (ha.1 y h2) (hb.1 x h1)) (List.lt_irrefl _)
    subst hxy
    congr 1
    refine sorted_ext s t ha.2 hb.2 fun z => ?_
    constructor
    · intro hz
      rcases List.mem_cons.1 ((h z).1 (List.mem_cons_of_mem _ hz)) with e | h1
      · subst e; exact absurd (ha.1 z hz) (List.lt_irrefl _)
      · exact h1
    · intro hz
      rcases List.mem_cons.1 ((h z).2 (List.mem_cons_of_mem _ hz)) with e | h1
      · subst e; exact absurd (hb.1 z hz) (List.lt_irrefl _)
      · exact h1
theorem names_sorted (p : List UInt8) (l : List (List UInt8)) : (namesL p l).Pairwise (· < ·) := by
  unfold namesL
  have h1 := List.pairwise_mergeSort (le := fun x y : List UInt8 => decide (x ≤ y)) (fun a b c h1 h2 => by simp only [decide_eq_true_eq] at *; exact List.le_trans h1 h2) (fun a b => by simp only [Bool.or_eq_true, decide_eq_true_eq]; exact List.le_total a b) (nub (kidsL p l))
  have h2 : ((nub (kidsL p l)).mergeSort (fun x y => decide (x ≤ y))).Nodup := (List.mergeSort_perm _ _).nodup_iff.2 (nub_nodup _)
  have h3 := h1.and h2
  refine h3.imp ?_
  rintro a b ⟨hab, hne⟩
  simp only [decide_eq_true_eq] at hab
  rcases List.le_iff_lt_or_eq.1 hab with h | h
  · exact h
  · exact absurd h hne
theorem names_mem (p x : List UInt8) (l : List (List UInt8)) : x ∈ namesL p l ↔ x ∈ kidsL p l := by
  unfold namesL; rw [(List.mergeSort_perm _ _).mem_iff, mem_nub]
theorem names_len (p : List UInt8) (l : List (List UInt8)) : (namesL p l).length ≤ l.length := by
  unfold namesL
  rw [List.length_mergeSort]
  have h1 : ∀ m : List (List UInt8), (nub m).length ≤ m.length := by
    intro m; induction m with
    | nil => simp [nub]
    | cons a t ih => unfold nub; split <;> simp <;> omega
  refine Nat.le_trans (h1 _) ?_
  unfold kidsL; rw [List.length_map]; exact List.length_filter_le _ _
theorem kids_mem (p x : List UInt8) (l : List (List UInt8)) : x ∈ kidsL p l ↔ ∃ s ∈ l, underL p s = true ∧ childL p s = x := by
  unfold kidsL
  rw [List.mem_map]
  constructor
  · rintro ⟨s, hs, rfl⟩
    obtain ⟨hs, hu⟩ := List.mem_filter.1 hs
    exact ⟨s, hs, hu, rfl⟩
  · rintro ⟨s, hs, hu, rfl⟩
    exact ⟨s, List.mem_filter.2 ⟨hs, hu⟩, rfl⟩
theorem names_same {p : List UInt8} {L L' : List ByteArray} (h : ∀ s, s ∈ L ↔ s ∈ L') : namesL p (L.map (·.data.toList)) = namesL p (L'.map (·.data.toList)) := by
  refine sorted_ext _ _ (names_sorted _ _) (names_sorted _ _) fun x => ?_
  rw [names_mem, names_mem, kids_mem, kids_mem]
  constructor
  · rintro ⟨s, hs, h1⟩
    obtain ⟨y, hy, rfl⟩ := List.mem_map.1 hs
    exact ⟨_, List.mem_map.2 ⟨y, (h y).1 hy, rfl⟩, h1⟩
  · rintro ⟨s, hs, h1⟩
    obtain ⟨y, hy, rfl⟩ := List.mem_map.1 hs
    exact ⟨_, List.mem_map.2 ⟨y, (h y).2 hy, rfl⟩, h1⟩
theorem live_mem {M : DataW Cel} (c : CanonK (KeysOf Tryz.prog 9) M) (s : ByteArray) : s ∈ liveR (rowsL M) ↔ (has M (kS s) = true ∧ 0 < nowC (cellAt M s)) := by
  unfold liveR
  rw [List.mem_map]
  constructor
  · rintro ⟨x, hx, rfl⟩
    obtain ⟨hx, hn⟩ := List.mem_filter.1 hx
    obtain ⟨h1, h2⟩ := (rows_mem c x).1 hx
    rw [h2]
    exact ⟨h1, by simpa using hn⟩
  · rintro ⟨h1, h2⟩
    exact ⟨(s, cellAt M s), List.mem_filter.2 ⟨(rows_mem c _).2 ⟨h1, rfl⟩, by simpa using h2⟩, rfl⟩
theorem Good.okR {M : DataW Cel} (h : Good Tryz.prog 9 M) : OkR (rowsL M) := ⟨rows_up h.canon, fun x hx => by
  obtain ⟨h1, h2⟩ := (rows_mem h.canon x).1 hx
  obtain ⟨p, c, e, hc, k1, k2, k3, k4⟩ := h.cells _ h1
  have hp : p = x.1 := by
    by_cases e2 : p = x.1
    · exact e2
    · exact absurd e.symm (kS_ne e2)
  subst hp
  rw [cellAt_of hc] at h2
  subst h2
  exact ⟨⟨k4, k1, k2⟩, k3⟩⟩
theorem tried_rows {M : DataW Cel} {B q1 q2 : Int} {l : List Edt} (hg : Good Tryz.prog 9 M) (hB : B = bytesR (rowsL M)) :
    triedR (rowsL M) q1 q2 l = ((triedT M B q1 q2 l).1, rowsL (triedT M B q1 q2 l).2.1, (triedT M B q1 q2 l).2.2.1) ∧ (triedT M B q1 q2 l).2.2.2 = bytesR (rowsL (triedT M B q1 q2 l).2.1) := by
  obtain ⟨a1, a2⟩ := run_rows l (vs := []) (B := B) (i := 0) hg hB
  obtain ⟨g1, _, _, _⟩ := runT_facts Tryz.underlying9 l (vs := []) (B := B) (i := 0) hg
  have ho : overR (rowsL (runT M [] B 0 l).2.1) (rowsL M) q1 q2 = overT ((runT M [] B 0 l).2.1, (runT M [] B 0 l).2.2.2) M B q1 q2 := by
    unfold overR overT
    simp only
    rw [rows_length g1.canon, rows_length hg.canon, a2]
    subst hB
    have e : decide (bytesR (rowsL M) < bytesR (rowsL (runT M [] (bytesR (rowsL M)) 0 l).2.1)) = decide ((bytesR (rowsL M) : Int) < (bytesR (rowsL (runT M [] (bytesR (rowsL M)) 0 l).2.1) : Int)) := decide_eq_decide.2 (by omega)
    rw [e]
  have e1 : (triedT M B q1 q2 l).2 = (runT M [] B 0 l).2 := tried_eq M B q1 q2 l
  refine ⟨?_, by rw [e1]; exact a2⟩
  rw [e1]
  unfold triedR triedT
  simp only
  rw [a1]
  simp only
  rw [ho]
  split
  · rfl
  · split <;> rfl
end Go.Proofs.YtfbgnpfhjbiikaaGreatDoor

namespace Go.Proofs.YtfbgnpfhjbiikaaGreatDoor
open Go Go.RowKit
open Pth
open Go.Maps (has size Canon CanonK Tidy IsMap KeysOf Keyed Merged)
theorem IsEdts.but2 {S : Nat → Prop} {w w' : World} {v : Value} {l : List Edt} (h : IsEdts w v l) (hb : ButS S w w') (hS : ∀ k, S k → NoStr w k) : IsEdts w' v l := by
  obtain ⟨a, cap, hv, h⟩ := h
  refine ⟨a, cap, hv, ?_⟩
  rcases h with h | ⟨b, off, ha, hlt, hc⟩
  · exact Or.inl h
  · by_cases hl : l = []
    · exact Or.inl hl
    have hn : ¬ S b := fun hs => hS b hs _ _ (hc 0 (List.length_pos_iff.2 hl)).2.1
    refine Or.inr ⟨b, off, ha, by have := hb.size; omega, fun i hi => ?_⟩
    obtain ⟨h0, h1, h2, h3, h4, h5⟩ := hc i hi
    exact ⟨(hb.cell hlt hn).trans h0, (hb.cell hlt hn).trans h1, (hb.cell hlt hn).trans h2, (hb.cell hlt hn).trans h3, (hb.cell hlt hn).trans h4, (hb.cell hlt hn).trans h5⟩

structure ActX where
  dd : Nat
  es : List Edt
  rs : List Rw
  pp : List ByteArray
def dX : ActX := ⟨0, [], [], []⟩
structure ActIs (w : World) (ve vr vp : Value) (x : ActX) : Prop where
  e : IsEdts w ve x.es
  r : ∃ a c, vr = .slice a x.rs.length c ∧ x.rs.length ≤ c ∧ IsRows w vr x.rs
  p : IsStrs w vp x.pp
structure ActSz (x : ActX) : Prop where
  d : x.dd < 256
  e : x.es.length ≤ 2048
  r : x.rs.length ≤ 2048
  p : x.pp.length ≤ 2048
  wf : RowsWf x.rs
  es : ∀ i, i < x.es.length → (x.es.getD i dE).path.size ≤ 140737488351232 ∧ (x.es.getD i dE).text.size ≤ 9223372036854775807
  rs : ∀ i, i < x.rs.length → (x.rs.getD i dR).1.size ≤ 140737488351232 ∧ (x.rs.getD i dR).2.l.length ≤ 4398046511104
  pz : ∀ i, i < x.pp.length → (x.pp.getD i ByteArray.empty).size ≤ 140737488351232
theorem ActIs.but {S : Nat → Prop} {w w' : World} {ve vr vp : Value} {x : ActX} (h : ActIs w ve vr vp x) (hb : ButS S w w') (hS : ∀ k, S k → NoStr w k ∧ NoVers w k) : ActIs w' ve vr vp x :=
  ⟨h.e.but2 hb (fun k hk => (hS k hk).1), (let ⟨a, c, h1, h2, h3⟩ := h.r; ⟨a, c, h1, h2, h3.but2 hb hS⟩), strs_but h.p hb (fun k hk => (hS k hk).1)⟩
theorem ActIs.below {w w' : World} {ve vr vp : Value} {x : ActX} (h : ActIs w ve vr vp x) (hb : Below w.heap.size w w') : ActIs w' ve vr vp x :=
  ⟨h.e.below hb (Nat.le_refl _), (let ⟨a, c, h1, h2, h3⟩ := h.r; ⟨a, c, h1, h2, h3.below hb (Nat.le_refl _)⟩), h.p.below hb (Nat.le_refl _)⟩
structure Duo (w : World) (t b r : Nat) (q1 q2 p1 p2 : Int) (M : DataW Cel) (R : List Rw) : Prop where
  hT : TabAt w t b q1 q2 M (bytesR (rowsL M))
  hG : Good Tryz.prog 9 M
  hR : RefAt w r p1 p2 R
  hO : OkR R
  n1 : t ≠ r
  n2 : b ≠ r
abbrev S3 (t b r : Nat) : Nat → Prop := fun k => k = t ∨ k = b ∨ k = r
theorem Duo.below {w w' : World} {t b r : Nat} {q1 q2 p1 p2 : Int} {M : DataW Cel} {R : List Rw} (h : Duo w t b r q1 q2 p1 p2 M R) (hb : Below w.heap.size w w') : Duo w' t b r q1 q2 p1 p2 M R :=
  ⟨h.hT.below hb, h.hG, h.hR.below hb, h.hO, h.n1, h.n2⟩
theorem good_bytes {M : DataW Cel} (h : Good Tryz.prog 9 M) : bytesR (rowsL M) ≤ size M * 33000 := by
  have := h.okR.bytes
  rw [rows_length h.canon] at this
  exact this
end Go.Proofs.YtfbgnpfhjbiikaaGreatDoor

namespace Go.Proofs.YtfbgnpfhjbiikaaGreatDoor
open Go Go.RowKit
open Pth
open Go.Maps (has size Canon CanonK Tidy IsMap KeysOf Keyed Merged)
def AbvMap (B0 : Nat) (w : World) (fb : Nat) (F : DataW Cel) : Prop :=
  HoldsMap Tryz.prog 9 (fun v c => ∃ s, v = .agg #[.int .u64 c.last, s] ∧ IsVers w s c.l ∧ (c.l ≠ [] → ∀ kb, s.ownBlock = some kb → B0 ≤ kb)) w fb F
theorem AbvMap.map {B0 : Nat} {w : World} {fb : Nat} {F : DataW Cel} (h : AbvMap B0 w fb F) : CelMap w fb F := h.move rfl (fun _ _ ⟨s, e, hs, _⟩ => ⟨s, e, hs⟩)
theorem AbvMap.below {B0 : Nat} {w w' : World} {fb : Nat} {F : DataW Cel} (h : AbvMap B0 w fb F) (hb : Below w.heap.size w w') : AbvMap B0 w' fb F :=
  HoldsMap.move h (hb.block fb (HoldsMap.lt h)) (fun _ _ ⟨s, e, hs, ho⟩ => ⟨s, e, hs.below hb (Nat.le_refl _), ho⟩)
theorem AbvMap.put {B0 : Nat} {w : World} {fb : Nat} {F : DataW Cel} (h : AbvMap B0 w fb F) : ∃ D, w.ownsMap Tryz.prog 9 heldR fb (size F) D ∧
    ∀ (w' : World) (n : Nat) (p : ByteArray) (c : Cel) (s : Value), p.size ≤ maxLen → IsVers w s c.l → (c.l ≠ [] → ∀ kb, s.ownBlock = some kb → B0 ≤ kb) →
      w'.ownsMap Tryz.prog 9 heldR fb n (D.put (kS p) (.held (.agg #[.int .u64 c.last, s]))) → w.grownBy w' (some fb) → AbvMap B0 w' fb (F.put (kS p) (.held c)) := by
  obtain ⟨D, ho, ha⟩ := h
  refine ⟨D, ho, fun w' n p c s hp hs hso ho' hg => ?_⟩
  have hnone := ownsMap_none ho
  exact HoldsMap.of ho' ((ha.mono (fun v c ⟨s, e, hs, hoff⟩ => ⟨s, e, hs.grown hg hnone, hoff⟩)).put strKeyed (ho.tidy strKeyed) ⟨_, keyS Tryz.underlying9 hp⟩ ⟨s, rfl, hs.grown hg hnone, hso⟩)
theorem AbvMap.nil {B0 : Nat} {w : World} {fb : Nat} (h : CelMap w fb (.map [])) : AbvMap B0 w fb (.map []) := by
  obtain ⟨D, ho, ha⟩ := h
  exact HoldsMap.of ho ⟨ha.canon, ha.keys, ha.sizes, fun k hk => by cases hk⟩
end Go.Proofs.YtfbgnpfhjbiikaaGreatDoor

namespace Go.Proofs.YtfbgnpfhjbiikaaGreatDoor
open Go Go.RowKit
open Go.Maps (has size Canon CanonK Tidy IsMap KeysOf Keyed Merged)
def RowsOwn (B : Nat) (w : World) (T : List (Rw × Value)) (o : Option Nat) : Prop := ∀ x ∈ T, w.ownsRow B 50 3 x.2 x.1.2.l.length (flat x.1.2.l) ∧ ∀ kb, x.2.ownBlock = some kb → o ≠ some kb
theorem RowsOwn.below {B : Nat} {w w' : World} {T : List (Rw × Value)} {o : Option Nat} (h : RowsOwn B w T o) (hb : Below w.heap.size w w') : RowsOwn B w' T o := fun x hx => ⟨ownBelow (h x hx).1 hb, (h x hx).2⟩
theorem own_lt {w : World} {B e n k : Nat} {v : Value} {xs : List Value} (h : w.ownsRow B e k v n xs) {kb : Nat} (hk : v.ownBlock = some kb) : kb < w.heap.size := by
  rcases h.2 with ⟨hv, _⟩ | ⟨g, cap, cur, hv, hB, hg, _⟩
  · rw [hv] at hk; cases hk
  · rw [hv] at hk; cases hk; exact lt_of_block hg
theorem own_off {w w' : World} {B e n k : Nat} {v : Value} {xs : List Value} {o : Option Nat} (h : w.ownsRow B e k v n xs) (hg : w.grownBy w' o) (ho : ∀ kb, v.ownBlock = some kb → o ≠ some kb) : w'.ownsRow B e k v n xs := by
  refine ⟨h.1, ?_⟩
  rcases h.2 with hn | ⟨g, cap, cur, hv, hBg, hc, rest⟩
  · exact Or.inl hn
  · exact Or.inr ⟨g, cap, cur, hv, hBg, (hg.block g (lt_of_block hc) (fun e => ho g (by rw [hv]; rfl) e.symm)).trans hc, rest⟩
theorem RowsOwn.row {B : Nat} {w w' : World} {T : List (Rw × Value)} {o o' : Option Nat} (h : RowsOwn B w T o) (hg : w.grownBy w' o) (ho : o' = o ∨ o' = some w.heap.size) : RowsOwn B w' T o' := by
  intro x hx
  obtain ⟨h1, h2⟩ := h x hx
  refine ⟨own_off h1 hg h2, fun kb hk => ?_⟩
  rcases ho with rfl | rfl
  · exact h2 kb hk
  · intro e
    have := own_lt h1 hk
    cases e; omega
theorem RowsOwn.off {B : Nat} {w : World} {T : List (Rw × Value)} {o : Option Nat} (h : RowsOwn B w T o) : RowsOff w T o := fun x hx => ⟨IsVers.own (h x hx).1, fun _ => (h x hx).2⟩
end Go.Proofs.YtfbgnpfhjbiikaaGreatDoor

namespace Go.Proofs.YtfbgnpfhjbiikaaGreatDoor
open Go Go.RowKit
open Pth
open Go.Maps (has size Canon CanonK Tidy IsMap KeysOf Keyed Merged)
theorem next_bytes {M : DataW Cel} {q1 q2 : Int} {l : List Edt} (hg : Good Tryz.prog 9 M) : nextB (triedT M (bytesR (rowsL M)) q1 q2 l) (bytesR (rowsL M)) = bytesR (rowsL (nextM (triedT M (bytesR (rowsL M)) q1 q2 l) M)) := by
  have h := (tried_rows (q1 := q1) (q2 := q2) (l := l) hg rfl).2
  unfold nextB nextM
  split
  · exact h
  · rfl
theorem next_len {M : DataW Cel} {B q1 q2 : Int} {l : List Edt} : (nextV (triedT M B q1 q2 l)).length ≤ l.length := by
  unfold nextV
  split
  · rw [tried_eq]; have := (runT_zero l (N := M) (vs := []) (B := B) (i := 0)).2; simpa using this
  · simp
end Go.Proofs.YtfbgnpfhjbiikaaGreatDoor

namespace Go.Proofs.YtfbgnpfhjbiikaaGreatDoor
open Go Go.RowKit
open Pth
open Go.Maps (has size Canon CanonK Tidy IsMap KeysOf Keyed Merged)
def ValC (t r m c : Nat) (by0 sz : Int) (a : Option Addr) : Nat → Value → Prop
  | 0 => fun v => v = .pointer (some ⟨t, 0, none⟩)
  | 2 => fun v => v = .pointer (some ⟨r, 0, none⟩)
  | 3 => fun v => v = .pointer (some ⟨r, 0, none⟩)
  | 4 => fun v => v = .pointer (some ⟨r, 2, none⟩)
  | 5 => fun v => v = .slice a m c
  | 6 => fun v => v = .bool true
  | 7 => fun v => v = .bool true
  | 8 => fun v => v = .int .i64 sz
  | 9 => fun v => v = .pointer (some ⟨r, 0, none⟩)
  | 10 => fun v => v = .pointer (some ⟨r, 0, none⟩)
  | 11 => fun v => v = .pointer (some ⟨r, 2, none⟩)
  | 12 => fun v => v = .slice a m c
  | 13 => fun v => v = .int .i64 (m : Int)
  | 14 => fun v => v = .bool true
  | 15 => fun v => v = .bool true
  | 16 => fun v => v = .bool true
  | 17 => fun v => v = .int .i64 by0
  | 18 => fun v => v = .pointer (some ⟨r, 0, none⟩)
  | 19 => fun v => v = .pointer (some ⟨r, 0, none⟩)
  | 20 => fun v => v = .pointer (some ⟨r, 2, none⟩)
  | 21 => fun v => v = .slice a m c
  | 22 => fun v => v = .int .i64 by0
  | 23 => fun v => v = .bool true
  | 24 => fun v => v = .bool true
  | 25 => fun v => v = .bool true
  | _ => fun _ => False
def ValS (L : List Rw) (t r m c : Nat) (by0 sz : Int) (a : Option Addr) (i : Nat) (v : Value) (w : World) : Prop := if i = 1 then IsRows w v L else ValC t r m c by0 sz a i v
theorem ValS.mono {L : List Rw} {t r m c : Nat} {by0 sz : Int} {a : Option Addr} {w w' : World} (hb : Below w.heap.size w w') (j : Nat) (u : Value) (h : ValS L t r m c by0 sz a j u w) : ValS L t r m c by0 sz a j u w' := by
  unfold ValS at h ⊢
  split at h
  · rename_i e; rw [if_pos e]; exact IsRows.below h hb (Nat.le_refl _)
  · rename_i e; rw [if_neg e]; exact h
end Go.Proofs.YtfbgnpfhjbiikaaGreatDoor

namespace Go.Proofs.YtfbgnpfhjbiikaaGreatDoor
open Go Go.RowKit
open Pth
open Go.Maps (has size Canon CanonK Tidy IsMap KeysOf Keyed Merged)
def NewT (B : Nat) (q1 q2 : Int) (v : Value) (w : World) : Prop := ∃ t b, v = .pointer (some ⟨t, 0, none⟩) ∧ B ≤ t ∧ B ≤ b ∧ TabAt w t b q1 q2 (.map []) 0
def NewR (B : Nat) (q1 q2 : Int) (v : Value) (w : World) : Prop := ∃ r, v = .pointer (some ⟨r, 0, none⟩) ∧ B ≤ r ∧ One r #[.int .i64 q1, .int .i64 q2, .slice none 0 0] w
def ValT (B : Nat) (q1 q2 : Int) : Nat → Value → World → Prop
  | 0 => fun v _ => v = .agg #[.int .i64 q1, .int .i64 q2]
  | 1 => NewT B q1 q2
  | 2 => fun v _ => v = .agg #[.int .i64 q1, .int .i64 q2]
  | 3 => fun v _ => v = .agg #[.int .i64 q1, .int .i64 q2, .slice none 0 0]
  | 4 => NewR B q1 q2
  | 5 => NewT B q1 q2
  | 6 => NewR B q1 q2
  | _ => fun _ _ => False
theorem NewT.below {B : Nat} {q1 q2 : Int} {v : Value} {w w' : World} (h : NewT B q1 q2 v w) (hb : Below w.heap.size w w') : NewT B q1 q2 v w' := by
  obtain ⟨t, b, h1, h2, h3, h4⟩ := h
  exact ⟨t, b, h1, h2, h3, h4.below hb⟩
theorem NewR.below {B : Nat} {q1 q2 : Int} {v : Value} {w w' : World} (h : NewR B q1 q2 v w) (hb : Below w.heap.size w w') : NewR B q1 q2 v w' := by
  obtain ⟨r, h1, h2, h3⟩ := h
  exact ⟨r, h1, h2, h3.step hb⟩
theorem ValT.mono {B : Nat} {q1 q2 : Int} {w w' : World} (hb : Below w.heap.size w w') (j : Nat) (u : Value) (h : ValT B q1 q2 j u w) : ValT B q1 q2 j u w' := by
  rcases j with _ | _ | _ | _ | _ | _ | _ | j
  · exact h
  · exact NewT.below h hb
  · exact h
  · exact h
  · exact NewR.below h hb
  · exact NewT.below h hb
  · exact NewR.below h hb
  · exact h
end Go.Proofs.YtfbgnpfhjbiikaaGreatDoor

namespace Go.Proofs.YtfbgnpfhjbiikaaGreatDoor
open Go Go.RowKit
open Pth
open Go.Maps (has size Canon CanonK Tidy IsMap KeysOf Keyed Merged)
def ActX.toM (x : ActX) : Actm := ⟨x.es, x.rs, x.pp.length⟩
def IsActX (w : World) (b off : Nat) (x : ActX) : Prop :=
  ∃ ve vr vp, w.cell? ⟨b, off, none⟩ = some (.int .u8 x.dd) ∧ w.cell? ⟨b, off + 1, none⟩ = some ve ∧ w.cell? ⟨b, off + 2, none⟩ = some vr ∧ w.cell? ⟨b, off + 3, none⟩ = some vp ∧ ActIs w ve vr vp x
def IsActsX (w : World) (v : Value) (l : List ActX) : Prop :=
  ∃ a cap, v = .slice a l.length cap ∧ (l = [] ∨ ∃ b off, a = some ⟨b, off, none⟩ ∧ b < w.heap.size ∧ ∀ i, i < l.length → IsActX w b (off + i * 4) (l.getD i dX))
theorem IsActX.below {w w' : World} {b off : Nat} {x : ActX} (h : IsActX w b off x) (hb : Below w.heap.size w w') (hlt : b < w.heap.size) : IsActX w' b off x := by
  obtain ⟨ve, vr, vp, h0, h1, h2, h3, h4⟩ := h
  exact ⟨ve, vr, vp, (hb.cell hlt).trans h0, (hb.cell hlt).trans h1, (hb.cell hlt).trans h2, (hb.cell hlt).trans h3, h4.below hb⟩
theorem IsActsX.below {w w' : World} {v : Value} {l : List ActX} (h : IsActsX w v l) (hb : Below w.heap.size w w') : IsActsX w' v l := by
  obtain ⟨a, cap, hv, h⟩ := h
  refine ⟨a, cap, hv, ?_⟩
  rcases h with h | ⟨b, off, ha, hlt, hc⟩
  · exact Or.inl h
  · exact Or.inr ⟨b, off, ha, by have := hb.size; omega, fun i hi => (hc i hi).below hb hlt⟩
theorem toM_getD (l : List ActX) (i : Nat) : (l.map ActX.toM).getD i dA = (l.getD i dX).toM := by
  simp only [List.getD_eq_getElem?_getD, List.getElem?_map]
  cases l[i]? <;> rfl
structure ActFit (x : ActX) : Prop where
  d : x.dd < 256
  wf : RowsWf x.rs
  li : Light 1048576 x.toM
  rp : ∀ i, i < x.rs.length → (x.rs.getD i dR).1.size ≤ 1048576
  pp : ∀ i, i < x.pp.length → (x.pp.getD i ByteArray.empty).size ≤ 1048576
theorem totW_mem : ∀ {l : List Actm} {i : Nat}, i < l.length → 8 * ((l.getD i dA).es.length + (l.getD i dA).rs.length + (l.getD i dA).ps) ≤ totW l
  | [], i, h => by simp at h
  | a :: t, 0, _ => by simp only [List.getD_cons_zero, totW]; omega
  | a :: t, i + 1, h => by
    have := totW_mem (l := t) (i := i) (by simpa using h)
    simp only [List.getD_cons_succ, totW]; omega
theorem ActFit.sz {l : List ActX} {i : Nat} (hi : i < l.length) (hf : ActFit (l.getD i dX)) (ht : totW (l.map ActX.toM) ≤ 8192) : ActSz (l.getD i dX) ∧ (l.getD i dX).es.length + (l.getD i dX).rs.length ≤ 1024 := by
  have h := totW_mem (l := l.map ActX.toM) (i := i) (by rw [List.length_map]; exact hi)
  rw [toM_getD] at h
  have h1 : 8 * ((l.getD i dX).es.length + (l.getD i dX).rs.length + (l.getD i dX).pp.length) ≤ totW (l.map ActX.toM) := h
  obtain ⟨_, _, _, a4, a5⟩ := hf.li
  refine ⟨⟨hf.d, by omega, by omega, by omega, hf.wf, fun j hj => ?_, fun j hj => ?_, fun j hj => ?_⟩, by omega⟩
  · have := a4 j hj
    have h2 : ((l.getD i dX).es.getD j dE).path.size ≤ 1048576 := this.1
    have h3 : ((l.getD i dX).es.getD j dE).text.size ≤ 1048576 := this.2
    constructor <;> omega
  · have h2 := hf.rp j hj
    have h3 : ((l.getD i dX).rs.getD j dR).2.l.length ≤ 1048576 := (a5 j hj).1
    constructor <;> omega
  · have := hf.pp j hj; omega
theorem rowsL_nil : rowsL (.map []) = [] := by simp [rowsL, keysL, strKeys]
end Go.Proofs.YtfbgnpfhjbiikaaGreatDoor

namespace Go.Proofs.YtfbgnpfhjbiikaaGreatDoor
open Go Go.RowKit
open Go.Maps (has size Canon CanonK Tidy IsMap KeysOf Keyed Merged)
structure Pair (w : World) (ta ba tb bb : Nat) (MA : DataW Cel) (BA : Int) (MB : DataW Cel) (BB : Int) : Prop where
  a : TabAt w ta ba 40 4096 MA BA
  b : TabAt w tb bb 40 4096 MB BB
  n1 : ta ≠ tb
  n2 : ta ≠ bb
  n3 : ba ≠ tb
  n4 : ba ≠ bb
theorem Pair.below {w w' : World} {ta ba tb bb : Nat} {MA MB : DataW Cel} {BA BB : Int} (h : Pair w ta ba tb bb MA BA MB BB) (hb : Below w.heap.size w w') : Pair w' ta ba tb bb MA BA MB BB :=
  ⟨h.a.below hb, h.b.below hb, h.n1, h.n2, h.n3, h.n4⟩
structure TabsL (B0 : Nat) (W : World) (L : List (Nat × Nat)) : Prop where
  at_ : ∀ p ∈ L, TabAt W p.1 p.2 40 4096 (.map []) 0
  apart : L.Pairwise (fun p q => p.1 ≠ q.1 ∧ p.1 ≠ q.2 ∧ p.2 ≠ q.1 ∧ p.2 ≠ q.2)
  above : ∀ p ∈ L, B0 ≤ p.1 ∧ B0 ≤ p.2
theorem TabsL.nil (B0 : Nat) (W : World) : TabsL B0 W [] := ⟨fun p hp => (by cases hp), List.Pairwise.nil, fun p hp => (by cases hp)⟩
theorem TabsL.cons {B0 : Nat} {W w6 : World} {L : List (Nat × Nat)} {t b : Nat} (h : TabsL B0 W L) (hB : B0 ≤ W.heap.size) (ht : W.heap.size ≤ t) (hb : W.heap.size ≤ b) (hT : TabAt w6 t b 40 4096 (.map []) 0) (hb6 : Below W.heap.size W w6) : TabsL B0 w6 ((t, b) :: L) := by
  refine ⟨fun p hp => ?_, List.pairwise_cons.2 ⟨fun q hq => ?_, h.apart⟩, fun p hp => ?_⟩
  · rcases List.mem_cons.1 hp with rfl | hp
    · exact hT
    · exact (h.at_ p hp).below hb6
  · have h1 := (h.at_ q hq).lt
    have h2 := HoldsMap.lt (h.at_ q hq).m
    refine ⟨?_, ?_, ?_, ?_⟩ <;> simp only <;> omega
  · rcases List.mem_cons.1 hp with rfl | hp
    · exact ⟨by simp only; omega, by simp only; omega⟩
    · exact h.above p hp
theorem zeroVerL (w : World) : (zeroValue 50).run Tryz.prog w = .ok (.agg #[.int .u64 0, .int .u8 0, .string ByteArray.empty]) w := by kernel_rfl
def Heads (w : World) (a : Option Addr) (T : List (Rw × Value)) : Prop := ∀ i, i < T.length → ∃ bR, a = some ⟨bR, 0, none⟩ ∧ w.cell? ⟨bR, i * 3 + 2, none⟩ = some (T.getD i dRV).2
def WrOk (w : World) (T : List (Rw × Value)) : Prop := ∀ x ∈ T, ∃ g cap, x.2 = .slice (some ⟨g, 0, none⟩) x.1.2.l.length cap ∧ 0 < x.1.2.l.length ∧ ∀ j, j < 3 → (∃ u, w.cell? ⟨g, j, none⟩ = some u) ∧ w.frozen? ⟨g, j, none⟩ = false
theorem WrOk.set {w : World} {T : List (Rw × Value)} (h : WrOk w T) (p : Addr) (u : Value) : WrOk (w.setCell p u) T := by
  intro x hx
  obtain ⟨g, cap, h1, h2, h3⟩ := h x hx
  refine ⟨g, cap, h1, h2, fun j hj => ?_⟩
  obtain ⟨⟨v, hv⟩, hf⟩ := h3 j hj
  refine ⟨?_, by rw [World.frozen?_setCell]; exact hf⟩
  by_cases e : p = ⟨g, j, none⟩
  · subst e; exact ⟨u, World.cell?_setCell_same' _ _ _ (by rw [hv]; rfl)⟩
  · exact ⟨v, (World.cell?_setCell_other _ _ _ _ e).trans hv⟩
theorem Heads.set {w : World} {a : Option Addr} {T : List (Rw × Value)} (h : Heads w a T) (p : Addr) (u : Value) (hp : ∀ bR, a = some ⟨bR, 0, none⟩ → p.block ≠ bR) : Heads (w.setCell p u) a T := by
  intro i hi
  obtain ⟨bR, h1, h2⟩ := h i hi
  exact ⟨bR, h1, (World.cell?_setCell_far _ _ _ _ (hp bR h1)).trans h2⟩
end Go.Proofs.YtfbgnpfhjbiikaaGreatDoor

namespace Go.Proofs.YtfbgnpfhjbiikaaGreatDoor
open Go Go.RowKit
open Pth
open Go.Maps (has size Canon CanonK Tidy IsMap KeysOf Keyed Merged)
theorem zeroRead (w : World) : (zeroValue 133).run Tryz.prog w = .ok (.agg #[.string ByteArray.empty, .int .u64 0]) w := by kernel_rfl
theorem infoGot : (Tryz.prog.info? 97).map (fun i => (i.zero, i.size, i.bytes)) = some (some (.agg #[.int .u64 0, .int .u8 0, .string ByteArray.empty, .int .i64 0]), 4, 40) := by kernel_rfl
def gotFlat (l : List GotR) : List Value := l.flatMap gotCells
theorem gotFlat_append (l : List GotR) (g : GotR) : gotFlat (l ++ [g]) = gotFlat l ++ gotCells g := by simp [gotFlat]
theorem gotFlat_at (l : List GotR) : ∀ (i : Nat), i < l.length → ∀ j, j < 4 → (gotFlat l)[i * 4 + j]? = (gotCells (l.getD i dG))[j]? := by
  induction l with
  | nil => intro i hi; simp at hi
  | cons g r ih =>
    intro i hi j hj
    have e : gotFlat (g :: r) = gotCells g ++ gotFlat r := by simp [gotFlat]
    have hl : (gotCells g).length = 4 := rfl
    rw [e]
    cases i with
    | zero => rw [List.getElem?_append_left (by rw [hl]; omega)]; simp
    | succ i =>
      rw [List.getElem?_append_right (by rw [hl]; omega), hl, show (i + 1) * 4 + j - 4 = i * 4 + j by omega, ih i (by simpa using hi) j hj]
      simp
theorem IsGots.own {w : World} {B e : Nat} {v : Value} {l : List GotR} (h : w.ownsRow B e 4 v l.length (gotFlat l)) : IsGots w v l := by
  rcases h.2 with ⟨hv, hl⟩ | ⟨g, cap, cur, hv, hB, hg, hn, hcap, hsz, htake⟩
  · have : l = [] := List.length_eq_zero_iff.1 hl
    subst this; exact ⟨none, 0, hv, Or.inl rfl⟩
  · refine ⟨_, _, hv, Or.inr ⟨g, 0, rfl, lt_of_block hg, fun i hi => ?_⟩⟩
    subst hv
    have f := gotFlat_at l i hi
    have c : ∀ j, j < 4 → w.cell? ⟨g, i * 4 + j, none⟩ = (gotCells (l.getD i dG))[j]? := fun j hj => by
      rw [World.ownsRow.cellAt h (i * 4 + j) (by omega), f j hj]
    simp only [Nat.zero_add]
    exact ⟨c 0 (by omega), c 1 (by omega), c 2 (by omega), c 3 (by omega)⟩
theorem one_bare {k : Nat} {C : Array Value} {W : World} (h : One k C W) (hC : ∀ v ∈ C.toList, (∀ n, v ≠ .int .u64 n) ∧ ∀ s, v ≠ .string s) : Bare W k := by
  intro o v hv
  rw [h.c o] at hv
  exact hC v (by simpa using Array.mem_of_getElem? hv)
theorem one_grown {n : Nat} {C : Array Value} {W W' : World} {b : Option Nat} (h : One n C W) (hg : W.grownBy W' b) (hb : b ≠ some n) : One n C W' :=
  ⟨Nat.lt_of_lt_of_le h.lt hg.size, fun j => (World.cell?_of_block (w := W) (a := ⟨n, j, none⟩) (hg.block n h.lt (fun e => hb e.symm))).trans (h.c j), fun j => (World.frozen?_of_block (w := W) (a := ⟨n, j, none⟩) (hg.block n h.lt (fun e => hb e.symm))).trans (h.f j)⟩
theorem one_but {S : Nat → Prop} {n : Nat} {C : Array Value} {W W' : World} (h : One n C W) (hb : ButS S W W') (hn : ¬ S n) : One n C W' :=
  ⟨Nat.lt_of_lt_of_le h.lt hb.size, fun j => (hb.cell (p := ⟨n, j, none⟩) h.lt hn).trans (h.c j), fun j => (hb.frozen (p := ⟨n, j, none⟩) h.lt hn).trans (h.f j)⟩
theorem ButS.thenB {S : Nat → Prop} {w1 w2 w3 : World} (h : ButS S w1 w2) (k : Below w1.heap.size w2 w3) : ButS S w1 w3 :=
  ⟨k.os.trans h.os, k.tape.trans h.tape, k.output.trans h.output, Nat.le_trans h.size k.size, fun i hi hS => (k.block i hi).trans (h.block i hi hS)⟩
def gotsT (M : DataW Cel) (l : List Rd) : List GotR := l.map (fun x => ⟨(readT M x.path x.n).1, (readT M x.path x.n).2⟩)
theorem gotsT_take {M : DataW Cel} {l : List Rd} {k : Nat} (hk : k < l.length) : gotsT M (l.take (k + 1)) = gotsT M (l.take k) ++ [⟨(readT M (l.getD k dRd).path (l.getD k dRd).n).1, (readT M (l.getD k dRd).path (l.getD k dRd).n).2⟩] := by
  unfold gotsT
  rw [List.take_succ_eq_append_getElem hk, List.map_append, List.getD_eq_getElem?_getD, List.getElem?_eq_getElem hk]; rfl

structure DoeW (w0 w : World) (n t b : Nat) (vR vE : Value) (c : Cal) : Prop where
  below : Below w0.heap.size w0 w
  is : CalIs w0 vR vE c
  ht : w0.heap.size ≤ t
  hb : w0.heap.size ≤ b
  hn : w0.heap.size ≤ n
  tn : t < n
  bn : b < n
  lt : n + 3 < w.heap.size
  c1 : w.cell? ⟨n + 1, 1, none⟩ = some vR
  c2 : w.cell? ⟨n + 1, 2, none⟩ = some vE
  x : w.cell? ⟨n, 0, none⟩ = some (.pointer (some ⟨t, 0, none⟩))
  r : One (n + 2) #[.slice none 0 0, .slice none 0 0, .slice none 0 0] w
  i : One (n + 3) #[.bool true] w
def Doe1G (M : DataW Cel) (B : Int) (c : Cal) (n t b : Nat) (q1 q2 : Int) (w : World) (e : Ending) (w' : World) : Prop :=
  e = .returned (.tuple #[]) ∧ ∃ vG vN, One (n + 2) #[vG, vN, .slice none 0 0] w' ∧ IsGots w' vG (gotsT M c.rds) ∧ IsNums w' vN (nextV (triedT M B q1 q2 c.eds)) ∧ One (n + 3) #[.bool (decide ((triedT M B q1 q2 c.eds).1.2 = 0))] w' ∧
    TabAt w' t b q1 q2 (nextM (triedT M B q1 q2 c.eds) M) (nextB (triedT M B q1 q2 c.eds) B) ∧ ButS (fun k => k = t ∨ k = b ∨ k = n + 2 ∨ k = n + 3) w w'

set_option maxRecDepth 100000 in
set_option maxHeartbeats 4000000 in
theorem does_ops (w0 w : World) {n t b : Nat} {q1 q2 B : Int} {M : DataW Cel} {vR vE : Value} {c : Cal} (hW : DoeW w0 w n t b vR vE c) (h : TabAt w t b q1 q2 M B) (hg : Good Tryz.prog 9 M) (hm : MX w0)
    (hlr : c.rds.length ≤ 1048576) (hrs : ∀ i, i < c.rds.length → (c.rds.getD i dRd).path.size ≤ 140737488351232) (hl : c.eds.length ≤ 1048576) (hsM : size M ≤ 1073741824) (hB0 : -1125899906842624 ≤ B) (hB1 : B ≤ 1125899906842624)
    (hp : ∀ i, i < c.eds.length → (c.eds.getD i dE).path.size ≤ 140737488351232 ∧ (c.eds.getD i dE).text.size ≤ 9223372036854775807) :
    Calls Tryz.prog 93 #[.pointer (some ⟨n + 1, 0, none⟩), .pointer (some ⟨n, 0, none⟩), .pointer (some ⟨n + 2, 0, none⟩), .pointer (some ⟨n + 3, 0, none⟩)] w (Doe1G M B c n t b q1 q2 w) := by
  obtain ⟨⟨aR, cR, hvR, hrc⟩, hE⟩ := hW.is
  subst hvR
  have HW := Lib.hid hW; have HT := Lib.hid h; have HG := Lib.hid hg; have HM := Lib.hid hm; have HRC := Lib.hid hrc; have HE := Lib.hid hE; have HRS := Lib.hid hrs; have Hp := Lib.hid hp
  have k1 := hW.c1; have k2 := hW.c2; have kx := hW.x
  have Hlt := Lib.hid hW.lt; have Hbel := Lib.hid hW.below; have Hht := Lib.hid hW.ht; have Hhb := Lib.hid hW.hb; have Hhn := Lib.hid hW.hn; have Htn := Lib.hid hW.tn; have Hbn := Lib.hid hW.bn
  have HI := Lib.hid hW.i
  obtain ⟨i0, hi, hz0, hz1, hz2⟩ := info_parts infoGot
  have hzr := zeroRead; have hzv := zeroVerL
  clear hW h hg hm hrc hE hrs hp
  go_enter Tryz.func93, Tryz.ntmps93
  go_wp2_with fail
  go_loopw [14] (fun s14 wr => ∃ (k : Nat) (s : Value), k ≤ c.rds.length ∧ s14 = .int .i64 k ∧ Hid (One (n + 2) #[s, .slice none 0 0, .slice none 0 0] wr) ∧ Hid (wr.ownsRow w.heap.size 97 4 s k (gotFlat (gotsT M (c.rds.take k)))) ∧ Hid (ButS (fun k => k = n + 2) w wr)) (fun i _ => c.rds.length - (intOf i).toNat)
  case atStart => exact ⟨0, _, Nat.zero_le _, rfl, Lib.hid HW.out.r, Lib.hid (World.ownsRow_nil _ _ _ _), Lib.hid (ButS.of (Below.refl _ _))⟩
  case round =>
    obtain ⟨k, s, hk, rfl, hR, hrow, hbw⟩ := hrel
    obtain ⟨a5, c5, rfl⟩ := ownShape hrow.out
    have hbB : Below w0.heap.size w0 wr := Hbel.out.trans (hbw.out.below (fun k hk => by have := Hhn.out; omega) Hbel.out.size)
    have HbB := Lib.hid hbB
    have hTr : TabAt wr t b q1 q2 M B := HT.out.but hbw.out (fun k hk => by subst hk; exact (one_bare HW.out.r (fun v hv => by simp at hv; rcases hv with rfl | rfl | rfl <;> exact ⟨(fun n h => (by cases h)), (fun n h => (by cases h))⟩)).noVers) (by have := Htn.out; omega) (by have := Hbn.out; omega)
    have HTr := Lib.hid hTr
    have hkx : wr.cell? ⟨n, 0, none⟩ = some (.pointer (some ⟨t, 0, none⟩)) := (hbw.out.cell (p := ⟨n, 0, none⟩) (by have := Hlt.out; show n < _; omega) (by show ¬ n = n + 2; omega)).trans kx
    have hk2 : wr.cell? ⟨n + 1, 2, none⟩ = some vE := (hbw.out.cell (p := ⟨n + 1, 2, none⟩) (by have := Hlt.out; show n + 1 < _; omega) (by show ¬ n + 1 = n + 2; omega)).trans k2
    have hsz := hbw.out.size
    have HSZ : Hid (n + 3 < wr.heap.size) := Lib.hid (by have := Hlt.out; omega)
    clear hbB hTr
    by_cases hlt : k < c.rds.length
    · have hltI : (k : Int) < (c.rds.length : Int) := by omega
      rcases HRC.out with h0 | ⟨b1, o1, rfl, hb1, hc1⟩
      · rw [h0] at hlt; simp at hlt
      obtain ⟨g0, g1⟩ := hc1 k hlt
      have e0 := (HbB.out.cell (p := ⟨b1, o1 + k * 2, none⟩) hb1).trans g0
      have e1 := (HbB.out.cell (p := ⟨b1, o1 + k * 2 + 1, none⟩) hb1).trans g1
      have hTk := gotsT_take (M := M) hlt
      have hps := HRS.out k hlt
      obtain ⟨x, hx⟩ : ∃ x, c.rds.getD k dRd = x := ⟨_, rfl⟩
      rw [hx] at e0 e1 hTk hps
      obtain ⟨p, m⟩ := x
      dsimp only at e0 e1 hTk hps
      have HTk := Lib.hid hTk
      clear hx hTk g0 g1 hc1
      go_upto_region 3 with fail
      refine wp_abs (F := fun W => One wr.heap.size #[.string p, .int .u64 m] W ∧ Below wr.heap.size wr W) ⟨One.of _ _ _, (Below.refl _ _).alloc (Nat.le_refl _) _⟩ ?_
      rintro W1 ⟨hO1, hb1'⟩
      have y0 := hO1.c 0; have y1 := hO1.c 1
      simp at y0 y1
      have hkx1 := (hb1'.cell (p := ⟨n, 0, none⟩) (by have := HSZ.out; show n < _; omega)).trans hkx
      have HR1 := Lib.hid (hR.out.step hb1')
      have HB1 : Hid (Below wr.heap.size wr W1) := Lib.hid hb1'
      have HRd := Lib.hid (tab_read W1 (HTr.out.below hb1') HG.out ((HM.out.below HbB.out (Nat.le_refl _)).below hb1' (Nat.le_refl _)) p m hps)
      obtain ⟨rr, hrr⟩ : ∃ rr, readT M p m = rr := ⟨_, rfl⟩
      rw [hrr] at HRd HTk
      clear hrr hO1 hb1' e0 e1
      obtain ⟨⟨vn, vst, vtx⟩, er⟩ := rr
      unfold verVal at HRd
      dsimp only at HRd HTk
      go_wp2_with fail
      refine HRd.out.mono ?_
      rintro e w2 ⟨rfl, hb2⟩
      have HB2 : Hid (Below wr.heap.size wr w2) := Lib.hid (HB1.out.trans (hb2.mono HB1.out.size))
      have HR2 := Lib.hid (HR1.out.step hb2)
      clear hb2 HRd HR1
      go_upto_region 4 with fail
      refine wp_abs (F := fun W => One w2.heap.size #[.int .u64 vn, .int .u8 vst, .string vtx] W ∧ Below w2.heap.size w2 W) ⟨One.of _ _ _, (Below.refl _ _).alloc (Nat.le_refl _) _⟩ ?_
      rintro W3 ⟨hO3, hb3⟩
      have z0 := hO3.c 0; have z1 := hO3.c 1; have z2 := hO3.c 2
      simp at z0 z1 z2
      have hR3 := HR2.out.step hb3
      have r0 := hR3.c 0; have r1 := hR3.f 0
      simp at r0
      have HR3 := Lib.hid hR3
      have HB3 : Hid (Below wr.heap.size wr W3) := Lib.hid (HB2.out.trans (hb3.mono HB2.out.size))
      have HRow3 := Lib.hid (ownBelow hrow.out HB3.out)
      clear hO3 hb3 hR3 hkx1 y0 y1
      go_wp2_with (first
        | (at_builtin; refine wpList_append_own _ rfl (.tmp 28) (.tmp 32) 83 rfl w.heap.size 97 i0 (.agg #[.int .u64 0, .int .u8 0, .string ByteArray.empty, .int .i64 0]) 4 40 Tryz.underlying83 hi hz0 hz1 hz2 rfl (by decide) _ k (gotFlat (gotsT M (c.rds.take k))) rfl (ownBelow HRow3.out ((Below.refl _ _).alloc (Nat.le_refl _) _)) ⟨W3.heap.size, 0, none⟩ 1 1 [.int .u64 vn, .int .u8 vst, .string vtx, .int .i64 er] rfl rfl (World.news_of_block (MapKept.heap_alloc _ _).1) (by intro u hu; simp only [List.mem_cons, List.mem_nil_iff, or_false] at hu; rcases hu with rfl | rfl | rfl | rfl <;> rfl) (by unfold maxLen; omega) (by omega) ?hbase ?go; (case hbase => have h1 := HB3.out.size; simp; omega); intro v5 w5 hown5 hg5 _; obtain ⟨a6, c6, rfl⟩ := ownShape hown5; have hR5 := one_grown (HR3.out.step ((Below.refl _ _).alloc (Nat.le_refl _) _)) hg5 (fun e => by have := ownAbove HRow3.out _ e; have := Hlt.out; omega); have r5 := hR5.c 0; have f5 := hR5.f 0; simp at r5; have HR5 := Lib.hid hR5; have Hown5 := Lib.hid hown5; have Hg5 := Lib.hid hg5; clear hR5 hown5 hg5)
        | fail)
      go_roundw
      case rel =>
        have hbA : Below w.heap.size wr (W3.alloc (.cells #[.int .u64 vn, .int .u8 vst, .string vtx, .int .i64 er] 97)) := (HB3.out.mono hsz).alloc (by have := HB3.out.size; omega) _
        have hb5 : Below w.heap.size wr w5 := hbA.grown Hg5.out (by have := HB3.out.size; simp; omega) (fun k hk => by have := ownAbove HRow3.out k hk; omega)
        refine ⟨k + 1, _, by omega, by go_num, Lib.hid (HR5.out.set (i := 0) (by simp) (.slice a6 (k + 1) c6)), Lib.hid ?_, Lib.hid ?_⟩
        · rw [HTk.out, gotFlat_append]
          exact ownBut Hown5.out (ButS.set (S := fun k => k = n + 2) w5 (p := ⟨n + 2, 0, none⟩) rfl _) (fun k hk => by have := Hlt.out; omega)
        · exact (hbw.out.thenB hb5).trans (ButS.set (S := fun k => k = n + 2) _ (p := ⟨n + 2, 0, none⟩) rfl _)
      case measure => simp [intOf]; omega
    · have hge : ¬ (k : Int) < (c.rds.length : Int) := by omega
      obtain rfl : k = c.rds.length := by omega
      have hrow1 : wr.ownsRow w.heap.size 97 4 (.slice a5 c.rds.length c5) (gotsT M c.rds).length (gotFlat (gotsT M c.rds)) := by
        have h := hrow.out
        rw [List.take_length] at h
        have hl : (gotsT M c.rds).length = c.rds.length := by unfold gotsT; rw [List.length_map]
        rw [hl]; exact h
      have HRow1 := Lib.hid hrow1
      have HAp := Lib.hid (tab_app wr HTr.out HG.out (HM.out.below HbB.out (Nat.le_refl _)) vE c.eds (HE.out.below HbB.out (Nat.le_refl _)) hl hsM hB0 hB1 Hp.out)
      obtain ⟨r, hr⟩ : ∃ r, r = triedT M B q1 q2 c.eds := ⟨_, rfl⟩
      rw [← hr] at HAp
      have Hr := Lib.hid hr
      clear hr hrow1 hrow
      go_wp2_with fail
      refine HAp.out.mono ?_
      rintro e w6 ⟨v6, rfl, hown6, hT6, hbut6⟩
      have hRa := one_but hR.out hbut6 (by rintro (e | e); have := Htn.out; omega; have := Hbn.out; omega)
      have hIa := one_but (one_but HI.out hbw.out (by show ¬ n + 3 = n + 2; omega)) hbut6 (by rintro (e | e); have := Htn.out; omega; have := Hbn.out; omega)
      have r1 := hRa.c 1; have f1 := hRa.f 1
      have i1 := hIa.c 0; have fi := hIa.f 0
      simp at r1 i1
      obtain ⟨a7, c7, rfl⟩ := ownShape hown6
      have Hown6 := Lib.hid hown6; have HT6 := Lib.hid hT6; have Hbut6 := Lib.hid hbut6; have HRa := Lib.hid hRa; have HIa := Lib.hid hIa
      clear hown6 hT6 hbut6 hRa hIa HAp
      go_wp2_with fail
      go_end0
      have hlt := Hlt.out; have htn := Htn.out; have hbn := Hbn.out
      have hbl : ((r.1.2 : Int) == 0) = decide (r.1.2 = 0) := by
        by_cases h : r.1.2 = 0
        · simp [h]
        · simp [h]
      have bS : ∀ (W : World) (v u : Value), ButS (fun k => k = n + 2 ∨ k = n + 3) W ((W.setCell ⟨n + 2, 1, none⟩ v).setCell ⟨n + 3, 0, none⟩ u) := fun W v u => (ButS.set (S := fun k => k = n + 2 ∨ k = n + 3) W (p := ⟨n + 2, 1, none⟩) (Or.inl rfl) v).trans (ButS.set (S := fun k => k = n + 2 ∨ k = n + 3) _ (p := ⟨n + 3, 0, none⟩) (Or.inr rfl) u)
      rw [hbl]
      unfold Doe1G
      rw [← Hr.out]
      refine ⟨rfl, .slice a5 c.rds.length c5, .slice a7 (nextV r).length c7, ?_, ?_, ?_, ?_, ?_, ?_⟩
      · exact one_but (HRa.out.set (i := 1) (by simp) (.slice a7 (nextV r).length c7)) (ButS.set (S := fun k => k = n + 3) _ (p := ⟨n + 3, 0, none⟩) rfl _) (by show ¬ n + 2 = n + 3; omega)
      · exact IsGots.own (ownBut (ownBut HRow1.out Hbut6.out (fun k hk => by rcases hk with e | e <;> omega)) (bS _ _ _) (fun k hk => by rcases hk with e | e <;> omega))
      · exact IsNums.own (ownBut Hown6.out (bS _ _ _) (fun k hk => by have := HSZ.out; rcases hk with e | e <;> omega))
      · exact (one_but HIa.out (ButS.set (S := fun k => k = n + 2) _ (p := ⟨n + 2, 1, none⟩) rfl _) (by show ¬ n + 3 = n + 2; omega)).set (i := 0) (by simp) (.bool (decide (r.1.2 = 0)))
      · refine HT6.out.but (bS _ _ _) (fun k hk => ?_) (by rintro (e | e) <;> omega) (by rintro (e | e) <;> omega)
        rcases hk with rfl | rfl
        · exact (one_bare HRa.out (fun v hv => by simp at hv; rcases hv with rfl | rfl | rfl <;> exact ⟨(fun n h => (by cases h)), (fun n h => (by cases h))⟩)).noVers
        · exact (one_bare HIa.out (fun v hv => by simp at hv; subst hv; exact ⟨(fun n h => (by cases h)), (fun n h => (by cases h))⟩)).noVers
      · exact ((hbw.out.mono (fun k hk => Or.inr (Or.inr (Or.inl hk)))).trans (Hbut6.out.mono (fun k hk => by rcases hk with e | e; exact Or.inl e; exact Or.inr (Or.inl e)))).trans ((bS _ _ _).mono (fun k hk => Or.inr (Or.inr hk)))

def namesT (R : List Rw) (pre : ByteArray) : List ByteArray := (namesL pre.data.toList ((liveR R).map (·.data.toList))).map bs
theorem namesT_len (R : List Rw) (pre : ByteArray) : (namesT R pre).length ≤ R.length := by
  unfold namesT
  rw [List.length_map]
  refine Nat.le_trans (names_len _ _) ?_
  rw [List.length_map]
  have := liveR_len R R.length
  rwa [List.take_length] at this
def NamesN (R : List Rw) (pre : ByteArray) (w : World) (e : Ending) (w' : World) : Prop := ∃ v, e = .returned v ∧ IsStrs w' v (namesT R pre) ∧ Below w.heap.size w w'
theorem tab_listN (w : World) {t b : Nat} {q1 q2 B : Int} {M : DataW Cel} (h : TabAt w t b q1 q2 M B) (hg : Good Tryz.prog 9 M) (hm : MX w) (p : ByteArray) (hp : p.size ≤ 140737488351232) (hsM : size M ≤ 1073741824) :
    Calls Tryz.prog 27 #[.pointer (some ⟨t, 0, none⟩), .string p] w (NamesN (rowsL M) p w) := by
  refine (tab_list w h hg hm p hp hsM).mono ?_
  rintro e w' ⟨L, hL, v, rfl, hs, hb⟩
  refine ⟨v, rfl, ?_, hb⟩
  unfold namesT
  rw [← names_same (p := p.data.toList) (L := L) (fun s => (hL s).trans (live_mem hg.canon s).symm)]
  exact hs
def Doe2G (M : DataW Cel) (c : Cal) (n : Nat) (w : World) (e : Ending) (w' : World) : Prop :=
  e = .returned (.tuple #[]) ∧ ∃ vM, One (n + 2) #[.slice none 0 0, .slice none 0 0, vM] w' ∧ IsStrs w' vM (namesT (rowsL M) c.pre) ∧ ButS (fun k => k = n + 2) w w'
theorem isStrs_new {S : Nat → Prop} {w w' : World} {v : Value} {l : List ByteArray} (h : IsStrs w v l) (hb : ButS S w w') (hS : ∀ k, S k → NoStr w k) : IsStrs w' v l := by
  obtain ⟨a, cap, hv, h⟩ := h
  refine ⟨a, cap, hv, ?_⟩
  rcases h with h | ⟨b2, off, ha, hlt, hc⟩
  · exact Or.inl h
  · by_cases hl : l = []
    · exact Or.inl hl
    have hn : ¬ S b2 := fun hs => hS b2 hs _ _ (hc 0 (List.length_pos_iff.2 hl))
    exact Or.inr ⟨b2, off, ha, by have := hb.size; omega, fun i hi => (hb.cell (p := ⟨b2, off + i, none⟩) hlt hn).trans (hc i hi)⟩
set_option maxRecDepth 100000 in
set_option maxHeartbeats 4000000 in
theorem does_list (w : World) {n t b : Nat} {q1 q2 B : Int} {M : DataW Cel} {c : Cal} (hx : w.cell? ⟨n, 0, none⟩ = some (.pointer (some ⟨t, 0, none⟩))) (h3 : w.cell? ⟨n + 1, 3, none⟩ = some (.string c.pre)) (hr : One (n + 2) #[.slice none 0 0, .slice none 0 0, .slice none 0 0] w) (h : TabAt w t b q1 q2 M B) (hg : Good Tryz.prog 9 M) (hm : MX w)
    (hp : c.pre.size ≤ 140737488351232) (hsM : size M ≤ 1073741824) :
    Calls Tryz.prog 94 #[.pointer (some ⟨n, 0, none⟩), .pointer (some ⟨n + 1, 0, none⟩), .pointer (some ⟨n + 2, 0, none⟩)] w (Doe2G M c n w) := by
  have HL := Lib.hid (tab_listN w h hg hm c.pre hp hsM)
  have HR := Lib.hid hr
  clear hr h hg hm hp hsM
  go_enter Tryz.func94, Tryz.ntmps94
  go_wp2_with fail
  refine HL.out.mono ?_
  rintro e w1 ⟨v1, rfl, hs1, hb1⟩
  have hR1 := HR.out.step hb1
  have r1 := hR1.c 2; have f1 := hR1.f 2
  simp at r1
  have HR1 := Lib.hid hR1; have HB1 := Lib.hid hb1; have HS1 := Lib.hid hs1
  obtain ⟨a1, c1, rfl, _⟩ := hs1
  clear hR1 hb1
  go_wp2_with fail
  go_end0
  refine ⟨rfl, .slice a1 (namesT (rowsL M) c.pre).length c1, HR1.out.set (i := 2) (by simp) _, ?_, (ButS.of HB1.out).trans (ButS.set (S := fun k => k = n + 2) _ (p := ⟨n + 2, 2, none⟩) rfl _)⟩
  refine isStrs_new HS1.out (ButS.set (S := fun k => k = n + 2) _ (p := ⟨n + 2, 2, none⟩) rfl _) (fun k hk => ?_)
  subst hk
  exact (one_bare HR1.out (fun v hv => by simp at hv; rcases hv with rfl | rfl | rfl <;> exact ⟨(fun n h => (by cases h)), (fun n h => (by cases h))⟩)).noStr
end Go.Proofs.YtfbgnpfhjbiikaaGreatDoor
