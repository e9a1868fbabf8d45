/- plan.Asks: one element more for two rows of an ask: what holds behind any part of the region that does it. plan.Asks: an ask with more reads, or edits: what the asks are then; owners of paths. DERIVED. MADE BY PROGRAM (lay-iter.mjs) off ytggdkfijioeijaagreatdoor.cut.gsa: THE SHELF's CONTRACTS ON 'slices.Sorted(maps.Keys(m))' LAID AT THIS DUMP: 1 map type. NO WALK OF THE LIBRARY's TEXT: each is one application of a contract over any P and ρ (Derived/Shelf/SlIter/, Derived/Shelf/SortM/). -/
import Derived.Test.YtggdkfijioeijaaGreatDoorQa00
import Derived.Test.YtggdkfijioeijaaGreatDoorQa06
import Derived.Test.YtggdkfijioeijaaGreatDoorQa18
import Derived.Shelf.SlIter.Nil
import Derived.Shelf.SortM.Plain
import Derived.Shelf.SortM.SortNone
import Derived.Ground.GgzProg
import Derived.Ground.SlgmProg
namespace Go.Proofs.YtggdkfijioeijaaGreatDoor
open Go Go.RowKit
def kP : List (Nat × Nat) := [(0, 0), (1, 1), (2, 2), (3, 3), (4, 4), (5, 5), (6, 6), (9, 9), (10, 10), (11, 11), (12, 12), (13, 13), (16, 16), (17, 17), (19, 18), (20, 19)]
theorem kP_apart : ∀ x ∈ kP, ∀ y ∈ kP, (x.1 = y.1 ↔ x.2 = y.2) := by decide
theorem kP_off : ∀ x ∈ kP, (x.1 ≠ 7 ∧ x.1 ≠ 8 ∧ x.1 ≠ 14 ∧ x.1 ≠ 15 ∧ x.1 ≠ 18 ∧ x.1 ≠ 21) ∧ x.2 ≠ 7 ∧ x.2 ≠ 8 ∧ x.2 ≠ 14 ∧ x.2 ≠ 15 := by decide

structure PD where
  p : Nat
  F1 : Nat
  F2 : Nat
  ix : Nat
  n : Nat
  n2 : Nat
  B : Nat
  k : Nat
  EL : TypeId
  C : Array Value
  v1 : Value
  v2 : Value
  xs : List Value
  ys : List Value
  news : List Value
  W : World
def PD.val (d : PD) (i : Nat) : Value :=
  if i = 4 ∨ i = 17 then .pointer (some ⟨d.p, d.F1, none⟩) else if i = 11 ∨ i = 20 then .pointer (some ⟨d.p, d.F2, none⟩) else if i = 5 then d.v1 else if i = 12 then d.v2 else if i = 6 then .agg d.news.toArray else if i = 13 then .int .i64 (d.ix : Int) else .pointer (some ⟨d.p, 0, none⟩)
structure PD.Ok (d : PD) : Prop where
  p : d.p < d.W.heap.size
  o1 : ∀ g, d.v1.ownBlock = some g → g < d.W.heap.size ∧ g ≠ d.p
  o2 : ∀ g, d.v2.ownBlock = some g → g < d.W.heap.size ∧ g ≠ d.p
  o12 : ∀ g, d.v1.ownBlock = some g → d.v2.ownBlock ≠ some g
  hB : d.B ≤ d.W.heap.size
def PD.but (d : PD) (j : Nat) : Prop := j = d.p ∨ d.v1.ownBlock = some j ∨ d.v2.ownBlock = some j
def RowP (W0 : Nat) (v : Value) (B : Nat) (EL : TypeId) (k n : Nat) (xs : List Value) (u : Value) (W' : World) : Prop := ∃ g c, u = .slice (some ⟨g, 0, none⟩) (n + 1) c ∧ W'.ownsRow B EL k u (n + 1) xs ∧ (v.ownBlock = some g ∨ W0 ≤ g) ∧ g < W'.heap.size
structure InvP (d : PD) (l : Nat → Bool) (f : Nat → Value) (W' : World) : Prop where
  but : ButS d.but d.W W'
  vals : ∀ i o, (i, o) ∈ kP → l i = true → f o = d.val i
  b1 : l 7 = true → ∃ q, f 7 = .slice (some ⟨q, 0, none⟩) 1 1 ∧ d.W.heap.size ≤ q ∧ q < W'.heap.size ∧ (l 8 = false → W'.heap[q]? = some (.cells d.news.toArray d.EL (0, 0)))
  b2 : l 14 = true → ∃ q, f 14 = .slice (some ⟨q, 0, none⟩) 1 1 ∧ d.W.heap.size ≤ q ∧ q < W'.heap.size ∧ (l 15 = false → W'.heap[q]? = some (.cells #[.int .i64 (d.ix : Int)] 3 (0, 0)))
  a1 : if l 8 = true then RowP d.W.heap.size d.v1 d.B d.EL d.k d.n (d.xs ++ d.news) (f 8) W' else W'.ownsRow d.B d.EL d.k d.v1 d.n d.xs
  a2 : if l 15 = true then RowP d.W.heap.size d.v2 d.B 3 1 d.n2 (d.ys ++ [.int .i64 (d.ix : Int)]) (f 15) W' else W'.ownsRow d.B 3 1 d.v2 d.n2 d.ys
  blk : W'.heap[d.p]? = some (.cells (if l 21 = true then (d.C.setIfInBounds d.F1 (f 8)).setIfInBounds d.F2 (f 15) else if l 18 = true then d.C.setIfInBounds d.F1 (f 8) else d.C) 47 (0, 0))
abbrev lPut (l : Nat → Bool) (i : Nat) : Nat → Bool := fun j => if j = i then true else l j
abbrev fPut (f : Nat → Value) (o : Nat) (v : Value) : Nat → Value := fun j => if j = o then v else f j
theorem lPut_ne {l : Nat → Bool} {i j : Nat} (h : j ≠ i) : lPut l i j = l j := if_neg h
theorem lPut_eq {l : Nat → Bool} {i : Nat} : lPut l i i = true := if_pos rfl
theorem fPut_ne {f : Nat → Value} {o j : Nat} {v : Value} (h : j ≠ o) : fPut f o v j = f j := if_neg h
theorem fPut_eq {f : Nat → Value} {o : Nat} {v : Value} : fPut f o v o = v := if_pos rfl
theorem InvP.put {d : PD} {l : Nat → Bool} {f : Nat → Value} {W' : World} (h : InvP d l f W') (i o : Nat) (hm : (i, o) ∈ kP) : InvP d (lPut l i) (fPut f o (d.val i)) W' := by
  obtain ⟨⟨n7, n8, n14, n15, n18, n21⟩, m7, m8, m14, m15⟩ := kP_off _ hm
  simp only at n7 n8 n14 n15 n18 n21 m7 m8 m14 m15
  refine ⟨h.but, fun i' o' hm' hl => ?_, ?_, ?_, ?_, ?_, ?_⟩
  · by_cases e : i' = i
    · subst e
      have : o' = o := (kP_apart _ hm' _ hm).1 rfl
      rw [this, fPut_eq]
    · rw [lPut_ne e] at hl
      rw [fPut_ne (fun e2 => e ((kP_apart _ hm' _ hm).2 e2))]
      exact h.vals i' o' hm' hl
  · rw [lPut_ne (Ne.symm n7), lPut_ne (Ne.symm n8), fPut_ne (Ne.symm m7)]; exact h.b1
  · rw [lPut_ne (Ne.symm n14), lPut_ne (Ne.symm n15), fPut_ne (Ne.symm m14)]; exact h.b2
  · rw [lPut_ne (Ne.symm n8), fPut_ne (Ne.symm m8)]; exact h.a1
  · rw [lPut_ne (Ne.symm n15), fPut_ne (Ne.symm m15)]; exact h.a2
  · rw [lPut_ne (Ne.symm n21), lPut_ne (Ne.symm n18), fPut_ne (Ne.symm m8), fPut_ne (Ne.symm m15)]; exact h.blk
theorem vals_off {d : PD} {l : Nat → Bool} {f : Nat → Value} (h : ∀ i o, (i, o) ∈ kP → l i = true → f o = d.val i) {i s : Nat} {v : Value} (hi : i = 7 ∨ i = 8 ∨ i = 14 ∨ i = 15 ∨ i = 18 ∨ i = 21) (hs : s = 7 ∨ s = 8 ∨ s = 14 ∨ s = 15) : ∀ i' o', (i', o') ∈ kP → lPut l i i' = true → fPut f s v o' = d.val i' := by
  intro i' o' hm hl
  obtain ⟨⟨n7, n8, n14, n15, n18, n21⟩, m7, m8, m14, m15⟩ := kP_off _ hm
  simp only at n7 n8 n14 n15 n18 n21 m7 m8 m14 m15
  rw [lPut_ne (fun e => by rcases hi with h | h | h | h | h | h <;> omega)] at hl
  rw [fPut_ne (fun e => by rcases hs with h | h | h | h <;> omega)]
  exact h i' o' hm hl
theorem vals_off' {d : PD} {l : Nat → Bool} {f : Nat → Value} (h : ∀ i o, (i, o) ∈ kP → l i = true → f o = d.val i) {i : Nat} (hi : i = 18 ∨ i = 21) : ∀ i' o', (i', o') ∈ kP → lPut l i i' = true → f o' = d.val i' := by
  intro i' o' hm hl
  obtain ⟨⟨n7, n8, n14, n15, n18, n21⟩, _⟩ := kP_off _ hm
  simp only at n7 n8 n14 n15 n18 n21
  rw [lPut_ne (fun e => by rcases hi with h | h <;> omega)] at hl
  exact h i' o' hm hl
theorem RowP.but {W0 : Nat} {v : Value} {B : Nat} {EL : TypeId} {k n : Nat} {xs : List Value} {u : Value} {W' W2 : World} {X : Nat → Prop} (h : RowP W0 v B EL k n xs u W') (hb : ButS X W' W2) (hX : ∀ g, (v.ownBlock = some g ∨ W0 ≤ g) → ¬ X g) : RowP W0 v B EL k n xs u W2 := by
  obtain ⟨g, c, rfl, h1, h2, h3⟩ := h
  exact ⟨g, c, rfl, row_but h1 hb (fun g' hg' => by
    have : g = g' := by simpa [Value.ownBlock] using hg'
    subst this; exact hX g h2), h2, Nat.lt_of_lt_of_le h3 hb.size⟩
section
variable {d : PD} {l : Nat → Bool} {f : Nat → Value} {W' : World}
theorem InvP.lt (h : InvP d l f W') (hd : d.Ok) : d.p < W'.heap.size := Nat.lt_of_lt_of_le hd.p h.but.size
theorem InvP.build1 (h : InvP d l f W') (hd : d.Ok) (h8 : l 8 = false) : InvP d (lPut l 7) (fPut f 7 (.slice (some ⟨W'.heap.size, 0, none⟩) 1 1)) (W'.alloc (.cells d.news.toArray d.EL)) := by
  have hb : ButS (fun _ => False) W' (W'.alloc (.cells d.news.toArray d.EL)) := ButS.of ((Below.refl _ _).alloc (Nat.le_refl _) _)
  have hs := h.but.size
  refine ⟨h.but.trans (hb.mono (fun _ h => h.elim)), vals_off h.vals (Or.inl rfl) (Or.inl rfl), fun _ => ⟨_, fPut_eq, hs, by simp, fun _ => (MapKept.heap_alloc _ _).1⟩, fun h14 => ?_, ?_, ?_, ?_⟩
  · rw [lPut_ne (by decide)] at h14
    obtain ⟨q, e1, e2, e3, e4⟩ := h.b2 h14
    refine ⟨q, by rw [fPut_ne (by decide)]; exact e1, e2, by simp; omega, fun h15 => ?_⟩
    rw [lPut_ne (by decide)] at h15
    exact (hb.block q e3 id).trans (e4 h15)
  · have h1 := h.a1
    rw [lPut_ne (by decide), h8]
    rw [h8] at h1
    exact row_but h1 hb (fun _ _ => id)
  · have h1 := h.a2
    rw [lPut_ne (by decide), fPut_ne (by decide)]
    cases hl : l 15 with
    | true => rw [hl, if_pos rfl] at h1; rw [if_pos rfl]; exact h1.but hb (fun _ _ => id)
    | false => rw [hl] at h1; exact row_but h1 hb (fun _ _ => id)
  · rw [lPut_ne (by decide), lPut_ne (by decide), fPut_ne (by decide), fPut_ne (by decide)]
    exact (hb.block d.p (h.lt hd) id).trans h.blk
theorem InvP.build2 (h : InvP d l f W') (hd : d.Ok) (h15 : l 15 = false) : InvP d (lPut l 14) (fPut f 14 (.slice (some ⟨W'.heap.size, 0, none⟩) 1 1)) (W'.alloc (.cells #[.int .i64 (d.ix : Int)] 3)) := by
  have hb : ButS (fun _ => False) W' (W'.alloc (.cells #[.int .i64 (d.ix : Int)] 3)) := ButS.of ((Below.refl _ _).alloc (Nat.le_refl _) _)
  have hs := h.but.size
  refine ⟨h.but.trans (hb.mono (fun _ h => h.elim)), vals_off h.vals (Or.inr (Or.inr (Or.inl rfl))) (Or.inr (Or.inr (Or.inl rfl))), fun h7 => ?_, fun _ => ⟨_, fPut_eq, hs, by simp, fun _ => (MapKept.heap_alloc _ _).1⟩, ?_, ?_, ?_⟩
  · rw [lPut_ne (by decide)] at h7
    obtain ⟨q, e1, e2, e3, e4⟩ := h.b1 h7
    refine ⟨q, by rw [fPut_ne (by decide)]; exact e1, e2, by simp; omega, fun h8 => ?_⟩
    rw [lPut_ne (by decide)] at h8
    exact (hb.block q e3 id).trans (e4 h8)
  · have h1 := h.a1
    rw [lPut_ne (by decide), fPut_ne (by decide)]
    cases hl : l 8 with
    | true => rw [hl, if_pos rfl] at h1; rw [if_pos rfl]; exact h1.but hb (fun _ _ => id)
    | false => rw [hl] at h1; exact row_but h1 hb (fun _ _ => id)
  · have h1 := h.a2
    rw [lPut_ne (by decide), h15]
    rw [h15] at h1
    exact row_but h1 hb (fun _ _ => id)
  · rw [lPut_ne (by decide), lPut_ne (by decide), fPut_ne (by decide), fPut_ne (by decide)]
    exact (hb.block d.p (h.lt hd) id).trans h.blk
theorem grown_but {W W2 : World} {o : Option Nat} (h : W.grownBy W2 o) : ButS (fun j => o = some j) W W2 := ⟨h.os, h.tape, h.output, h.size, fun k hk hn => h.block k hk (fun e => hn e.symm)⟩
theorem InvP.app1 (h : InvP d l f W') (hd : d.Ok) (h15 : l 15 = false) (h18 : l 18 = false) (h21 : l 21 = false) {g c : Nat} {W2 : World} (hown : W2.ownsRow d.B d.EL d.k (.slice (some ⟨g, 0, none⟩) (d.n + 1) c) (d.n + 1) (d.xs ++ d.news)) (hg : W'.grownBy W2 d.v1.ownBlock) (hat : d.v1.ownBlock = some g ∨ g = W'.heap.size) (hlt : g < W2.heap.size) :
    InvP d (lPut l 8) (fPut f 8 (.slice (some ⟨g, 0, none⟩) (d.n + 1) c)) W2 := by
  have hb := grown_but hg
  have hs := h.but.size
  refine ⟨h.but.trans (hb.mono (fun j hj => Or.inr (Or.inl hj))), vals_off h.vals (Or.inr (Or.inl rfl)) (Or.inr (Or.inl rfl)), fun h7 => ?_, fun h14 => ?_, ?_, ?_, ?_⟩
  · rw [lPut_ne (by decide)] at h7
    obtain ⟨q, e1, e2, e3, e4⟩ := h.b1 h7
    exact ⟨q, by rw [fPut_ne (by decide)]; exact e1, e2, Nat.lt_of_lt_of_le e3 hb.size, fun h8 => by rw [lPut_eq] at h8; cases h8⟩
  · rw [lPut_ne (by decide)] at h14
    obtain ⟨q, e1, e2, e3, e4⟩ := h.b2 h14
    refine ⟨q, by rw [fPut_ne (by decide)]; exact e1, e2, Nat.lt_of_lt_of_le e3 hb.size, fun _ => (hb.block q e3 (fun e => ?_)).trans (e4 h15)⟩
    have := (hd.o1 q e).1; omega
  · rw [lPut_eq, if_pos rfl, fPut_eq]
    exact ⟨g, c, rfl, hown, hat.imp id (fun e => by omega), hlt⟩
  · have h1 := h.a2
    rw [lPut_ne (by decide), h15]
    rw [h15] at h1
    exact row_but h1 hb (fun g' hg' e => hd.o12 g' e hg')
  · rw [lPut_ne (by decide), lPut_ne (by decide), h18, h21]
    have h1 := h.blk
    rw [h18, h21] at h1
    exact (hb.block d.p (h.lt hd) (fun e => (hd.o1 _ e).2 rfl)).trans h1
theorem InvP.app2 (h : InvP d l f W') (hd : d.Ok) (h8 : l 8 = true) (h18 : l 18 = false) (h21 : l 21 = false) {g c : Nat} {W2 : World} (hown : W2.ownsRow d.B 3 1 (.slice (some ⟨g, 0, none⟩) (d.n2 + 1) c) (d.n2 + 1) (d.ys ++ [.int .i64 (d.ix : Int)])) (hg : W'.grownBy W2 d.v2.ownBlock) (hat : d.v2.ownBlock = some g ∨ g = W'.heap.size) (hlt : g < W2.heap.size) :
    InvP d (lPut l 15) (fPut f 15 (.slice (some ⟨g, 0, none⟩) (d.n2 + 1) c)) W2 := by
  have hb := grown_but hg
  have hs := h.but.size
  refine ⟨h.but.trans (hb.mono (fun j hj => Or.inr (Or.inr hj))), vals_off h.vals (Or.inr (Or.inr (Or.inr (Or.inl rfl)))) (Or.inr (Or.inr (Or.inr rfl))), fun h7 => ?_, fun h14 => ?_, ?_, ?_, ?_⟩
  · rw [lPut_ne (by decide)] at h7
    obtain ⟨q, e1, e2, e3, e4⟩ := h.b1 h7
    exact ⟨q, by rw [fPut_ne (by decide)]; exact e1, e2, Nat.lt_of_lt_of_le e3 hb.size, fun h => by rw [lPut_ne (by decide), h8] at h; cases h⟩
  · rw [lPut_ne (by decide)] at h14
    obtain ⟨q, e1, e2, e3, e4⟩ := h.b2 h14
    exact ⟨q, by rw [fPut_ne (by decide)]; exact e1, e2, Nat.lt_of_lt_of_le e3 hb.size, fun h => by rw [lPut_eq] at h; cases h⟩
  · have h1 := h.a1
    rw [lPut_ne (by decide), h8, if_pos rfl, fPut_ne (by decide)]
    rw [h8, if_pos rfl] at h1
    refine h1.but hb (fun g' hg' e => ?_)
    rcases hg' with h2 | h2
    · exact hd.o12 g' h2 e
    · have := (hd.o2 g' e).1; omega
  · rw [lPut_eq, if_pos rfl, fPut_eq]
    exact ⟨g, c, rfl, hown, hat.imp id (fun e => by omega), hlt⟩
  · rw [lPut_ne (by decide), lPut_ne (by decide), h18, h21]
    have h1 := h.blk
    rw [h18, h21] at h1
    exact (hb.block d.p (h.lt hd) (fun e => (hd.o2 _ e).2 rfl)).trans h1
theorem InvP.rows_set (h : InvP d l f W') (hd : d.Ok) (h8 : l 8 = true) (h15 : l 15 = true) (F : Nat) (u : Value) : RowP d.W.heap.size d.v1 d.B d.EL d.k d.n (d.xs ++ d.news) (f 8) (W'.setCell ⟨d.p, F, none⟩ u) ∧ RowP d.W.heap.size d.v2 d.B 3 1 d.n2 (d.ys ++ [.int .i64 (d.ix : Int)]) (f 15) (W'.setCell ⟨d.p, F, none⟩ u) := by
  have hb : ButS (fun j => j = d.p) W' (W'.setCell ⟨d.p, F, none⟩ u) := ButS.set (S := fun j => j = d.p) W' (p := ⟨d.p, F, none⟩) rfl u
  have h1 := h.a1; have h2 := h.a2
  rw [h8, if_pos rfl] at h1
  rw [h15, if_pos rfl] at h2
  have hp := hd.p
  exact ⟨h1.but hb (fun g hg e => by rcases hg with h | h; exact (hd.o1 g h).2 e; omega), h2.but hb (fun g hg e => by rcases hg with h | h; exact (hd.o2 g h).2 e; omega)⟩
theorem InvP.set1 (h : InvP d l f W') (hd : d.Ok) (h8 : l 8 = true) (h15 : l 15 = true) (h18 : l 18 = false) (h21 : l 21 = false) : InvP d (lPut l 18) f (W'.setCell ⟨d.p, d.F1, none⟩ (f 8)) := by
  have hb : ButS (fun j => j = d.p) W' (W'.setCell ⟨d.p, d.F1, none⟩ (f 8)) := ButS.set (S := fun j => j = d.p) W' (p := ⟨d.p, d.F1, none⟩) rfl _
  obtain ⟨r1, r2⟩ := h.rows_set hd h8 h15 d.F1 (f 8)
  refine ⟨h.but.trans (hb.mono (fun j hj => Or.inl hj)), vals_off' h.vals (Or.inl rfl), fun h7 => ?_, fun h14 => ?_, ?_, ?_, ?_⟩
  · rw [lPut_ne (by decide)] at h7
    obtain ⟨q, e1, e2, e3, e4⟩ := h.b1 h7
    exact ⟨q, e1, e2, Nat.lt_of_lt_of_le e3 hb.size, fun h => by rw [lPut_ne (by decide), h8] at h; cases h⟩
  · rw [lPut_ne (by decide)] at h14
    obtain ⟨q, e1, e2, e3, e4⟩ := h.b2 h14
    exact ⟨q, e1, e2, Nat.lt_of_lt_of_le e3 hb.size, fun h => by rw [lPut_ne (by decide), h15] at h; cases h⟩
  · rw [lPut_ne (by decide), h8, if_pos rfl]; exact r1
  · rw [lPut_ne (by decide), h15, if_pos rfl]; exact r2
  · rw [lPut_ne (by decide), lPut_eq, h21]
    have h1 := h.blk
    rw [h18, h21] at h1
    exact setCell_block h1 _
theorem InvP.set2 (h : InvP d l f W') (hd : d.Ok) (h8 : l 8 = true) (h15 : l 15 = true) (h18 : l 18 = true) (h21 : l 21 = false) : InvP d (lPut l 21) f (W'.setCell ⟨d.p, d.F2, none⟩ (f 15)) := by
  have hb : ButS (fun j => j = d.p) W' (W'.setCell ⟨d.p, d.F2, none⟩ (f 15)) := ButS.set (S := fun j => j = d.p) W' (p := ⟨d.p, d.F2, none⟩) rfl _
  obtain ⟨r1, r2⟩ := h.rows_set hd h8 h15 d.F2 (f 15)
  refine ⟨h.but.trans (hb.mono (fun j hj => Or.inl hj)), vals_off' h.vals (Or.inr rfl), fun h7 => ?_, fun h14 => ?_, ?_, ?_, ?_⟩
  · rw [lPut_ne (by decide)] at h7
    obtain ⟨q, e1, e2, e3, e4⟩ := h.b1 h7
    exact ⟨q, e1, e2, Nat.lt_of_lt_of_le e3 hb.size, fun h => by rw [lPut_ne (by decide), h8] at h; cases h⟩
  · rw [lPut_ne (by decide)] at h14
    obtain ⟨q, e1, e2, e3, e4⟩ := h.b2 h14
    exact ⟨q, e1, e2, Nat.lt_of_lt_of_le e3 hb.size, fun h => by rw [lPut_ne (by decide), h15] at h; cases h⟩
  · rw [lPut_ne (by decide), h8, if_pos rfl]; exact r1
  · rw [lPut_ne (by decide), h15, if_pos rfl]; exact r2
  · rw [lPut_eq, if_pos rfl]
    have h1 := h.blk
    rw [h18, h21] at h1
    exact setCell_block h1 _
end
theorem InvP.put' {d : PD} {l : Nat → Bool} {f : Nat → Value} {W' : World} (h : InvP d l f W') (i o : Nat) (v : Value) (hv : v = d.val i) (hm : (i, o) ∈ kP) : InvP d (lPut l i) (fPut f o v) W' := by
  subst hv; exact h.put i o hm

def FsO (base : Array Value) (lo n : Nat) (f : Nat → Value) : Array Value := base.mapIdx fun i v => if lo ≤ i ∧ i < lo + n then f (i - lo) else v
theorem FsO_self (base : Array Value) (lo n : Nat) : base = FsO base lo n (fun o => base.getD (lo + o) undef) := by
  refine Array.ext_getElem? fun k => ?_
  simp only [FsO, Array.getElem?_mapIdx]
  cases h : base[k]? with
  | none => rfl
  | some v =>
    simp only [Option.map_some, Array.getD_eq_getD_getElem?]
    split
    · rename_i h2
      rw [show lo + (k - lo) = k by omega, h]; rfl
    · rfl
theorem FsO_in {base : Array Value} {lo n : Nat} {f : Nat → Value} (o : Nat) (h : lo + n ≤ base.size) (h1 : o < n) {v : Value} (hv : f o = v) : (FsO base lo n f).getD (lo + o) undef = v := by
  subst hv
  simp [FsO, Array.getD_eq_getD_getElem?, show lo + o < base.size by omega, h1]
theorem FsO_out {base : Array Value} {lo n : Nat} {f : Nat → Value} (k : Nat) (h : k < lo) {v : Value} (hv : base.getD k undef = v) : (FsO base lo n f).getD k undef = v := by
  subst hv
  simp only [FsO, Array.getD_eq_getD_getElem?, Array.getElem?_mapIdx, if_neg (show ¬ (lo ≤ k ∧ k < lo + n) by omega)]
  cases base[k]? <;> rfl
theorem FsO_set {base : Array Value} {lo n o : Nat} {f : Nat → Value} {v : Value} (h : o < n) : (FsO base lo n f).setIfInBounds (lo + o) v = FsO base lo n (fPut f o v) := by
  refine Array.ext_getElem? fun i => ?_
  simp only [FsO, Array.getElem?_mapIdx, Array.getElem?_setIfInBounds, Array.size_mapIdx]
  by_cases e : lo + o = i
  · subst e
    by_cases hk : lo + o < base.size
    · simp [hk, h]
    · simp [hk]
  · rw [if_neg e]
    cases base[i]? with
    | none => rfl
    | some x =>
      simp only [Option.map_some]
      by_cases h2 : lo ≤ i ∧ i < lo + n
      · rw [if_pos h2, if_pos h2, fPut_ne (by omega)]
      · rw [if_neg h2, if_neg h2]
theorem FsO_nil (base : Array Value) (lo : Nat) (f : Nat → Value) : FsO base lo 0 f = base := by
  refine Array.ext_getElem? fun i => ?_
  simp only [FsO, Array.getElem?_mapIdx]
  cases base[i]? with
  | none => rfl
  | some x => simp only [Option.map_some]; rw [if_neg (by omega)]
theorem FsO_succ (base : Array Value) (lo n : Nat) (f : Nat → Value) : FsO base lo (n + 1) f = (FsO base lo n f).setIfInBounds (lo + n) (f n) := by
  refine Array.ext_getElem? fun i => ?_
  simp only [FsO, Array.getElem?_mapIdx, Array.getElem?_setIfInBounds, Array.size_mapIdx]
  by_cases e : lo + n = i
  · subst e
    by_cases hk : lo + n < base.size
    · simp [hk]
    · simp [hk]
  · rw [if_neg e]
    cases base[i]? with
    | none => rfl
    | some x =>
      simp only [Option.map_some]
      by_cases h2 : lo ≤ i ∧ i < lo + n
      · rw [if_pos h2, if_pos ⟨h2.1, by omega⟩]
      · rw [if_neg h2, if_neg (by omega)]

theorem clsd_put {ops : Array Oper} {l : Nat → Bool} {i : Nat} {o : Oper} (h : Clsd ops l) (ho : ops[i]? = some o) (hdep : ∀ e ∈ o.after, Region.binds .any e = true → l e.on = true) : Clsd ops (fun j => if j = i then true else l j) := by
  intro j o' ho' hl e he hb
  by_cases e1 : j = i
  · subst e1
    rw [ho] at ho'
    cases ho'
    have := hdep e he hb
    by_cases e2 : e.on = j
    · exact if_pos e2
    · exact (if_neg e2).trans this
  · have hl2 : l j = true := (if_neg e1).symm.trans hl
    have := h j o' ho' hl2 e he hb
    by_cases e2 : e.on = i
    · exact if_pos e2
    · exact (if_neg e2).trans this
theorem ready_nil' {md : Region.Mode} {ops : Array Oper} {l : Array Bool} (hsz : l.size = ops.size) (hlex : ∀ (i : Nat) (o : Oper), ops[i]? = some o → ∀ e ∈ o.after, Region.binds md e = true → e.on < i) (h : Region.ready md ops l = []) : ∀ i, i < ops.size → l.getD i false = true := by
  intro i
  induction i using Nat.strongRecOn with
  | ind i ih =>
    intro hi
    cases hl : l.getD i false with
    | true => rfl
    | false =>
      exfalso
      have : i ∈ Region.ready md ops l := by
        unfold Region.ready
        refine List.mem_filter.2 ⟨by simpa using hi, ?_⟩
        rw [getD_in (by omega) true false, hl, Array.getElem?_eq_getElem hi]
        simp only [Bool.not_false, Bool.true_and, Option.map_some, Option.getD_some, Array.all_eq_true_iff_forall_mem, Bool.or_eq_true, Bool.not_eq_true']
        intro e he
        cases hb : Region.binds md e with
        | false => exact Or.inl rfl
        | true =>
          right
          have hlt := hlex i ops[i] (Array.getElem?_eq_getElem hi) e he hb
          exact ih e.on hlt (by omega)
      rw [h] at this; cases this
theorem wpAny_each' {P : Program} {md : Region.Mode} {ops : Array Oper} {Q : Exit → Act → World → Prop} (Inv : Array Bool → Act → World → Prop)
    (hsz : ∀ l a w, Inv l a w → l.size = ops.size) (hlex : ∀ (i : Nat) (o : Oper), ops[i]? = some o → ∀ e ∈ o.after, Region.binds md e = true → e.on < i)
    (hstep : ∀ l a w i, Inv l a w → i ∈ Region.ready md ops l → ∀ K : Act → World → Prop, (∀ a' w', Inv (l.setIfInBounds i true) a' w' → K a' w') → wpOp P ops Q i K a w)
    (hfin : ∀ l a w, (∀ i, i < ops.size → l.getD i false = true) → Inv l a w → Q .normal a w) : ∀ (fuel : Nat) (l : Array Bool) (a : Act) (w : World), unl l ≤ fuel → Inv l a w → wpAny P md ops Q fuel l a w
  | 0, l, a, w, hf, hI => by
    have hr : Region.ready md ops l = [] := by
      cases hc : Region.ready md ops l with
      | nil => rfl
      | cons i r =>
        exfalso
        obtain ⟨o, _, h1, _⟩ := ready_mem (md := md) (ops := ops) (l := l) (i := i) (by rw [hc]; simp)
        rw [unl_zero (by omega)] at h1; cases h1
    exact ⟨hr, hfin l a w (ready_nil' (hsz l a w hI) hlex hr) hI⟩
  | fuel + 1, l, a, w, hf, hI => by
    refine ⟨fun hr => hfin l a w (ready_nil' (hsz l a w hI) hlex hr) hI, fun i hi => ?_⟩
    obtain ⟨o, _, h1, _⟩ := ready_mem hi
    exact hstep l a w i hI hi _ (fun a' w' hI' => wpAny_each' Inv hsz hlex hstep hfin fuel _ a' w' (by have := unl_set h1; omega) hI')
theorem wp_region_each' {P : Program} {id : Nat} {ops : Array Oper} {Q : Exit → Act → World → Prop} {a : Act} {w : World} (hm : P.follows .mixedOrders = true)
    (Inv : Array Value → (Nat → Bool) → Array Value → World → Prop) (hlex : ∀ (i : Nat) (o : Oper), ops[i]? = some o → ∀ e ∈ o.after, Region.binds .any e = true → e.on < i)
    (h0 : Inv a.tmps (fun _ => false) a.tmps { w with drawn := w.drawn + 1 })
    (hstep : ∀ (l : Nat → Bool) (t : Array Value) (w : World) (i : Nat) (o : Oper), Inv a.tmps l t w → ops[i]? = some o → l i = false → (∀ e ∈ o.after, Region.binds .any e = true → l e.on = true) →
      ∀ (K : Act → World → Prop) (Q : Exit → Act → World → Prop), (∀ t' w', Inv a.tmps (fun j => if j = i then true else l j) t' w' → K { tmps := t', defers := a.defers } w') → Region.wanted o (yielded ops t) = true ∧ Oper.wp P o { tmps := t, defers := a.defers } w K Q)
    (hfin : ∀ l t w, (∀ i, i < ops.size → l i = true) → Inv a.tmps l t w → Q .normal { tmps := t, defers := a.defers } w) : (Code.region id ops true).wp P Q a w := by
  refine wp_region_any hm (wpAny_each' (fun l a' w' => l.size = ops.size ∧ a'.defers = a.defers ∧ Inv a.tmps (fun i => l.getD i false) a'.tmps w') (fun l a w h => h.1) hlex ?_ ?_ _ _ _ _ ?_ ⟨by simp, rfl, ?_⟩)
  · rintro l ⟨t, d⟩ w' i ⟨hs, hd, hI⟩ hi K hK
    simp only at hd hI
    subst hd
    obtain ⟨o, ho, h1, h2⟩ := ready_mem hi
    have hil : i < ops.size := (Array.getElem?_eq_some_iff.1 ho).1
    obtain ⟨g1, g2⟩ := hstep (fun i => l.getD i false) t w' i o hI ho (by rw [getD_in (by omega) false true]; exact h1) h2 K Q (fun t' w'' hI' => hK _ _ ⟨by simpa using hs, rfl, by
      have : (fun j => (l.setIfInBounds i true).getD j false) = (fun j => if j = i then true else l.getD j false) := by
        funext j
        by_cases e : j = i
        · subst e; simp [hs, hil]
        · simp only [if_neg e, Array.getD_eq_getD_getElem?, Array.getElem?_setIfInBounds, if_neg (Ne.symm e)]
      rw [this]; exact hI'⟩)
    unfold wpOp
    rw [ho]
    show if Region.wanted o (yielded ops t) = true then _ else _
    rw [if_pos g1]
    exact Or.inl g2
  · rintro l ⟨t, d⟩ w' hall ⟨hs, hd, hI⟩
    simp only at hd hI
    subst hd
    exact hfin _ t w' hall hI
  · unfold unl
    refine Nat.le_trans (List.length_filter_le _ _) ?_
    simp
  · have : (fun i => (Array.replicate ops.size false).getD i false) = fun _ => false := by
      funext i
      simp only [Array.getD_eq_getD_getElem?, Array.getElem?_replicate]
      split <;> rfl
    rw [this]; exact h0
theorem wp_region_eachC {P : Program} {id : Nat} {ops : Array Oper} {Q : Exit → Act → World → Prop} {a : Act} {w : World} (hm : P.follows .mixedOrders = true)
    (Inv : Array Value → (Nat → Bool) → Array Value → World → Prop) (hlex : ∀ (i : Nat) (o : Oper), ops[i]? = some o → ∀ e ∈ o.after, Region.binds .any e = true → e.on < i)
    (h0 : Inv a.tmps (fun _ => false) a.tmps { w with drawn := w.drawn + 1 })
    (hstep : ∀ (l : Nat → Bool) (t : Array Value) (w : World) (i : Nat) (o : Oper), Inv a.tmps l t w → ops[i]? = some o → l i = false → (∀ e ∈ o.after, Region.binds .any e = true → l e.on = true) → Clsd ops l →
      ∀ (K : Act → World → Prop) (Q : Exit → Act → World → Prop), (∀ t' w', Inv a.tmps (lPut l i) t' w' → K { tmps := t', defers := a.defers } w') → Region.wanted o (yielded ops t) = true ∧ Oper.wp P o { tmps := t, defers := a.defers } w K Q)
    (hfin : ∀ l t w, (∀ i, i < ops.size → l i = true) → Inv a.tmps l t w → Q .normal { tmps := t, defers := a.defers } w) : (Code.region id ops true).wp P Q a w :=
  wp_region_each' hm (fun b l t w => Clsd ops l ∧ Inv b l t w) hlex ⟨fun _ _ _ h => (by cases h), h0⟩
    (fun l t w i o ⟨hc, hI⟩ ho hli hdep K Q hK => hstep l t w i o hI ho hli hdep hc K Q (fun t' w' h => hK t' w' ⟨clsd_put hc ho hdep, h⟩))
    (fun l t w hall ⟨_, h⟩ => hfin l t w hall h)
theorem no_of {a b : Bool} (h : a = true → b = true) (hb : b = false) : a = false := by
  cases a with
  | false => rfl
  | true => rw [h rfl] at hb; cases hb
end Go.Proofs.YtggdkfijioeijaaGreatDoor
namespace Go.Proofs.YtggdkfijioeijaaGreatDoor
open Go Go.RowKit Pth
def Vn (V : Nat → Value) (i1 i2 : Nat) (u1 u2 : Value) : Nat → Value := fun i => if i = i1 then u1 else if i = i2 then u2 else V i
section
variable {N B bm : Nat} {W W' : World} {S : Nat → Prop} {P : Nat → Nat} {V : Nat → Nat → Value} {A : Nat → Ask}
theorem AsksAt.own_ne (h : AsksAt N B bm W S P V A) {x : Nat} (hx : S x) {i : Nat} (hi : i < 4) {g : Nat} (hg : (V x i).ownBlock = some g) : g ≠ bm ∧ ∀ y, S y → g ≠ P y := by
  obtain ⟨_, C, e, hb, he⟩ := (h.rows x hx).block hi hg
  obtain ⟨es, c, hm⟩ := h.map_block
  refine ⟨fun e2 => ?_, fun y hy e2 => ?_⟩
  · rw [e2, hm] at hb; cases hb
  · rw [e2, (h.blk y hy).2] at hb
    injection hb with hb
    injection hb with _ hb
    exact he hb.symm
theorem AsksAt.own_lt (h : AsksAt N B bm W S P V A) {x : Nat} (hx : S x) {i : Nat} (hi : i < 4) {g : Nat} (hg : (V x i).ownBlock = some g) : g < W.heap.size := by
  obtain ⟨_, C, e, hb, _⟩ := (h.rows x hx).block hi hg
  exact (Array.getElem?_eq_some_iff.1 hb).1
theorem AsksAt.P_ne (h : AsksAt N B bm W S P V A) {x : Nat} (hx : S x) : P x ≠ bm := fun e => by
  obtain ⟨es, c, hm⟩ := h.map_block
  have := (h.blk x hx).2
  rw [e, hm] at this; cases this
theorem AsksAt.more (h : AsksAt N B bm W S P V A) {s : Nat} (hs : S s) {i1 i2 : Nat} (hi1 : i1 < 4) (hi2 : i2 < 4) {u1 u2 : Value} {A1 : Ask}
    (hb : ButS (fun j => j = P s ∨ (V s i1).ownBlock = some j ∨ (V s i2).ownBlock = some j) W W')
    (hblk : W'.heap[P s]? = some (.cells (askV A1 (Vn (V s) i1 i2 u1 u2 0) (Vn (V s) i1 i2 u1 u2 1) (Vn (V s) i1 i2 u1 u2 2) (Vn (V s) i1 i2 u1 u2 3)) 47 (0, 0)))
    (hrows : RowsU B W' (Vn (V s) i1 i2 u1 u2) A1)
    (h1 : ∀ g, u1.ownBlock = some g → (V s i1).ownBlock = some g ∨ W.heap.size ≤ g) (h2 : ∀ g, u2.ownBlock = some g → (V s i2).ownBlock = some g ∨ W.heap.size ≤ g) (hne : ∀ g, u1.ownBlock = some g → u2.ownBlock ≠ some g) :
    AsksAt N B bm W' S P (fun x => if x = s then Vn (V s) i1 i2 u1 u2 else V x) (fun x => if x = s then A1 else A x) := by
  have hX : ∀ j, (∀ y, S y → j ≠ P y) → (∀ i, i < 4 → (V s i).ownBlock ≠ some j) → ¬ (j = P s ∨ (V s i1).ownBlock = some j ∨ (V s i2).ownBlock = some j) := fun j ha hb2 hc => by
    rcases hc with hc | hc | hc
    · exact ha s hs hc
    · exact hb2 i1 hi1 hc
    · exact hb2 i2 hi2 hc
  have hown : ∀ i, i < 4 → ∀ g, (Vn (V s) i1 i2 u1 u2 i).ownBlock = some g → (∃ j, j < 4 ∧ (V s j).ownBlock = some g ∧ j = i) ∨ (W.heap.size ≤ g ∧ (i = i1 ∨ i = i2)) := fun i hi g hg => by
    unfold Vn at hg
    by_cases e1 : i = i1
    · rw [if_pos e1] at hg
      rcases h1 g hg with h | h
      · exact Or.inl ⟨i1, hi1, h, e1.symm⟩
      · exact Or.inr ⟨h, Or.inl e1⟩
    · rw [if_neg e1] at hg
      by_cases e2 : i = i2
      · rw [if_pos e2] at hg
        rcases h2 g hg with h | h
        · exact Or.inl ⟨i2, hi2, h, e2.symm⟩
        · exact Or.inr ⟨h, Or.inr e2⟩
      · rw [if_neg e2] at hg
        exact Or.inl ⟨i, hi, hg, rfl⟩
  refine ⟨?_, fun x hx => ?_, fun x hx => ?_, h.inj, fun x y hx hy i j hi hj hxy g hg => ?_⟩
  · refine h.map.but hb (fun hc => ?_)
    rcases hc with hc | hc | hc
    · exact h.P_ne hs hc.symm
    · exact (h.own_ne hs hi1 hc).1 rfl
    · exact (h.own_ne hs hi2 hc).1 rfl
  · by_cases e : x = s
    · subst e; simp only [if_pos]; exact ⟨(h.blk x hx).1, hblk⟩
    · simp only [if_neg e]
      refine ⟨(h.blk x hx).1, (hb.block _ (Array.getElem?_eq_some_iff.1 (h.blk x hx).2).1 (fun hc => ?_)).trans (h.blk x hx).2⟩
      rcases hc with hc | hc | hc
      · exact h.inj x s hx hs e hc
      · exact (h.own_ne hs hi1 hc).2 x hx rfl
      · exact (h.own_ne hs hi2 hc).2 x hx rfl
  · by_cases e : x = s
    · subst e; simp only [if_pos]; exact hrows
    · simp only [if_neg e]
      refine (h.rows x hx).but hb (fun i hi g hg hc => ?_)
      rcases hc with hc | hc | hc
      · exact (h.own_ne hx hi hg).2 s hs hc
      · exact h.off x s hx hs i i1 hi hi1 (Or.inl e) g hg hc
      · exact h.off x s hx hs i i2 hi hi2 (Or.inl e) g hg hc
  · by_cases e : x = s
    · simp only [if_pos e] at hg
      by_cases e2 : y = s
      · simp only [if_pos e2]
        have hij : i ≠ j := by rcases hxy with h | h; exact absurd (e.trans e2.symm) h; exact h
        intro hg2
        rcases hown i hi g hg with ⟨a, ha, hga, rfl⟩ | ⟨hga, hia⟩
        · rcases hown j hj g hg2 with ⟨b, hb2, hgb, rfl⟩ | ⟨hgb, _⟩
          · exact h.off s s hs hs a b ha hb2 (Or.inr hij) g hga hgb
          · have := h.own_lt hs ha hga; omega
        · rcases hown j hj g hg2 with ⟨b, hb2, hgb, rfl⟩ | ⟨hgb, hjb⟩
          · have := h.own_lt hs hb2 hgb; omega
          · unfold Vn at hg hg2
            rcases hia with rfl | rfl
            · rcases hjb with rfl | rfl
              · exact hij rfl
              · rw [if_pos rfl] at hg
                rw [if_neg (Ne.symm hij), if_pos rfl] at hg2
                exact hne g hg hg2
            · rcases hjb with rfl | rfl
              · rw [if_pos rfl] at hg2
                rw [if_neg hij, if_pos rfl] at hg
                exact hne g hg2 hg
              · exact hij rfl
      · simp only [if_neg e2]
        intro hg2
        rcases hown i hi g hg with ⟨a, ha, hga, rfl⟩ | ⟨hga, _⟩
        · exact h.off s y hs hy a j ha hj (Or.inl (Ne.symm e2)) g hga hg2
        · have := h.own_lt hy hj hg2; omega
    · simp only [if_neg e] at hg
      by_cases e2 : y = s
      · simp only [if_pos e2]
        intro hg2
        rcases hown j hj g hg2 with ⟨b, hb2, hgb, rfl⟩ | ⟨hgb, _⟩
        · exact h.off x s hx hs i b hi hb2 (Or.inl e) g hg hgb
        · have := h.own_lt hx hi hg; omega
      · simp only [if_neg e2]
        exact h.off x y hx hy i j hi hj hxy g hg
end
theorem rowP_own {W0 : Nat} {v : Value} {B : Nat} {EL : TypeId} {k n : Nat} {xs : List Value} {u : Value} {W' : World} (h : RowP W0 v B EL k n xs u W') : W'.ownsRow B EL k u (n + 1) xs ∧ ∀ g, u.ownBlock = some g → v.ownBlock = some g ∨ W0 ≤ g := by
  obtain ⟨g, c, rfl, h1, h2, _⟩ := h
  exact ⟨h1, fun g' hg' => by
    have : g = g' := by simpa [Value.ownBlock] using hg'
    subst this; exact h2⟩
theorem AsksAt.read {N B bm : Nat} {W W' : World} {S : Nat → Prop} {P : Nat → Nat} {V : Nat → Nat → Value} {A : Nat → Ask} (h : AsksAt N B bm W S P V A) {s ix : Nat} (hs : S s) (r : Rd) {l : Nat → Bool} {f : Nat → Value} {d : PD}
    (hd : d = ⟨P s, 1, 2, ix, (A s).reads.length, (A s).readAt.length, B, 2, 56, askV (A s) (V s 0) (V s 1) (V s 2) (V s 3), V s 0, V s 1, (A s).reads.flatMap rdC, (A s).readAt.flatMap ixC, rdC r, W⟩) (hI : InvP d l f W') (h8 : l 8 = true) (h15 : l 15 = true) (h21 : l 21 = true) :
    ∃ V', AsksAt N B bm W' S P V' (fun x => if x = s then { A s with reads := (A s).reads ++ [r], readAt := (A s).readAt ++ [ix] } else A x) := by
  subst hd
  have a1 := hI.a1; have a2 := hI.a2; have hblk := hI.blk
  rw [h8, if_pos rfl] at a1
  rw [h15, if_pos rfl] at a2
  rw [h21, if_pos rfl] at hblk
  obtain ⟨r1, o1⟩ := rowP_own a1
  obtain ⟨r2, o2⟩ := rowP_own a2
  have hrs := h.rows s hs
  have hX : ∀ i, i = 2 ∨ i = 3 → ∀ g, (V s i).ownBlock = some g → ¬ PD.but ⟨P s, 1, 2, ix, (A s).reads.length, (A s).readAt.length, B, 2, 56, askV (A s) (V s 0) (V s 1) (V s 2) (V s 3), V s 0, V s 1, (A s).reads.flatMap rdC, (A s).readAt.flatMap ixC, rdC r, W⟩ g := fun i hi g hg hc => by
    have hi4 : i < 4 := by omega
    rcases hc with hc | hc | hc
    · exact (h.own_ne hs hi4 hg).2 s hs hc
    · exact h.off s s hs hs i 0 hi4 (by decide) (Or.inr (by omega)) g hg hc
    · exact h.off s s hs hs i 1 hi4 (by decide) (Or.inr (by omega)) g hg hc
  refine ⟨_, h.more hs (i1 := 0) (i2 := 1) (by decide) (by decide) (u1 := f 8) (u2 := f 15) hI.but hblk ?_ o1 o2 (fun g hg hg2 => ?_)⟩
  · refine ⟨?_, ?_, row_but hrs.r2 hI.but (hX 2 (Or.inl rfl)), row_but hrs.r3 hI.but (hX 3 (Or.inr rfl))⟩
    · show W'.ownsRow B 56 2 (f 8) ((A s).reads ++ [r]).length (((A s).reads ++ [r]).flatMap rdC)
      rw [List.length_append, flat_snoc]; exact r1
    · show W'.ownsRow B 3 1 (f 15) ((A s).readAt ++ [ix]).length (((A s).readAt ++ [ix]).flatMap ixC)
      rw [List.length_append, flat_snoc]; exact r2
  · obtain ⟨_, C1, e1⟩ := own_block r1 hg
    obtain ⟨_, C2, e2⟩ := own_block r2 hg2
    rw [e1] at e2
    injection e2 with e2
    injection e2 with _ e2
    exact absurd e2 (show ¬ ((56 : TypeId) = 3) by decide)
theorem AsksAt.edit {N B bm : Nat} {W W' : World} {S : Nat → Prop} {P : Nat → Nat} {V : Nat → Nat → Value} {A : Nat → Ask} (h : AsksAt N B bm W S P V A) {s ix : Nat} (hs : S s) (r : Ed) {l : Nat → Bool} {f : Nat → Value} {d : PD}
    (hd : d = ⟨P s, 3, 4, ix, (A s).edits.length, (A s).editAt.length, B, 6, 63, askV (A s) (V s 0) (V s 1) (V s 2) (V s 3), V s 2, V s 3, (A s).edits.flatMap edC, (A s).editAt.flatMap ixC, edC r, W⟩) (hI : InvP d l f W') (h8 : l 8 = true) (h15 : l 15 = true) (h21 : l 21 = true) :
    ∃ V', AsksAt N B bm W' S P V' (fun x => if x = s then { A s with edits := (A s).edits ++ [r], editAt := (A s).editAt ++ [ix] } else A x) := by
  subst hd
  have a1 := hI.a1; have a2 := hI.a2; have hblk := hI.blk
  rw [h8, if_pos rfl] at a1
  rw [h15, if_pos rfl] at a2
  rw [h21, if_pos rfl] at hblk
  obtain ⟨r1, o1⟩ := rowP_own a1
  obtain ⟨r2, o2⟩ := rowP_own a2
  have hrs := h.rows s hs
  have hX : ∀ i, i = 0 ∨ i = 1 → ∀ g, (V s i).ownBlock = some g → ¬ PD.but ⟨P s, 3, 4, ix, (A s).edits.length, (A s).editAt.length, B, 6, 63, askV (A s) (V s 0) (V s 1) (V s 2) (V s 3), V s 2, V s 3, (A s).edits.flatMap edC, (A s).editAt.flatMap ixC, edC r, W⟩ g := fun i hi g hg hc => by
    have hi4 : i < 4 := by omega
    rcases hc with hc | hc | hc
    · exact (h.own_ne hs hi4 hg).2 s hs hc
    · exact h.off s s hs hs i 2 hi4 (by decide) (Or.inr (by omega)) g hg hc
    · exact h.off s s hs hs i 3 hi4 (by decide) (Or.inr (by omega)) g hg hc
  refine ⟨_, h.more hs (i1 := 2) (i2 := 3) (by decide) (by decide) (u1 := f 8) (u2 := f 15) hI.but hblk ?_ o1 o2 (fun g hg hg2 => ?_)⟩
  · refine ⟨row_but hrs.r0 hI.but (hX 0 (Or.inl rfl)), row_but hrs.r1 hI.but (hX 1 (Or.inr rfl)), ?_, ?_⟩
    · show W'.ownsRow B 63 6 (f 8) ((A s).edits ++ [r]).length (((A s).edits ++ [r]).flatMap edC)
      rw [List.length_append, flat_snoc]; exact r1
    · show W'.ownsRow B 3 1 (f 15) ((A s).editAt ++ [ix]).length (((A s).editAt ++ [ix]).flatMap ixC)
      rw [List.length_append, flat_snoc]; exact r2
  · obtain ⟨_, C1, e1⟩ := own_block r1 hg
    obtain ⟨_, C2, e2⟩ := own_block r2 hg2
    rw [e1] at e2
    injection e2 with e2
    injection e2 with _ e2
    exact absurd e2 (show ¬ ((63 : TypeId) = 3) by decide)
theorem AsksAt.okR {N B bm : Nat} {W : World} {S : Nat → Prop} {P : Nat → Nat} {V : Nat → Nat → Value} {A : Nat → Ask} (h : AsksAt N B bm W S P V A) {s : Nat} (hs : S s) (hB : B ≤ W.heap.size) {i1 i2 : Nat} (hi1 : i1 < 4) (hi2 : i2 < 4) (hne : i1 ≠ i2) {d : PD} (hp : d.p = P s) (h1 : d.v1 = V s i1) (h2 : d.v2 = V s i2) (hdB : d.B = B) (hW : d.W = W) : d.Ok := by
  refine ⟨?_, fun g hg => ?_, fun g hg => ?_, fun g hg => ?_, ?_⟩
  · rw [hp, hW]; exact (Array.getElem?_eq_some_iff.1 (h.blk s hs).2).1
  · rw [h1] at hg; rw [hp, hW]; exact ⟨h.own_lt hs hi1 hg, (h.own_ne hs hi1 hg).2 s hs⟩
  · rw [h2] at hg; rw [hp, hW]; exact ⟨h.own_lt hs hi2 hg, (h.own_ne hs hi2 hg).2 s hs⟩
  · rw [h1] at hg; rw [h2]; exact h.off s s hs hs i1 i2 hi1 hi2 (Or.inr hne) g hg
  · rw [hdB, hW]; exact hB
def ownP (O : Nat → Nat) (p : ByteArray) : Nat := O (Sh.hash (nb p))
set_option maxHeartbeats 1000000 in
theorem map_Of (m e : Nat) (sp : List (Nat × Nat)) (s : ByteArray) (hs : s.size ≤ 100000) (w : World) (hM : MapAt w m e sp) (hl : sp.length ≤ 100000) (O : Nat → Nat) (hS : SpI O sp M64) :
    Calls Tryz.prog 16 #[.pointer (some ⟨m, 0, none⟩), .string s] w fun en w' => en = .returned (.int .u32 (ownP O s : Nat)) ∧ Below w.heap.size w w' := by
  have HH := Lib.hid (ring_Hash s hs w)
  have HO := Lib.hid (fun (w' : World) (h : Below w.heap.size w w') => map_Owner m e (Sh.hash (nb s)) sp w' (hM.below h) hl O hS (hash_lt _))
  unfold ownP
  clear hs hM hl hS
  go_enter Tryz.func16, Tryz.ntmps16
  go_wp2_with fail
  refine HH.out.mono ?_
  rintro en w1 ⟨rfl, hb1⟩
  have HB1 := Lib.hid hb1; clear hb1
  go_wp2_with fail
  refine (HO.out w1 HB1.out).mono ?_
  rintro en w2 ⟨rfl, hb2⟩
  have HB2 := Lib.hid (HB1.out.trans (hb2.mono HB1.out.size)); clear hb2
  go_wp2_with fail
  go_ret
  exact ⟨rfl, HB2.out⟩
end Go.Proofs.YtggdkfijioeijaaGreatDoor

namespace Go.Proofs
open Go.RowKit Go.Maps Go.Sort Go.Shelf
-- maps.Keys[map[string]int,string,int] (function 48; its iterator 80) · slices.Sorted[string] (47) · slices.Sort[[]string,string] (79) · the map's type 115, the keys' 9
theorem Tryz.sorts47 (m : Nat) : AnyZ.SortsIn Tryz.prog Tryz.sorted47_ren Fence.wide m :=
  ⟨fun blk off cap ss W hH hblk hsz => callsIn_wide.2 (AnyM.slices_Sort_string Tryz.sort79 blk off cap ss W hH hblk hsz),
   fun p cap W => callsIn_wide.2 (AnyM.slices_Sort_string_none Tryz.sort79 p cap W)⟩

theorem Tryz.maps_Keys_48 (mb : Option Nat) (W : World) : CallsIn Fence.wide 5 Tryz.prog 48 #[.map mb] W fun e w' => e = .returned (.func (.func 80) #[] #[.pointer (some ⟨W.heap.size, 0, none⟩)]) ∧ w' = W.alloc (.cells #[.map mb] 115) :=
  AnyZ.keys_in Tryz.keys48 Fence.wide 5 trivial rfl mb W

set_option maxHeartbeats 1000000 in
theorem Tryz.slices_Sorted_keys_47_48 {H : Type} (b nn : Nat) (D0 : DataW H) (R : Value → Option (DataW H × List MemPlace)) (w : World) (hown : w.ownsMap Tryz.prog 9 R b nn D0) (hmax : Maps.size D0 ≤ maxLen) (hbytes : Maps.size D0 * 16 ≤ 140737488355328) :
    CallsIn Fence.wide 5 Tryz.prog 47 #[.func (.func 80) #[] #[.pointer (some ⟨w.heap.size, 0, none⟩)]] (w.alloc (.cells #[.map (some b)] 115)) fun e w' => ∃ (v : Value) (ss : List (List UInt8)), e = .returned v ∧ ss.Perm (strKeys D0) ∧
      w'.ownsRow (w.alloc (.cells #[.map (some b)] 115)).heap.size 9 1 v ss.length ((ss.mergeSort (fun x y => decide (x ≤ y))).map encStr) ∧ (v = .slice none 0 0 ↔ ss = []) ∧ Below (w.alloc (.cells #[.map (some b)] 115)).heap.size (w.alloc (.cells #[.map (some b)] 115)) w' := by
  have hbl := hown.lt
  have hseq : SeqGives Fence.wide 2 Tryz.prog 80 #[.pointer (some ⟨w.heap.size, 0, none⟩)] encStr (fun ss => ss.Perm (strKeys D0)) (Maps.size D0) (w.alloc (.cells #[.map (some b)] 115)) :=
    AnyZ.keys_gives (ρ := Tryz.keys48_ren) { Tryz.keys48 with } Fence.wide _ trivial rfl (by omega) w.heap.size b nn D0 _ (by simp) (by simp) (by
      obtain ⟨es, clock, hb, Ft, hs, hD⟩ := hown
      exact ⟨es, clock, (Below.heap_alloc _ _ b hbl).trans hb, Ft, hs, hD⟩)
  exact AnyZ.sorted_in Tryz.sorted47 Fence.wide 5 trivial trivial trivial trivial rfl (by omega) (Tryz.sorts47 _) (enters_of Tryz.func79 (by kernel_rfl) rfl) 80 #[.pointer (some ⟨w.heap.size, 0, none⟩)] trivial (enters_of Tryz.func80 (by kernel_rfl) rfl) _ _ hmax hbytes _ hseq

end Go.Proofs
