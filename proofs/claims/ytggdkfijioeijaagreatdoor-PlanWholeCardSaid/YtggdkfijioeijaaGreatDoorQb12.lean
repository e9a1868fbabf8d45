/- Plain: when a split is done, and what it makes. Contract: shardmap.Map's Split. shardmap.Map's Split in one word: which error, or what map. -/
import Derived.Test.YtggdkfijioeijaaGreatDoorQb11
namespace Go.Proofs.YtggdkfijioeijaaGreatDoor
open Go Go.RowKit
def splitL (sp : List (Nat × Nat)) (f t tw : Nat) : List (Nat × Nat) := (upto (nthRg sp) sp.length).foldl (stepS f t tw) []
def Fits (f t was tw : Nat) (xs : List Rg) : Prop := ∀ x ∈ xs, Meets f t x → x.2.2 = was ∧ x.2.2 ≠ tw
theorem splitL_law {O : Nat → Nat} {f t : Nat} (tw : Nat) (hft : f ≤ t) {sp : List (Nat × Nat)} (h : SpI O sp M64) : SpI (splitO O f t tw) (splitL sp f t tw) M64 := by
 have hl := List.length_pos_iff.2 h.ne
 have := fold_law (tw := tw) hft h sp.length hl (Nat.le_refl _)
 rwa [if_neg (Nat.lt_irrefl _)] at this
theorem fits_iff {O : Nat → Nat} {f t tw : Nat} (hft : f ≤ t) (ht : t < M64) {sp : List (Nat × Nat)} (h : SpI O sp M64) : Fits f t (O f) tw (upto (nthRg sp) sp.length) ↔ (∀ u, f ≤ u → u ≤ t → O u = O f) ∧ O f ≠ tw := by
 constructor
 ·intro hF
  have key : ∀ u, f ≤ u → u ≤ t → O u = O f ∧ O u ≠ tw := fun u h1 h2 => by
   obtain ⟨k, hk, a, b⟩ := cover h (u := u) (Nat.lt_of_le_of_lt h2 ht)
   obtain ⟨c, d⟩ := hF (nthRg sp k) (List.mem_map.2 ⟨k, by simpa using hk, rfl⟩) ⟨Nat.le_trans a h2, Nat.le_trans h1 b⟩
   have e := h.at_ hk a b
   exact ⟨e.trans c, fun h => d (e.symm.trans h)⟩
  exact ⟨fun u h1 h2 => (key u h1 h2).1, (key f (Nat.le_refl _) hft).2⟩
 ·rintro ⟨h1, h2⟩ x hx ⟨m1, m2⟩
  obtain ⟨k, hk, rfl⟩ := List.mem_map.1 hx
  have hk' : k < sp.length := by simpa using hk
  have hn := (endOf_next h hk').1
  have m1' : (sp.getD k d0).1 ≤ t := m1
  have m2' : f ≤ endOf sp k := m2
  have e := h.at_ hk' (u := max f (sp.getD k d0).1) (Nat.le_max_right _ _) (Nat.max_le.2 ⟨m2', hn⟩)
  have e2 := h1 _ (Nat.le_max_left f (sp.getD k d0).1) (Nat.max_le.2 ⟨hft, m1'⟩)
  have e3 : (nthRg sp k).2.2 = O f := e.symm.trans e2
  exact ⟨e3, fun h => h2 (e3.symm.trans h)⟩
def stepW (f t tw : Nat) (sp : List (Nat × Nat)) (x : Rg) : List (Nat × Nat) :=
 if Meets f t x then
  let s1 := if x.1 < f then addS sp x.1 x.2.2 else sp
  let s2 := addS s1 (max f x.1) tw
  if t < x.2.1 then addS s2 ((t + 1) % M64) x.2.2 else s2
 else addS sp x.1 x.2.2
theorem stepW_eq {f t tw : Nat} {sp : List (Nat × Nat)} {x : Rg} (h : x.2.1 < M64) : stepW f t tw sp x = stepS f t tw sp x := by
 unfold stepW stepS
 by_cases hm : Meets f t x
 ·rw [if_pos hm, if_pos hm]
  by_cases e : t < x.2.1
  ·simp only [if_pos e]; rw [Nat.mod_eq_of_lt (by omega)]
  ·simp only [if_neg e]
 ·rw [if_neg hm, if_neg hm]
theorem foldW_eq {f t tw : Nat} : ∀ (xs : List Rg) (sp : List (Nat × Nat)), (∀ x ∈ xs, x.2.1 < M64) → xs.foldl (stepW f t tw) sp = xs.foldl (stepS f t tw) sp
 | [], _, _ => rfl
 | x :: xs, sp, h => by
  rw [List.foldl_cons, List.foldl_cons, stepW_eq (h x (by simp)), foldW_eq xs _ (fun y hy => h y (List.mem_cons_of_mem _ hy))]
theorem stepW_length (f t tw : Nat) (sp : List (Nat × Nat)) (x : Rg) : (stepW f t tw sp x).length ≤ sp.length + 3 := by
 unfold stepW
 split
 ·simp only
  have h1 : (if x.1 < f then addS sp x.1 x.2.2 else sp).length ≤ sp.length + 1 := by
   split
   ·exact addS_length _ _ _
   ·omega
  have h2 := addS_length (if x.1 < f then addS sp x.1 x.2.2 else sp) (max f x.1) tw
  split
  ·have := addS_length (addS (if x.1 < f then addS sp x.1 x.2.2 else sp) (max f x.1) tw) ((t + 1) % M64) x.2.2; omega
  ·omega
 ·have := addS_length sp x.1 x.2.2; omega
theorem foldW_length (f t tw : Nat) : ∀ (xs : List Rg) (sp : List (Nat × Nat)), (xs.foldl (stepW f t tw) sp).length ≤ sp.length + 3 * xs.length
 | [], sp => by simp
 | x :: xs, sp => by
  rw [List.foldl_cons, List.length_cons]
  have h1 := foldW_length f t tw xs (stepW f t tw sp x)
  have h2 := stepW_length f t tw sp x
  omega
theorem endOf_lt {O : Nat → Nat} {sp : List (Nat × Nat)} (h : SpI O sp M64) {k : Nat} (hk : k < sp.length) : endOf sp k < M64 := by
 have h1 := (endOf_next h hk).2
 have h2 : ∀ x ∈ sp, x.1 < M64 := h.lt
 split at h1
 ·rename_i h3
  have := h2 (sp.getD (k + 1) d0) (by rw [List.getD_eq_getElem?_getD, List.getElem?_eq_getElem h3]; exact List.getElem_mem _)
  omega
 ·omega
theorem splitW_eq {O : Nat → Nat} {sp : List (Nat × Nat)} (h : SpI O sp M64) (f t tw : Nat) : (upto (nthRg sp) sp.length).foldl (stepW f t tw) [] = splitL sp f t tw :=
 foldW_eq _ _ (fun x hx => by
  obtain ⟨k, hk, rfl⟩ := List.mem_map.1 hx
  exact endOf_lt h (by simpa using hk))
end Go.Proofs.YtggdkfijioeijaaGreatDoor
namespace Go.Proofs.YtggdkfijioeijaaGreatDoor
open Go Go.RowKit Go.Maps
theorem SpS.grown {nb base : Nat} {ev : Value} {sp : List (Nat × Nat)} {W W' : World} {row : Option Nat} (h : SpS nb base ev sp W) (hg : W.grownBy W' row) (hr : ∀ r, row = some r → ∃ o : Obj, W.heap[r]? = some o ∧ o.isCells = false) : SpS nb base ev sp W' := by
 obtain ⟨a, cp, h1, h2⟩ := h
 have hne : ∀ j, (∃ C T F, W.heap[j]? = some (.cells C T F)) → some j ≠ row := fun j ⟨C, T, F, hj⟩ e => by
  obtain ⟨o, ho, hc⟩ := hr j e.symm
  rw [hj] at ho; cases ho; cases hc
 refine ⟨a, cp, (hg.block nb (lt_of_block h1) (hne nb ⟨_, _, _, h1⟩)).trans h1, h2.kept hg ?_⟩
 cases e : (Value.slice a sp.length cp).ownBlock with
 | none => exact Or.inl rfl
 | some j => exact Or.inr (hne j (own_cells h2 j e))
theorem SpS.below {nb base : Nat} {ev : Value} {sp : List (Nat × Nat)} {W W' : World} (h : SpS nb base ev sp W) (hb : Below W.heap.size W W') : SpS nb base ev sp W' := h.grown (below_grown hb) (fun r e => by cases e)
theorem fr_grown {nb j k : Nat} {W W' : World} {row : Option Nat} (h : Fr nb j W k) (hn : ∃ C T F, W.heap[nb]? = some (.cells C T F)) (hg : W.grownBy W' row) (hr : ∀ r, row = some r → ∃ o : Obj, W.heap[r]? = some o ∧ o.isCells = false) : Fr nb j W' k := by
 have hne : ∀ j, (∃ C T F, W.heap[j]? = some (.cells C T F)) → some j ≠ row := fun j ⟨C, T, F, hj⟩ e => by
  obtain ⟨o, ho, hc⟩ := hr j e.symm
  rw [hj] at ho; cases ho; cases hc
 have hnb : W'.heap[nb]? = W.heap[nb]? := hg.block nb (by obtain ⟨C, T, F, h⟩ := hn; exact lt_of_block h) (hne nb hn)
 refine ⟨h.1, ?_, fun g o n c hc => h.2.2 g o n c ((World.cell?_of_block (w := W) (a := ⟨nb, j, none⟩) hnb).symm.trans hc)⟩
 obtain ⟨C, T, F, h1⟩ := h.2.1
 exact ⟨C, T, F, (hg.block k (lt_of_block h1) (hne k ⟨_, _, _, h1⟩)).trans h1⟩
theorem SpS.fresh {nb base : Nat} {ev : Value} {sp : List (Nat × Nat)} {W : World} (h : SpS nb base ev sp W) {C : Array Value} {T : TypeId} : Fr nb 1 (W.alloc (.cells C T)) W.heap.size := by
 obtain ⟨a, cp, h1, h2⟩ := h
 have hl := lt_of_block h1
 refine ⟨by omega, ⟨_, _, _, (MapKept.heap_alloc _ _).1⟩, fun g o n c hc => ?_⟩
 rw [World.cell?_alloc_past _ _ _ hl, cell_of h1 1] at hc
 simp only [List.getElem?_toArray, List.getElem?_cons_succ, List.getElem?_cons_zero, Option.some.injEq, Value.slice.injEq] at hc
 obtain ⟨rfl, _⟩ := hc
 obtain ⟨C', T', F', h3⟩ := own_cells h2 g rfl
 have := lt_of_block h3
 omega
theorem SpS.map {nb base e1 : Nat} {sp : List (Nat × Nat)} {W W' : World} (h : SpS nb base (.int .u64 (e1 : Int)) sp W) (hne : sp ≠ []) (hk : ∀ k C T F, nb ≤ k → W.heap[k]? = some (Obj.cells C T F) → W'.heap[k]? = W.heap[k]?) (hnb : nb ≤ base) : MapAt W' nb e1 sp := by
 obtain ⟨a, cp, h1, h2⟩ := h
 have hpos := List.length_pos_iff.2 hne
 obtain ⟨g, rfl, hbg⟩ : ∃ g, a = some ⟨g, 0, none⟩ ∧ base ≤ g := by
  rcases h2.2 with ⟨_, h⟩ | ⟨g', cap', cur, h', hB, _⟩
  ·omega
  ·simp only [Value.slice.injEq] at h'; exact ⟨g', h'.1, hB⟩
 obtain ⟨C, T, F, hg⟩ := own_cells h2 g rfl
 have hgk := hk g _ _ _ (Nat.le_trans hnb hbg) hg
 refine ⟨g, cp, (hk nb _ _ _ (Nat.le_refl _) h1).trans h1, lt_of_block (hgk.trans hg), fun i hi => ?_⟩
 obtain ⟨s1, s2⟩ := spV_at sp i hi
 exact ⟨(World.cell?_of_block (w := W) (a := ⟨g, i * 2, none⟩) hgk).trans ((World.ownsRow.cellAt h2 (i * 2) (by omega)).trans s1), (World.cell?_of_block (w := W) (a := ⟨g, i * 2 + 1, none⟩) hgk).trans ((World.ownsRow.cellAt h2 (i * 2 + 1) (by omega)).trans s2)⟩
theorem keepsFrom_up {lo hi : Nat} {A B : World} (h : KeepsFrom lo A B) (hl : lo ≤ hi) : KeepsFrom hi A B := ⟨h.size, fun k o hk h1 h2 => h.same k o (by omega) h1 h2⟩
theorem alloc_keep {w W : World} {o : Obj} (h : w.alloc o = W) : W.heap.size = w.heap.size + 1 ∧ W.heap[w.heap.size]? = some o ∧ Below w.heap.size w W := by
 subst h
 exact ⟨by simp, (MapKept.heap_alloc _ _).1, (Below.refl _ _).alloc (Nat.le_refl _) _⟩
theorem five {w W : World} {o0 o1 o2 o3 o4 : Obj} (h : ((((w.alloc o0).alloc o1).alloc o2).alloc o3).alloc o4 = W) : W.heap.size = w.heap.size + 5 ∧ Below w.heap.size w W ∧ W.heap[w.heap.size]? = some o0 ∧ W.heap[w.heap.size + 1]? = some o1 ∧ W.heap[w.heap.size + 1 + 1]? = some o2 ∧ W.heap[w.heap.size + 1 + 1 + 1]? = some o3 ∧ W.heap[w.heap.size + 1 + 1 + 1 + 1]? = some o4 := by
 obtain ⟨W1, h1⟩ : ∃ W1, w.alloc o0 = W1 := ⟨_, rfl⟩
 obtain ⟨W2, h2⟩ : ∃ W2, W1.alloc o1 = W2 := ⟨_, rfl⟩
 obtain ⟨W3, h3⟩ : ∃ W3, W2.alloc o2 = W3 := ⟨_, rfl⟩
 obtain ⟨W4, h4⟩ : ∃ W4, W3.alloc o3 = W4 := ⟨_, rfl⟩
 rw [h1, h2, h3, h4] at h
 obtain ⟨s1, g1, b1⟩ := alloc_keep h1
 obtain ⟨s2, g2, b2⟩ := alloc_keep h2
 obtain ⟨s3, g3, b3⟩ := alloc_keep h3
 obtain ⟨s4, g4, b4⟩ := alloc_keep h4
 obtain ⟨s5, g5, b5⟩ := alloc_keep h
 rw [s1] at s2 g2; rw [s2] at s3 g3; rw [s3] at s4 g4; rw [s4] at s5 g5
 exact ⟨s5, (((b1.trans (b2.mono (by omega))).trans (b3.mono (by omega))).trans (b4.mono (by omega))).trans (b5.mono (by omega)),
  (b5.block _ (by omega)).trans ((b4.block _ (by omega)).trans ((b3.block _ (by omega)).trans ((b2.block _ (by omega)).trans g1))),
  (b5.block _ (by omega)).trans ((b4.block _ (by omega)).trans ((b3.block _ (by omega)).trans g2)), (b5.block _ (by omega)).trans ((b4.block _ (by omega)).trans g3), (b5.block _ (by omega)).trans g4, g5⟩
theorem four {w W : World} {o0 o1 o2 o3 : Obj} (h : (((w.alloc o0).alloc o1).alloc o2).alloc o3 = W) : W.heap.size = w.heap.size + 4 ∧ Below w.heap.size w W ∧ W.heap[w.heap.size]? = some o0 ∧ W.heap[w.heap.size + 1]? = some o1 ∧ W.heap[w.heap.size + 1 + 1]? = some o2 ∧ W.heap[w.heap.size + 1 + 1 + 1]? = some o3 := by
 obtain ⟨W1, h1⟩ : ∃ W1, w.alloc o0 = W1 := ⟨_, rfl⟩
 obtain ⟨W2, h2⟩ : ∃ W2, W1.alloc o1 = W2 := ⟨_, rfl⟩
 obtain ⟨W3, h3⟩ : ∃ W3, W2.alloc o2 = W3 := ⟨_, rfl⟩
 rw [h1, h2, h3] at h
 obtain ⟨s1, g1, b1⟩ := alloc_keep h1
 obtain ⟨s2, g2, b2⟩ := alloc_keep h2
 obtain ⟨s3, g3, b3⟩ := alloc_keep h3
 obtain ⟨s4, g4, b4⟩ := alloc_keep h
 rw [s1] at s2 g2; rw [s2] at s3 g3; rw [s3] at s4 g4
 exact ⟨s4, ((b1.trans (b2.mono (by omega))).trans (b3.mono (by omega))).trans (b4.mono (by omega)),
  (b4.block _ (by omega)).trans ((b3.block _ (by omega)).trans ((b2.block _ (by omega)).trans g1)),
  (b4.block _ (by omega)).trans ((b3.block _ (by omega)).trans g2), (b4.block _ (by omega)).trans g3, g4⟩
theorem setCell_size (W : World) (a : Addr) (v : Value) : (W.setCell a v).heap.size = W.heap.size := by
 show (W.heap.modify _ _).size = _
 rw [Array.size_modify]
theorem three_set {W : World} {x2 x3 x4 : Nat} (l23 : x2 < x3) (l34 : x3 < x4) {u1 u2 u3 : Value} {T1 T2 T3 : TypeId} (d2 : W.heap[x2]? = some (.cells #[u1] T1 (0, 0))) (d3 : W.heap[x3]? = some (.cells #[u2] T2 (0, 0))) (d4 : W.heap[x4]? = some (.cells #[u3] T3 (0, 0))) (v1 v2 v3 : Value) :
  ∃ W', ((W.setCell ⟨x2, 0, none⟩ v1).setCell ⟨x3, 0, none⟩ v2).setCell ⟨x4, 0, none⟩ v3 = W' ∧ W'.cell? ⟨x2, 0, none⟩ = some v1 ∧ W'.cell? ⟨x3, 0, none⟩ = some v2 ∧ W'.cell? ⟨x4, 0, none⟩ = some v3 ∧ Below (x2) W W' ∧ W'.heap.size = W.heap.size ∧ ∀ k, k ≠ x2 → k ≠ x3 → k ≠ x4 → W'.heap[k]? = W.heap[k]? := by
 have n23 : x2 ≠ x3 := by omega
 have n24 : x2 ≠ x4 := by omega
 have n34 : x3 ≠ x4 := by omega
 obtain ⟨W1, hW1⟩ : ∃ X, W.setCell ⟨x2, 0, none⟩ v1 = X := ⟨_, rfl⟩
 obtain ⟨W2, hW2⟩ : ∃ X, W1.setCell ⟨x3, 0, none⟩ v2 = X := ⟨_, rfl⟩
 obtain ⟨W3, hW3⟩ : ∃ X, W2.setCell ⟨x4, 0, none⟩ v3 = X := ⟨_, rfl⟩
 have k1 : ∀ k, k ≠ x2 → W1.heap[k]? = W.heap[k]? := fun k h => by rw [← hW1]; exact Below.heap_setCell W ⟨x2, 0, none⟩ v1 k h
 have k2 : ∀ k, k ≠ x3 → W2.heap[k]? = W1.heap[k]? := fun k h => by rw [← hW2]; exact Below.heap_setCell W1 ⟨x3, 0, none⟩ v2 k h
 have k3 : ∀ k, k ≠ x4 → W3.heap[k]? = W2.heap[k]? := fun k h => by rw [← hW3]; exact Below.heap_setCell W2 ⟨x4, 0, none⟩ v3 k h
 have e1 : W1.heap[x2]? = some (.cells #[v1] T1 (0, 0)) := by rw [← hW1]; exact setCell_block (i := 0) d2 v1
 have e2 : W2.heap[x3]? = some (.cells #[v2] T2 (0, 0)) := by rw [← hW2]; exact setCell_block (i := 0) ((k1 _ (Ne.symm n23)).trans d3) v2
 have e3 : W3.heap[x4]? = some (.cells #[v3] T3 (0, 0)) := by rw [← hW3]; exact setCell_block (i := 0) ((k2 _ (Ne.symm n34)).trans ((k1 _ (Ne.symm n24)).trans d4)) v3
 have hz : W3.heap.size = W.heap.size := by
  rw [← hW3, setCell_size, ← hW2, setCell_size, ← hW1, setCell_size]
 have key : ∀ k, k ≠ x2 → k ≠ x3 → k ≠ x4 → W3.heap[k]? = W.heap[k]? := fun k h1 h2 h3 => (k3 k h3).trans ((k2 k h2).trans (k1 k h1))
 refine ⟨W3, by rw [hW1, hW2, hW3], cell_of ((k3 _ n24).trans ((k2 _ n23).trans e1)) 0, cell_of ((k3 _ n34).trans e2) 0, cell_of e3 0, ⟨?_, ?_, ?_, Nat.le_of_eq hz.symm, fun j hj => key j (by omega) (by omega) (by omega)⟩, hz, key⟩
 ·rw [← hW3]; show W2.os = _; rw [← hW2]; show W1.os = _; rw [← hW1]; rfl
 ·rw [← hW3]; show W2.tape = _; rw [← hW2]; show W1.tape = _; rw [← hW1]; rfl
 ·rw [← hW3]; show W2.output = _; rw [← hW2]; show W1.output = _; rw [← hW1]; rfl
theorem results_cell3 {P : Program} {fn : Func} {p1 p2 p3 : Tmp} {t1 t2 t3 e : TypeId} {k2 k3 : IntKind} (h : fn.results = #[.cell p1 t1, .cell p2 t2, .cell p3 t3]) (tmps : Array Value) (w : World) (g1 g2 g3 : Nat) (v1 v2 v3 : Value)
  (q1 : tmps.getD p1 undef = .pointer (some ⟨g1, 0, none⟩)) (q2 : tmps.getD p2 undef = .pointer (some ⟨g2, 0, none⟩)) (q3 : tmps.getD p3 undef = .pointer (some ⟨g3, 0, none⟩))
  (u1 : P.underlying t1 = some (.pointer e)) (u2 : P.underlying t2 = some (.int k2)) (u3 : P.underlying t3 = some (.int k3)) (c1 : w.cell? ⟨g1, 0, none⟩ = some v1) (c2 : w.cell? ⟨g2, 0, none⟩ = some v2) (c3 : w.cell? ⟨g3, 0, none⟩ = some v3) :
  (results fn tmps).run P w = .ok (.tuple #[v1, v2, v3]) w := by
 have q1' : tmps[p1]?.getD undef = .pointer (some ⟨g1, 0, none⟩) := by simpa using q1
 have q2' : tmps[p2]?.getD undef = .pointer (some ⟨g2, 0, none⟩) := by simpa using q2
 have q3' : tmps[p3]?.getD undef = .pointer (some ⟨g3, 0, none⟩) := by simpa using q3
 have a1 : (isAgg t1).run P w = .ok false w := by
  unfold isAgg
  rw [Sem.run_bind, run_underlying u1 w]; rfl
 have a2 : (isAgg t2).run P w = .ok false w := by
  unfold isAgg
  rw [Sem.run_bind, run_underlying u2 w]; rfl
 have a3 : (isAgg t3).run P w = .ok false w := by
  unfold isAgg
  rw [Sem.run_bind, run_underlying u3 w]; rfl
 simp [results, h, q1', q2', q3', asAddr, loadVar, Sem.run_bind, a1, a2, a3, c1, c2, c3, Result.andThen]
set_option maxRecDepth 100000 in
set_option maxHeartbeats 1000000 in
theorem map_Split_arg (m f t tw : Nat) (w : World) (ha : t < f ∨ tw = 0) :
  Calls Tryz.prog 28 #[.pointer (some ⟨m, 0, none⟩), .agg #[.int .u64 (f : Int), .int .u64 (t : Int)], .int .u32 (tw : Int)] w fun en w' => en = .returned (.tuple #[.pointer none, .int .u32 0, .int .i64 2]) ∧ Below w.heap.size w w' := by
 by_cases hft : t < f
 ·have h1 : ((t : Int) < (f : Int)) = True := by simp; omega
  have h1' : (t : Int) < (f : Int) := by omega
  go_enter Tryz.func28, Tryz.ntmps28
  go_upto_region 3 with fail
  obtain ⟨W0, hW0⟩ : ∃ W0, ((((w.alloc (.cells #[.int .u64 (f : Int), .int .u64 (t : Int)] 27)).alloc (.cells #[.int .u32 (tw : Int)] 28)).alloc (.cells #[.pointer none] 33)).alloc (.cells #[.int .u32 0] 28)).alloc (.cells #[.int .i64 0] 38) = W0 := ⟨_, rfl⟩
  obtain ⟨hz0, hB0, d0, d1, d2, d3, d4⟩ := five hW0
  rw [hW0]
  clear hW0
  have f0 := cell_of d0 0
  have f1 := cell_of d0 1
  have f2 := cell_of d1 0
  have f3 := cell_of d2 0
  have f4 := cell_of d3 0
  have f5 := cell_of d4 0
  have r3 := frozen_of d2 0
  have r4 := frozen_of d3 0
  have r5 := frozen_of d4 0
  go_wp2_with fail
  obtain ⟨W1, hW1, c1, c2, c3, hb1, _, _⟩ := three_set (Nat.lt_succ_self _) (Nat.lt_succ_self _) d2 d3 d4 (.pointer none) (.int .u32 0) (.int .i64 2)
  rw [hW1]
  refine bodyPost_ret (results_cell3 rfl _ _ _ _ _ _ _ _ rfl rfl rfl Tryz.underlying33 Tryz.underlying28 Tryz.underlying38 c1 c2 c3) rfl ⟨rfl, hB0.trans (hb1.mono (by omega))⟩
 ·have h1 : ((t : Int) < (f : Int)) = False := by simp; omega
  have h2 : tw = 0 := by omega
  subst h2
  go_enter Tryz.func28, Tryz.ntmps28
  go_upto_region 3 with fail
  obtain ⟨W0, hW0⟩ : ∃ W0, ((((w.alloc (.cells #[.int .u64 (f : Int), .int .u64 (t : Int)] 27)).alloc (.cells #[.int .u32 0] 28)).alloc (.cells #[.pointer none] 33)).alloc (.cells #[.int .u32 0] 28)).alloc (.cells #[.int .i64 0] 38) = W0 := ⟨_, rfl⟩
  obtain ⟨hz0, hB0, d0, d1, d2, d3, d4⟩ := five hW0
  rw [hW0]
  clear hW0
  have f0 := cell_of d0 0
  have f1 := cell_of d0 1
  have f2 := cell_of d1 0
  have f3 := cell_of d2 0
  have f4 := cell_of d3 0
  have f5 := cell_of d4 0
  have r3 := frozen_of d2 0
  have r4 := frozen_of d3 0
  have r5 := frozen_of d4 0
  go_wp2_with fail
  obtain ⟨W1, hW1, c1, c2, c3, hb1, _, _⟩ := three_set (Nat.lt_succ_self _) (Nat.lt_succ_self _) d2 d3 d4 (.pointer none) (.int .u32 0) (.int .i64 2)
  rw [hW1]
  refine bodyPost_ret (results_cell3 rfl _ _ _ _ _ _ _ _ rfl rfl rfl Tryz.underlying33 Tryz.underlying28 Tryz.underlying38 c1 c2 c3) rfl ⟨rfl, hB0.trans (hb1.mono (by omega))⟩
def SplitG (f t tw was e1 : Nat) (sp : List (Nat × Nat)) (w : World) (en : Ending) (w' : World) : Prop := Below w.heap.size w w' ∧
      (¬ Fits f t was tw (upto (nthRg sp) sp.length) ∧ en = .returned (.tuple #[.pointer none, .int .u32 0, .int .i64 270])
      ∨ Fits f t was tw (upto (nthRg sp) sp.length) ∧ (2048 < (splitL sp f t tw).length ∨ e1 = 0) ∧ en = .returned (.tuple #[.pointer none, .int .u32 0, .int .i64 4])
      ∨ Fits f t was tw (upto (nthRg sp) sp.length) ∧ ¬ (2048 < (splitL sp f t tw).length ∨ e1 = 0) ∧ ∃ n, en = .returned (.tuple #[.pointer (some ⟨n, 0, none⟩), .int .u32 (was : Int), .int .i64 0]) ∧ MapAt w' n e1 (splitL sp f t tw) ∧ w.heap.size ≤ n)
attribute [local go_sem] Oper.semAt_some
set_option maxRecDepth 100000 in
set_option maxHeartbeats 4000000 in
theorem map_Split_do (m e f t tw : Nat) (sp : List (Nat × Nat)) (w : World) (hM : MapAt w m e sp) (hl : sp.length ≤ 10000) (O : Nat → Nat) (hS : SpI O sp M64) (hft : f ≤ t) (ht : t < M64) (htw : tw ≠ 0) :
  Calls Tryz.prog 28 #[.pointer (some ⟨m, 0, none⟩), .agg #[.int .u64 (f : Int), .int .u64 (t : Int)], .int .u32 (tw : Int)] w (SplitG f t tw (O f) ((e + 1) % M64) sp w) := by
 have hl1 : 1 ≤ sp.length := List.length_pos_iff.2 hS.ne
 have hf64 : f < M64 := Nat.lt_of_le_of_lt hft ht
 obtain ⟨was, hwas⟩ : ∃ x, O f = x := ⟨_, rfl⟩
 obtain ⟨e1, he1⟩ : ∃ x, (e + 1) % M64 = x := ⟨_, rfl⟩
 rw [hwas, he1]
 have h1 : ((t : Int) < (f : Int)) = False := by simp; omega
 have h1' : ¬ (t : Int) < (f : Int) := by omega
 have h2 : ((tw : Int) == 0) = false := by simp; omega
 refine (callsIn_wide (n := 14)).1 ?_
 refine callsIn_of_wp_marks Tryz.func28 rfl trivial ?_ rfl
 simp only [Tryz.ntmps28, List.size_toArray, List.length_cons, List.length_nil, Nat.reduceAdd, Nat.reduceSub, Array.replicate_succ, Array.replicate_zero, List.push_toArray, List.append_toArray, List.nil_append, List.cons_append]
 gi_wp2_with fail
 obtain ⟨W0, hW0⟩ : ∃ W0, ((((w.alloc (.cells #[.int .u64 (f : Int), .int .u64 (t : Int)] 27)).alloc (.cells #[.int .u32 (tw : Int)] 28)).alloc (.cells #[.pointer none] 33)).alloc (.cells #[.int .u32 0] 28)).alloc (.cells #[.int .i64 0] 38) = W0 := ⟨_, rfl⟩
 obtain ⟨hz0, hB0, d0, d1, d2, d3, d4⟩ := five hW0
 rw [hW0]
 clear hW0
 refine ⟨trivial, (callsIn_wide.2 (map_Owner m e f sp W0 (hM.below hB0) (by omega) O hS hf64)).mono ?_⟩
 rintro en w1 ⟨rfl, hb1⟩
 have hs1 := hb1.size
 have hB1 := hB0.trans (hb1.mono hB0.size)
 have hM1 := hM.below hB1
 have hml := lt_of_block hM.choose_spec.choose_spec.1
 replace d0 := (hb1.block _ (by omega)).trans d0
 replace d1 := (hb1.block _ (by omega)).trans d1
 replace d2 := (hb1.block _ (by omega)).trans d2
 replace d3 := (hb1.block _ (by omega)).trans d3
 replace d4 := (hb1.block _ (by omega)).trans d4
 have hew : IntKind.u64.wrap ((e : Int) + 1) = (e1 : Int) := by rw [IntKind.wrap_u64, ← he1]; show _ = (((e + 1) % 18446744073709551616 : Nat) : Int); omega
 have c0 : w1.cell? ⟨m, 0, none⟩ = some (.int .u64 (e : Int)) := cell_of hM1.choose_spec.choose_spec.1 0
 obtain ⟨B, hB⟩ : ∃ x, w1.heap.size = x := ⟨_, rfl⟩
 have HS := Lib.hid hS; have HB1 := Lib.hid hB1; have HD := Lib.hid (And.intro d0 (And.intro d1 (And.intro d2 (And.intro d3 d4)))); have HM1 := Lib.hid hM1; have HE := Lib.hid he1; have HW := Lib.hid hwas
 have hBz : w.heap.size + 5 ≤ B := by omega
 have hm8 : m < w.heap.size := hml
 rw [hwas]
 clear hM hS hM1 hB0 hB1 hb1 d0 d1 d2 d3 d4 hwas he1 hml hs1 hz0
 have c0a : (w1.alloc (.cells #[.int .u32 (was : Int)] 28)).cell? ⟨m, 0, none⟩ = some (.int .u64 (e : Int)) := (World.cell?_alloc_past _ _ _ (by show m < _; omega)).trans c0
 gi_wp2_with fail
 obtain ⟨Wa, hWa⟩ : ∃ Wa, (((w1.alloc (.cells #[.int .u32 (was : Int)] 28)).alloc (.cells #[.int .u64 (e1 : Int), .slice none 0 0] 143)).alloc (.cells #[.pointer (some ⟨B + 1, 0, none⟩)] 33)).alloc (.cells #[.nilFunc] 148) = Wa := ⟨_, rfl⟩
 obtain ⟨hza, hba, g0, g1, g2, g3⟩ := four hWa
 rw [hWa]
 rw [hB] at hza hba g0 g1 g2 g3
 have g3c : Wa.cell? ⟨B + 1 + 1 + 1, 0, none⟩ = some .nilFunc := cell_of g3 0
 have g3f : Wa.frozen? ⟨B + 1 + 1 + 1, 0, none⟩ = false := frozen_of g3 0
 obtain ⟨fv, hfv⟩ : ∃ fv : Value, fv = .func (.func 67) #[] #[.pointer (some ⟨B + 1 + 1, 0, none⟩)] := ⟨_, rfl⟩
 have hst : (store ⟨B + 1 + 1 + 1, 0, none⟩ (.func (.func 67) #[] #[.pointer (some ⟨B + 1 + 1, 0, none⟩)])).run Tryz.prog Wa = .ok () (Wa.setCell ⟨B + 1 + 1 + 1, 0, none⟩ (.func (.func 67) #[] #[.pointer (some ⟨B + 1 + 1, 0, none⟩)])) := by
  rw [run_store _ _ _ _ _ rfl, g3c, g3f]; rfl
 clear hWa
 rw [hst]
 gi_wp2_with fail
 obtain ⟨W2, hW2⟩ : ∃ W2, Wa.setCell ⟨B + 1 + 1 + 1, 0, none⟩ (.func (.func 67) #[] #[.pointer (some ⟨B + 1 + 1, 0, none⟩)]) = W2 := ⟨_, rfl⟩
 rw [hW2]
 have hz2 : W2.heap.size = B + 4 := by rw [← hW2, setCell_size, hza]
 have hk2 : ∀ k, k ≠ B + 1 + 1 + 1 → W2.heap[k]? = Wa.heap[k]? := fun k h => by rw [← hW2]; exact Below.heap_setCell Wa ⟨B + 1 + 1 + 1, 0, none⟩ _ k h
 have hb2 : Below B w1 W2 := by rw [← hW2]; exact hba.trans (below_set _ _ (by show B ≤ B + 1 + 1 + 1; omega))
 have g3' : W2.heap[B + 1 + 1 + 1]? = some (.cells #[.func (.func 67) #[] #[.pointer (some ⟨B + 1 + 1, 0, none⟩)]] 148 (0, 0)) := by rw [← hW2]; exact setCell_block (i := 0) g3 _
 replace g0 := (hk2 _ (by omega)).trans g0
 replace g1 := (hk2 _ (by omega)).trans g1
 replace g2 := (hk2 _ (by omega)).trans g2
 clear hW2 hst g3 g3c g3f hk2 hba hza
 refine ⟨trivial, (callsIn_wide.2 (map_ranges m W2)).mono ?_⟩
 rintro en w3 ⟨rfl, hw3⟩
 obtain ⟨hs3, hbm, hb3⟩ := alloc_keep hw3.symm
 have hM2 := HM1.out.below (by rw [hB]; exact hb2)
 have hM3 := hM2.below hb3
 have hB3 : Below B w1 w3 := hb2.trans (hb3.mono (by omega))
 replace g0 := (hb3.block _ (by omega)).trans g0
 replace g1 := (hb3.block _ (by omega)).trans g1
 replace g2 := (hb3.block _ (by omega)).trans g2
 replace g3' := (hb3.block _ (by omega)).trans g3'
 obtain ⟨d0, d1, d2, d3, d4⟩ := HD.out
 replace d0 := (hB3.block _ (by omega)).trans d0
 replace d1 := (hB3.block _ (by omega)).trans d1
 replace d2 := (hB3.block _ (by omega)).trans d2
 replace d3 := (hB3.block _ (by omega)).trans d3
 replace d4 := (hB3.block _ (by omega)).trans d4
 rw [hz2] at hs3 hbm
 rw [hz2]
 have hBW3 : Below w.heap.size w w3 := HB1.out.trans (hB3.mono (by omega))
 have hseq := ranges_stops 13 (by decide) (B + 4) m e sp (B + 1) 1 w3 hl1 (by omega) HS.out.rise HS.out.lt hM3 (cell_of hbm 0) (by omega) (fun g o n c hc => by rw [cell_of g1 1] at hc; cases hc)
 have hown : SpS (B + 1) (B + 5) (.int .u64 (e1 : Int)) [] w3 := ⟨none, 0, g1, World.ownsRow_nil _ _ _ _⟩
 have hcells : ∀ W', KX (B + 1) (B + 5) w3 W' → W'.cell? ⟨w.heap.size, 0, none⟩ = some (.int .u64 (f : Int)) ∧ W'.cell? ⟨w.heap.size, 1, none⟩ = some (.int .u64 (t : Int)) ∧ W'.cell? ⟨w.heap.size + 1, 0, none⟩ = some (.int .u32 (tw : Int)) ∧ W'.cell? ⟨B, 0, none⟩ = some (.int .u32 (was : Int)) ∧ W'.cell? ⟨B + 1 + 1, 0, none⟩ = some (.pointer (some ⟨B + 1, 0, none⟩)) ∧ W'.cell? ⟨B + 1 + 1 + 1, 0, none⟩ = some (.func (.func 67) #[] #[.pointer (some ⟨B + 1 + 1, 0, none⟩)]) := fun W' hk =>
  ⟨cell_of ((hk.same _ (by omega) (by omega)).trans d0) 0, cell_of ((hk.same _ (by omega) (by omega)).trans d0) 1, cell_of ((hk.same _ (by omega) (by omega)).trans d1) 0, cell_of ((hk.same _ (by omega) (by omega)).trans g0) 0, cell_of ((hk.same _ (by omega) (by omega)).trans g2) 0, cell_of ((hk.same _ (by omega) (by omega)).trans g3') 0⟩
 have hres : ∀ W', KX (B + 1) (B + 5) w3 W' → Below w.heap.size w W' ∧ W'.heap[w.heap.size + 1 + 1]? = some (.cells #[.pointer none] 33 (0, 0)) ∧ W'.heap[w.heap.size + 1 + 1 + 1]? = some (.cells #[.int .u32 0] 28 (0, 0)) ∧ W'.heap[w.heap.size + 1 + 1 + 1 + 1]? = some (.cells #[.int .i64 0] 38 (0, 0)) := fun W' hk =>
  ⟨hBW3.trans (hk.below (by omega) (by omega)), (hk.same _ (by omega) (by omega)).trans d2, (hk.same _ (by omega) (by omega)).trans d3, (hk.same _ (by omega) (by omega)).trans d4⟩
 have HSEQ := Lib.hid hseq; have HOWN := Lib.hid hown; have HF := Lib.hid hcells; have HRES := Lib.hid hres; have HS3 := Lib.hid hs3
 clear hseq hown hcells hres hs3 hw3 hbm hb3 hb2 hM2 hM3 hB3 g0 g1 g2 g3' d0 d1 d2 d3 d4 HM1 HB1 HD hfv fv hBW3 hz2 c0 hB
 gi_wp2_with fail
 apply wpIn_rangeFunc_ownH rfl (by decide) (gf := 74) (lb := #[.pointer (some ⟨B + 4, 0, none⟩)]) rfl trivial (enters_of Tryz.func74 (by kernel_rfl) rfl)
  HSEQ.out (fun h h' => h.trans h') (fun W l o o' hl h1 h2 h3 => ?hkb) (Below.refl _ _) (fun _ => rfl)
  (fun pre W => SpS (B + 1) (B + 5) (.int .u64 (e1 : Int)) (pre.foldl (stepW f t tw) []) W ∧ KX (B + 1) (B + 5) w3 W ∧ Fits f t was tw pre)
  (fun c pre W => c = .ret ∧ ¬ Fits f t was tw pre ∧ Below w.heap.size w W ∧ W.cell? ⟨w.heap.size + 1 + 1, 0, none⟩ = some (.pointer none) ∧ W.cell? ⟨w.heap.size + 1 + 1 + 1, 0, none⟩ = some (.int .u32 0) ∧ W.cell? ⟨w.heap.size + 1 + 1 + 1 + 1, 0, none⟩ = some (.int .i64 270))
  (Ax := fun x a' W => ∃ Bk, a' = { tmps := #[.pointer (some ⟨m, 0, none⟩), .agg #[.int .u64 (f : Int), .int .u64 (t : Int)], .int .u32 (tw : Int), undef, .pointer (some ⟨w.heap.size, 0, none⟩), .pointer (some ⟨w.heap.size + 1, 0, none⟩), .pointer (some ⟨w.heap.size + 1 + 1, 0, none⟩), .pointer (some ⟨w.heap.size + 1 + 1 + 1, 0, none⟩), .pointer (some ⟨w.heap.size + 1 + 1 + 1 + 1, 0, none⟩), .pointer (some ⟨B, 0, none⟩), .pointer (some ⟨B + 1 + 1, 0, none⟩), .pointer (some ⟨B + 1 + 1 + 1, 0, none⟩), .pointer (some ⟨Bk, 0, none⟩), .int .u32 (x.2.2 : Int), undef, .bool false, .pointer (some ⟨m, 0, none⟩), .bool false, .bool false, .pointer (some ⟨w.heap.size, 0, none⟩), .int .u64 (f : Int), .pointer (some ⟨w.heap.size, 1, none⟩), .int .u64 (t : Int), .bool false, .int .u32 (tw : Int), .bool false, .pointer (some ⟨m, 0, none⟩), .pointer (some ⟨w.heap.size, 0, none⟩), .int .u64 (f : Int), .int .u32 (was : Int), .pointer (some ⟨m, 0, none⟩), .pointer (some ⟨m, 0, none⟩), .pointer (some ⟨m, 0, none⟩), .int .u64 (e : Int), .int .u64 (e1 : Int), .agg #[.int .u64 (e1 : Int), .slice none 0 0], .pointer (some ⟨B + 1, 0, none⟩), .func (.func 67) #[] #[.pointer (some ⟨B + 1 + 1, 0, none⟩)], .pointer (some ⟨m, 0, none⟩), .func (.func 74) #[] #[.pointer (some ⟨B + 4, 0, none⟩)], .agg #[.int .u64 (x.1 : Int), .int .u64 (x.2.1 : Int)], .int .u32 (x.2.2 : Int), undef, undef, undef, undef, undef, undef, undef, undef, undef, undef, undef, undef, undef, undef, undef, undef, undef, undef, undef, undef, undef, undef, undef, undef, undef, undef, undef, undef, undef, undef, undef, undef, undef, undef, undef, undef, undef, undef, undef, undef, undef, undef, undef, undef, undef, undef, undef, undef, undef, undef, undef, undef, undef, undef, undef, undef, undef, undef, undef, undef, undef, undef, undef, undef, undef, undef, undef, undef, undef, undef, undef], defers := [] } ∧ B + 5 ≤ Bk ∧ W.heap[Bk]? = some (.cells #[.int .u64 (x.1 : Int), .int .u64 (x.2.1 : Int)] 27 (0, 0)) ∧ Fr (B + 1) 1 W Bk ∧ ∃ C T F, W.heap[B + 1]? = some (.cells C T F))
 case hkb => exact KR.putObj o' h1 h2 (by have := HS3.out; omega)
 case hI =>
  rintro s A C row ⟨h1, h2, h3⟩ hg hr
  exact ⟨h1.grown hg (fun r e => (hr r e).2), h2.trans (KX.row hg (fun j e => by have := (hr j e).1; have := HS3.out; omega) (by have := h2.size; have := HS3.out; omega)), h3⟩
 case hIx =>
  rintro c s A C row ⟨rfl, h1, h2, h3, h4, h5⟩ hg hr
  have hk : ∀ j, j < B + 5 → j < A.heap.size → C.heap[j]? = A.heap[j]? := fun j hj hj2 => hg.block j hj2 (fun e => by have := (hr _ e.symm).1; have := HS3.out; omega)
  exact ⟨rfl, h1, h2.trans ⟨hg.os, hg.tape, hg.output, hg.size, fun j hj => hk j (by omega) (by have := h2.size; omega)⟩, (World.cell?_of_block (w := A) (a := ⟨w.heap.size + 1 + 1, 0, none⟩) (hk _ (by dsimp only; omega) (block_lt_of_cell h3))).trans h3, (World.cell?_of_block (w := A) (a := ⟨w.heap.size + 1 + 1 + 1, 0, none⟩) (hk _ (by dsimp only; omega) (block_lt_of_cell h4))).trans h4, (World.cell?_of_block (w := A) (a := ⟨w.heap.size + 1 + 1 + 1 + 1, 0, none⟩) (hk _ (by dsimp only; omega) (block_lt_of_cell h5))).trans h5⟩
 case h0 => exact ⟨HOWN.out, KX.refl _ _ _, fun x hx => by cases hx⟩
 case hAx =>
  rintro x a' s A C row ⟨Bk, h1, h2, h3, h4, C0, T0, F0, h5⟩ hg hr
  have hne : ∀ k C' T' F', A.heap[k]? = some (Obj.cells C' T' F') → C.heap[k]? = A.heap[k]? := fun k C' T' F' hk => hg.block k (lt_of_block hk) (fun e => by
   obtain ⟨_, o, ho, hc⟩ := hr _ e.symm
   rw [hk] at ho; cases ho; cases hc)
  exact ⟨Bk, h1, h2, (hne _ _ _ _ h3).trans h3, fr_grown h4 ⟨_, _, _, h5⟩ hg (fun r e => (hr r e).2), C0, T0, F0, (hne _ _ _ _ h5).trans h5⟩
 case hassign =>
  rintro l pre x W K ⟨h1, h2, h3⟩ hK
  have hbA : Below W.heap.size W (W.alloc (.cells #[.int .u64 (x.1 : Int), .int .u64 (x.2.1 : Int)] 27)) := (Below.refl _ _).alloc (Nat.le_refl _) _
  have hws : B + 5 ≤ W.heap.size := by have := h2.size; have := HS3.out; omega
  obtain ⟨a0, cp0, hbk, hrw⟩ := id h1
  have hkk := hK { tmps := #[.pointer (some ⟨m, 0, none⟩), .agg #[.int .u64 (f : Int), .int .u64 (t : Int)], .int .u32 (tw : Int), undef, .pointer (some ⟨w.heap.size, 0, none⟩), .pointer (some ⟨w.heap.size + 1, 0, none⟩), .pointer (some ⟨w.heap.size + 1 + 1, 0, none⟩), .pointer (some ⟨w.heap.size + 1 + 1 + 1, 0, none⟩), .pointer (some ⟨w.heap.size + 1 + 1 + 1 + 1, 0, none⟩), .pointer (some ⟨B, 0, none⟩), .pointer (some ⟨B + 1 + 1, 0, none⟩), .pointer (some ⟨B + 1 + 1 + 1, 0, none⟩), .pointer (some ⟨W.heap.size, 0, none⟩), .int .u32 (x.2.2 : Int), undef, .bool false, .pointer (some ⟨m, 0, none⟩), .bool false, .bool false, .pointer (some ⟨w.heap.size, 0, none⟩), .int .u64 (f : Int), .pointer (some ⟨w.heap.size, 1, none⟩), .int .u64 (t : Int), .bool false, .int .u32 (tw : Int), .bool false, .pointer (some ⟨m, 0, none⟩), .pointer (some ⟨w.heap.size, 0, none⟩), .int .u64 (f : Int), .int .u32 (was : Int), .pointer (some ⟨m, 0, none⟩), .pointer (some ⟨m, 0, none⟩), .pointer (some ⟨m, 0, none⟩), .int .u64 (e : Int), .int .u64 (e1 : Int), .agg #[.int .u64 (e1 : Int), .slice none 0 0], .pointer (some ⟨B + 1, 0, none⟩), .func (.func 67) #[] #[.pointer (some ⟨B + 1 + 1, 0, none⟩)], .pointer (some ⟨m, 0, none⟩), .func (.func 74) #[] #[.pointer (some ⟨B + 4, 0, none⟩)], .agg #[.int .u64 (x.1 : Int), .int .u64 (x.2.1 : Int)], .int .u32 (x.2.2 : Int), undef, undef, undef, undef, undef, undef, undef, undef, undef, undef, undef, undef, undef, undef, undef, undef, undef, undef, undef, undef, undef, undef, undef, undef, undef, undef, undef, undef, undef, undef, undef, undef, undef, undef, undef, undef, undef, undef, undef, undef, undef, undef, undef, undef, undef, undef, undef, undef, undef, undef, undef, undef, undef, undef, undef, undef, undef, undef, undef, undef, undef, undef, undef, undef, undef, undef, undef, undef, undef, undef, undef], defers := [] } _ (keepsFrom_below hbA (Nat.le_refl _)) (KR.below hbA (lt_of_block hbk)) ⟨h1.below hbA, h2.trans (KX.of (hbA.mono hws)), h3⟩ ⟨W.heap.size, rfl, hws, (MapKept.heap_alloc _ _).1, h1.fresh, _, _, _, (hbA.block _ (lt_of_block hbk)).trans hbk⟩
  clear hrw hbk h1
  gi_wp2
  exact hkk
 case hbody =>
  rintro l pre x a' W hl hrec ⟨hS0, hK0, hFit⟩ ⟨Bk, rfl, hB, hBc, hFr, hnbc⟩ hpre
  have hFO : ∀ r, stepW f t tw (pre.foldl (stepW f t tw) []) x = r → (pre ++ [x]).foldl (stepW f t tw) [] = r := fun r h => by rw [List.foldl_append, List.foldl_cons, List.foldl_nil, h]
  have hlen := foldW_length f t tw pre []
  have hFN : (Meets f t x → x.2.2 = was ∧ x.2.2 ≠ tw) → Fits f t was tw (pre ++ [x]) := fun h y hy => by
   rcases List.mem_append.1 hy with hy | hy
   ·exact hFit y hy
   ·obtain rfl : y = x := by simpa using hy
    exact h
  have hFB : Meets f t x → ¬ (x.2.2 = was ∧ x.2.2 ≠ tw) → ¬ Fits f t was tw (pre ++ [x]) := fun hm h hF => h (hF x (by simp) hm)
  obtain ⟨sq, hsq⟩ : ∃ z, pre.foldl (stepW f t tw) [] = z := ⟨_, rfl⟩
  rw [hsq] at hS0 hFO hlen
  have hz0 : B + 5 ≤ W.heap.size := by have := hK0.size; have := HS3.out; omega
  have hlq : sq.length ≤ 30000 := by simp at hlen; omega
  have hbk : ∀ W', KR (B + 1) 1 W W' → W'.cell? ⟨Bk, 0, none⟩ = some (.int .u64 (x.1 : Int)) ∧ W'.cell? ⟨Bk, 1, none⟩ = some (.int .u64 (x.2.1 : Int)) := fun W' hr => ⟨cell_of ((hr.keep _ hFr).trans hBc) 0, cell_of ((hr.keep _ hFr).trans hBc) 1⟩
  have hres0 := HRES.out W hK0
  obtain ⟨x1, hx1⟩ : ∃ z, x.1 = z := ⟨_, rfl⟩
  obtain ⟨x2, hx2⟩ : ∃ z, x.2.1 = z := ⟨_, rfl⟩
  obtain ⟨s, hxs⟩ : ∃ z, x.2.2 = z := ⟨_, rfl⟩
  have hM : Meets f t x ↔ x1 ≤ t ∧ f ≤ x2 := by rw [← hx1, ← hx2]; exact Iff.rfl
  have hSW : stepW f t tw sq x = if x1 ≤ t ∧ f ≤ x2 then (if t < x2 then addS (addS (if x1 < f then addS sq x1 s else sq) (max f x1) tw) ((t + 1) % M64) s else addS (if x1 < f then addS sq x1 s else sq) (max f x1) tw) else addS sq x1 s := by
   unfold stepW
   by_cases hm : x1 ≤ t ∧ f ≤ x2
   ·rw [if_pos (hM.2 hm), if_pos hm]; simp only [hx1, hx2, hxs]
   ·rw [if_neg (fun h => hm (hM.1 h)), if_neg hm, hx1, hxs]
  obtain ⟨mx, hmx⟩ : ∃ z, max f x1 = z := ⟨_, rfl⟩
  obtain ⟨t1, ht1⟩ : ∃ z, (t + 1) % M64 = z := ⟨_, rfl⟩
  rw [hmx, ht1] at hSW
  rw [hx1, hx2] at hbk
  rw [hxs] at hFN hFB ⊢
  rw [hM] at hFN hFB
  have hmxi : max (f : Int) (x1 : Int) = (mx : Int) := by omega
  have ht1i : IntKind.u64.wrap ((t : Int) + 1) = (t1 : Int) := by rw [IntKind.wrap_u64, ← ht1]; show _ = (((t + 1) % 18446744073709551616 : Nat) : Int); omega
  obtain ⟨f0, f1, f2, f3, f4, f5⟩ := HF.out W hK0
  obtain ⟨b0, b1⟩ := hbk W (KR.below (Below.refl _ _) (by obtain ⟨C, T, F, h⟩ := hnbc; exact lt_of_block h))
  have HFOL := Lib.hid hFO; have HSW := Lib.hid hSW; have HFN := Lib.hid hFN; have HFB := Lib.hid hFB; have HBK := Lib.hid hbk
  have HS0 := Lib.hid hS0; have HKX := Lib.hid hK0; have HR0 := Lib.hid hres0
  have HMX := Lib.hid hmx; have HT1 := Lib.hid ht1
  clear hFO hSW hFN hFB hbk hS0 hK0 hres0 hmx ht1 hsq hlen hx1 hx2 hxs hM hBc hFr hnbc hFit hrec
  by_cases ha : x1 ≤ t
  ·by_cases hb : f ≤ x2
   ·by_cases hs1 : s = was
    ·by_cases hs2 : s = tw
     ·have hs1b : ((s : Int) != (was : Int)) = false := by simp [hs1]
      have hs2b : ((s : Int) == (tw : Int)) = true := by simp [hs2]
      have HBAD := Lib.hid (HFB.out ⟨ha, hb⟩ (fun h => h.2 hs2))
      obtain ⟨hbw, d2, d3, d4⟩ := HR0.out
      have r3 := frozen_of d2 0
      have r4 := frozen_of d3 0
      have r5 := frozen_of d4 0
      have e2 := cell_of d2 0
      have e3 := cell_of d3 0
      have e4 := cell_of d4 0
      gi_wp2_with fail
      obtain ⟨W1, hW1, k1, k2, k3, hb1, hz1, hkp⟩ := three_set (x2 := w.heap.size + 1 + 1) (x3 := w.heap.size + 1 + 1 + 1) (x4 := w.heap.size + 1 + 1 + 1 + 1) (Nat.lt_succ_self _) (Nat.lt_succ_self _) d2 d3 d4 (.pointer none) (.int .u32 0) (.int .i64 270)
      rw [hW1]
      exact ⟨⟨Nat.le_of_eq hz1.symm, fun k o hk hko _ => (hkp k (by have := HS3.out; omega) (by have := HS3.out; omega) (by have := HS3.out; omega)).trans hko⟩, rfl, HBAD.out, hbw.trans (hb1.mono (by omega)), k1, k2, k3⟩
     ·have hs1b : ((s : Int) != (was : Int)) = false := by simp [hs1]
      have hs2b : ((s : Int) == (tw : Int)) = false := by simp; omega
      have HNEW := Lib.hid (HFN.out (fun _ => ⟨hs1, hs2⟩))
      have HSWM := Lib.hid (HSW.out.trans (if_pos ⟨ha, hb⟩))
      clear hs1 hs2
      by_cases hc1 : x1 < f
      ·by_cases hc3 : t < x2
       ·have HFO := Lib.hid (HFOL.out _ (by rw [HSWM.out, if_pos hc3, if_pos hc1]))
        gi_wp2_with fail
        refine ⟨trivial, (callsIn_wide.2 (split_add (B + 1 + 1) (B + 1) (B + 5) x1 s (.int .u64 (e1 : Int)) _ W (by omega) (by omega) (by omega) (by omega) (by omega) (HF.out W HKX.out).2.2.2.2.1 HS0.out)).mono ?_⟩
        rintro en W1 ⟨rfl, hs1, hk1, hr1, hf1⟩
        have z1 := hr1.size
        have HT1 := Lib.hid hs1; have HK1 := Lib.hid (HKX.out.trans hk1); have HR1 := Lib.hid hr1; have HQ1 := Lib.hid hf1
        have l1 := addS_length sq x1 s
        clear hs1 hk1 hr1 hf1 f0 f1 f2 f3 f4 f5 b0 b1
        obtain ⟨f0, f1, f2, f3, f4, f5⟩ := HF.out W1 HK1.out
        obtain ⟨b0, b1⟩ := HBK.out W1 HR1.out
        gi_wp2_with fail
        refine ⟨trivial, (callsIn_wide.2 (split_add (B + 1 + 1) (B + 1) (B + 5) mx tw (.int .u64 (e1 : Int)) _ W1 (by omega) (by omega) (by omega) (by omega) (by omega) (HF.out W1 HK1.out).2.2.2.2.1 HT1.out)).mono ?_⟩
        rintro en W2 ⟨rfl, hs2, hk2, hr2, hf2⟩
        have z2 := hr2.size
        have HT2 := Lib.hid hs2; have HK2 := Lib.hid (HK1.out.trans hk2); have HR2 := Lib.hid (HR1.out.trans hr2); have HQ2 := Lib.hid (HQ1.out.trans hf2)
        have l2 := addS_length (addS sq x1 s) mx tw
        clear hs2 hk2 hr2 hf2 f0 f1 f2 f3 f4 f5 b0 b1
        obtain ⟨f0, f1, f2, f3, f4, f5⟩ := HF.out W2 HK2.out
        obtain ⟨b0, b1⟩ := HBK.out W2 HR2.out
        gi_wp2_with fail
        refine ⟨trivial, (callsIn_wide.2 (split_add (B + 1 + 1) (B + 1) (B + 5) t1 s (.int .u64 (e1 : Int)) _ W2 (by omega) (by omega) (by omega) (by omega) (by omega) (HF.out W2 HK2.out).2.2.2.2.1 HT2.out)).mono ?_⟩
        rintro en W3 ⟨rfl, hs3, hk3, hr3, hf3⟩
        have z3 := hr3.size
        have HT3 := Lib.hid hs3; have HK3 := Lib.hid (HK2.out.trans hk3); have HR3 := Lib.hid (HR2.out.trans hr3); have HQ3 := Lib.hid (HQ2.out.trans hf3)
        have l3 := addS_length (addS (addS sq x1 s) mx tw) t1 s
        clear hs3 hk3 hr3 hf3 f0 f1 f2 f3 f4 f5 b0 b1
        obtain ⟨f0, f1, f2, f3, f4, f5⟩ := HF.out W3 HK3.out
        obtain ⟨b0, b1⟩ := HBK.out W3 HR3.out
        gi_wp2_with fail
        exact ⟨keepsFrom_up HQ3.out (by have := HS3.out; omega), HR3.out, (by rw [HFO.out]; exact HT3.out), HK3.out, HNEW.out⟩
       ·have HFO := Lib.hid (HFOL.out _ (by rw [HSWM.out, if_neg hc3, if_pos hc1]))
        gi_wp2_with fail
        refine ⟨trivial, (callsIn_wide.2 (split_add (B + 1 + 1) (B + 1) (B + 5) x1 s (.int .u64 (e1 : Int)) _ W (by omega) (by omega) (by omega) (by omega) (by omega) (HF.out W HKX.out).2.2.2.2.1 HS0.out)).mono ?_⟩
        rintro en W1 ⟨rfl, hs1, hk1, hr1, hf1⟩
        have z1 := hr1.size
        have HT1 := Lib.hid hs1; have HK1 := Lib.hid (HKX.out.trans hk1); have HR1 := Lib.hid hr1; have HQ1 := Lib.hid hf1
        have l1 := addS_length sq x1 s
        clear hs1 hk1 hr1 hf1 f0 f1 f2 f3 f4 f5 b0 b1
        obtain ⟨f0, f1, f2, f3, f4, f5⟩ := HF.out W1 HK1.out
        obtain ⟨b0, b1⟩ := HBK.out W1 HR1.out
        gi_wp2_with fail
        refine ⟨trivial, (callsIn_wide.2 (split_add (B + 1 + 1) (B + 1) (B + 5) mx tw (.int .u64 (e1 : Int)) _ W1 (by omega) (by omega) (by omega) (by omega) (by omega) (HF.out W1 HK1.out).2.2.2.2.1 HT1.out)).mono ?_⟩
        rintro en W2 ⟨rfl, hs2, hk2, hr2, hf2⟩
        have z2 := hr2.size
        have HT2 := Lib.hid hs2; have HK2 := Lib.hid (HK1.out.trans hk2); have HR2 := Lib.hid (HR1.out.trans hr2); have HQ2 := Lib.hid (HQ1.out.trans hf2)
        have l2 := addS_length (addS sq x1 s) mx tw
        clear hs2 hk2 hr2 hf2 f0 f1 f2 f3 f4 f5 b0 b1
        obtain ⟨f0, f1, f2, f3, f4, f5⟩ := HF.out W2 HK2.out
        obtain ⟨b0, b1⟩ := HBK.out W2 HR2.out
        gi_wp2_with fail
        exact ⟨keepsFrom_up HQ2.out (by have := HS3.out; omega), HR2.out, (by rw [HFO.out]; exact HT2.out), HK2.out, HNEW.out⟩
      ·by_cases hc3 : t < x2
       ·have HFO := Lib.hid (HFOL.out _ (by rw [HSWM.out, if_pos hc3, if_neg hc1]))
        gi_wp2_with fail
        refine ⟨trivial, (callsIn_wide.2 (split_add (B + 1 + 1) (B + 1) (B + 5) mx tw (.int .u64 (e1 : Int)) _ W (by omega) (by omega) (by omega) (by omega) (by omega) (HF.out W HKX.out).2.2.2.2.1 HS0.out)).mono ?_⟩
        rintro en W1 ⟨rfl, hs1, hk1, hr1, hf1⟩
        have z1 := hr1.size
        have HT1 := Lib.hid hs1; have HK1 := Lib.hid (HKX.out.trans hk1); have HR1 := Lib.hid hr1; have HQ1 := Lib.hid hf1
        have l1 := addS_length sq mx tw
        clear hs1 hk1 hr1 hf1 f0 f1 f2 f3 f4 f5 b0 b1
        obtain ⟨f0, f1, f2, f3, f4, f5⟩ := HF.out W1 HK1.out
        obtain ⟨b0, b1⟩ := HBK.out W1 HR1.out
        gi_wp2_with fail
        refine ⟨trivial, (callsIn_wide.2 (split_add (B + 1 + 1) (B + 1) (B + 5) t1 s (.int .u64 (e1 : Int)) _ W1 (by omega) (by omega) (by omega) (by omega) (by omega) (HF.out W1 HK1.out).2.2.2.2.1 HT1.out)).mono ?_⟩
        rintro en W2 ⟨rfl, hs2, hk2, hr2, hf2⟩
        have z2 := hr2.size
        have HT2 := Lib.hid hs2; have HK2 := Lib.hid (HK1.out.trans hk2); have HR2 := Lib.hid (HR1.out.trans hr2); have HQ2 := Lib.hid (HQ1.out.trans hf2)
        have l2 := addS_length (addS sq mx tw) t1 s
        clear hs2 hk2 hr2 hf2 f0 f1 f2 f3 f4 f5 b0 b1
        obtain ⟨f0, f1, f2, f3, f4, f5⟩ := HF.out W2 HK2.out
        obtain ⟨b0, b1⟩ := HBK.out W2 HR2.out
        gi_wp2_with fail
        exact ⟨keepsFrom_up HQ2.out (by have := HS3.out; omega), HR2.out, (by rw [HFO.out]; exact HT2.out), HK2.out, HNEW.out⟩
       ·have HFO := Lib.hid (HFOL.out _ (by rw [HSWM.out, if_neg hc3, if_neg hc1]))
        gi_wp2_with fail
        refine ⟨trivial, (callsIn_wide.2 (split_add (B + 1 + 1) (B + 1) (B + 5) mx tw (.int .u64 (e1 : Int)) _ W (by omega) (by omega) (by omega) (by omega) (by omega) (HF.out W HKX.out).2.2.2.2.1 HS0.out)).mono ?_⟩
        rintro en W1 ⟨rfl, hs1, hk1, hr1, hf1⟩
        have z1 := hr1.size
        have HT1 := Lib.hid hs1; have HK1 := Lib.hid (HKX.out.trans hk1); have HR1 := Lib.hid hr1; have HQ1 := Lib.hid hf1
        have l1 := addS_length sq mx tw
        clear hs1 hk1 hr1 hf1 f0 f1 f2 f3 f4 f5 b0 b1
        obtain ⟨f0, f1, f2, f3, f4, f5⟩ := HF.out W1 HK1.out
        obtain ⟨b0, b1⟩ := HBK.out W1 HR1.out
        gi_wp2_with fail
        exact ⟨keepsFrom_up HQ1.out (by have := HS3.out; omega), HR1.out, (by rw [HFO.out]; exact HT1.out), HK1.out, HNEW.out⟩
    ·have hs1b : ((s : Int) != (was : Int)) = true := by simp; omega
     have HBAD := Lib.hid (HFB.out ⟨ha, hb⟩ (fun h => hs1 h.1))
     obtain ⟨hbw, d2, d3, d4⟩ := HR0.out
     have r3 := frozen_of d2 0
     have r4 := frozen_of d3 0
     have r5 := frozen_of d4 0
     have e2 := cell_of d2 0
     have e3 := cell_of d3 0
     have e4 := cell_of d4 0
     gi_wp2_with fail
     obtain ⟨W1, hW1, k1, k2, k3, hb1, hz1, hkp⟩ := three_set (x2 := w.heap.size + 1 + 1) (x3 := w.heap.size + 1 + 1 + 1) (x4 := w.heap.size + 1 + 1 + 1 + 1) (Nat.lt_succ_self _) (Nat.lt_succ_self _) d2 d3 d4 (.pointer none) (.int .u32 0) (.int .i64 270)
     rw [hW1]
     exact ⟨⟨Nat.le_of_eq hz1.symm, fun k o hk hko _ => (hkp k (by have := HS3.out; omega) (by have := HS3.out; omega) (by have := HS3.out; omega)).trans hko⟩, rfl, HBAD.out, hbw.trans (hb1.mono (by omega)), k1, k2, k3⟩
   ·have HNEW := Lib.hid (HFN.out (fun h => absurd h.2 hb))
    have HFO := Lib.hid (HFOL.out _ (HSW.out.trans (if_neg (fun h => hb h.2))))
    gi_wp2_with fail
    refine ⟨trivial, (callsIn_wide.2 (split_add (B + 1 + 1) (B + 1) (B + 5) x1 s (.int .u64 (e1 : Int)) _ W (by omega) (by omega) (by omega) (by omega) (by omega) (HF.out W HKX.out).2.2.2.2.1 HS0.out)).mono ?_⟩
    rintro en W1 ⟨rfl, hs1, hk1, hr1, hf1⟩
    have z1 := hr1.size
    have HT1 := Lib.hid hs1; have HK1 := Lib.hid (HKX.out.trans hk1); have HR1 := Lib.hid hr1; have HQ1 := Lib.hid hf1
    have l1 := addS_length sq x1 s
    clear hs1 hk1 hr1 hf1 f0 f1 f2 f3 f4 f5 b0 b1
    obtain ⟨f0, f1, f2, f3, f4, f5⟩ := HF.out W1 HK1.out
    obtain ⟨b0, b1⟩ := HBK.out W1 HR1.out
    gi_wp2_with fail
    exact ⟨keepsFrom_up HQ1.out (by have := HS3.out; omega), HR1.out, (by rw [HFO.out]; exact HT1.out), HK1.out, HNEW.out⟩
  ·have HNEW := Lib.hid (HFN.out (fun h => absurd h.1 ha))
   have HFO := Lib.hid (HFOL.out _ (HSW.out.trans (if_neg (fun h => ha h.1))))
   gi_wp2_with fail
   refine ⟨trivial, (callsIn_wide.2 (split_add (B + 1 + 1) (B + 1) (B + 5) x1 s (.int .u64 (e1 : Int)) _ W (by omega) (by omega) (by omega) (by omega) (by omega) (HF.out W HKX.out).2.2.2.2.1 HS0.out)).mono ?_⟩
   rintro en W1 ⟨rfl, hs1, hk1, hr1, hf1⟩
   have z1 := hr1.size
   have HT1 := Lib.hid hs1; have HK1 := Lib.hid (HKX.out.trans hk1); have HR1 := Lib.hid hr1; have HQ1 := Lib.hid hf1
   have l1 := addS_length sq x1 s
   clear hs1 hk1 hr1 hf1 f0 f1 f2 f3 f4 f5 b0 b1
   obtain ⟨f0, f1, f2, f3, f4, f5⟩ := HF.out W1 HK1.out
   obtain ⟨b0, b1⟩ := HBK.out W1 HR1.out
   gi_wp2_with fail
   exact ⟨keepsFrom_up HQ1.out (by have := HS3.out; omega), HR1.out, (by rw [HFO.out]; exact HT1.out), HK1.out, HNEW.out⟩
 case hdone =>
  rintro D xs W hD rfl ⟨h1, h2, h3⟩ hdef
  rw [splitW_eq HS.out] at h1
  have hsl := splitL_law tw hft HS.out
  obtain ⟨hb, d2, d3, d4⟩ := HRES.out W h2
  obtain ⟨f0, f1, f2, f3, f4, f5⟩ := HF.out W h2
  obtain ⟨SL, hSL⟩ : ∃ z, splitL sp f t tw = z := ⟨_, rfl⟩
  rw [hSL] at h1 hsl
  obtain ⟨a, cp, q1, q2⟩ := id h1
  obtain ⟨L, hL⟩ : ∃ z, SL.length = z := ⟨_, rfl⟩
  have hL1 : 1 ≤ L := by rw [← hL]; exact List.length_pos_iff.2 hsl.ne
  rw [hL] at q1 q2
  have n0 := cell_of q1 0
  have n1 := cell_of q1 1
  have e2 := cell_of d2 0
  have e3 := cell_of d3 0
  have e4 := cell_of d4 0
  have r2 := frozen_of d2 0
  have r3 := frozen_of d3 0
  have r4 := frozen_of d4 0
  have HH1 := Lib.hid h1; have HL := Lib.hid hL; have HB := Lib.hid hb; have HD2 := Lib.hid d2; have HD3 := Lib.hid d3; have HD4 := Lib.hid d4; have HDEF := Lib.hid hdef; have HFIT := Lib.hid h3
  have HK2 := Lib.hid h2; have HSL := Lib.hid hSL; have HLAW := Lib.hid hsl
  clear h1 hL hb d2 d3 d4 hdef h3 hsl hSL q1 q2 h2 f0 f1 f2 f5
  by_cases hlen : 2048 < L
  ·have hleni : (2048 : Int) < (L : Int) := by omega
   gi_wp2_with fail
   obtain ⟨W1, hW1, k1, k2, k3, hb1, hz1, hkp⟩ := three_set (x2 := w.heap.size + 1 + 1) (x3 := w.heap.size + 1 + 1 + 1) (x4 := w.heap.size + 1 + 1 + 1 + 1) (Nat.lt_succ_self _) (Nat.lt_succ_self _) HD2.out HD3.out HD4.out (.pointer none) (.int .u32 0) (.int .i64 4)
   rw [hW1]
   have hdef1 : W1.heap[D]? = some (.deferred (some [])) := (hkp D (by have := HS3.out; omega) (by have := HS3.out; omega) (by have := HS3.out; omega)).trans HDEF.out
   have hpb : Below (B + 5) W1 (W1.putObj D (.deferred none)) := belowK_b (w := w3) (by have := HS3.out; omega) W1 D _ _ hD hdef1 rfl rfl
   have hfin : Below w.heap.size w (W1.putObj D (.deferred none)) := (HB.out.trans (hb1.mono (by omega))).trans (hpb.mono (by omega))
   refine ⟨by simp, .inl ⟨_, _, rfl, run_takeDeferred hdef1, ?_⟩⟩
   exact ⟨_, results_cell3 rfl _ _ (w.heap.size + 1 + 1) (w.heap.size + 1 + 1 + 1) (w.heap.size + 1 + 1 + 1 + 1) _ _ _ rfl rfl rfl Tryz.underlying33 Tryz.underlying28 Tryz.underlying38 ((hpb.cell (p := ⟨w.heap.size + 1 + 1, 0, none⟩) (by dsimp only; omega)).trans k1) ((hpb.cell (p := ⟨w.heap.size + 1 + 1 + 1, 0, none⟩) (by dsimp only; omega)).trans k2) ((hpb.cell (p := ⟨w.heap.size + 1 + 1 + 1 + 1, 0, none⟩) (by dsimp only; omega)).trans k3), hfin, Or.inr (Or.inl ⟨HFIT.out, Or.inl (by rw [HSL.out, HL.out]; exact hlen), rfl⟩)⟩
  ·have hleni : ¬ (2048 : Int) < (L : Int) := by omega
   by_cases he : e1 = 0
   ·have heb : ((e1 : Int) == 0) = true := by simp [he]
    gi_wp2_with fail
    obtain ⟨W1, hW1, k1, k2, k3, hb1, hz1, hkp⟩ := three_set (x2 := w.heap.size + 1 + 1) (x3 := w.heap.size + 1 + 1 + 1) (x4 := w.heap.size + 1 + 1 + 1 + 1) (Nat.lt_succ_self _) (Nat.lt_succ_self _) HD2.out HD3.out HD4.out (.pointer none) (.int .u32 0) (.int .i64 4)
    rw [hW1]
    have hdef1 : W1.heap[D]? = some (.deferred (some [])) := (hkp D (by have := HS3.out; omega) (by have := HS3.out; omega) (by have := HS3.out; omega)).trans HDEF.out
    have hpb : Below (B + 5) W1 (W1.putObj D (.deferred none)) := belowK_b (w := w3) (by have := HS3.out; omega) W1 D _ _ hD hdef1 rfl rfl
    have hfin : Below w.heap.size w (W1.putObj D (.deferred none)) := (HB.out.trans (hb1.mono (by omega))).trans (hpb.mono (by omega))
    refine ⟨by simp, .inl ⟨_, _, rfl, run_takeDeferred hdef1, ?_⟩⟩
    exact ⟨_, results_cell3 rfl _ _ (w.heap.size + 1 + 1) (w.heap.size + 1 + 1 + 1) (w.heap.size + 1 + 1 + 1 + 1) _ _ _ rfl rfl rfl Tryz.underlying33 Tryz.underlying28 Tryz.underlying38 ((hpb.cell (p := ⟨w.heap.size + 1 + 1, 0, none⟩) (by dsimp only; omega)).trans k1) ((hpb.cell (p := ⟨w.heap.size + 1 + 1 + 1, 0, none⟩) (by dsimp only; omega)).trans k2) ((hpb.cell (p := ⟨w.heap.size + 1 + 1 + 1 + 1, 0, none⟩) (by dsimp only; omega)).trans k3), hfin, Or.inr (Or.inl ⟨HFIT.out, Or.inr rfl, rfl⟩)⟩
   ·have heb : ((e1 : Int) == 0) = false := by simp; omega
    gi_wp2_with fail
    gi_region
    all_goals (
     gi_wp2_with fail
     obtain ⟨W1, hW1, k1, k2, k3, hb1, hz1, hkp⟩ := three_set (x2 := w.heap.size + 1 + 1) (x3 := w.heap.size + 1 + 1 + 1) (x4 := w.heap.size + 1 + 1 + 1 + 1) (Nat.lt_succ_self _) (Nat.lt_succ_self _) HD2.out HD3.out HD4.out (.pointer (some ⟨B + 1, 0, none⟩)) (.int .u32 (was : Int)) (.int .i64 0)
     rw [hW1]
     have hdef1 : W1.drew.heap[D]? = some (.deferred (some [])) := (hkp D (by have := HS3.out; omega) (by have := HS3.out; omega) (by have := HS3.out; omega)).trans HDEF.out
     have hpb : Below (B + 5) W1.drew (W1.drew.putObj D (.deferred none)) := belowK_b (w := w3) (by have := HS3.out; omega) W1.drew D _ _ hD hdef1 rfl rfl
     have hfin : Below w.heap.size w (W1.drew.putObj D (.deferred none)) := (HB.out.trans (Below.drew (hb1.mono (by omega)))).trans (hpb.mono (by omega))
     refine ⟨by simp, .inl ⟨_, _, rfl, run_takeDeferred hdef1, ?_⟩⟩
     refine ⟨_, results_cell3 rfl _ _ (w.heap.size + 1 + 1) (w.heap.size + 1 + 1 + 1) (w.heap.size + 1 + 1 + 1 + 1) _ _ _ rfl rfl rfl Tryz.underlying33 Tryz.underlying28 Tryz.underlying38 ((hpb.cell (p := ⟨w.heap.size + 1 + 1, 0, none⟩) (by dsimp only; omega)).trans k1) ((hpb.cell (p := ⟨w.heap.size + 1 + 1 + 1, 0, none⟩) (by dsimp only; omega)).trans k2) ((hpb.cell (p := ⟨w.heap.size + 1 + 1 + 1 + 1, 0, none⟩) (by dsimp only; omega)).trans k3), hfin, Or.inr (Or.inr ⟨HFIT.out, fun h => h.elim (fun h => hlen (by rw [HSL.out, HL.out] at h; exact h)) he, B + 1, rfl, ?_, by show w.heap.size ≤ B + 1; omega⟩)⟩
     rw [HSL.out]
     refine HH1.out.map (fun e => by have := HL.out; rw [e] at this; simp at this; omega) (fun k C T F hk hc => ?_) (by omega)
     have h1 : W1.drew.heap[k]? = W.heap[k]? := (hkp k (by omega) (by omega) (by omega))
     exact ((grownBy_putObj' W1.drew D (.deferred none)).block k (lt_of_block (h1.trans hc)) (fun e => by cases e; rw [h1, hc] at hdef1; cases hdef1)).trans h1)
 case hstop =>
  rintro D c pre W hD ⟨k, hk, rfl⟩ ⟨rfl, hnf, hb, d2, d3, d4⟩ hdef
  have hno : ¬ Fits f t was tw (upto (nthRg sp) sp.length) := fun hF => hnf (fun x hx hm => hF x (by
   obtain ⟨j, hj, rfl⟩ := List.mem_map.1 hx
   exact List.mem_map.2 ⟨j, by simp at hj ⊢; omega, rfl⟩) hm)
  have HNO := Lib.hid hno; have HB := Lib.hid hb
  clear hno hnf hb
  gi_wp2_with fail
  have hpb : Below (B + 5) W (W.putObj D (.deferred none)) := belowK_b (w := w3) (by have := HS3.out; omega) W D _ _ hD hdef rfl rfl
  refine ⟨by simp, .inl ⟨_, _, rfl, run_takeDeferred hdef, ?_⟩⟩
  exact ⟨_, results_cell3 rfl _ _ (w.heap.size + 1 + 1) (w.heap.size + 1 + 1 + 1) (w.heap.size + 1 + 1 + 1 + 1) _ _ _ rfl rfl rfl Tryz.underlying33 Tryz.underlying28 Tryz.underlying38 ((hpb.cell (p := ⟨w.heap.size + 1 + 1, 0, none⟩) (by dsimp only; omega)).trans d2) ((hpb.cell (p := ⟨w.heap.size + 1 + 1 + 1, 0, none⟩) (by dsimp only; omega)).trans d3) ((hpb.cell (p := ⟨w.heap.size + 1 + 1 + 1 + 1, 0, none⟩) (by dsimp only; omega)).trans d4), HB.out.trans (hpb.mono (by omega)), Or.inl ⟨HNO.out, rfl⟩⟩
end Go.Proofs.YtggdkfijioeijaaGreatDoor
namespace Go.Proofs.YtggdkfijioeijaaGreatDoor
open Go Go.RowKit Go.Maps
def FitO (O : Nat → Nat) (f t tw : Nat) : Prop := (∀ u, f ≤ u → u ≤ t → O u = O f) ∧ O f ≠ tw
def BadArg (f t tw : Nat) : Prop := t < f ∨ tw = 0
def SplitC (O : Nat → Nat) (f t tw e1 L : Nat) (c : Int) : Prop :=
 (BadArg f t tw ∧ c = 2) ∨ (¬ BadArg f t tw ∧ ¬ FitO O f t tw ∧ c = 270) ∨ (¬ BadArg f t tw ∧ FitO O f t tw ∧ (2048 < L ∨ e1 = 0) ∧ c = 4) ∨ (¬ BadArg f t tw ∧ FitO O f t tw ∧ ¬ (2048 < L ∨ e1 = 0) ∧ c = 0)
theorem SplitC.same {O O' : Nat → Nat} {f t tw e1 e1' L L' : Nat} {c c' : Int} (h : SplitC O f t tw e1 L c) (h' : SplitC O' f t tw e1' L' c') (hO : ¬ BadArg f t tw → (FitO O f t tw ↔ FitO O' f t tw)) (hL : (2048 < L ∨ e1 = 0) ↔ (2048 < L' ∨ e1' = 0)) : c = c' := by
 rcases h with ⟨a, rfl⟩ | ⟨a, b, rfl⟩ | ⟨a, b, d, rfl⟩ | ⟨a, b, d, rfl⟩ <;> rcases h' with ⟨a', rfl⟩ | ⟨a', b', rfl⟩ | ⟨a', b', d', rfl⟩ | ⟨a', b', d', rfl⟩ <;> first | rfl | exact absurd a a' | exact absurd a' a | exact absurd ((hO a).1 b) b' | exact absurd ((hO a).2 b') b | exact absurd (hL.1 d) d' | exact absurd (hL.2 d') d
theorem SplitC.zero {O : Nat → Nat} {f t tw e1 L : Nat} (h : SplitC O f t tw e1 L 0) : ¬ BadArg f t tw ∧ FitO O f t tw ∧ ¬ (2048 < L ∨ e1 = 0) := by
 rcases h with ⟨_, h⟩ | ⟨_, _, h⟩ | ⟨_, _, _, h⟩ | ⟨a, b, d, _⟩
 ·cases h
 ·cases h
 ·cases h
 ·exact ⟨a, b, d⟩
def SplitR (O : Nat → Nat) (f t tw e1 : Nat) (sp : List (Nat × Nat)) (w : World) (en : Ending) (w' : World) : Prop := Below w.heap.size w w' ∧ ∃ c : Int, SplitC O f t tw e1 (splitL sp f t tw).length c ∧
 ((c ≠ 0 ∧ en = .returned (.tuple #[.pointer none, .int .u32 0, .int .i64 c])) ∨ (c = 0 ∧ ∃ n, en = .returned (.tuple #[.pointer (some ⟨n, 0, none⟩), .int .u32 (O f : Nat), .int .i64 0]) ∧ MapAt w' n e1 (splitL sp f t tw) ∧ w.heap.size ≤ n))
theorem map_Split (m e f t tw : Nat) (sp : List (Nat × Nat)) (w : World) (hM : MapAt w m e sp) (hl : sp.length ≤ 10000) (O : Nat → Nat) (hS : SpI O sp M64) (ht : t < M64) :
  Calls Tryz.prog 28 #[.pointer (some ⟨m, 0, none⟩), .agg #[.int .u64 (f : Int), .int .u64 (t : Int)], .int .u32 (tw : Int)] w (SplitR O f t tw ((e + 1) % M64) sp w) := by
 by_cases hb : BadArg f t tw
 ·exact (map_Split_arg m f t tw w hb).mono fun en w' ⟨h1, h2⟩ => ⟨h2, 2, Or.inl ⟨hb, rfl⟩, Or.inl ⟨by decide, h1⟩⟩
 ·have hft : f ≤ t := Nat.le_of_not_lt (fun h => hb (Or.inl h))
  have hF : Fits f t (O f) tw (upto (nthRg sp) sp.length) ↔ FitO O f t tw := fits_iff hft ht hS
  refine (map_Split_do m e f t tw sp w hM hl O hS hft ht (fun h => hb (Or.inr h))).mono ?_
  rintro en w' ⟨h1, ⟨h2, h3⟩ | ⟨h2, h3, h4⟩ | ⟨h2, h3, n, h4, h5, h6⟩⟩
  ·exact ⟨h1, 270, Or.inr (Or.inl ⟨hb, fun h => h2 (hF.2 h), rfl⟩), Or.inl ⟨by decide, h3⟩⟩
  ·exact ⟨h1, 4, Or.inr (Or.inr (Or.inl ⟨hb, hF.1 h2, h3, rfl⟩)), Or.inl ⟨by decide, h4⟩⟩
  ·exact ⟨h1, 0, Or.inr (Or.inr (Or.inr ⟨hb, hF.1 h2, h3, rfl⟩)), Or.inr ⟨rfl, n, h4, h5, h6⟩⟩
theorem SpI.b32 {O : Nat → Nat} {sp : List (Nat × Nat)} (h : SpI O sp M64) {N : Nat} (hO : ∀ u, O u < N) : ∀ x ∈ sp, x.2 < N := by
 intro x hx
 obtain ⟨k, hk, rfl⟩ := List.mem_iff_getElem.1 hx
 have h1 := h.at_ hk (Nat.le_refl _) (endOf_next h hk).1
 have h2 : sp.getD k d0 = sp[k] := by rw [List.getD_eq_getElem?_getD, List.getElem?_eq_getElem hk]; rfl
 rw [h2] at h1
 rw [← h1]; exact hO _
end Go.Proofs.YtggdkfijioeijaaGreatDoor
