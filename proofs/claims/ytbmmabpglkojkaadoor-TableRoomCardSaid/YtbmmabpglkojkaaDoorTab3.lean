/- Small facts for the walk of table.tried: boxes, edits in memory, maps under a store. -/
import Derived.Test.YtbmmabpglkojkaaDoorTab2
import Derived.Deep.Quiet
namespace Go.Proofs.YtbmmabpglkojkaaDoor
open Go Go.RowKit
open Go.Maps (has size Canon CanonK Tidy IsMap KeysOf Keyed Merged)

/-- Block n of W holds just these cells, and may be written. -/
structure One (n : Nat) (C : Array Value) (W : World) : Prop where
  lt : n < W.heap.size
  c : ∀ j, W.cell? ⟨n, j, none⟩ = C[j]?
  f : ∀ j, W.frozen? ⟨n, j, none⟩ = false
theorem One.step {n : Nat} {C : Array Value} {W W' : World} (h : One n C W) (hb : Below W.heap.size W W') : One n C W' :=
  ⟨by have := hb.size; have := h.lt; omega, fun j => (hb.cell h.lt).trans (h.c j), fun j => (hb.frozen h.lt).trans (h.f j)⟩
theorem One.of (w : World) (C : Array Value) (t : TypeId) : One w.heap.size C (w.alloc (.cells C t)) := by
  have hh := (MapKept.heap_alloc w (.cells C t)).1
  refine ⟨by simp, fun j => ?_, fun j => ?_⟩
  · unfold World.cell?; rw [hh]; rfl
  · unfold World.frozen?; rw [hh]; simp
theorem One.far {n : Nat} {C : Array Value} {W : World} (h : One n C W) {p : Addr} (hp : p.block ≠ n) (u : Value) : One n C (W.setCell p u) := by
  refine ⟨by simpa using h.lt, fun j => ?_, fun j => ?_⟩
  · rw [World.cell?_setCell_far _ _ _ _ hp]; exact h.c j
  · rw [World.frozen?_setCell]; exact h.f j
theorem One.set {n : Nat} {C : Array Value} {W : World} (h : One n C W) {i : Nat} (hi : i < C.size) (u : Value) : One n (C.set i u hi) (W.setCell ⟨n, i, none⟩ u) := by
  refine ⟨by simpa using h.lt, fun j => ?_, fun j => ?_⟩
  · by_cases e : i = j
    · subst e
      rw [World.cell?_setCell_same' _ _ _ (by rw [h.c i]; simp [hi])]; simp
    · rw [World.cell?_setCell_other _ _ _ _ (by intro x; injection x with _ x; exact e x), h.c j]
      simp [e]
  · rw [World.frozen?_setCell]; exact h.f j
theorem One.grown {n : Nat} {C : Array Value} {W W' : World} {b : Nat} (h : One n C W) (hg : W.grownBy W' (some b)) (hb : n ≠ b) : One n C W' :=
  ⟨by have := hg.size; have := h.lt; omega, fun j => (hg.cell_far ⟨n, j, none⟩ h.lt (by simpa using hb)).trans (h.c j), fun j => (hg.frozen_far ⟨n, j, none⟩ h.lt (by simpa using hb)).trans (h.f j)⟩

/-- A new block, filled cell by cell. -/
theorem boxed2 (w : World) (z0 z1 v0 v1 : Value) (t : TypeId) :
    let W := ((w.alloc (.cells #[z0, z1] t)).setCell ⟨w.heap.size, 0, none⟩ v0).setCell ⟨w.heap.size, 1, none⟩ v1
    One w.heap.size #[v0, v1] W ∧ Below w.heap.size w W ∧ W.heap.size = w.heap.size + 1 := by
  refine ⟨?_, ?_, by simp⟩
  · exact ((One.of w #[z0, z1] t).set (i := 0) (by simp) v0).set (i := 1) (by simp) v1
  · exact (((Below.refl _ _).alloc (Nat.le_refl _) _).setCell (Nat.le_refl _) _).setCell (Nat.le_refl _) _
theorem boxed6 (w : World) (z0 z1 z2 z3 z4 z5 v0 v1 v2 v3 v4 v5 : Value) (t : TypeId) :
    let W := ((((((w.alloc (.cells #[z0, z1, z2, z3, z4, z5] t)).setCell ⟨w.heap.size, 0, none⟩ v0).setCell ⟨w.heap.size, 1, none⟩ v1).setCell ⟨w.heap.size, 2, none⟩ v2).setCell ⟨w.heap.size, 3, none⟩ v3).setCell ⟨w.heap.size, 4, none⟩ v4).setCell ⟨w.heap.size, 5, none⟩ v5
    One w.heap.size #[v0, v1, v2, v3, v4, v5] W ∧ Below w.heap.size w W ∧ W.heap.size = w.heap.size + 1 := by
  refine ⟨?_, ?_, by simp⟩
  · exact ((((((One.of w #[z0, z1, z2, z3, z4, z5] t).set (i := 0) (by simp) v0).set (i := 1) (by simp) v1).set (i := 2) (by simp) v2).set (i := 3) (by simp) v3).set (i := 4) (by simp) v4).set (i := 5) (by simp) v5
  · exact (((((((Below.refl _ _).alloc (Nat.le_refl _) _).setCell (Nat.le_refl _) _).setCell (Nat.le_refl _) _).setCell (Nat.le_refl _) _).setCell (Nat.le_refl _) _).setCell (Nat.le_refl _) _).setCell (Nat.le_refl _) _

def dE : Edt := ⟨0, ByteArray.empty, false, 0, 0, ByteArray.empty⟩
/-- v is a slice whose elements read as the edits l. -/
def IsEdts (w : World) (v : Value) (l : List Edt) : Prop :=
  ∃ a cap, v = .slice a l.length cap ∧ (l = [] ∨ ∃ b off, a = some ⟨b, off, none⟩ ∧ b < w.heap.size ∧ ∀ i, i < l.length →
    w.cell? ⟨b, off + i * 6, none⟩ = some (.int .u8 (l.getD i dE).kind) ∧ w.cell? ⟨b, off + i * 6 + 1, none⟩ = some (.string (l.getD i dE).path) ∧ w.cell? ⟨b, off + i * 6 + 2, none⟩ = some (.bool (l.getD i dE).any) ∧
    w.cell? ⟨b, off + i * 6 + 3, none⟩ = some (.int .u64 (l.getD i dE).want) ∧ w.cell? ⟨b, off + i * 6 + 4, none⟩ = some (.int .u64 (l.getD i dE).n) ∧ w.cell? ⟨b, off + i * 6 + 5, none⟩ = some (.string (l.getD i dE).text))
theorem IsEdts.below {w w' : World} {v : Value} {l : List Edt} {B : Nat} (h : IsEdts w v l) (hb : Below B w w') (hB : w.heap.size ≤ B) : IsEdts w' v l := by
  obtain ⟨a, cap, hv, h⟩ := h
  refine ⟨a, cap, hv, ?_⟩
  rcases h with h | ⟨b, off, ha, hlt, hc⟩
  · exact Or.inl h
  · refine Or.inr ⟨b, off, ha, by have := hb.size; omega, fun i hi => ?_⟩
    obtain ⟨h0, h1, h2, h3, h4, h5⟩ := hc i hi
    exact ⟨(hb.cell (by dsimp only; omega)).trans h0, (hb.cell (by dsimp only; omega)).trans h1, (hb.cell (by dsimp only; omega)).trans h2, (hb.cell (by dsimp only; omega)).trans h3, (hb.cell (by dsimp only; omega)).trans h4, (hb.cell (by dsimp only; omega)).trans h5⟩

/-- What stays while a map's block alone is written. -/
theorem IsVers.grown {w w' : World} {v : Value} {l : List Ver} {b : Nat} (h : IsVers w v l) (hg : w.grownBy w' (some b)) (hm : ∀ j, w.cell? ⟨b, j, none⟩ = none) : IsVers w' v l := by
  obtain ⟨a, cap, hv, h⟩ := h
  refine ⟨a, cap, hv, ?_⟩
  rcases h with h | ⟨b2, off, ha, hlt, hc⟩
  · exact Or.inl h
  · refine Or.inr ⟨b2, off, ha, by have := hg.size; omega, fun i hi => ?_⟩
    obtain ⟨h1, h2, h3⟩ := hc i hi
    have hne : b2 ≠ b := by intro e; subst e; rw [hm] at h1; cases h1
    exact ⟨(hg.cell_far _ hlt (by simpa using hne)).trans h1, (hg.cell_far _ hlt (by simpa using hne)).trans h2, (hg.cell_far _ hlt (by simpa using hne)).trans h3⟩
theorem ownsMap_none {P : Program} {ks : TypeId} {w : World} {b n : Nat} {D : DataW Value} (h : w.ownsMap P ks heldR b n D) : ∀ j, w.cell? ⟨b, j, none⟩ = none := by
  obtain ⟨es, clock, hh, _⟩ := h
  intro j; unfold World.cell?; rw [hh]
theorem IsCel.grown {w w' : World} {v : Value} {c : Cel} {b : Nat} (h : IsCel w v c) (hg : w.grownBy w' (some b)) (hm : ∀ j, w.cell? ⟨b, j, none⟩ = none) : IsCel w' v c := by
  obtain ⟨s, hv, h⟩ := h; exact ⟨s, hv, h.grown hg hm⟩
theorem merged_none {C : Type} (M : DataW C) : Merged M M (.map []) (fun _ => false) := by
  refine ⟨fun k => ?_, fun k z => ?_⟩
  · show has M k = (has M k || (false && _)); simp
  · rfl
theorem merged_put {C : Type} {N M F : DataW C} (h : Merged N M F (fun _ => false)) (hN : IsMap N) (hF : IsMap F) {k : Lit} (hk : WideAt.IsKeyLit k) (d : DataW C) : Merged (N.put k d) M (F.put k d) (fun _ => false) := by
  refine ⟨fun k' => ?_, fun k' z => ?_⟩
  · by_cases e : k' = k
    · subst e; rw [Maps.has_put_same hN hk, Maps.has_put_same hF hk]; simp
    · rw [Maps.has_put_other e, Maps.has_put_other e]; exact h.1 k'
  · by_cases e : k' = k
    · subst e; rw [Maps.atKey_put_same hN hk, Maps.has_put_same hF hk, Maps.atKey_put_same hF hk]; simp
    · rw [Maps.atKey_put_other e, Maps.has_put_other e, Maps.atKey_put_other e]; exact h.2 k' z
/-- What is there at a path, of a map laid over another. -/
theorem merged_cellAt {N M F : DataW Cel} (h : Merged N M F (fun _ => false)) (p : ByteArray) : cellAt N p = if has F (kS p) = true then cellAt F p else cellAt M p := by
  unfold cellAt
  rw [h.2 (kS p) .nil]
  cases has F (kS p) <;> simp
theorem cellAt_of {M : DataW Cel} {p : ByteArray} {c : Cel} (h : M.atKey (kS p) .nil = .held c) : cellAt M p = c := by unfold cellAt; rw [h]
theorem cellAt_none {M : DataW Cel} {p : ByteArray} (h : has M (kS p) = false) : cellAt M p = ⟨0, []⟩ := by unfold cellAt; rw [Maps.atKey_of_not_has h]
theorem runT_stop {N : DataW Cel} {vv : List Nat} {B : Int} {k : Nat} {x : Edt} {l : List Edt} (he : (editE N x).2 ≠ 0) : runT N vv B k (x :: l) = ((k, (editE N x).2), N, vv, B) := by rw [runT, if_pos he]
theorem runT_go {N : DataW Cel} {vv : List Nat} {B : Int} {k : Nat} {x : Edt} {l : List Edt} (he : (editE N x).2 = 0) : runT N vv B k (x :: l) =
    runT (stepM N x) (vv ++ [(editE N x).1.last]) (B + ((weightE x.path (editE N x).1 : Int) - (weightE x.path (cellAt N x.path) : Int))) (k + 1) l := by rw [runT, if_neg (by simp [he])]
theorem edit_bad {N : DataW Cel} {x : Edt} (h : x.kind < 1 ∨ 3 < x.kind ∨ mayP x.path = false) : editE N x = (cellAt N x.path, 2) := by unfold editE; rw [if_pos h]
theorem edit_fit {N : DataW Cel} {x : Edt} (h1 : 1 ≤ x.kind) (h2 : x.kind ≤ 3) (h3 : mayP x.path = true) : editE N x = outcomeE (cellAt N x.path) x := by
  unfold editE; rw [if_neg (by rintro (h | h | h); (· omega); (· omega); (· rw [h3] at h; cases h))]
theorem CelMap.look2 {w : World} {b : Nat} {M : DataW Cel} (h : CelMap w b M) (p : ByteArray) (hp : p.size ≤ maxLen) : ∃ s is, is = has M (kS p) ∧ IsVers w s (cellAt M p).l ∧
    (Instr.lookup 66 (.map (some b)) (.string p) true).run Tryd.prog w = .ok (.tuple #[.agg #[.int .u64 (cellAt M p).last, s], .bool is]) w ∧
    (Instr.lookup 66 (.map (some b)) (.string p) false).run Tryd.prog w = .ok (.agg #[.int .u64 (cellAt M p).last, s]) w := by
  rcases HoldsMap.look h strKeyed (t := 66) (e := 62) Tryd.underlying66 (zeroCel w) (keyS Tryd.underlying9 hp) with ⟨hh, vc, c, hat, ⟨s, rfl, hs⟩, hl1, hl2⟩ | ⟨hh, hl1, hl2⟩
  · rw [cellAt_of hat]; exact ⟨s, true, hh.symm, hs, hl1, hl2⟩
  · rw [cellAt_none hh]; exact ⟨.slice none 0 0, false, hh.symm, IsVers.nil w, hl1, hl2⟩
/-- A map of cells none of which lies in the block o. -/
def OffMap (w : World) (fb : Nat) (F : DataW Cel) (o : Option Nat) : Prop :=
  HoldsMap Tryd.prog 9 (fun v c => ∃ s, v = .agg #[.int .u64 c.last, s] ∧ IsVers w s c.l ∧ (c.l ≠ [] → ∀ kb, s.ownBlock = some kb → o ≠ some kb)) w fb F
theorem OffMap.map {w : World} {fb : Nat} {F : DataW Cel} {o : Option Nat} (h : OffMap w fb F o) : CelMap w fb F := h.move rfl (fun _ _ ⟨s, e, hs, _⟩ => ⟨s, e, hs⟩)
theorem OffMap.below {w w' : World} {fb : Nat} {F : DataW Cel} {o : Option Nat} (h : OffMap w fb F o) (hb : Below w.heap.size w w') : OffMap w' fb F o :=
  HoldsMap.move h (hb.block fb (HoldsMap.lt h)) (fun _ _ ⟨s, e, hs, ho⟩ => ⟨s, e, hs.below hb (Nat.le_refl _), ho⟩)
theorem IsVers.row {w w' : World} {v : Value} {l : List Ver} {o : Option Nat} (h : IsVers w v l) (hg : w.grownBy w' o) (ho : l ≠ [] → ∀ kb, v.ownBlock = some kb → o ≠ some kb) : IsVers w' v l := by
  obtain ⟨a, cap, hv, h⟩ := h
  refine ⟨a, cap, hv, ?_⟩
  rcases h with h | ⟨b2, off, ha, hlt, hc⟩
  · exact Or.inl h
  · by_cases hl : l = []
    · exact Or.inl hl
    have hne : some b2 ≠ o := fun e => ho hl b2 (by rw [hv, ha]; rfl) e.symm
    refine Or.inr ⟨b2, off, ha, by have := hg.size; omega, fun i hi => ?_⟩
    obtain ⟨h1, h2, h3⟩ := hc i hi
    exact ⟨(hg.cell_far _ hlt hne).trans h1, (hg.cell_far _ hlt hne).trans h2, (hg.cell_far _ hlt hne).trans h3⟩
theorem IsVers.own_lt {w : World} {v : Value} {l : List Ver} (h : IsVers w v l) (hl : l ≠ []) {kb : Nat} (hk : v.ownBlock = some kb) : kb < w.heap.size := by
  obtain ⟨a, cap, hv, h⟩ := h
  rcases h with h | ⟨b2, off, ha, hlt, hc⟩
  · exact absurd h hl
  · rw [hv, ha] at hk; cases hk; exact hlt
theorem OffMap.row {w w' : World} {fb : Nat} {F : DataW Cel} {o o' : Option Nat} (h : OffMap w fb F o) (hg : w.grownBy w' o) (hf : some fb ≠ o) (ho : o' = o ∨ o' = some w.heap.size) : OffMap w' fb F o' := by
  refine HoldsMap.move h (hg.block fb (HoldsMap.lt h) hf) (fun _ c ⟨s, e, hs, hoff⟩ => ⟨s, e, hs.row hg hoff, fun hl kb hk => ?_⟩)
  rcases ho with rfl | rfl
  · exact hoff hl kb hk
  · intro e'
    have := hs.own_lt hl hk
    cases e'; omega
theorem OffMap.put {w : World} {fb : Nat} {F : DataW Cel} {o : Option Nat} (h : OffMap w fb F o) : ∃ D, w.ownsMap Tryd.prog 9 heldR fb (size F) D ∧
    ∀ (w' : World) (n : Nat) (p : ByteArray) (c : Cel) (s : Value), p.size ≤ maxLen → IsVers w s c.l → (c.l ≠ [] → ∀ kb, s.ownBlock = some kb → o ≠ some kb) →
      w'.ownsMap Tryd.prog 9 heldR fb n (D.put (kS p) (.held (.agg #[.int .u64 c.last, s]))) → w.grownBy w' (some fb) → OffMap w' fb (F.put (kS p) (.held c)) o := by
  obtain ⟨D, ho, ha⟩ := h
  refine ⟨D, ho, fun w' n p c s hp hs hso ho' hg => ?_⟩
  have hnone := ownsMap_none ho
  exact HoldsMap.of ho' ((ha.mono (fun v c ⟨s, e, hs, hoff⟩ => ⟨s, e, hs.grown hg hnone, hoff⟩)).put strKeyed (ho.tidy strKeyed) ⟨_, keyS Tryd.underlying9 hp⟩ ⟨s, rfl, hs.grown hg hnone, hso⟩)
theorem ownGrown {w w' : World} {B e n k b : Nat} {v : Value} {xs : List Value} (h : w.ownsRow B e k v n xs) (hg : w.grownBy w' (some b)) (hb : b < B) : w'.ownsRow B e k v n xs := by
  refine ⟨h.1, ?_⟩
  rcases h.2 with hn | ⟨g, cap, cur, hv, hBg, hh, rest⟩
  · exact Or.inl hn
  · exact Or.inr ⟨g, cap, cur, hv, hBg, (hg.block g (lt_of_block hh) (by intro e; injection e with e; omega)).trans hh, rest⟩
theorem IsVers.notOne {W : World} {s : Value} {l : List Ver} {n : Nat} {x : Int} {a : Option Addr} {m c : Nat} (h : IsVers W s l) (h1 : One n #[.int .u64 x, .slice a m c] W) {p : Addr} (hp : p.block = n) (u : Value) : IsVers (W.setCell p u) s l := by
  obtain ⟨a, cap, hv, h⟩ := h
  refine ⟨a, cap, hv, ?_⟩
  rcases h with h | ⟨b2, off, ha, hlt, hc⟩
  · exact Or.inl h
  · by_cases hl : l = []
    · exact Or.inl hl
    have hne : b2 ≠ n := by
      intro e
      subst e
      obtain ⟨_, h2, h3⟩ := hc 0 (List.length_pos_iff.2 hl)
      rw [Nat.zero_mul, Nat.add_zero] at h2 h3
      rw [h1.c] at h2 h3
      rcases Nat.lt_or_ge off 1 with ho | ho
      · obtain rfl : off = 0 := by omega
        simp at h2
      · have : (#[Value.int .u64 x, .slice a m c] : Array Value)[off + 1]? = none := Array.getElem?_eq_none (by simp; omega)
        rw [Array.getElem?_eq_none (by simp; omega)] at h2; cases h2
    refine Or.inr ⟨b2, off, ha, by simpa using hlt, fun i hi => ?_⟩
    obtain ⟨h1, h2, h3⟩ := hc i hi
    exact ⟨(World.cell?_setCell_far _ _ _ _ (by rw [hp]; exact fun e => hne e.symm)).trans h1, (World.cell?_setCell_far _ _ _ _ (by rw [hp]; exact fun e => hne e.symm)).trans h2, (World.cell?_setCell_far _ _ _ _ (by rw [hp]; exact fun e => hne e.symm)).trans h3⟩
/-- One operation of the walk in the text's order, in every world of a class. -/
theorem quiet_plain {P : Program} {ops : Array Oper} {C : World → Prop} {Q : Act → Prop} {a : Act} {o : Oper} {rest : List Oper} (hg : o.guard = none) (v : Value)
    (h : ∀ w, C w → (execOp a.eval o).run P w = .ok (.value v) w) (k : wpQuiet P ops C Q rest (a.put o.dst v)) : wpQuiet P ops C Q (o :: rest) a := by
  refine wpQuiet_step (fun K hK => ?_)
  have hw : Region.wanted o (yielded ops a.tmps) = true := by simp [Region.wanted, hg]
  rw [if_pos hw]
  refine ⟨v, fun w hw => ?_, hK _ k⟩
  unfold Oper.quietAt
  rw [h w hw]
  exact ⟨rfl, rfl⟩
theorem quiet_call {P : Program} {ops : Array Oper} {C : World → Prop} {Q : Act → Prop} {a : Act} {o : Oper} {rest : List Oper} (hg : o.guard = none) (v : Value) (f : FuncId) (args : Array Value)
    (h : ∀ w, C w → (execOp a.eval o).run P w = .ok (.enter f args) w ∧ Calls P f args w (fun e w'' => e = .returned v ∧ C w'')) (k : wpQuiet P ops C Q rest (a.put o.dst v)) : wpQuiet P ops C Q (o :: rest) a := by
  refine wpQuiet_step (fun K hK => ?_)
  have hw : Region.wanted o (yielded ops a.tmps) = true := by simp [Region.wanted, hg]
  rw [if_pos hw]
  refine ⟨v, fun w hw => ?_, hK _ k⟩
  unfold Oper.quietAt
  rw [(h w hw).1]
  exact ⟨rfl, (h w hw).2⟩
theorem merged_same {N X M F : DataW Cel} {left : Lit → Bool} (hN : Merged N M F (fun _ => false)) (hX : Merged X M F left) (hl : ∀ k, left k = false) (cN : CanonK (KeysOf Tryd.prog 9) N) (cX : CanonK (KeysOf Tryd.prog 9) X) : X = N := by
  refine Maps.ext (cX.canon strKeyed.one) (cN.canon strKeyed.one) (fun k => ?_) (fun k z _ => ?_)
  · rw [hX.1 k, hN.1 k, hl k]
  · rw [hX.2 k z, hN.2 k z, hl k]
theorem keyS_of {x : ByteArray} {kl : Lit} (h : keyOf Tryd.prog 9 (.string x) = some kl) : kl = kS x ∧ x.size ≤ maxLen := by
  obtain ⟨s, e, hk, hs⟩ := keyS_inv Tryd.underlying9 h
  cases e; exact ⟨hk, hs⟩
/-- An entry that comes, in a loop over the laid-over map. -/
theorem merged_next {X M F : DataW Cel} {D : DataW Value} {G : Value → Cel → Prop} {left : Lit → Bool} (hX : Merged X M F left) (cX : CanonK (KeysOf Tryd.prog 9) X) (ha : Alike Tryd.prog 9 G D F) {x : ByteArray} (hxs : x.size ≤ maxLen) (hl : left (kS x) = true) {y : DataW Value} (hat : ∀ zd, D.atKey (kS x) zd = y) :
    ∃ X', Merged X' M F (fun z => left z && !z.sameKey (kS x)) ∧ CanonK (KeysOf Tryd.prog 9) X' ∧ size X' = (if has M (kS x) then size X else size X + 1) := by
  have hF : has F (kS x) = true := by rw [← ha.keys]; exact Maps.has_true_of_atKey hat
  obtain ⟨v, c, _, hc, _⟩ := ha.vals _ hF
  have hat2 : ∀ zd, F.atKey (kS x) zd = .held c := fun zd => by rw [Maps.atKey_indep hF zd .nil]; exact hc
  refine ⟨X.put (kS x) (.held c), Maps.merged_step hX (canonK_isMap cX) (kS_key _) hat2, Maps.canonK_put strKeyed.one ⟨_, keyS Tryd.underlying9 hxs⟩ _ cX, ?_⟩
  rw [Maps.size_put (canonK_tidy cX), hX.1 (kS x), hl]
  simp
theorem infoU64 : (Tryd.prog.info? 38).map (fun i => (i.zero, i.size, i.bytes)) = some (some (.int .u64 0), 1, 8) := by kernel_rfl
end Go.Proofs.YtbmmabpglkojkaaDoor
