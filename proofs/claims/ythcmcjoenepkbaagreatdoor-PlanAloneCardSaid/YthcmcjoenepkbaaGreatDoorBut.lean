/- What stays as it was: all but some blocks; boxes of one's own; one operation of a quiet region; the row that a sort works on. -/
import Derived.Test.YthcmcjoenepkbaaGreatDoorRBase
import Derived.Deep.Quiet
import Derived.Deep.RegionHeld
import Derived.Deep.AppendLies
import Derived.Sort.Row
import Derived.Sort.AssemblyPlain
namespace Go.Proofs.YthcmcjoenepkbaaGreatDoor
open Go Go.RowKit

structure ButS (S : Nat → Prop) (w w' : World) : Prop where
  os : w'.os = w.os
  tape : w'.tape = w.tape
  output : w'.output = w.output
  size : w.heap.size ≤ w'.heap.size
  block : ∀ k, k < w.heap.size → ¬ S k → w'.heap[k]? = w.heap[k]?
theorem ButS.refl {S : Nat → Prop} (w : World) : ButS S w w := ⟨rfl, rfl, rfl, Nat.le_refl _, fun _ _ _ => rfl⟩
theorem ButS.of {S : Nat → Prop} {w w' : World} (h : Below w.heap.size w w') : ButS S w w' := ⟨h.os, h.tape, h.output, h.size, fun k hk _ => h.block k hk⟩
theorem ButS.trans {S : Nat → Prop} {a b c : World} (h : ButS S a b) (k : ButS S b c) : ButS S a c :=
  ⟨k.os.trans h.os, k.tape.trans h.tape, k.output.trans h.output, Nat.le_trans h.size k.size, fun i hi hS => (k.block i (Nat.lt_of_lt_of_le hi h.size) hS).trans (h.block i hi hS)⟩
theorem ButS.mono {S S' : Nat → Prop} {w w' : World} (h : ButS S w w') (hS : ∀ k, S k → S' k) : ButS S' w w' := ⟨h.os, h.tape, h.output, h.size, fun k hk hn => h.block k hk (fun hs => hn (hS k hs))⟩
theorem ButS.grown {S : Nat → Prop} {w w' : World} {b : Nat} (h : w.grownBy w' (some b)) (hS : S b) : ButS S w w' :=
  ⟨h.os, h.tape, h.output, h.size, fun k hk hn => h.block k hk (fun e => hn (by cases e; exact hS))⟩
theorem ButS.set {S : Nat → Prop} (w : World) {p : Addr} (hS : S p.block) (u : Value) : ButS S w (w.setCell p u) := by
  have h := (Below.refl 0 w).setCell (p := p) (Nat.zero_le _) u
  exact ⟨h.os, h.tape, h.output, h.size, fun k hk hn => Below.heap_setCell w p u k (fun e => hn (e ▸ hS))⟩
theorem ButS.below {S : Nat → Prop} {B : Nat} {w w' : World} (h : ButS S w w') (hS : ∀ k, S k → B ≤ k) (hB : B ≤ w.heap.size) : Below B w w' :=
  ⟨h.os, h.tape, h.output, h.size, fun k hk => h.block k (by omega) (fun hs => by have := hS k hs; omega)⟩
theorem ButS.cell {S : Nat → Prop} {w w' : World} (h : ButS S w w') {p : Addr} (hp : p.block < w.heap.size) (hn : ¬ S p.block) : w'.cell? p = w.cell? p := World.cell?_of_block (w := w) (h.block p.block hp hn)
theorem ButS.frozen {S : Nat → Prop} {w w' : World} (h : ButS S w w') {p : Addr} (hp : p.block < w.heap.size) (hn : ¬ S p.block) : w'.frozen? p = w.frozen? p := World.frozen?_of_block (w := w) (h.block p.block hp hn)
theorem ButS.drewN {S : Nat → Prop} {a b : World} (h : ButS S a b) (n : Nat) : ButS S a (b.drewN n) := ⟨h.os, h.tape, h.output, h.size, h.block⟩

/-- Block n of W holds just these cells, and may be written. -/
structure One (n : Nat) (C : Array Value) (W : World) : Prop where
  lt : n < W.heap.size
  c : ∀ j, W.cell? ⟨n, j, none⟩ = C[j]?
  f : ∀ j, W.frozen? ⟨n, j, none⟩ = false
theorem One.step {n : Nat} {C : Array Value} {W W' : World} (h : One n C W) (hb : Below W.heap.size W W') : One n C W' :=
  ⟨by have := hb.size; have := h.lt; omega, fun j => (hb.cell h.lt).trans (h.c j), fun j => (hb.frozen h.lt).trans (h.f j)⟩
theorem One.but {S : Nat → Prop} {n : Nat} {C : Array Value} {W W' : World} (h : One n C W) (hb : ButS S W W') (hn : ¬ S n) : One n C W' :=
  ⟨by have := hb.size; have := h.lt; omega, fun j => (hb.cell h.lt hn).trans (h.c j), fun j => (hb.frozen h.lt hn).trans (h.f j)⟩
theorem One.drewN {n : Nat} {C : Array Value} {W : World} (h : One n C W) (k : Nat) : One n C (W.drewN k) := ⟨h.lt, h.c, h.f⟩
theorem One.of (w : World) (C : Array Value) (t : TypeId) : One w.heap.size C (w.alloc (.cells C t)) := by
  have hh := (MapKept.heap_alloc w (.cells C t)).1
  refine ⟨by simp, fun j => ?_, fun j => ?_⟩
  · unfold World.cell?; rw [hh]; rfl
  · unfold World.frozen?; rw [hh]; simp
theorem One.far {n : Nat} {C : Array Value} {W : World} (h : One n C W) {p : Addr} (hp : p.block ≠ n) (u : Value) : One n C (W.setCell p u) := by
  refine ⟨by simpa using h.lt, fun j => ?_, fun j => ?_⟩
  · rw [World.cell?_setCell_far _ _ _ _ hp]; exact h.c j
  · rw [World.frozen?_setCell]; exact h.f j
theorem One.set {n : Nat} {C : Array Value} {W : World} (h : One n C W) {i : Nat} (hi : i < C.size) (u : Value) : One n (C.set i u hi) (W.setCell ⟨n, i, none⟩ u) := by
  refine ⟨by simpa using h.lt, fun j => ?_, fun j => ?_⟩
  · by_cases e : i = j
    · subst e
      rw [World.cell?_setCell_same' _ _ _ (by rw [h.c i]; simp [hi])]; simp
    · rw [World.cell?_setCell_other _ _ _ _ (by intro x; injection x with _ x; exact e x), h.c j]
      simp [e]
  · rw [World.frozen?_setCell]; exact h.f j
theorem One.grown {n : Nat} {C : Array Value} {W W' : World} {b : Nat} (h : One n C W) (hg : W.grownBy W' (some b)) (hb : n ≠ b) : One n C W' :=
  ⟨by have := hg.size; have := h.lt; omega, fun j => (hg.cell_far ⟨n, j, none⟩ h.lt (by simpa using hb)).trans (h.c j), fun j => (hg.frozen_far ⟨n, j, none⟩ h.lt (by simpa using hb)).trans (h.f j)⟩

/-- The world at hand becomes a letter: what is kept of it is F. -/
theorem wp_abs {P : Program} {c : Code} {Q : Exit → Act → World → Prop} {a : Act} {W : World} {F : World → Prop} (h : F W) (k : ∀ W', F W' → c.wp P Q a W') : c.wp P Q a W := k W h

/-- One operation of the walk in the text's order, in every world of a class. -/
theorem quiet_plain {P : Program} {ops : Array Oper} {C : World → Prop} {Q : Act → Prop} {a : Act} {o : Oper} {rest : List Oper} (hw : Region.wanted o (yielded ops a.tmps) = true) (v : Value)
    (h : ∀ w, C w → (execOp a.eval o).run P w = .ok (.value v) w) (k : wpQuiet P ops C Q rest (a.put o.dst v)) : wpQuiet P ops C Q (o :: rest) a := by
  refine wpQuiet_step (fun K hK => ?_)
  rw [if_pos hw]
  refine ⟨v, fun w hw => ?_, hK _ k⟩
  unfold Oper.quietAt
  rw [h w hw]
  exact ⟨rfl, rfl⟩
theorem quiet_call {P : Program} {ops : Array Oper} {C : World → Prop} {Q : Act → Prop} {a : Act} {o : Oper} {rest : List Oper} (hw : Region.wanted o (yielded ops a.tmps) = true) (v : Value) (f : FuncId) (args : Array Value)
    (h : ∀ w, C w → (execOp a.eval o).run P w = .ok (.enter f args) w ∧ Calls P f args w (fun e w'' => e = .returned v ∧ C w'')) (k : wpQuiet P ops C Q rest (a.put o.dst v)) : wpQuiet P ops C Q (o :: rest) a := by
  refine wpQuiet_step (fun K hK => ?_)
  rw [if_pos hw]
  refine ⟨v, fun w hw => ?_, hK _ k⟩
  unfold Oper.quietAt
  rw [(h w hw).1]
  exact ⟨rfl, (h w hw).2⟩

/-- The row at (blk, off) holds d and may be written; all that was there in w0 is as it was, but for the blocks of S. -/
structure SR (K : IntKind) (S : Nat → Prop) (w0 : World) (blk off : Nat) (d : Array Int) (w : World) : Prop where
  holds : Sort.Holds (Value.int K) w blk off d
  but : ButS S w0 w
theorem SR.drewN {K : IntKind} {S : Nat → Prop} {w0 w : World} {blk off : Nat} {d : Array Int} (h : SR K S w0 blk off d w) (n : Nat) : SR K S w0 blk off d (w.drewN n) := ⟨h.holds, h.but.drewN n⟩
theorem SR.drew {K : IntKind} {S : Nat → Prop} {w0 w : World} {blk off : Nat} {d : Array Int} (h : SR K S w0 blk off d w) : SR K S w0 blk off d w.drew := h.drewN 1
theorem SR.swap {K : IntKind} {S : Nat → Prop} {w0 w : World} {blk off : Nat} {d : Array Int} (h : SR K S w0 blk off d w) (hS : S blk) {G : Nat → Int} (hG : ∀ t, G t = d[t]!) {i j : Nat} (hi : i < d.size) (hj : j < d.size) :
    SR K S w0 blk off (Sort.swp d i j) ((w.setCell ⟨blk, off + i, none⟩ (.int K (G j))).setCell ⟨blk, off + j, none⟩ (.int K (G i))) := by
  refine ⟨?_, h.but.trans ((ButS.set w (p := ⟨blk, off + i, none⟩) hS _).trans (ButS.set _ (p := ⟨blk, off + j, none⟩) hS _))⟩
  have e := Sort.putRow_swp (Value.int K) w blk off d i j hi hj
  rw [Sort.putRow_self _ _ _ _ _ h.holds] at e
  rw [hG i, hG j, e]
  exact Sort.holds_putRow _ _ _ _ d _ h.holds (Sort.size_swp d i j)
theorem SR.start {K : IntKind} {S : Nat → Prop} {w : World} {blk off : Nat} {d : Array Int} (h : Sort.Holds (Value.int K) w blk off d) : SR K S w blk off d w := ⟨h, ButS.refl w⟩
theorem SR.step {K : IntKind} {S : Nat → Prop} {w0 w w' : World} {blk off : Nat} {d d' : Array Int} (h : SR K S w0 blk off d w) (h' : SR K S w blk off d' w') : SR K S w0 blk off d' w' := ⟨h'.holds, h.but.trans h'.but⟩
theorem SR.alloc {K : IntKind} {S : Nat → Prop} {w0 w : World} {blk off : Nat} {d : Array Int} (h : SR K S w0 blk off d w) (hb : blk < w.heap.size) (o : Obj) : SR K (fun k => S k ∨ k = w.heap.size) w0 blk off d (w.alloc o) := by
  have hbl : Below w.heap.size w (w.alloc o) := (Below.refl _ _).alloc (Nat.le_refl _) _
  refine ⟨fun j hj => ?_, (h.but.mono (fun k hk => Or.inl hk)).trans (ButS.of hbl)⟩
  rw [hbl.cell (p := ⟨blk, off + j, none⟩) hb, hbl.frozen (p := ⟨blk, off + j, none⟩) hb]
  exact h.holds j hj
/-- A block that is new may be forgotten. -/
theorem SR.drop {K : IntKind} {S : Nat → Prop} {w0 w : World} {blk off n : Nat} {d : Array Int} (h : SR K (fun k => S k ∨ k = n) w0 blk off d w) (hn : w0.heap.size ≤ n) : SR K S w0 blk off d w :=
  ⟨h.holds, h.but.os, h.but.tape, h.but.output, h.but.size, fun k hk hS => h.but.block k hk (fun h' => by rcases h' with h' | h'; (· exact hS h'); (· omega))⟩
/-- A store beside the row. -/
theorem SR.set {K : IntKind} {S : Nat → Prop} {w0 w : World} {blk off : Nat} {d : Array Int} (h : SR K S w0 blk off d w) {p : Addr} (hS : S p.block) (hne : p.block ≠ blk) (u : Value) : SR K S w0 blk off d (w.setCell p u) := by
  refine ⟨fun j hj => ?_, h.but.trans (ButS.set w hS u)⟩
  rw [World.cell?_setCell_far _ _ _ _ hne, World.frozen?_setCell]
  exact h.holds j hj
/-- The cells of a row, by a function. -/
theorem SR.cells {K : IntKind} {S : Nat → Prop} {w0 w : World} {blk off : Nat} {d : Array Int} (h : SR K S w0 blk off d w) : ∃ G : Nat → Int, (∀ t, G t = d[t]!) ∧ (∀ t, t < d.size → w.cell? ⟨blk, off + t, none⟩ = some (.int K (G t))) ∧ (∀ t, t < d.size → w.frozen? ⟨blk, off + t, none⟩ = false) :=
  ⟨fun t => d[t]!, fun _ => rfl, fun t ht => (h.holds t ht).1, fun t ht => (h.holds t ht).2⟩
end Go.Proofs.YthcmcjoenepkbaaGreatDoor
