/- For the log's Checkpoint: how it turns a log; appending a closure in a drawn region. -/
import Derived.Test.YtniflkggcceagaaQv09
namespace Go.Proofs.Ytniflkggcceagaa
open Go Go.RowKit
theorem WalAt.setGen {w : World} {T : Nat → Prop} {x d : Nat} {W : Wa} (h : WalAt w T x d W) (v : Nat) : WalAt (w.setCell ⟨x, 4, none⟩ (.int .u64 (v : Int))) T x d { W with gen := v } := by
  have far : ∀ j, j ≠ 4 → (w.setCell ⟨x, 4, none⟩ (.int .u64 (v : Int))).cell? ⟨x, j, none⟩ = w.cell? ⟨x, j, none⟩ := fun j hj => World.cell?_setCell_other _ _ _ _ (by intro e; injection e with _ e; exact hj e.symm)
  exact h.turn (ButS.set (S := fun k => k = x) w (p := ⟨x, 4, none⟩) rfl _) rfl rfl (fun j hj => far j (by omega)) (World.cell?_setCell_same' _ _ _ (by rw [h.c4]; rfl)) ((far 5 (by omega)).trans h.c5) ((far 6 (by omega)).trans h.c6) ((far 9 (by omega)).trans h.c9) ((far 10 (by omega)).trans h.c10) (fun j => by rw [World.frozen?_setCell]; exact h.fz j)
structure XC (w0 : World) (x : Nat) (v5 v7 v8 : Value) (W : World) : Prop where
  cc : ∀ j, (j ≠ 5 ∧ j ≠ 7 ∧ j ≠ 8) → W.cell? ⟨x, j, none⟩ = w0.cell? ⟨x, j, none⟩
  c5 : W.cell? ⟨x, 5, none⟩ = some v5
  c7 : W.cell? ⟨x, 7, none⟩ = some v7
  c8 : W.cell? ⟨x, 8, none⟩ = some v8
  f : ∀ j, W.frozen? ⟨x, j, none⟩ = false
  bu : ButS (fun k => k = x) w0 W
  lt : x < W.heap.size
section
variable {w0 W W' : World} {x : Nat} {v5 v7 v8 : Value}
theorem XC.step (h : XC w0 x v5 v7 v8 W) (hb : Below W.heap.size W W') : XC w0 x v5 v7 v8 W' :=
  have e : ∀ j, W'.cell? ⟨x, j, none⟩ = W.cell? ⟨x, j, none⟩ := fun j => hb.cell (p := ⟨x, j, none⟩) h.lt
  ⟨fun j hj => (e j).trans (h.cc j hj), (e 5).trans h.c5, (e 7).trans h.c7, (e 8).trans h.c8, fun j => (hb.frozen (p := ⟨x, j, none⟩) h.lt).trans (h.f j), h.bu.trans (ButS.of hb), by have := hb.size; have := h.lt; omega⟩
theorem XC.far (W : World) (x i j : Nat) (v : Value) (h : i ≠ j) : (W.setCell ⟨x, i, none⟩ v).cell? ⟨x, j, none⟩ = W.cell? ⟨x, j, none⟩ := World.cell?_setCell_other _ _ _ _ (by intro e; injection e with _ e; exact h e)
theorem XC.set5 (h : XC w0 x v5 v7 v8 W) (u : Value) : XC w0 x u v7 v8 (W.setCell ⟨x, 5, none⟩ u) :=
  ⟨fun j hj => (XC.far W x 5 j u (by omega)).trans (h.cc j hj), World.cell?_setCell_same' _ _ _ (by rw [h.c5]; rfl), (XC.far W x 5 7 u (by omega)).trans h.c7, (XC.far W x 5 8 u (by omega)).trans h.c8, fun j => by rw [World.frozen?_setCell]; exact h.f j, h.bu.trans (ButS.set (S := fun k => k = x) W (p := ⟨x, 5, none⟩) rfl u), by rw [setCell_size]; exact h.lt⟩
theorem XC.set7 (h : XC w0 x v5 v7 v8 W) (u : Value) : XC w0 x v5 u v8 (W.setCell ⟨x, 7, none⟩ u) :=
  ⟨fun j hj => (XC.far W x 7 j u (by omega)).trans (h.cc j hj), (XC.far W x 7 5 u (by omega)).trans h.c5, World.cell?_setCell_same' _ _ _ (by rw [h.c7]; rfl), (XC.far W x 7 8 u (by omega)).trans h.c8, fun j => by rw [World.frozen?_setCell]; exact h.f j, h.bu.trans (ButS.set (S := fun k => k = x) W (p := ⟨x, 7, none⟩) rfl u), by rw [setCell_size]; exact h.lt⟩
theorem XC.set8 (h : XC w0 x v5 v7 v8 W) (u : Value) : XC w0 x v5 v7 u (W.setCell ⟨x, 8, none⟩ u) :=
  ⟨fun j hj => (XC.far W x 8 j u (by omega)).trans (h.cc j hj), (XC.far W x 8 5 u (by omega)).trans h.c5, (XC.far W x 8 7 u (by omega)).trans h.c7, World.cell?_setCell_same' _ _ _ (by rw [h.c8]; rfl), fun j => by rw [World.frozen?_setCell]; exact h.f j, h.bu.trans (ButS.set (S := fun k => k = x) W (p := ⟨x, 8, none⟩) rfl u), by rw [setCell_size]; exact h.lt⟩
end
theorem WalAt.xc {w : World} {T : Nat → Prop} {x d : Nat} {W : Wa} {fv sv : Value} (h : WalAt w T x d W) (hr : WalRows w T x W fv sv) : XC w x (.int .u64 (W.first : Int)) fv sv w := ⟨fun _ _ => rfl, h.c5, hr.c7, hr.c8, h.fz, ButS.refl _, h.lt⟩
theorem cz_row {w : World} {g : Nat} {e : TypeId} {v : Value} (h : Cz w g e #[v]) : w.ownsRow 0 e 1 (.slice (some ⟨g, 0, none⟩) 1 1) 1 [v] :=
  ⟨rfl, Or.inr ⟨g, 1, #[v], rfl, Nat.zero_le _, h, Nat.le_refl _, by decide, rfl, rfl⟩⟩
theorem XC.wal {w w' : World} {T : Nat → Prop} {x d n g8 g11 L : Nat} {fl : Int} {V : Wa} (h : WalAt w T x d V) (hx : XC w x (.int .u64 (n : Int)) (.slice (some ⟨g8, 0, none⟩) 1 1) (.slice (some ⟨g11, 0, none⟩) 1 1) w') (h8 : Cz w' g8 3 #[.int .i64 fl]) (h11 : Cz w' g11 3 #[.int .i64 (L : Int)])
    (hne : g8 ≠ g11) (hge : w.heap.size ≤ g8 ∧ w.heap.size ≤ g11) : WalAt w' (fun k => T k ∨ k = g8 ∨ k = g11) x d { V with first := n, files := [fl], sizes := [L] } := by
  have xl := h.lt
  refine ⟨fun k hk => ?_, Or.inl h.xx, (hx.cc 0 (by omega)).trans h.c0, (hx.cc 1 (by omega)).trans h.c1, (hx.cc 2 (by omega)).trans h.c2, (hx.cc 3 (by omega)).trans h.c3, (hx.cc 4 (by omega)).trans h.c4, hx.c5, (hx.cc 6 (by omega)).trans h.c6, (hx.cc 9 (by omega)).trans h.c9, (hx.cc 10 (by omega)).trans h.c10, hx.f, _, _, hx.c7, hx.c8, cz_row h8, cz_row h11, fun b hb => ?_, fun b hb => ?_⟩
  · rcases hk with hk | rfl | rfl
    · exact Nat.lt_of_lt_of_le (h.own k hk) hx.bu.size
    · exact h8.lt
    · exact h11.lt
  · cases hb; exact ⟨Or.inr (Or.inl rfl), by show g8 ≠ x; omega, fun e => by cases e; exact hne rfl⟩
  · cases hb; exact ⟨Or.inr (Or.inr rfl), by show g11 ≠ x; omega⟩
structure CkC (b2 b8 b6 x : Nat) (fl : Int) (Q : List UInt8) (nx : Nat) (w : World) : Prop where
  h1 : w.cell? ⟨b2, 0, none⟩ = some (.pointer (some ⟨x, 0, none⟩))
  h2 : w.cell? ⟨b8, 0, none⟩ = some (.int .i64 fl)
  h3 : w.cell? ⟨b6, 0, none⟩ = some (.string (bs Q))
  h4 : w.cell? ⟨x, 6, none⟩ = some (.int .u64 (nx : Int))
theorem CkC.step {b2 b8 b6 x nx : Nat} {fl : Int} {Q : List UInt8} {W W' : World} (h : CkC b2 b8 b6 x fl Q nx W) (hb : Below W.heap.size W W') : CkC b2 b8 b6 x fl Q nx W' :=
  ⟨(hb.cell (p := ⟨b2, 0, none⟩) (cell_lt h.h1)).trans h.h1, (hb.cell (p := ⟨b8, 0, none⟩) (cell_lt h.h2)).trans h.h2, (hb.cell (p := ⟨b6, 0, none⟩) (cell_lt h.h3)).trans h.h3, (hb.cell (p := ⟨x, 6, none⟩) (cell_lt h.h4)).trans h.h4⟩
theorem CkC.stX {b2 b8 b6 x nx : Nat} {fl : Int} {Q : List UInt8} {W W' : World} (h : CkC b2 b8 b6 x fl Q nx W) (hb : ButS (fun k => k = x) W W') (n1 : b2 ≠ x) (n2 : b8 ≠ x) (n3 : b6 ≠ x) (h6 : W'.cell? ⟨x, 6, none⟩ = some (.int .u64 (nx : Int))) : CkC b2 b8 b6 x fl Q nx W' :=
  ⟨(hb.cell (p := ⟨b2, 0, none⟩) (cell_lt h.h1) n1).trans h.h1, (hb.cell (p := ⟨b8, 0, none⟩) (cell_lt h.h2) n2).trans h.h2, (hb.cell (p := ⟨b6, 0, none⟩) (cell_lt h.h3) n3).trans h.h3, h6⟩
theorem wp_appF {o : Oper} {a : Act} {w : World} {K : Act → World → Prop} {Q : Exit → Act → World → Prop} (s x : Operand) (ho : o.op = .call { callee := .builtin .append, args := #[s, x], argTypes := #[76, 76] })
    {B n : Nat} {v u : Value} {l : List Value} (hs : a.eval s = v) (hown : w.ownsRow B 41 1 v n l) {g : Nat} (hx : a.eval x = .slice (some ⟨g, 0, none⟩) 1 1) (hz : Cz w g 41 #[u]) (hu : u.oneCell' = true) (hl : n ≤ 1000000) (hB : B ≤ w.heap.size)
    (h : ∀ v' w', w'.ownsRow B 41 1 v' (n + 1) (l ++ [u]) → w.grownBy w' v.ownBlock → (v'.ownBlock = v.ownBlock ∨ v'.ownBlock = some w.heap.size) → K (a.put o.dst v') w') : o.wp Try.prog a w K Q := by
  obtain ⟨j0, hj, hjz, hjs, hjb⟩ := info_parts infoFn0
  obtain ⟨v', w', hr, h2, h3, h4, h5⟩ := run_append_own_at (P := Try.prog) w B 76 o.type 41 j0 .nilFunc 1 8 Try.underlying76 hj hjz hjs hjb rfl (by decide) v n l hown ⟨g, 0, none⟩ 1 1 [u] rfl (World.news_of_block hz) (by intro z hz; simp only [List.mem_cons, List.mem_nil_iff, or_false] at hz; rcases hz with rfl; exact hu) (by unfold maxLen; omega) (by omega) hB
  unfold Oper.wp execOp
  simp only [ho, resolve, invoke, builtin, Sem.run_bind, Sem.run_pure, Result.andThen_ok, List.map_toArray, List.map_cons, List.map_nil, hs, hx, hr]
  exact h v' w' h2 h3 h5
theorem fits_all : ∀ (cs : List Dc), (∀ c ∈ cs, ∀ D : Dk, c.fits D) → ∀ D, fitsS cs D
  | [], _, _ => trivial
  | c :: r, h, D => ⟨h c (by simp) D, fun _ => fits_all r (fun c hc => h c (List.mem_cons_of_mem _ hc)) _⟩
def ckCs (fl : Int) (Q : List UInt8) (F : List Int) : List Dc := (.write fl Q :: .sync :: F.map (fun f => .cut f 0)) ++ [.sync]
def ckHead (W : Wa) (t : List UInt8) : List UInt8 := Wl.head sumF 1 (W.gen + 1) W.next t
def ckR (D : Dk) (W : Wa) (t : List UInt8) : Int × Dk × Wa :=
  if W.down ≠ 0 then (121, D, W)
  else if 42 < t.length then (5, D, W)
  else if freesP D < 1 ∨ openP ((18 + t.length : Nat) : Int) (D.left + (sumL W.sizes : Nat) - ((18 + t.length : Nat) : Int)) < W.reserved then (4, D, W)
  else if (Dk.steps (ckCs (freeP D) (ckHead W t) W.files) D).1 ≠ 0 then ((Dk.steps (ckCs (freeP D) (ckHead W t) W.files) D).1, (Dk.steps (ckCs (freeP D) (ckHead W t) W.files) D).2, { W with down := (Dk.steps (ckCs (freeP D) (ckHead W t) W.files) D).1 })
  else (0, (Dk.steps (ckCs (freeP D) (ckHead W t) W.files) D).2, { W with gen := W.gen + 1, first := W.next, files := [freeP D], sizes := [18 + t.length], down := 0 })
def CkG (S T : Nat → Prop) (x d : Nat) (r : Int × Dk × Wa) (w : World) (e : Ending) (w' : World) : Prop := e = .returned (.int .i64 r.1) ∧ LgAt w S T x d r.2.1 r.2.2 w'
end Go.Proofs.Ytniflkggcceagaa
