/- shardmap.Map's Split in one word: which error, or what map. -/
import Derived.Test.YthcmcjoenepkbaaGreatSm8
namespace Go.Proofs.YthcmcjoenepkbaaGreat
open Go Go.RowKit Go.Maps

def FitO (O : Nat → Nat) (f t tw : Nat) : Prop := (∀ u, f ≤ u → u ≤ t → O u = O f) ∧ O f ≠ tw
def BadArg (f t tw : Nat) : Prop := t < f ∨ tw = 0
def SplitC (O : Nat → Nat) (f t tw e1 L : Nat) (c : Int) : Prop :=
  (BadArg f t tw ∧ c = 2) ∨ (¬ BadArg f t tw ∧ ¬ FitO O f t tw ∧ c = 270) ∨ (¬ BadArg f t tw ∧ FitO O f t tw ∧ (2048 < L ∨ e1 = 0) ∧ c = 4) ∨ (¬ BadArg f t tw ∧ FitO O f t tw ∧ ¬ (2048 < L ∨ e1 = 0) ∧ c = 0)
theorem SplitC.same {O O' : Nat → Nat} {f t tw e1 e1' L L' : Nat} {c c' : Int} (h : SplitC O f t tw e1 L c) (h' : SplitC O' f t tw e1' L' c') (hO : ¬ BadArg f t tw → (FitO O f t tw ↔ FitO O' f t tw)) (hL : (2048 < L ∨ e1 = 0) ↔ (2048 < L' ∨ e1' = 0)) : c = c' := by
  rcases h with ⟨a, rfl⟩ | ⟨a, b, rfl⟩ | ⟨a, b, d, rfl⟩ | ⟨a, b, d, rfl⟩ <;> rcases h' with ⟨a', rfl⟩ | ⟨a', b', rfl⟩ | ⟨a', b', d', rfl⟩ | ⟨a', b', d', rfl⟩ <;> first | rfl | exact absurd a a' | exact absurd a' a | exact absurd ((hO a).1 b) b' | exact absurd ((hO a).2 b') b | exact absurd (hL.1 d) d' | exact absurd (hL.2 d') d
theorem SplitC.zero {O : Nat → Nat} {f t tw e1 L : Nat} (h : SplitC O f t tw e1 L 0) : ¬ BadArg f t tw ∧ FitO O f t tw ∧ ¬ (2048 < L ∨ e1 = 0) := by
  rcases h with ⟨_, h⟩ | ⟨_, _, h⟩ | ⟨_, _, _, h⟩ | ⟨a, b, d, _⟩
  · cases h
  · cases h
  · cases h
  · exact ⟨a, b, d⟩
theorem SplitC.is0 {O : Nat → Nat} {f t tw e1 L : Nat} {c : Int} (h : SplitC O f t tw e1 L c) (h1 : ¬ BadArg f t tw) (h2 : FitO O f t tw) (h3 : ¬ (2048 < L ∨ e1 = 0)) : c = 0 := by
  rcases h with ⟨a, _⟩ | ⟨_, a, _⟩ | ⟨_, _, a, _⟩ | ⟨_, _, _, h⟩
  · exact absurd a h1
  · exact absurd h2 a
  · exact absurd a h3
  · exact h
/-- What Split leaves. -/
def SplitR (O : Nat → Nat) (f t tw e1 : Nat) (sp : List (Nat × Nat)) (w : World) (en : Ending) (w' : World) : Prop := Below w.heap.size w w' ∧ ∃ c : Int, SplitC O f t tw e1 (splitL sp f t tw).length c ∧
  ((c ≠ 0 ∧ en = .returned (.tuple #[.pointer none, .int .u32 0, .int .i64 c])) ∨ (c = 0 ∧ ∃ n, en = .returned (.tuple #[.pointer (some ⟨n, 0, none⟩), .int .u32 (O f : Nat), .int .i64 0]) ∧ MapAt w' n e1 (splitL sp f t tw) ∧ w.heap.size ≤ n))
theorem map_Split (m e f t tw : Nat) (sp : List (Nat × Nat)) (w : World) (hM : MapAt w m e sp) (hl : sp.length ≤ 10000) (O : Nat → Nat) (hS : SpI O sp M64) (ht : t < M64) :
    Calls Tryz.prog 8 #[.pointer (some ⟨m, 0, none⟩), .agg #[.int .u64 (f : Int), .int .u64 (t : Int)], .int .u32 (tw : Int)] w (SplitR O f t tw ((e + 1) % M64) sp w) := by
  by_cases hb : BadArg f t tw
  · exact (map_Split_arg m f t tw w hb).mono fun en w' ⟨h1, h2⟩ => ⟨h2, 2, Or.inl ⟨hb, rfl⟩, Or.inl ⟨by decide, h1⟩⟩
  · have hft : f ≤ t := Nat.le_of_not_lt (fun h => hb (Or.inl h))
    have hF : Fits f t (O f) tw (upto (nthRg sp) sp.length) ↔ FitO O f t tw := fits_iff hft ht hS
    refine (map_Split_do m e f t tw sp w hM hl O hS hft ht (fun h => hb (Or.inr h))).mono ?_
    rintro en w' ⟨h1, ⟨h2, h3⟩ | ⟨h2, h3, h4⟩ | ⟨h2, h3, n, h4, h5, h6⟩⟩
    · exact ⟨h1, 270, Or.inr (Or.inl ⟨hb, fun h => h2 (hF.2 h), rfl⟩), Or.inl ⟨by decide, h3⟩⟩
    · exact ⟨h1, 4, Or.inr (Or.inr (Or.inl ⟨hb, hF.1 h2, h3, rfl⟩)), Or.inl ⟨by decide, h4⟩⟩
    · exact ⟨h1, 0, Or.inr (Or.inr (Or.inr ⟨hb, hF.1 h2, h3, rfl⟩)), Or.inr ⟨rfl, n, h4, h5, h6⟩⟩
/-- The spans' shards are owners. -/
theorem SpI.b32 {O : Nat → Nat} {sp : List (Nat × Nat)} (h : SpI O sp M64) {N : Nat} (hO : ∀ u, O u < N) : ∀ x ∈ sp, x.2 < N := by
  intro x hx
  obtain ⟨k, hk, rfl⟩ := List.mem_iff_getElem.1 hx
  have h1 := h.at_ hk (Nat.le_refl _) (endOf_next h hk).1
  have h2 : sp.getD k d0 = sp[k] := by rw [List.getD_eq_getElem?_getD, List.getElem?_eq_getElem hk]; rfl
  rw [h2] at h1
  rw [← h1]; exact hO _
theorem fitO_swap {O : Nat → Nat} {f t f' t' tw : Nat} (a : Nat) (h : ¬ (f' ≤ t ∧ f ≤ t')) (hft : ¬ BadArg f' t' tw) : FitO (splitO O f t a) f' t' tw ↔ FitO O f' t' tw := by
  have hf : f' ≤ t' := Nat.le_of_not_lt (fun h => hft (Or.inl h))
  have e : ∀ u, f' ≤ u → u ≤ t' → splitO O f t a u = O u := fun u h1 h2 => splitO_out (fun h3 => h ⟨by omega, by omega⟩)
  unfold FitO
  rw [e f' (Nat.le_refl _) hf]
  constructor
  · rintro ⟨h1, h2⟩; exact ⟨fun u a b => by rw [← e u a b]; exact h1 u a b, h2⟩
  · rintro ⟨h1, h2⟩; exact ⟨fun u a b => by rw [e u a b]; exact h1 u a b, h2⟩
theorem splitO_lt {O : Nat → Nat} {N f t tw : Nat} (hO : ∀ u, O u < N) (h : tw < N) : ∀ u, splitO O f t tw u < N := fun u => by
  unfold splitO; split
  · exact h
  · exact hO u
end Go.Proofs.YthcmcjoenepkbaaGreat
