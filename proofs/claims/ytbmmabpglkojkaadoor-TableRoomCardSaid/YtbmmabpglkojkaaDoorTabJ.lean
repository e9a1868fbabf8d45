/- Apply, told in one; what stays of lists while a table turns. -/
import Derived.Test.YtbmmabpglkojkaaDoorTabI
import Derived.Test.YtbmmabpglkojkaaDoorOpenT
namespace Go.Proofs.YtbmmabpglkojkaaDoor
open Go Go.RowKit
open Go.Maps (has size Canon CanonK Tidy IsMap KeysOf Keyed Merged)

/-- Block k bears neither a number nor a text. -/
def Bare (w : World) (k : Nat) : Prop := ∀ o v, w.cell? ⟨k, o, none⟩ = some v → (∀ n, v ≠ .int .u64 n) ∧ ∀ s, v ≠ .string s
theorem Bare.noVers {w : World} {k : Nat} (h : Bare w k) : NoVers w k := fun o n s h1 _ => (h o _ h1).1 n rfl
theorem CelMap.bare {w : World} {b : Nat} {M : DataW Cel} (h : CelMap w b M) : Bare w b := by
  obtain ⟨D, ho, _⟩ := h
  intro o v h1
  rw [ownsMap_none ho] at h1; cases h1
theorem TabAt.bare {w : World} {t b : Nat} {q1 q2 B : Int} {M : DataW Cel} (h : TabAt w t b q1 q2 M B) : Bare w t := by
  intro o v h1
  rcases (show o = 0 ∨ o = 1 ∨ o = 2 ∨ o = 3 ∨ ∃ j, o = j + 4 from by rcases o with _ | _ | _ | _ | j <;> simp) with rfl | rfl | rfl | rfl | ⟨j, rfl⟩
  · rw [h.c0] at h1; cases h1; exact ⟨fun n => (by simp), fun s => (by simp)⟩
  · rw [h.c1] at h1; cases h1; exact ⟨fun n => (by simp), fun s => (by simp)⟩
  · rw [h.c2] at h1; cases h1; exact ⟨fun n => (by simp), fun s => (by simp)⟩
  · rw [h.c3] at h1; cases h1; exact ⟨fun n => (by simp), fun s => (by simp)⟩
  · rw [h.c4] at h1; cases h1
theorem IsRows.but {S : Nat → Prop} {w w' : World} {v : Value} {l : List (ByteArray × Cel)} (h : IsRows w v l) (hb : ButS S w w') (hS : ∀ k, S k → Bare w k) : IsRows w' v l := by
  obtain ⟨a, cap, hv, h⟩ := h
  refine ⟨a, cap, hv, ?_⟩
  rcases h with h | ⟨b2, off, ha, hlt, hc⟩
  · exact Or.inl h
  · by_cases hl : l = []
    · exact Or.inl hl
    have hn : ¬ S b2 := by
      intro hs
      obtain ⟨h1, _⟩ := hc 0 (List.length_pos_iff.2 hl)
      exact (hS b2 hs _ _ h1).2 _ rfl
    refine Or.inr ⟨b2, off, ha, by have := hb.size; omega, fun i hi => ?_⟩
    obtain ⟨h1, h2, s, h3, hs⟩ := hc i hi
    exact ⟨(hb.cell hlt hn).trans h1, (hb.cell hlt hn).trans h2, s, (hb.cell hlt hn).trans h3, hs.but hb (fun k hk => (hS k hk).noVers)⟩
theorem IsNums.but {S : Nat → Prop} {w w' : World} {v : Value} {l : List Nat} (h : IsNums w v l) (hb : ButS S w w') (hS : ∀ k, S k → Bare w k) : IsNums w' v l := by
  obtain ⟨a, cap, hv, h⟩ := h
  refine ⟨a, cap, hv, ?_⟩
  rcases h with h | ⟨b2, off, ha, hlt, hc⟩
  · exact Or.inl h
  · by_cases hl : l = []
    · exact Or.inl hl
    have hn : ¬ S b2 := by
      intro hs
      exact (hS b2 hs _ _ (hc 0 (List.length_pos_iff.2 hl))).1 _ rfl
    exact Or.inr ⟨b2, off, ha, by have := hb.size; omega, fun i hi => (hb.cell hlt hn).trans (hc i hi)⟩

def nextM (r : (Nat × Nat) × DataW Cel × List Nat × Int) (M : DataW Cel) : DataW Cel := if r.1.2 = 0 then r.2.1 else M
def nextB (r : (Nat × Nat) × DataW Cel × List Nat × Int) (B : Int) : Int := if r.1.2 = 0 then r.2.2.2 else B
def nextV (r : (Nat × Nat) × DataW Cel × List Nat × Int) : List Nat := if r.1.2 = 0 then r.2.2.1 else []
/-- What Apply leaves, told in one. -/
def AppGives (r : (Nat × Nat) × DataW Cel × List Nat × Int) (M : DataW Cel) (B : Int) (t b : Nat) (q1 q2 : Int) (w : World) (e : Ending) (w' : World) : Prop :=
  ∃ v, e = .returned (.tuple #[v, .int .i64 r.1.1, .int .i64 r.1.2]) ∧ w'.ownsRow w.heap.size 38 1 v (nextV r).length ((nextV r).map (fun n : Nat => Value.int .u64 n)) ∧ TabAt w' t b q1 q2 (nextM r M) (nextB r B) ∧ ButS (fun k => k = t ∨ k = b) w w'
theorem tab_app (w : World) {t b : Nat} {q1 q2 B : Int} {M : DataW Cel} (h : TabAt w t b q1 q2 M B) (hg : Good Tryd.prog 9 M) (hm : MX w) (v : Value) (l : List Edt) (hv : IsEdts w v l) (hl : l.length ≤ 1048576)
    (hsM : size M ≤ 1073741824) (hB0 : -1125899906842624 ≤ B) (hB1 : B ≤ 1125899906842624) (hp : ∀ i, i < l.length → (l.getD i dE).path.size ≤ 140737488351232 ∧ (l.getD i dE).text.size ≤ 9223372036854775807) :
    Calls Tryd.prog 9 #[.pointer (some ⟨t, 0, none⟩), v] w (AppGives (triedT M B q1 q2 l) M B t b q1 q2 w) := by
  refine (tab_apply w h hg hm v l hv hl hsM hB0 hB1 hp).mono fun e w' hh => ?_
  rcases hh with ⟨h0, rfl, hb⟩ | ⟨h0, v1, rfl, hown, hT, hb⟩
  · refine ⟨.slice none 0 0, rfl, ?_, ?_, ButS.of hb⟩
    · unfold nextV; rw [if_neg h0]; exact World.ownsRow_nil _ _ _ _
    · unfold nextM nextB; rw [if_neg h0, if_neg h0]; exact h.below hb
  · refine ⟨v1, ?_, ?_, ?_, hb⟩
    · rw [tried_zero h0]; rfl
    · unfold nextV; rw [if_pos h0]; exact hown
    · unfold nextM nextB; rw [if_pos h0, if_pos h0]; exact hT

/-- Where there is room for all, nothing is refused for want of room. -/
theorem tried_room {M : DataW Cel} {B q1 q2 : Int} {l : List Edt} (hg : Good Tryd.prog 9 M) (h1 : (size M : Int) + l.length ≤ q1) (h2 : B + l.length * 33000 ≤ q2) : triedT M B q1 q2 l = runT M [] B 0 l := by
  obtain ⟨_, a2, _, a4⟩ := runT_facts Tryd.underlying9 l (vs := []) (B := B) (i := 0) hg
  unfold triedT
  simp only
  split
  · rfl
  · rw [if_neg]
    unfold overT
    simp only [Bool.or_eq_true, Bool.and_eq_true, decide_eq_true_eq]
    omega
theorem run_one {N : DataW Cel} {B : Int} {x : Edt} : runT N [] B 0 [x] = if (editE N x).2 ≠ 0 then ((0, (editE N x).2), N, [], B) else
    ((0, 0), stepM N x, [(editE N x).1.last], B + ((weightE x.path (editE N x).1 : Int) - (weightE x.path (cellAt N x.path) : Int))) := by
  rw [runT]; rfl
theorem next_good {M : DataW Cel} {B q1 q2 : Int} {l : List Edt} (hg : Good Tryd.prog 9 M) : Good Tryd.prog 9 (nextM (triedT M B q1 q2 l) M) ∧ size (nextM (triedT M B q1 q2 l) M) ≤ size M + l.length ∧
    B - l.length * 33000 ≤ nextB (triedT M B q1 q2 l) B ∧ nextB (triedT M B q1 q2 l) B ≤ B + l.length * 33000 := by
  obtain ⟨a1, a2, a3, a4⟩ := runT_facts Tryd.underlying9 l (vs := []) (B := B) (i := 0) hg
  rw [← tried_eq (q1 := q1) (q2 := q2)] at a1 a2 a3 a4
  unfold nextM nextB
  split
  · exact ⟨a1, a2, a3, a4⟩
  · refine ⟨hg, by omega, ?_, ?_⟩ <;> omega
end Go.Proofs.YtbmmabpglkojkaaDoor
