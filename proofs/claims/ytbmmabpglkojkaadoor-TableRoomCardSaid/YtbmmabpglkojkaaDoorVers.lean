/- Versions and cells as plain data, and how they lie in memory. -/
import Derived.Test.YtbmmabpglkojkaaDoorBase
namespace Go.Proofs.YtbmmabpglkojkaaDoor
open Go Go.RowKit

theorem ret_int {k : IntKind} {a b : Int} (h : a = b) : Ending.returned (.int k a) = .returned (.int k b) := by rw [h]

/-- A version: its number, its state, its text. -/
structure Ver where
  n : Nat
  st : Nat
  tx : ByteArray
def dV : Ver := ⟨0, 0, ByteArray.empty⟩
/-- A cell: the last number, the versions. -/
structure Cel where
  last : Nat
  l : List Ver
def dC : Cel := ⟨0, []⟩
def verCells (v : Ver) : List Value := [.int .u64 v.n, .int .u8 v.st, .string v.tx]
def verVal (v : Ver) : Value := .agg #[.int .u64 v.n, .int .u8 v.st, .string v.tx]

/-- v is a slice whose elements read as the versions l. -/
def IsVers (w : World) (v : Value) (l : List Ver) : Prop :=
  ∃ a cap, v = .slice a l.length cap ∧ (l = [] ∨ ∃ b off, a = some ⟨b, off, none⟩ ∧ b < w.heap.size ∧ ∀ i, i < l.length →
    w.cell? ⟨b, off + i * 3, none⟩ = some (.int .u64 (l.getD i dV).n) ∧ w.cell? ⟨b, off + i * 3 + 1, none⟩ = some (.int .u8 (l.getD i dV).st) ∧ w.cell? ⟨b, off + i * 3 + 2, none⟩ = some (.string (l.getD i dV).tx))
theorem IsVers.below {w w' : World} {v : Value} {l : List Ver} {B : Nat} (h : IsVers w v l) (hb : Below B w w') (hB : w.heap.size ≤ B) : IsVers w' v l := by
  obtain ⟨a, cap, hv, h⟩ := h
  refine ⟨a, cap, hv, ?_⟩
  rcases h with h | ⟨b, off, ha, hlt, hc⟩
  · exact Or.inl h
  · refine Or.inr ⟨b, off, ha, by have := hb.size; omega, fun i hi => ?_⟩
    obtain ⟨h1, h2, h3⟩ := hc i hi
    exact ⟨(hb.cell (p := ⟨b, off + i * 3, none⟩) (by show b < B; omega)).trans h1, (hb.cell (p := ⟨b, off + i * 3 + 1, none⟩) (by show b < B; omega)).trans h2, (hb.cell (p := ⟨b, off + i * 3 + 2, none⟩) (by show b < B; omega)).trans h3⟩
theorem IsVers.nil (w : World) : IsVers w (.slice none 0 0) [] := ⟨none, 0, rfl, Or.inl rfl⟩
/-- A cell as a value. -/
def IsCel (w : World) (v : Value) (c : Cel) : Prop := ∃ s, v = .agg #[.int .u64 c.last, s] ∧ IsVers w s c.l
theorem IsCel.below {w w' : World} {v : Value} {c : Cel} {B : Nat} (h : IsCel w v c) (hb : Below B w w') (hB : w.heap.size ≤ B) : IsCel w' v c := by
  obtain ⟨s, hv, h⟩ := h; exact ⟨s, hv, h.below hb hB⟩

/-- The cells of a row of versions. -/
def flat : List Ver → List Value
  | [] => []
  | v :: t => .int .u64 v.n :: .int .u8 v.st :: .string v.tx :: flat t
theorem flat_length (l : List Ver) : (flat l).length = l.length * 3 := by
  induction l with
  | nil => rfl
  | cons v t ih => simp only [flat, List.length_cons, ih]; omega
theorem flat_append (a b : List Ver) : flat (a ++ b) = flat a ++ flat b := by
  induction a with
  | nil => rfl
  | cons v t ih => simp only [List.cons_append, flat, ih]
theorem flat_at : ∀ (l : List Ver) (i : Nat), i < l.length → (flat l)[i * 3]? = some (.int .u64 (l.getD i dV).n) ∧ (flat l)[i * 3 + 1]? = some (.int .u8 (l.getD i dV).st) ∧ (flat l)[i * 3 + 2]? = some (.string (l.getD i dV).tx)
  | [], i, h => by simp at h
  | v :: t, 0, _ => ⟨rfl, rfl, rfl⟩
  | v :: t, i + 1, h => by
    have := flat_at t i (by simpa using h)
    rw [show (i + 1) * 3 = i * 3 + 3 by omega]
    exact this
theorem flat_cell {w : World} {b off : Nat} {l : List Ver} (h : ∀ i, i < l.length → w.cell? ⟨b, off + i * 3, none⟩ = some (.int .u64 (l.getD i dV).n) ∧ w.cell? ⟨b, off + i * 3 + 1, none⟩ = some (.int .u8 (l.getD i dV).st) ∧ w.cell? ⟨b, off + i * 3 + 2, none⟩ = some (.string (l.getD i dV).tx)) :
    ∀ j u, (flat l)[j]? = some u → w.cell? ⟨b, off + j, none⟩ = some u := by
  intro j u hu
  obtain ⟨hj, _⟩ := List.getElem?_eq_some_iff.1 hu
  rw [flat_length] at hj
  obtain ⟨h1, h2, h3⟩ := h (j / 3) (by omega)
  obtain ⟨f1, f2, f3⟩ := flat_at l (j / 3) (by omega)
  rcases (show j = j / 3 * 3 ∨ j = j / 3 * 3 + 1 ∨ j = j / 3 * 3 + 2 by omega) with e | e | e
  · rw [← e] at f1 h1; rw [f1] at hu; rw [← hu]; exact h1
  · rw [← e] at f2; rw [f2] at hu
    have e2 : off + j / 3 * 3 + 1 = off + j := by omega
    rw [e2] at h2; rw [← hu]; exact h2
  · rw [← e] at f3; rw [f3] at hu
    have e2 : off + j / 3 * 3 + 2 = off + j := by omega
    rw [e2] at h3; rw [← hu]; exact h3
theorem addrAdd (g o i : Nat) : (⟨g, o, none⟩ : Addr).add i = ⟨g, o + i, none⟩ := by
  unfold Addr.add
  split
  · rename_i h; subst h; rfl
  · rfl
theorem flat_one (l : List Ver) : ∀ u ∈ flat l, u.oneCell' = true := by
  induction l with
  | nil => intro u hu; cases hu
  | cons v t ih =>
    intro u hu
    rcases List.mem_cons.1 hu with rfl | hu
    · rfl
    rcases List.mem_cons.1 hu with rfl | hu
    · rfl
    rcases List.mem_cons.1 hu with rfl | hu
    · rfl
    · exact ih u hu
theorem IsVers.own {w : World} {B e : Nat} {v : Value} {l : List Ver} (h : w.ownsRow B e 3 v l.length (flat l)) : IsVers w v l := by
  rcases h.2 with ⟨hv, hl⟩ | ⟨g, cap, cur, hv, hB, hg, hn, hcap, hsz, htake⟩
  · have : l = [] := List.length_eq_zero_iff.1 hl
    subst this; exact ⟨none, 0, hv, Or.inl rfl⟩
  · refine ⟨_, _, hv, Or.inr ⟨g, 0, rfl, lt_of_block hg, fun i hi => ?_⟩⟩
    subst hv
    obtain ⟨f1, f2, f3⟩ := flat_at l i hi
    have c1 := World.ownsRow.cellAt h (i * 3) (by omega)
    have c2 := World.ownsRow.cellAt h (i * 3 + 1) (by omega)
    have c3 := World.ownsRow.cellAt h (i * 3 + 2) (by omega)
    rw [f1] at c1; rw [f2] at c2; rw [f3] at c3
    refine ⟨?_, ?_, ?_⟩
    · rw [Nat.zero_add]; exact c1
    · rw [Nat.zero_add]; exact c2
    · rw [Nat.zero_add]; exact c3
/-- Two blocks that the call has laid, behind a callee that has left them as they were. -/
theorem twoNew {w w1 : World} {C1 C2 : Array Value} {t1 t2 : TypeId} {n : Nat} (hb : Below n ((w.alloc (.cells C1 t1)).alloc (.cells C2 t2)) w1) (hn : w.heap.size + 2 ≤ n) :
    (∀ j, w1.cell? ⟨w.heap.size, j, none⟩ = C1[j]?) ∧ (∀ j, w1.cell? ⟨w.heap.size + 1, j, none⟩ = C2[j]?) ∧ (∀ j, w1.frozen? ⟨w.heap.size, j, none⟩ = false) ∧ (∀ j, w1.frozen? ⟨w.heap.size + 1, j, none⟩ = false) := by
  have b1 : ((w.alloc (.cells C1 t1)).alloc (.cells C2 t2)).heap[w.heap.size]? = some (.cells C1 t1 (0, 0)) := by
    rw [Below.heap_alloc _ _ _ (by simp)]; exact (MapKept.heap_alloc w _).1
  have b2 : ((w.alloc (.cells C1 t1)).alloc (.cells C2 t2)).heap[w.heap.size + 1]? = some (.cells C2 t2 (0, 0)) := by
    have := (MapKept.heap_alloc (w.alloc (.cells C1 t1)) (.cells C2 t2)).1
    simpa using this
  have e1 := (hb.block w.heap.size (by omega)).trans b1
  have e2 := (hb.block (w.heap.size + 1) (by omega)).trans b2
  refine ⟨fun j => ?_, fun j => ?_, fun j => ?_, fun j => ?_⟩
  · unfold World.cell?; rw [e1]; rfl
  · unfold World.cell?; rw [e2]; rfl
  · unfold World.frozen?; rw [e1]; simp
  · unfold World.frozen?; rw [e2]; simp
theorem ownBase {w : World} {B B' e n k : Nat} {v : Value} {xs : List Value} (h : w.ownsRow B e k v n xs) (hB : B' ≤ B) : w.ownsRow B' e k v n xs := by
  refine ⟨h.1, ?_⟩
  rcases h.2 with hn | ⟨g, cap, cur, hv, hBg, rest⟩
  · exact Or.inl hn
  · exact Or.inr ⟨g, cap, cur, hv, by omega, rest⟩
theorem ownShape {w : World} {B e n k : Nat} {v : Value} {xs : List Value} (h : w.ownsRow B e k v n xs) : ∃ a c, v = .slice a n c := by
  rcases h.2 with ⟨hv, hn⟩ | ⟨g, cap, cur, hv, hB, _⟩
  · exact ⟨none, 0, by rw [hv, hn]⟩
  · exact ⟨_, _, hv⟩
theorem ownAbove {w : World} {B e n k : Nat} {v : Value} {xs : List Value} (h : w.ownsRow B e k v n xs) : ∀ k, v.ownBlock = some k → B ≤ k := by
  intro k hk
  rcases h.2 with ⟨hv, _⟩ | ⟨g, cap, cur, hv, hB, _⟩
  · subst hv; cases hk
  · subst hv; cases hk; exact hB
theorem ownBelow {w w' : World} {B e n k : Nat} {v : Value} {xs : List Value} (h : w.ownsRow B e k v n xs) (hb : Below w.heap.size w w') : w'.ownsRow B e k v n xs := by
  refine ⟨h.1, ?_⟩
  rcases h.2 with hn | ⟨g, cap, cur, hv, hBg, hg, rest⟩
  · exact Or.inl hn
  · exact Or.inr ⟨g, cap, cur, hv, hBg, (hb.block g (lt_of_block hg)).trans hg, rest⟩

-- what a cell may be
def okVer (last : Nat) (v : Ver) : Bool := decide (last < v.n) && decide (1 ≤ v.st) && decide (v.st ≤ 3) && (decide (v.st = 1) && decide (v.tx.size ≤ 4096) || !decide (v.st = 1) && v.tx.data.toList.isEmpty)
def okFrom (last : Nat) : List Ver → Option Nat
  | [] => some last
  | v :: t => if okVer last v then okFrom v.n t else none
def mayC (c : Cel) : Bool :=
  match okFrom 0 c.l with
  | none => false
  | some x => decide (c.l.length ≤ 8) && decide (c.last = x)
theorem okFrom_append (last : Nat) (a b : List Ver) : okFrom last (a ++ b) = (okFrom last a).bind (fun x => okFrom x b) := by
  induction a generalizing last with
  | nil => rfl
  | cons v t ih =>
    rw [List.cons_append, okFrom, okFrom]
    split
    · exact ih _
    · rfl
theorem okFrom_snoc {last x : Nat} {l : List Ver} {k : Nat} (hk : k < l.length) (h : okFrom last (l.take k) = some x) : okFrom last (l.take (k + 1)) = if okVer x (l.getD k dV) then some (l.getD k dV).n else none := by
  rw [List.take_succ_eq_append_getElem hk, okFrom_append, h, List.getD_eq_getElem?_getD, List.getElem?_eq_getElem hk]; rfl
theorem okFrom_bad {last x : Nat} {l : List Ver} {k : Nat} (hk : k < l.length) (h : okFrom last (l.take k) = some x) (hb : okVer x (l.getD k dV) = false) : okFrom last l = none := by
  rw [← List.take_append_drop (k + 1) l, okFrom_append, okFrom_snoc hk h, hb]; rfl

theorem ver_cases (x : Nat) (v : Ver) : (okVer x v = false ∧ v.n ≤ x) ∨ (okVer x v = false ∧ x < v.n ∧ v.st < 1) ∨ (okVer x v = false ∧ x < v.n ∧ 3 < v.st) ∨
    (okVer x v = false ∧ x < v.n ∧ (1 ≤ v.st ∧ v.st ≤ 1) ∧ ((v.st : Int) == 1) = true ∧ 4096 < v.tx.size) ∨ (okVer x v = false ∧ x < v.n ∧ (2 ≤ v.st ∧ v.st ≤ 3) ∧ ((v.st : Int) == 1) = false ∧ (v.tx.toList.isEmpty = false ∧ ¬ v.tx.toList = [])) ∨
    (okVer x v = true ∧ x < v.n ∧ (1 ≤ v.st ∧ v.st ≤ 1) ∧ ((v.st : Int) == 1) = true ∧ v.tx.size ≤ 4096) ∨ (okVer x v = true ∧ x < v.n ∧ (2 ≤ v.st ∧ v.st ≤ 3) ∧ ((v.st : Int) == 1) = false ∧ v.tx.toList = []) := by
  by_cases h1 : x < v.n
  · by_cases h2 : v.st < 1
    · right; left; exact ⟨by unfold okVer; simp; omega, h1, h2⟩
    · by_cases h3 : 3 < v.st
      · right; right; left; exact ⟨by unfold okVer; simp; omega, h1, h3⟩
      · by_cases h4 : v.st = 1
        · by_cases h5 : v.tx.size ≤ 4096
          · right; right; right; right; right; left; exact ⟨by unfold okVer; simp [h1, h4, h5], h1, by omega, by simp [h4], h5⟩
          · right; right; right; left; exact ⟨by unfold okVer; simp [h4, h5], h1, by omega, by simp [h4], by omega⟩
        · have h6 : ((v.st : Int) == 1) = false := by rw [beq_eq_false_iff_ne]; omega
          by_cases h5 : v.tx.data.toList = []
          · right; right; right; right; right; right; exact ⟨by unfold okVer; simp only [h5, h4]; simp; omega, h1, by omega, h6, by rw [ByteArray.toList_eq]; exact h5⟩
          · right; right; right; right; left
            have : v.tx.data.toList.isEmpty = false := by simpa using h5
            exact ⟨by unfold okVer; simp only [this, h4]; simp, h1, by omega, h6, by rw [ByteArray.toList_eq]; exact this, by rw [ByteArray.toList_eq]; exact h5⟩
  · left; exact ⟨by unfold okVer; simp [h1], by omega⟩

theorem may_bad {c : Cel} {L : List Ver} (hL : c.l = L) {k y : Nat} (hk : k < L.length) (h : okFrom 0 (L.take k) = some y) (hb : okVer y (L.getD k dV) = false) : mayC c = false := by
  unfold mayC; rw [hL, okFrom_bad hk h hb]
theorem may_end {c : Cel} {L : List Ver} (hL : c.l = L) {k y : Nat} (hk : ¬ k < L.length) (h : okFrom 0 (L.take k) = some y) : mayC c = (decide (L.length ≤ 8) && decide (c.last = y)) := by
  rw [List.take_of_length_le (by omega)] at h
  unfold mayC; rw [hL, h]
end Go.Proofs.YtbmmabpglkojkaaDoor
