/- Rows of numbers in memory. -/
import Derived.Test.YthcmcjoenepkbaaGreatDoorSort0
import Derived.Sort.LotA
namespace Go.Proofs.YthcmcjoenepkbaaGreatDoor
open Go Go.RowKit Go.Sort

/-- v is a slice whose elements read as the numbers l. -/
def IsInts (K : IntKind) (w : World) (v : Value) (l : List Int) : Prop :=
  (v = .slice none 0 0 ∧ l = []) ∨ ∃ b off cap, v = .slice (some ⟨b, off, none⟩) l.length cap ∧ b < w.heap.size ∧ ∀ i, i < l.length → w.cell? ⟨b, off + i, none⟩ = some (.int K (l.getD i 0))
theorem IsInts.below {K : IntKind} {w w' : World} {v : Value} {l : List Int} {B : Nat} (h : IsInts K w v l) (hb : Below B w w') (hB : w.heap.size ≤ B) : IsInts K w' v l := by
  rcases h with h | ⟨b, off, cap, hv, hlt, hc⟩
  · exact Or.inl h
  · exact Or.inr ⟨b, off, cap, hv, by have := hb.size; omega, fun i hi => (hb.cell (p := ⟨b, off + i, none⟩) (by show b < B; omega)).trans (hc i hi)⟩
theorem IsInts.but {K : IntKind} {S : Nat → Prop} {w w' : World} {v : Value} {l : List Int} (h : IsInts K w v l) (hb : ButS S w w') (hn : ∀ b, v.ownBlock = some b → ¬ S b) : IsInts K w' v l := by
  rcases h with h | ⟨b, off, cap, rfl, hlt, hc⟩
  · exact Or.inl h
  · exact Or.inr ⟨b, off, cap, rfl, by have := hb.size; omega, fun i hi => (hb.cell (p := ⟨b, off + i, none⟩) hlt (hn b rfl)).trans (hc i hi)⟩
theorem IsInts.len {K : IntKind} {w : World} {v : Value} {l : List Int} (h : IsInts K w v l) : ∃ a cap, v = .slice a l.length cap := by
  rcases h with ⟨rfl, rfl⟩ | ⟨b, off, cap, rfl, _⟩
  · exact ⟨none, 0, rfl⟩
  · exact ⟨_, _, rfl⟩
theorem IsInts.own {K : IntKind} {w : World} {B e : Nat} {v : Value} {l : List Int} (h : w.ownsRow B e 1 v l.length (l.map (Value.int K))) : IsInts K w v l := by
  rcases h.2 with ⟨hv, hl⟩ | ⟨g, cap, cur, hv, hB, hg, hn, hcap, hsz, htake⟩
  · have : l = [] := List.length_eq_zero_iff.1 hl
    subst this; exact Or.inl ⟨hv, rfl⟩
  · refine Or.inr ⟨g, 0, cap, hv, lt_of_block hg, fun i hi => ?_⟩
    subst hv
    have := World.ownsRow.cellAt h i (by omega)
    rw [Nat.zero_add, this, List.getElem?_map, List.getD_eq_getElem?_getD, List.getElem?_eq_getElem hi]; rfl
/-- Sorted numbers: each less than or like the next. -/
theorem sorted_list {N : Nat} {d d' : Array Int} (hd : d.size = N) (hp : PermIn 0 N d d') (hs : SortedIn ltInt 0 N d') : d'.toList.Perm d.toList ∧ d'.toList.Pairwise (· ≤ ·) := by
  have e1 : d'.extract 0 N = d' := by rw [← hd, ← hp.1]; simp
  have e2 : d.extract 0 N = d := by rw [← hd]; simp
  refine ⟨by have := hp.2.2; rw [e1, e2] at this; exact this, ?_⟩
  rw [List.pairwise_iff_getElem]
  intro i j hi hj hij
  have h := hs i j (Nat.zero_le _) hij (by rw [← hd, ← hp.1]; simpa using hj)
  rw [getElem!_pos d' i (by simpa using hi), getElem!_pos d' j (by simpa using hj)] at h
  simp only [ltInt, decide_eq_false_iff_not] at h
  simp only [Array.getElem_toList]
  omega
/-- A row that is sorted, as a list. -/
theorem SR.ints {K : IntKind} {S : Nat → Prop} {w0 w : World} {blk off : Nat} {d : Array Int} (h : SR K S w0 blk off d w) (cap : Nat) (hlt : blk < w.heap.size) : IsInts K w (.slice (some ⟨blk, off, none⟩) d.size cap) d.toList := by
  refine Or.inr ⟨blk, off, cap, by simp, hlt, fun i hi => ?_⟩
  have hi' : i < d.size := by simpa using hi
  rw [(h.holds i hi').1, getElem!_pos d i hi', List.getD_eq_getElem?_getD, List.getElem?_eq_getElem hi]; simp
theorem own_SR {K : IntKind} {w : World} {B e g cap : Nat} {l : List Int} (h : w.ownsRow B e 1 (.slice (some ⟨g, 0, none⟩) l.length cap) l.length (l.map (Value.int K))) : SR K (fun k => k = g) w g 0 l.toArray w := by
  refine SR.start (fun j hj => ?_)
  have hj' : j < l.length := by simpa using hj
  rw [Nat.zero_add]
  refine ⟨?_, World.ownsRow.frozenAt h j⟩
  rw [World.ownsRow.cellAt h j (by omega), List.getElem?_map, List.getElem?_eq_getElem hj', getElem!_pos l.toArray j hj]; simp

def upto {α : Type} (f : Nat → α) (k : Nat) : List α := (List.range k).map f
theorem upto_succ {α : Type} (f : Nat → α) (k : Nat) : upto f (k + 1) = upto f k ++ [f k] := by simp [upto, List.range_succ]
theorem upto_length {α : Type} (f : Nat → α) (k : Nat) : (upto f k).length = k := by simp [upto]
theorem upto_all {α : Type} [Inhabited α] (l : List α) (z : α) : upto (fun j => l[j]?.getD z) l.length = l := by
  apply List.ext_getElem
  · simp [upto]
  · intro i h1 h2
    simp [upto, h2]
end Go.Proofs.YthcmcjoenepkbaaGreatDoor
