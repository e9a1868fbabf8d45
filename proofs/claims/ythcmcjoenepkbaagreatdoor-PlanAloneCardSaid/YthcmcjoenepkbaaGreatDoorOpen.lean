/- A slice of strings that came in, opened: it reads as a list of strings, each within the reach. -/
import Derived.Test.YthcmcjoenepkbaaGreatDoorBase
import Derived.ProofKit
import Derived.OpenShut
import Derived.SliceStrings
import Derived.SizedLaws
namespace Go.Proofs.YthcmcjoenepkbaaGreatDoor
open Go Go.ChangeShapes Go.WideShapes Go.ChangeAt Go.RowKit

theorem spot_none {w : World} {a : Addr} {v : Value} (h : w.cell? a = some v) : a = ⟨a.block, a.off, none⟩ := by
  obtain ⟨b, o, sp⟩ := a
  cases sp with
  | none => rfl
  | some x =>
    unfold World.cell? at h
    split at h
    · simp at h
    · cases h
theorem isStrs_of_cells {w : World} {a : Addr} {len cap : Nat} {ss : List ByteArray} (hl : len ≤ ss.length) (hc : ∀ i, i < ss.length → w.cell? (a.add i) = some (.string (ss.getD i ByteArray.empty))) : IsStrs w (.slice (some a) len cap) (ss.take len) := by
  have e1 : (ss.take len).length = len := by rw [List.length_take]; omega
  refine ⟨some a, cap, by rw [e1], ?_⟩
  by_cases h0 : len = 0
  · left; subst h0; simp
  · right
    have h00 := hc 0 (by omega)
    have ha : a.add 0 = a := by unfold Addr.add; simp
    rw [ha] at h00
    have hs := spot_none h00
    refine ⟨a.block, a.off, by rw [← hs], block_lt_of_cell h00, fun i hi => ?_⟩
    rw [e1] at hi
    have h2 := hc i (by omega)
    rw [hs] at h2
    have h3 : (⟨a.block, a.off, none⟩ : Addr).add i = ⟨a.block, a.off + i, none⟩ := by
      unfold Addr.add; split
      · rename_i h; subst h; rfl
      · rfl
    rw [h3] at h2
    rw [h2, List.getD_eq_getElem?_getD, List.getD_eq_getElem?_getD, List.getElem?_take_of_lt hi]

theorem open_isStrs {H : Type} {enc : TypeId × Value → H} {P : Program} {w : World} {t e : TypeId} {v : Value} {d : DataW H} {ps : List MemPlace} {base : Nat} {r : Reach} {sp : Nat → Bool} {b0 : Nat} {held : Bool} (ht : P.underlying t = some (.slice e)) (he : P.underlying e = some .string) (hc : P.cellsOf e = 1)
    (hval : Value.okWide P w r base t v) (h : DataW.Trod enc P w b0 sp held t v d ps) :
    ∃ (l : List ByteArray) (sr : List (DataW H)), IsStrs w v l ∧ (d = .nil ∧ l = [] ∨ d = .slice (strs l) sr) := by
  obtain ⟨a0, len0, cap0, rfl⟩ := okWide_slice ht hval
  obtain ⟨fuel, hf⟩ := h
  rcases open_strings ht he hc hf with ⟨hcs, hx⟩ | ⟨a, len, cap, ss, hcs, _, hl, _, hss, hx, hcell, _⟩
  · have hv : Value.slice a0 len0 cap0 = .slice none 0 0 := by simpa [Value.cells] using hcs
    rw [hv]
    simp only [Prod.mk.injEq] at hx
    exact ⟨[], [], IsStrs.nil _, Or.inl ⟨hx.1, rfl⟩⟩
  · have hv : Value.slice a0 len0 cap0 = .slice (some a) len cap := by simpa [Value.cells] using hcs
    rw [hv]
    simp only [Prod.mk.injEq] at hx
    have hle : len ≤ ss.length := by rw [hss]; split <;> omega
    exact ⟨ss.take len, _, isStrs_of_cells hle hcell, Or.inr hx.1⟩

/-- The reach of a slice of strings: how many they are, and how long each is. -/
theorem sized_strs {H : Type} {P : Program} {ts : List TypeId} {ds : List (DataW H)} (h : (DataW.weightsEach P ts ds).all (· ≤ reachBytes) = true) {j : Nat} {t e : TypeId} {l : List ByteArray} {sr : List (DataW H)} {d : DataW H}
    (hj : ts[j]? = some t) (hd : ds[j]? = some d) (hu : P.underlying t = some (.slice e)) (hb : P.bytesOf e = 16) (hd2 : d = .nil ∧ l = [] ∨ d = .slice (strs l) sr) :
    l.length * 16 ≤ 140737488351232 ∧ ∀ i, i < l.length → (l.getD i ByteArray.empty).size ≤ 140737488351232 := by
  rcases hd2 with ⟨_, rfl⟩ | rfl
  · exact ⟨by simp, fun i hi => by simp at hi⟩
  · have h1 := sized_slice h hj hd hu
    rw [hb] at h1
    refine ⟨?_, fun i hi => ?_⟩
    · have : (strs l : List (DataW H)).length = l.length := by simp [strs]
      rw [this] at h1
      have h2 : l.length * 16 ≤ (l.length + sr.length) * 16 := Nat.mul_le_mul_right _ (Nat.le_add_right _ _)
      exact Nat.le_trans h2 h1
    · have hmem : ∀ (m : List ByteArray) (x : ByteArray), x ∈ m → x.size ∈ DataW.weightsAll (H := H) P e (strs m) := by
        intro m x hx
        induction m with
        | nil => simp at hx
        | cons a r ih =>
          have e0 : (strs (a :: r) : List (DataW H)) = .lit (.string a.data.toList) :: strs r := rfl
          rw [e0, DataW.weightsAll, List.mem_append]
          rcases List.mem_cons.1 hx with rfl | hx
          · left; simp [DataW.weights]
          · right; exact ih hx
      have hx : (l.getD i ByteArray.empty) ∈ l := by
        rw [List.getD_eq_getElem?_getD, List.getElem?_eq_getElem hi]; exact List.getElem_mem hi
      have := List.all_eq_true.1 h _ (DataW.weights_mem_each hj hd _ (by
        simp only [DataW.weights, hu, List.mem_cons, List.mem_append]; exact Or.inr (Or.inl (hmem l _ hx))))
      simpa [reachBytes] using this
end Go.Proofs.YthcmcjoenepkbaaGreatDoor
