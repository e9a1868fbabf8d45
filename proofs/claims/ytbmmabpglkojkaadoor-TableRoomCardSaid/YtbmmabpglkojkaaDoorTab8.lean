/- Contracts for scriniumlaw18: numbers and texts, where the two lists are one. -/
import Derived.Test.YtbmmabpglkojkaaDoorTab7
namespace Go.Proofs.YtbmmabpglkojkaaDoor
open Go Go.RowKit

/-- v is a slice whose elements read as the numbers l. -/
def IsNums (w : World) (v : Value) (l : List Nat) : Prop :=
  ∃ a cap, v = .slice a l.length cap ∧ (l = [] ∨ ∃ b off, a = some ⟨b, off, none⟩ ∧ b < w.heap.size ∧ ∀ i, i < l.length → w.cell? ⟨b, off + i, none⟩ = some (.int .u64 (l.getD i 0)))
theorem IsNums.below {w w' : World} {v : Value} {l : List Nat} {B : Nat} (h : IsNums w v l) (hb : Below B w w') (hB : w.heap.size ≤ B) : IsNums w' v l := by
  obtain ⟨a, cap, hv, h⟩ := h
  refine ⟨a, cap, hv, ?_⟩
  rcases h with h | ⟨b, off, ha, hlt, hc⟩
  · exact Or.inl h
  · exact Or.inr ⟨b, off, ha, by have := hb.size; omega, fun i hi => (hb.cell (p := ⟨b, off + i, none⟩) (by show b < B; omega)).trans (hc i hi)⟩
theorem IsNums.own {w : World} {B e : Nat} {v : Value} {l : List Nat} (h : w.ownsRow B e 1 v l.length (l.map (fun n : Nat => Value.int .u64 n))) : IsNums w v l := by
  rcases h.2 with ⟨hv, hl⟩ | ⟨g, cap, cur, hv, hB, hg, hn, hcap, hsz, htake⟩
  · have : l = [] := List.length_eq_zero_iff.1 hl
    subst this; exact ⟨none, 0, hv, Or.inl rfl⟩
  · refine ⟨_, _, hv, Or.inr ⟨g, 0, rfl, lt_of_block hg, fun i hi => ?_⟩⟩
    subst hv
    have := World.ownsRow.cellAt h i (by omega)
    rw [Nat.zero_add, this, List.getElem?_map, List.getD_eq_getElem?_getD, List.getElem?_eq_getElem hi]; rfl
theorem IsNums.new (w : World) (l : List Nat) (cap : Nat) (e : TypeId) (x : Nat × Nat) : IsNums (w.alloc (.cells (l.map (fun n : Nat => Value.int .u64 n)).toArray e x)) (.slice (some ⟨w.heap.size, 0, none⟩) l.length cap) l := by
  refine ⟨_, _, rfl, Or.inr ⟨w.heap.size, 0, rfl, by simp, fun i hi => ?_⟩⟩
  rw [Nat.zero_add, World.cell?_alloc_mark]
  simp [hi]
theorem below_dr {B : Nat} {a w : World} (h : Below B a w) (q : Nat) : Below B a (w.drewN q) := ⟨h.os, h.tape, h.output, h.size, h.block⟩

set_option maxRecDepth 100000 in
set_option maxHeartbeats 1000000 in
theorem law_numbers (v1 v2 : Value) (m : List Nat) (w : World) (h1 : IsNums w v1 m) (h2 : IsNums w v2 m) (hl : m.length ≤ 1099511627776) :
    Calls Tryd.prog 12 #[v1, v2] w fun e w' => e = .returned (.bool true) ∧ Below w.heap.size w w' := by
  obtain ⟨a1, cap1, rfl, hc1⟩ := h1
  obtain ⟨a2, cap2, rfl, hc2⟩ := h2
  have Hc1 := Lib.hid hc1; have Hc2 := Lib.hid hc2; clear hc1 hc2
  have hLB : ((m.length : Int) != (m.length : Int)) = false := by simp
  go_enter Tryd.func12, Tryd.ntmps12
  go_wp2
  go_loopw [5] (fun i wr => ∃ k : Nat, k ≤ m.length ∧ i = .int .i64 k ∧ Hid (Below w.heap.size w wr)) (fun i _ => m.length - (intOf i).toNat)
  case atStart => exact ⟨0, Nat.zero_le _, rfl, Lib.hid (Below.refl _ _)⟩
  case round =>
    obtain ⟨k, hk, rfl, Hbw⟩ := hrel
    by_cases hlt : k < m.length
    · rcases Hc1.out with hn | ⟨b1, o1, rfl, hl1, hcc1⟩
      · subst hn; simp at hlt
      rcases Hc2.out with hn | ⟨b2, o2, rfl, hl2, hcc2⟩
      · subst hn; simp at hlt
      have hcell1 := (Hbw.out.cell (p := ⟨b1, o1 + k, none⟩) hl1).trans (hcc1 k hlt)
      have hcell2 := (Hbw.out.cell (p := ⟨b2, o2 + k, none⟩) hl2).trans (hcc2 k hlt)
      clear hcc1 hcc2
      obtain ⟨x, hx⟩ : ∃ x, x = m.getD k 0 := ⟨_, rfl⟩
      rw [← hx] at hcell1 hcell2
      clear hx
      have hB : ((x : Int) != (x : Int)) = false := by simp
      go_wp2
      go_quiet (fail)
      go_wp2
      go_roundw
      case rel => exact ⟨k + 1, by omega, by go_num, Lib.hid (below_dr Hbw.out _)⟩
      case measure => simp [intOf]; omega
    · have hge : (m.length : Int) ≤ (k : Int) := by omega
      go_wp2
      go_ret
      exact ⟨rfl, Hbw.out⟩

set_option maxRecDepth 100000 in
set_option maxHeartbeats 1000000 in
theorem law_texts (v1 v2 : Value) (m : List ByteArray) (w : World) (h1 : IsStrs w v1 m) (h2 : IsStrs w v2 m) (hl : m.length ≤ 1099511627776) :
    Calls Tryd.prog 22 #[v1, v2] w fun e w' => e = .returned (.bool true) ∧ Below w.heap.size w w' := by
  obtain ⟨a1, cap1, rfl, hc1⟩ := h1
  obtain ⟨a2, cap2, rfl, hc2⟩ := h2
  have Hc1 := Lib.hid hc1; have Hc2 := Lib.hid hc2; clear hc1 hc2
  have hLB : ((m.length : Int) != (m.length : Int)) = false := by simp
  go_enter Tryd.func22, Tryd.ntmps22
  go_wp2
  go_loopw [5] (fun i wr => ∃ k : Nat, k ≤ m.length ∧ i = .int .i64 k ∧ Hid (Below w.heap.size w wr)) (fun i _ => m.length - (intOf i).toNat)
  case atStart => exact ⟨0, Nat.zero_le _, rfl, Lib.hid (Below.refl _ _)⟩
  case round =>
    obtain ⟨k, hk, rfl, Hbw⟩ := hrel
    by_cases hlt : k < m.length
    · rcases Hc1.out with hn | ⟨b1, o1, rfl, hl1, hcc1⟩
      · subst hn; simp at hlt
      rcases Hc2.out with hn | ⟨b2, o2, rfl, hl2, hcc2⟩
      · subst hn; simp at hlt
      have hcell1 := (Hbw.out.cell (p := ⟨b1, o1 + k, none⟩) hl1).trans (hcc1 k hlt)
      have hcell2 := (Hbw.out.cell (p := ⟨b2, o2 + k, none⟩) hl2).trans (hcc2 k hlt)
      clear hcc1 hcc2
      obtain ⟨x, hx⟩ : ∃ x, x = m.getD k ByteArray.empty := ⟨_, rfl⟩
      rw [← hx] at hcell1 hcell2
      clear hx
      have hB : (x.toList == x.toList) = true := by simp
      go_wp2
      go_quiet (fail)
      go_wp2
      go_roundw
      case rel => exact ⟨k + 1, by omega, by go_num, Lib.hid (below_dr Hbw.out _)⟩
      case measure => simp [intOf]; omega
    · have hge : (m.length : Int) ≤ (k : Int) := by omega
      go_wp2
      go_ret
      exact ⟨rfl, Hbw.out⟩
end Go.Proofs.YtbmmabpglkojkaaDoor
