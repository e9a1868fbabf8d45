/- Contracts: slices.Clone of versions, cell.kept. -/
import Derived.Test.YtbmmabpglkojkaaDoorCell2
namespace Go.Proofs.YtbmmabpglkojkaaDoor
open Go Go.RowKit

theorem infoVer : (Tryd.prog.info? 53).map (fun i => (i.zero, i.size, i.bytes)) = some (some (.agg #[.int .u64 0, .int .u8 0, .string ByteArray.empty]), 3, 32) := by kernel_rfl

theorem ownsRow_empty (w : World) (e : TypeId) : (w.alloc (.cells #[] e)).ownsRow w.heap.size e 3 (.slice (some ⟨w.heap.size, 0, none⟩) 0 0) 0 [] :=
  ⟨rfl, Or.inr ⟨w.heap.size, 0, #[], rfl, Nat.le_refl _, (MapKept.heap_alloc w _).1, Nat.le_refl _, Nat.zero_le _, rfl, rfl⟩⟩

def CloneGives (L : List Ver) (w : World) (e : Ending) (w' : World) : Prop :=
  ∃ v, e = .returned v ∧ w'.ownsRow w.heap.size 53 3 v L.length (flat L) ∧ Below w.heap.size w w'

set_option maxRecDepth 100000 in
set_option maxHeartbeats 1000000 in
theorem clone_vers (L : List Ver) (v : Value) (w : World) (hv : IsVers w v L) (hl : L.length ≤ 65536) :
    Calls Tryd.prog 40 #[v] w (CloneGives L w) := by
  obtain ⟨a, cap, rfl, hc⟩ := hv
  have HC := Lib.hid hc; clear hc
  obtain ⟨i0, hi, hz0, hz1, hz2⟩ := info_parts infoVer
  cases a with
  | none =>
    have h0 : L = [] := by
      rcases HC.out with h | ⟨b, o, h, _⟩
      · exact h
      · cases h
    subst h0
    go_enter Tryd.func40, Tryd.ntmps40
    have hne := fun w => Lib.run_eql_slice_nil (P := Tryd.prog) w 60 53 none 0 cap 0 0 Tryd.underlying60
    go_wp2
    go_ret
    exact ⟨_, rfl, ⟨by simp [flat], Or.inl ⟨rfl, rfl⟩⟩, Below.refl _ _⟩
  | some p =>
    have hne := fun w => Lib.run_eql_slice_nil (P := Tryd.prog) w 60 53 (some p) L.length cap 0 0 Tryd.underlying60
    have hnews : ∀ j u, (flat L)[j]? = some u → (w.alloc (.cells #[] 53)).cell? (p.add j) = some u := by
      intro j u hu
      rcases HC.out with h | ⟨b, o, h, hlt, hcc⟩
      · subst h; simp [flat] at hu
      · obtain rfl : p = ⟨b, o, none⟩ := by simpa using h
        rw [addrAdd, World.cell?_alloc_past _ _ _ hlt]
        exact flat_cell hcc j u hu
    have Hnews := Lib.hid hnews; clear hnews
    go_enter Tryd.func40, Tryd.ntmps40
    go_wp2_with (at_builtin; refine wpList_append_own _ rfl _ _ 60 rfl w.heap.size 53 i0 (.agg #[.int .u64 0, .int .u8 0, .string ByteArray.empty]) 3 32 Tryd.underlying60 hi hz0 hz1 hz2 rfl (by decide) _ _ _ rfl (ownsRow_empty _ _) p L.length cap (flat L) rfl (flat_length L) Hnews.out (flat_one L) (by unfold maxLen; omega) (by omega) (by simp) ?_; intro v' w1 hown' hgrow _hnil; have Hb := Lib.hid (((Below.refl w.heap.size w).alloc (Nat.le_refl _) (.cells #[] 53)).grown hgrow (by simp) (fun k h => by cases h; exact Nat.le_refl _)); simp only [Nat.zero_add, List.nil_append] at hown'; clear hgrow _hnil)
    go_ret
    exact ⟨_, rfl, hown', Hb.out⟩

/-- What a call leaves that answers a cell with a list of its own. -/
def KeptGives (c : Cel) (w : World) (e : Ending) (w' : World) : Prop :=
  ∃ v, e = .returned (.agg #[.int .u64 c.last, v]) ∧ w'.ownsRow w.heap.size 53 3 v c.l.length (flat c.l) ∧ Below w.heap.size w w'

set_option maxRecDepth 100000 in
set_option maxHeartbeats 1000000 in
theorem cell_kept (c : Cel) (v : Value) (w : World) (hv : IsVers w v c.l) (hl : c.l.length ≤ 65536) :
    Calls Tryd.prog 62 #[.agg #[.int .u64 c.last, v]] w (KeptGives c w) := by
  obtain ⟨cl, L⟩ := c
  simp only at hv hl ⊢
  have hv2 := hv
  obtain ⟨a, cap, rfl, hc⟩ := hv2
  clear hc
  have Hv := Lib.hid hv; clear hv
  go_enter Tryd.func62, Tryd.ntmps62
  go_wp2_with fail
  refine (clone_vers L _ _ (Hv.out.below (((Below.refl _ _).alloc (Nat.le_refl _) _).alloc (by simp) _) (Nat.le_refl _)) hl).mono ?_
  rintro e w1 ⟨v1, rfl, hown, hb⟩
  have hz : w.heap.size + 1 < w1.heap.size := by have := hb.size; simp at this; omega
  obtain ⟨a1, c1, rfl⟩ := ownShape hown
  obtain ⟨n1, n2, f1, f2⟩ := twoNew hb (by simp)
  have k0 : w1.cell? ⟨w.heap.size, 0, none⟩ = some (.int .u64 cl) := n1 0
  have k1 : w1.cell? ⟨w.heap.size, 1, none⟩ = some (.slice a L.length cap) := n1 1
  have k2 : w1.cell? ⟨w.heap.size + 1, 0, none⟩ = some (.int .u64 0) := n2 0
  have k3 : w1.cell? ⟨w.heap.size + 1, 1, none⟩ = some (.slice none 0 0) := n2 1
  clear n1 n2
  have Hown := Lib.hid hown; have Hb := Lib.hid hb; clear hown hb
  go_wp2
  refine bodyPost_ret (v := .agg #[.int .u64 cl, .slice a1 L.length c1]) (by simp [results, Tryd.results62, go_sem, k2, k3]) rfl ⟨_, rfl, ?_, ?_⟩
  · exact ownBase (ownsRow_setCell_below (ownsRow_setCell_below (ownsRow_setCell_below Hown.out (by simp; omega) _) (by simp) _) (by simp) _) (by simp; omega)
  · exact ((((((Below.refl _ _).alloc (Nat.le_refl _) _).alloc (by simp) _).trans (Hb.out.mono (by simp; omega))).setCell (Nat.le_refl _) _).setCell (by simp) _).setCell (by simp) _
end Go.Proofs.YtbmmabpglkojkaaDoor
