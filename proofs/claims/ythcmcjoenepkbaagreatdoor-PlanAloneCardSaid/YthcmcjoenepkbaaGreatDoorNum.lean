/- Numbers that a slice holds. -/
import Derived.Test.YthcmcjoenepkbaaGreatDoorRow
import Derived.Deep.AppendLies
import Derived.Laws.AppendOwnNone
namespace Go.Proofs.YthcmcjoenepkbaaGreatDoor
open Go Go.RowKit Go.Maps

/-- Numbers that a slice holds. -/
def NumV (K : IntKind) (v : Value) (zs : List Nat) (w : World) : Prop := (∃ a c, v = .slice a 0 c ∧ (a = none → c = 0) ∧ zs = []) ∨ ∃ b off cap, v = .slice (some ⟨b, off, none⟩) zs.length cap ∧ b < w.heap.size ∧ ∀ i, i < zs.length → w.cell? ⟨b, off + i, none⟩ = some (.int K ((zs.getD i 0 : Nat) : Int))
theorem NumV.below {K : IntKind} {v : Value} {zs : List Nat} {w w' : World} (h : NumV K v zs w) (hb : Below w.heap.size w w') : NumV K v zs w' := by
  rcases h with h | ⟨b, off, cap, hv, hlt, hc⟩
  · exact Or.inl h
  · exact Or.inr ⟨b, off, cap, hv, Nat.lt_of_lt_of_le hlt hb.size, fun i hi => (hb.cell (p := ⟨b, off + i, none⟩) hlt).trans (hc i hi)⟩
theorem NumV.shape {K : IntKind} {v : Value} {zs : List Nat} {w : World} (h : NumV K v zs w) : ∃ a c, v = .slice a zs.length c := by
  rcases h with ⟨a, c, rfl, _, rfl⟩ | ⟨b, off, cap, rfl, _⟩
  · exact ⟨a, c, rfl⟩
  · exact ⟨_, _, rfl⟩
theorem NumV.at {K : IntKind} {a : Option Addr} {n c : Nat} {zs : List Nat} {w : World} (h : NumV K (.slice a n c) zs w) (i : Nat) (hi : i < zs.length) : ∃ b off, a = some ⟨b, off, none⟩ ∧ b < w.heap.size ∧ w.cell? ⟨b, off + i, none⟩ = some (.int K ((zs.getD i 0 : Nat) : Int)) := by
  rcases h with ⟨_, _, _, _, h⟩ | ⟨b, off, cap, hv, hlt, hc⟩
  · rw [h] at hi; simp at hi
  · simp only [Value.slice.injEq] at hv
    exact ⟨b, off, hv.1, hlt, hc i hi⟩
theorem NumV.src {K : IntKind} {a : Option Addr} {n c : Nat} {zs : List Nat} {w : World} (h : NumV K (.slice a n c) zs w) : (a = none ∧ n = 0 ∧ c = 0 ∧ zs = []) ∨ ∃ ad, a = some ad ∧ ∀ j u, (zs.map (fun s : Nat => Value.int K (s : Int)))[j]? = some u → w.cell? (ad.add j) = some u := by
  rcases h with ⟨a', c', hv, hz, rfl⟩ | ⟨b, off, cap, hv, hlt, hc⟩
  · simp only [Value.slice.injEq] at hv
    obtain ⟨rfl, rfl, rfl⟩ := hv
    cases a with
    | none => exact Or.inl ⟨rfl, rfl, hz rfl, rfl⟩
    | some ad => exact Or.inr ⟨ad, rfl, fun j u hu => by simp at hu⟩
  · simp only [Value.slice.injEq] at hv
    refine Or.inr ⟨_, hv.1, fun j u hu => ?_⟩
    have hj := (List.getElem?_eq_some_iff.1 hu).1
    rw [List.length_map] at hj
    have he : ((⟨b, off, none⟩ : Addr).add j) = ⟨b, off + j, none⟩ := by
      unfold Addr.add; split
      · rename_i hz; subst hz; rfl
      · rfl
    rw [he, hc j hj, ← hu, List.getElem?_map, List.getD_eq_getElem?_getD, List.getElem?_eq_getElem hj]; rfl
theorem NumV.own {K : IntKind} {w : World} {B e g n c : Nat} {zs : List Nat} (h : w.ownsRow B e 1 (.slice (some ⟨g, 0, none⟩) n c) n (zs.map (fun s : Nat => Value.int K (s : Int)))) (hn : zs.length = n) : NumV K (.slice (some ⟨g, 0, none⟩) n c) zs w := by
  refine Or.inr ⟨g, 0, c, by rw [hn], ?_, fun i hi => ?_⟩
  · rcases h.2 with ⟨h', _⟩ | ⟨g', cap', cur, h', _, hg, _⟩
    · simp at h'
    · simp only [Value.slice.injEq, Option.some.injEq, Addr.mk.injEq, and_true, true_and] at h'
      obtain ⟨rfl, rfl⟩ := h'
      exact lt_of_block hg
  · rw [Nat.zero_add, World.ownsRow.cellAt h i (by omega), List.getElem?_map, List.getD_eq_getElem?_getD, List.getElem?_eq_getElem hi]; rfl

theorem infoW32 : (Tryz.prog.info? 28).map (fun i => (i.zero, i.size, i.bytes)) = some (some (.int .u32 0), 1, 4) := by kernel_rfl
theorem below_set {w : World} {n : Nat} (a : Addr) (v : Value) (h : n ≤ a.block) : Below n w (w.setCell a v) := ⟨rfl, rfl, rfl, by show w.heap.size ≤ (w.heap.modify _ _).size; rw [Array.size_modify]; exact Nat.le_refl _, fun j hj => Below.heap_setCell w a v j (by omega)⟩
theorem few_one (x : Nat) : ∀ u ∈ [Value.int .u32 (x : Int)], u.oneCell' = true := by
  intro u hu
  obtain rfl : u = _ := by simpa using hu
  rfl
theorem few_one' : ∀ u ∈ [Value.int .u32 1], u.oneCell' = true := by
  intro u hu
  obtain rfl : u = _ := by simpa using hu
  rfl
theorem own_above {w : World} {B e n : Nat} {v : Value} {xs : List Value} (h : w.ownsRow B e 1 v n xs) : ∀ k, v.ownBlock = some k → B ≤ k := by
  intro k hk
  rcases h.2 with ⟨hv, _⟩ | ⟨g, cap, cur, hv, hB, _⟩
  · subst hv; cases hk
  · subst hv; cases hk; exact hB
theorem ownsRow_lower' {w : World} {B B' e n k : Nat} {v : Value} {xs : List Value} (h : w.ownsRow B e k v n xs) (hle : B' ≤ B) : w.ownsRow B' e k v n xs := by
  refine ⟨h.1, ?_⟩
  rcases h.2 with hn | ⟨g, cap, cur, hv, hBg, rest⟩
  · exact Or.inl hn
  · exact Or.inr ⟨g, cap, cur, hv, Nat.le_trans hle hBg, rest⟩
end Go.Proofs.YthcmcjoenepkbaaGreatDoor
