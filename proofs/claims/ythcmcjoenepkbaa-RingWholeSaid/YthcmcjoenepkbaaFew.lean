/- Law 26: few. -/
import Derived.Test.YthcmcjoenepkbaaNum
namespace Go.Proofs.Ythcmcjoenepkbaa
open Go Go.RowKit Go.Maps

/-- Which numbers were seen. -/
def Seen (n : Nat) (S : List Nat) (w : World) : Prop := n < w.heap.size ∧ ∀ j, j < 256 → w.cell? ⟨n, j, none⟩ = some (.bool (decide (j ∈ S))) ∧ w.frozen? ⟨n, j, none⟩ = false
theorem Seen.same {n : Nat} {S : List Nat} {w w' : World} (h : Seen n S w) (hb : w'.heap[n]? = w.heap[n]?) (hs : w.heap.size ≤ w'.heap.size) : Seen n S w' :=
  ⟨Nat.lt_of_lt_of_le h.1 hs, fun j hj => ⟨(World.cell?_of_block (w := w) (a := ⟨n, j, none⟩) hb).trans (h.2 j hj).1, (World.frozen?_of_block (w := w) (a := ⟨n, j, none⟩) hb).trans (h.2 j hj).2⟩⟩
theorem Seen.put {n : Nat} {S T : List Nat} {w : World} {x : Nat} (h : Seen n S w) (hx : x < 256) (hm : ∀ j, j ∈ T ↔ j ∈ S ∨ j = x) : Seen n T (w.setCell ⟨n, x, none⟩ (.bool true)) := by
  refine ⟨by show n < (w.heap.modify _ _).size; rw [Array.size_modify]; exact h.1, fun j hj => ⟨?_, ?_⟩⟩
  · by_cases e : j = x
    · subst e
      rw [World.cell?_setCell_same' _ _ _ (by rw [(h.2 j hj).1]; rfl)]
      have : j ∈ T := (hm j).2 (Or.inr rfl)
      simp [this]
    · rw [World.cell?_setCell_other _ _ _ _ (by intro e2; exact e (by simpa using e2.symm)), (h.2 j hj).1]
      congr 2
      have := hm j
      simp only [e, or_false] at this
      simp [this]
  · rw [World.frozen?_setCell]; exact (h.2 j hj).2
/-- Odd numbers, few, none twice. -/
structure Few (S : List Nat) : Prop where
  nd : S.Nodup
  odd : ∀ s ∈ S, s % 2 = 1 ∧ s < 256
  le : S.length ≤ 5
theorem or_one : ∀ x : Fin 256, (x.val ||| 1) % 2 = 1 ∧ (x.val ||| 1) < 256 ∧ bits .or .u8 ((x.val : Nat) : Int) 1 = ((x.val ||| 1 : Nat) : Int) := by decide +kernel
theorem or_one' {x : Nat} (hx : x < 256) : ∃ y : Nat, y % 2 = 1 ∧ y < 256 ∧ bits .or .u8 (x : Int) 1 = (y : Int) := ⟨_, or_one ⟨x, hx⟩⟩
theorem even_of : ∀ x : Fin 256, bits .andNot .u32 ((x.val : Nat) : Int) 1 = ((x.val - x.val % 2 : Nat) : Int) := by decide +kernel

theorem zeros256 : Try.zeroCells44 = Array.replicate 256 (.bool false) := by kernel_rfl
theorem Seen.new (w : World) : Seen w.heap.size [] (w.alloc (.cells Try.zeroCells44 44)) := by
  have h : (w.alloc (.cells Try.zeroCells44 44)).heap[w.heap.size]? = some (.cells (Array.replicate 256 (.bool false)) 44) := by rw [zeros256]; exact (MapKept.heap_alloc _ _).1
  refine ⟨by simp, fun j hj => ⟨?_, ?_⟩⟩
  · simp only [World.cell?, h]
    rw [Array.getElem?_replicate, if_pos hj]; rfl
  · simp only [World.frozen?, h]; rfl
theorem Few.nil : Few [] := ⟨by simp, by simp, by simp⟩
theorem Few.snoc {S : List Nat} {y : Nat} (h : Few S) (h1 : y % 2 = 1) (h2 : y < 256) (h3 : y ∉ S) (h4 : S.length < 5) : Few (S ++ [y]) := by
  refine ⟨?_, fun s hs => ?_, by rw [List.length_append]; simp; omega⟩
  · rw [List.nodup_append]
    exact ⟨h.nd, by simp, fun a ha b hb e => by simp at hb; subst hb; subst e; exact h3 ha⟩
  · rcases List.mem_append.1 hs with hs | hs
    · exact h.odd s hs
    · obtain rfl : s = y := by simpa using hs
      exact ⟨h1, h2⟩

def FewGives (w : World) (e : Ending) (w' : World) : Prop := ∃ g c S, e = .returned (.slice (some ⟨g, 0, none⟩) S.length c) ∧ Few S ∧ 1 ≤ S.length ∧ w'.ownsRow w.heap.size 27 1 (.slice (some ⟨g, 0, none⟩) S.length c) S.length (S.map (fun s : Nat => Value.int .u32 (s : Int))) ∧ Below w.heap.size w w'
set_option maxRecDepth 100000 in
set_option maxHeartbeats 4000000 in
theorem law26_few (v : Value) (zs : List Nat) (w : World) (hv : NumV .u8 v zs w) (hb : ∀ z ∈ zs, z < 256) (hl : zs.length ≤ 40) : Calls Try.prog 6 #[v] w (FewGives w) := by
  obtain ⟨i0, hi, hz0, hz1, hz2⟩ := info_parts infoW32
  obtain ⟨a, c, rfl⟩ := hv.shape
  obtain ⟨N, hN⟩ : ∃ N, zs.length = N := ⟨_, rfl⟩
  have hat : ∀ w', Below w.heap.size w w' → ∀ i, i < N → ∃ b off x, a = some ⟨b, off, none⟩ ∧ x < 256 ∧ w'.cell? ⟨b, off + i, none⟩ = some (.int .u8 ((x : Nat) : Int)) := fun w' h i hi => by
    obtain ⟨b, off, h1, h2, h3⟩ := (hv.below h).at i (by omega)
    exact ⟨b, off, zs.getD i 0, h1, hb _ (by rw [List.getD_eq_getElem?_getD, List.getElem?_eq_getElem (by omega)]; exact List.getElem_mem _), h3⟩
  rw [hN] at hl ⊢
  have HAT := Lib.hid hat
  clear hat hb hv hN
  go_enter Try.func6, Try.ntmps6
  go_upto_region 3 with fail
  obtain ⟨W, hW⟩ : ∃ W, w.alloc (.cells Try.zeroCells44 44) = W := ⟨_, rfl⟩
  have hsee : Seen w.heap.size [] W := by rw [← hW]; exact Seen.new w
  have hbW : Below w.heap.size w W := by rw [← hW]; exact (Below.refl _ _).alloc (Nat.le_refl _) _
  rw [hW]
  clear hW
  have HSEE := Lib.hid hsee; have HBW := Lib.hid hbW
  clear hsee hbW
  go_wp2_with fail
  go_loopw [3, 5] (fun v i wr => ∃ (k m : Nat) (S : List Nat), k ≤ N ∧ i = .int .i64 k ∧ m ≤ 5 ∧ (∃ a c, v = .slice a m c) ∧ Hid (S.length = m) ∧ Hid (wr.ownsRow (w.heap.size + 1) 27 1 v m (S.map (fun s : Nat => Value.int .u32 (s : Int)))) ∧ Hid (Few S) ∧ Hid (Seen w.heap.size S wr) ∧ Hid (Below w.heap.size w wr)) (fun _ i _ => N - (intOf i).toNat)
  case atStart => exact ⟨0, 0, [], Nat.zero_le _, rfl, by omega, ⟨none, 0, rfl⟩, Lib.hid rfl, Lib.hid (World.ownsRow_nil _ _ _ _), Lib.hid Few.nil, HSEE, HBW⟩
  case round =>
    obtain ⟨k, m, S, hk, rfl, hm, ⟨av, cv, rfl⟩, HSM, HROW, HF, HS, HB⟩ := hrel
    by_cases hlt : k < N ∧ m < 5
    · obtain ⟨hlt, hm5⟩ := hlt
      obtain ⟨b, off, x, rfl, hx, hc⟩ := HAT.out wr HB.out k hlt
      obtain ⟨y, hy1, hy2, hor⟩ := or_one' hx
      obtain ⟨s1, s2⟩ := HS.out.2 y hy2
      have hwz := HS.out.1
      have hyl : ((y : Int) < 256) = True := by simp; omega
      by_cases hin : y ∈ S
      · rw [decide_eq_true hin] at s1
        have hs2 : Seen w.heap.size S (wr.setCell ⟨w.heap.size, y, none⟩ (.bool true)) := HS.out.put hy2 (fun j => ⟨Or.inl, fun h => h.elim id (fun e => e ▸ hin)⟩)
        have hk2 := below_set (w := wr) (n := w.heap.size) ⟨w.heap.size, y, none⟩ (.bool true) (Nat.le_refl _)
        have hr2 := ownsRow_setCell_below (a := ⟨w.heap.size, y, none⟩) HROW.out (by dsimp only; omega) (.bool true)
        have HS2 := Lib.hid hs2; have HK2 := Lib.hid hk2; have HR2 := Lib.hid hr2
        clear hs2 hk2 hr2
        go_wp2_with fail
        go_roundw
        case rel => exact ⟨k + 1, m, S, by omega, rfl, hm, ⟨_, _, rfl⟩, HSM, HR2, HF, HS2, Lib.hid (HB.out.trans HK2.out)⟩
        case measure => simp [intOf]; omega
      · rw [decide_eq_false hin] at s1
        go_wp2_with (
          at_builtin
          refine wpList_append_lies _ rfl (.tmp 27) (.tmp 30) 25 rfl (w.heap.size + 1) 27 i0 (.int .u32 0) 1 4 Try.underlying25 hi hz0 hz1 hz2 rfl (by decide) _ m (S.map (fun s : Nat => Value.int .u32 (s : Int))) rfl (HROW.out.alloc _) ⟨wr.heap.size, 0, none⟩ 1 1 [.int .u32 (y : Int)] rfl rfl (cell_one_new _ _ _) (few_one _) (by decide) (by unfold maxLen; omega) (by omega) (by have := HB.out.size; have := HS.out.1; simp; omega) (wr.heap.size + 1) (by simp) ?go
          intro g cp w8 hown8 hg8 _hat _hlt8
          replace hown8 : w8.ownsRow (w.heap.size + 1) 27 1 (.slice (some ⟨g, 0, none⟩) (m + 1) cp) (m + 1) ((S ++ [y]).map (fun s : Nat => Value.int .u32 (s : Int))) := (by rw [List.map_append]; exact hown8)
          have hb8 : w8.heap[w.heap.size]? = wr.heap[w.heap.size]? := (hg8.block w.heap.size (by simp; omega) (fun e => by have := own_above HROW.out _ e.symm; omega)).trans (Below.heap_alloc _ _ _ hwz)
          have hs8 : Seen w.heap.size S w8 := HS.out.same hb8 (by have := hg8.size; simp at this; omega)
          have hB8 : Below w.heap.size w w8 := (HB.out.alloc HB.out.size _).grown hg8 (by simp; omega) (fun k hk => by have := own_above HROW.out k hk; omega)
          have s18 := (World.cell?_of_block (w := wr) (a := ⟨w.heap.size, y, none⟩) hb8).trans s1
          have s28 := (World.frozen?_of_block (w := wr) (a := ⟨w.heap.size, y, none⟩) hb8).trans s2
          have HS8 := Lib.hid hs8; have HB8 := Lib.hid hB8; have HO8 := Lib.hid hown8
          clear hown8 hg8 _hat _hlt8 hb8 hs8 hB8)
        go_roundw
        case rel =>
          refine ⟨k + 1, m + 1, S ++ [y], by omega, rfl, by omega, ⟨_, _, rfl⟩, Lib.hid (by rw [List.length_append, HSM.out]; rfl), Lib.hid (ownsRow_setCell_below (a := ⟨w.heap.size, y, none⟩) HO8.out (by dsimp only; omega) (.bool true)), Lib.hid (HF.out.snoc hy1 hy2 hin (by rw [HSM.out]; exact hm5)), Lib.hid (HS8.out.put hy2 (fun j => by simp)), Lib.hid (HB8.out.trans (below_set _ _ (Nat.le_refl _)))⟩
        case measure => simp [intOf]; omega
    · by_cases h0 : m = 0
      · subst h0
        have hS0 : S = [] := List.length_eq_zero_iff.1 HSM.out
        have hbz := HB.out.size
        have hwz := HS.out.1
        have hr0 := HROW.out
        rw [hS0] at hr0
        have HR0 := Lib.hid (hr0.alloc (.cells #[.int .u32 1] 27))
        clear hr0
        by_cases hlt2 : k < N
        · exact absurd ⟨hlt2, by omega⟩ hlt
        · obtain rfl : k = N := by omega
          clear hlt
          go_wp2_with (
            at_builtin
            refine wpList_append_lies _ rfl (.tmp 37) (.tmp 38) 25 rfl (w.heap.size + 1) 27 i0 (.int .u32 0) 1 4 Try.underlying25 hi hz0 hz1 hz2 rfl (by decide) _ 0 [] rfl HR0.out ⟨wr.heap.size, 0, none⟩ 1 1 [.int .u32 1] rfl rfl (cell_one_new _ _ _) few_one' (by decide) (by unfold maxLen; omega) (by omega) (by simp; omega) (wr.heap.size + 1) (by simp) ?goz
            intro g cp w8 hown8 hg8 _hat _hlt8
            replace hown8 : w8.ownsRow (w.heap.size + 1) 27 1 (.slice (some ⟨g, 0, none⟩) 1 cp) 1 [.int .u32 1] := hown8
            have hB8 : Below w.heap.size w w8 := (HB.out.alloc HB.out.size _).grown hg8 (by simp; omega) (fun k hk => by have := own_above HROW.out k hk; omega)
            have HB8 := Lib.hid hB8; have HO8 := Lib.hid hown8
            simp only [Nat.zero_add]
            clear hown8 hg8 _hat _hlt8 hB8)
          go_wp2_with fail
          go_ret
          exact ⟨g, cp, [1], rfl, ⟨by simp, by simp, by simp⟩, by simp, ownsRow_lower' HO8.out (by omega), HB8.out⟩
      · have hg : ∃ g, av = some ⟨g, 0, none⟩ := by
          rcases HROW.out.2 with ⟨h', hn⟩ | ⟨g, cap, cur, h', _⟩
          · omega
          · simp only [Value.slice.injEq] at h'
            exact ⟨g, h'.1⟩
        obtain ⟨g, rfl⟩ := hg
        have hm0 : ((m : Int) == 0) = false := by simp; omega
        by_cases hlt2 : k < N
        · have hm5 : ¬ ((m : Int) < 5) := by omega
          clear hlt
          go_wp2_with fail
          go_ret
          exact ⟨g, cv, S, by rw [HSM.out]; rfl, HF.out, by rw [HSM.out]; omega, by rw [HSM.out]; exact ownsRow_lower' HROW.out (by omega), HB.out⟩
        · clear hlt
          go_wp2_with fail
          go_ret
          exact ⟨g, cv, S, by rw [HSM.out]; rfl, HF.out, by rw [HSM.out]; omega, by rw [HSM.out]; exact ownsRow_lower' HROW.out (by omega), HB.out⟩
end Go.Proofs.Ythcmcjoenepkbaa
