/- Contracts on rows of numbers: slices.Clone, slices.Compact where nothing is twice, slices.BinarySearch. -/
import Derived.Test.YthcmcjoenepkbaaGreatDoorIterN
import Derived.Lib.SliceRun
namespace Go.Proofs.YthcmcjoenepkbaaGreatDoor
open Go Go.RowKit Go.Sort

theorem addrAdd1 (b off j : Nat) : (⟨b, off, none⟩ : Addr).add j = ⟨b, off + j, none⟩ := by simp [Addr.add]
theorem below_dr {B : Nat} {w w' : World} (h : Below B w w') (n : Nat) : Below B w (w'.drewN n) := ⟨h.os, h.tape, h.output, h.size, h.block⟩
set_option maxHeartbeats 1000000 in
theorem isNaN64 (x : Int) (w : World) : Calls Tryz.prog 156 #[.int .u64 x] w fun e w' => e = .returned (.bool false) ∧ w' = w := by
  go_enter Tryz.func156, Tryz.ntmps156
  go_wp2
  go_ret
  exact ⟨by simp, rfl⟩
theorem ownsRow_empty1 (w : World) (e : TypeId) : (w.alloc (.cells #[] e)).ownsRow w.heap.size e 1 (.slice (some ⟨w.heap.size, 0, none⟩) 0 0) 0 [] :=
  ⟨rfl, Or.inr ⟨w.heap.size, 0, #[], rfl, Nat.le_refl _, (MapKept.heap_alloc w _).1, Nat.le_refl _, Nat.zero_le _, rfl, rfl⟩⟩

set_option maxRecDepth 100000 in
set_option maxHeartbeats 1000000 in
theorem clone32 (L : List Int) (b off cap : Nat) (w : World) (hb : b < w.heap.size) (hc : ∀ i, i < L.length → w.cell? ⟨b, off + i, none⟩ = some (.int .u32 (L.getD i 0))) (hl : L.length ≤ 1000000) :
    Calls Tryz.prog 58 #[.slice (some ⟨b, off, none⟩) L.length cap] w fun e w' => ∃ v, e = .returned v ∧ w'.ownsRow w.heap.size 28 1 v L.length (L.map (Value.int .u32)) ∧ Below w.heap.size w w' := by
  obtain ⟨i0, hi, hz0, hz1, hz2⟩ := info_parts uint32_info
  have hne := fun w => Lib.run_eql_slice_nil (P := Tryz.prog) w 64 28 (some ⟨b, off, none⟩) L.length cap 0 0 Tryz.underlying64
  have hnews : ∀ j u, (L.map (Value.int .u32))[j]? = some u → (w.alloc (.cells #[] 28)).cell? ((⟨b, off, none⟩ : Addr).add j) = some u := by
    intro j u hu
    rw [addrAdd1, World.cell?_alloc_past _ _ _ hb]
    rw [List.getElem?_map] at hu
    cases hj : L[j]? with
    | none => rw [hj] at hu; cases hu
    | some x =>
      rw [hj] at hu; cases hu
      rw [hc j (List.getElem?_eq_some_iff.1 hj).1, List.getD_eq_getElem?_getD, hj]; rfl
  have Hnews := Lib.hid hnews; clear hnews hc
  go_enter Tryz.func58, Tryz.ntmps58
  go_wp2_with (at_builtin; refine wpList_append_own _ rfl _ _ 64 rfl w.heap.size 28 i0 (.int .u32 0) 1 4 Tryz.underlying64 hi hz0 hz1 hz2 rfl (by decide) _ _ _ rfl (ownsRow_empty1 _ _) ⟨b, off, none⟩ L.length cap (L.map (Value.int .u32)) rfl (by simp) Hnews.out (by intro u hu; obtain ⟨x, _, rfl⟩ := List.mem_map.1 hu; rfl) (by unfold maxLen; omega) (by omega) (by simp) ?_; intro v' w1 hown' hgrow _hnil; have Hb := Lib.hid (((Below.refl w.heap.size w).alloc (Nat.le_refl _) (.cells #[] 28)).grown hgrow (by simp) (fun k h => by cases h; exact Nat.le_refl _)); simp only [Nat.zero_add, List.nil_append] at hown'; clear hgrow _hnil)
  go_ret
  exact ⟨_, rfl, hown', Hb.out⟩

set_option maxRecDepth 100000 in
set_option maxHeartbeats 1000000 in
/-- Nothing is twice: all of it stays. -/
theorem compact_none (L : List Int) (N b off cap : Nat) (_hN : L.length = N) (w : World) (hb : b < w.heap.size) (hc : ∀ i, i < N → w.cell? ⟨b, off + i, none⟩ = some (.int .u32 (L.getD i 0))) (hl : N ≤ 1000000) (hd : ∀ i, i + 1 < N → L.getD (i + 1) 0 ≠ L.getD i 0) :
    Calls Tryz.prog 45 #[.slice (some ⟨b, off, none⟩) N cap] w fun e w' => e = .returned (.slice (some ⟨b, off, none⟩) N cap) ∧ Below w.heap.size w w' := by
  clear _hN
  obtain ⟨G, hG⟩ : ∃ G : Nat → Int, ∀ t, L.getD t 0 = G t := ⟨fun t => L.getD t 0, fun _ => rfl⟩
  simp only [hG] at hc hd
  have Hc := Lib.hid hc; have Hd := Lib.hid hd; clear hc hd hG
  by_cases h2 : N < 2
  · go_enter Tryz.func45, Tryz.ntmps45
    go_wp2
    go_ret
    exact ⟨rfl, Below.refl _ _⟩
  · have h2z : ¬ ((N : Int) < 2) := by omega
    go_enter Tryz.func45, Tryz.ntmps45
    go_wp2_with fail
    go_loopw [3] (fun i wr => ∃ k : Nat, 1 ≤ k ∧ k ≤ N ∧ i = .int .i64 k ∧ Hid (Below w.heap.size w wr)) (fun i _ => N - (intOf i).toNat)
    case atStart => exact ⟨1, Nat.le_refl _, by omega, rfl, Lib.hid (Below.refl _ _)⟩
    case round =>
      obtain ⟨k, hk1, hk, rfl, Hbw⟩ := hrel
      by_cases hlt : k < N
      · have c1 := (Hbw.out.cell (p := ⟨b, off + k, none⟩) hb).trans (Hc.out k hlt)
        have c2 := (Hbw.out.cell (p := ⟨b, off + (k - 1), none⟩) hb).trans (Hc.out (k - 1) (by omega))
        have hne := Hd.out (k - 1) (by omega)
        rw [show k - 1 + 1 = k by omega] at hne
        have hneb : (G k == G (k - 1)) = false := by simpa using hne
        go_wp2_with fail
        go_quiet (fail)
        go_wp2_with fail
        go_roundw
        case rel => exact ⟨k + 1, by omega, by omega, by go_num, Lib.hid (Hbw.out.trans (below_dr (Below.refl _ _) _))⟩
        case measure => simp [intOf]; omega
      · have hge : ¬ ((k : Int) < (N : Int)) := by omega
        go_wp2_with fail
        go_ret
        exact ⟨rfl, Hbw.out⟩

/-- Where a number stands, or would, in a rising list. -/
def Spot (L : List Int) (h : Int) (i : Nat) : Prop := i ≤ L.length ∧ (∀ j, j < i → L.getD j 0 < h) ∧ ∀ j, i ≤ j → j < L.length → h ≤ L.getD j 0

set_option maxRecDepth 100000 in
set_option maxHeartbeats 2000000 in
theorem search64 (L : List Int) (h : Int) (b off cap : Nat) (w : World) (hb : b < w.heap.size) (hc : ∀ i, i < L.length → w.cell? ⟨b, off + i, none⟩ = some (.int .u64 (L.getD i 0))) (hl : L.length ≤ 1000000) (hs : L.Pairwise (· ≤ ·)) :
    Calls Tryz.prog 122 #[.slice (some ⟨b, off, none⟩) L.length cap, .int .u64 h] w fun e w' => ∃ (i : Nat) (f : Bool), e = .returned (.tuple #[.int .i64 i, .bool f]) ∧ Spot L h i ∧ Below w.heap.size w w' := by
  obtain ⟨N, hN⟩ : ∃ N, L.length = N := ⟨_, rfl⟩
  obtain ⟨G, hG⟩ : ∃ G : Nat → Int, ∀ t, L.getD t 0 = G t := ⟨fun t => L.getD t 0, fun _ => rfl⟩
  have hmono : ∀ i j, i ≤ j → j < N → G i ≤ G j := by
    intro i j hij hj
    rw [← hG, ← hG, List.getD_eq_getElem?_getD, List.getD_eq_getElem?_getD, List.getElem?_eq_getElem (by omega), List.getElem?_eq_getElem (by omega)]
    rcases Nat.lt_or_ge i j with h1 | h1
    · exact List.pairwise_iff_getElem.1 hs i j (by omega) (by omega) h1
    · obtain rfl : i = j := by omega
      exact Int.le_refl _
  have hfin : ∀ i : Nat, i ≤ N → (∀ j, j < i → G j < h) → (∀ j, i ≤ j → j < N → h ≤ G j) → Spot L h i := fun i h1 h2 h3 => ⟨by omega, fun j hj => by rw [hG]; exact h2 j hj, fun j h4 h5 => by rw [hG]; exact h3 j h4 (by omega)⟩
  simp only [hG] at hc
  rw [hN] at hc hl ⊢
  have HM := Lib.hid hmono; have HF := Lib.hid hfin; have Hc := Lib.hid hc
  clear hmono hfin hc hG hN hs
  go_enter Tryz.func122, Tryz.ntmps122
  go_wp2_with fail
  go_loopw [7, 8] (fun vi vj wr => ∃ i j : Nat, vi = .int .i64 i ∧ vj = .int .i64 j ∧ i ≤ j ∧ j ≤ N ∧ Hid (∀ t, t < i → G t < h) ∧ Hid (∀ t, j ≤ t → t < N → h ≤ G t) ∧ Hid (Below w.heap.size w wr)) (fun vi vj _ => (intOf vj).toNat - (intOf vi).toNat)
  case atStart => exact ⟨0, N, rfl, rfl, Nat.zero_le _, Nat.le_refl _, Lib.hid (fun t ht => by omega), Lib.hid (fun t h1 h2 => by omega), Lib.hid (Below.refl _ _)⟩
  case round =>
    obtain ⟨i, j, rfl, rfl, hij, hjN, HA, HB, Hbw⟩ := hrel
    by_cases hlt : i < j
    · obtain ⟨m, hm, hm1, hm2⟩ : ∃ m : Nat, ((i : Int) + (j : Int)) / 2 = (m : Int) ∧ i ≤ m ∧ m < j := ⟨(i + j) / 2, by omega, by omega, by omega⟩
      have cm := (Hbw.out.cell (p := ⟨b, off + m, none⟩) hb).trans (Hc.out m (by omega))
      go_wp2_with (go_at_call 153; refine (uint64_less _ _ _).mono ?_; rintro e w' ⟨rfl, rfl⟩)
      · have hl : ltInt (G m) h = true := by assumption
        have HL := Lib.hid hl; clear hl
        go_roundw
        case rel =>
          refine ⟨m + 1, j, by go_num, rfl, by omega, hjN, Lib.hid (fun t ht => ?_), HB, Hbw⟩
          have h1 := HM.out t m (by omega) (by omega)
          have h2 := HL.out
          simp only [ltInt, decide_eq_true_eq] at h2
          omega
        case measure => simp [intOf]; omega
      · have hl : ltInt (G m) h = false := by assumption
        have HL := Lib.hid hl; clear hl
        go_roundw
        case rel =>
          refine ⟨i, m, rfl, rfl, by omega, by omega, HA, Lib.hid (fun t ht1 ht2 => ?_), Hbw⟩
          have h1 := HM.out m t ht1 ht2
          have h2 := HL.out
          simp only [ltInt, decide_eq_false_iff_not] at h2
          omega
        case measure => simp [intOf]; omega
    · obtain rfl : i = j := by omega
      have HS := Lib.hid (HF.out i hjN HA.out HB.out)
      by_cases hiN : i < N
      · have cm := (Hbw.out.cell (p := ⟨b, off + i, none⟩) hb).trans (Hc.out i hiN)
        by_cases hq : G i = h
        · have hqb : (G i == h) = true := by simpa using hq
          have hiz : (i : Int) < (N : Int) := by omega
          go_wp2_with (go_at_call 156; refine (isNaN64 _ _).mono ?_; rintro e w' ⟨rfl, rfl⟩)
          go_ret2
          exact ⟨i, _, rfl, HS.out, Hbw.out⟩
        · have hqb : (G i == h) = false := by simpa using hq
          have hiz : (i : Int) < (N : Int) := by omega
          go_wp2_with (go_at_call 156; refine (isNaN64 _ _).mono ?_; rintro e w' ⟨rfl, rfl⟩)
          go_ret2
          exact ⟨i, _, rfl, HS.out, Hbw.out⟩
      · have hiz : decide ((i : Int) < (N : Int)) = false := decide_eq_false (by omega)
        go_wp2_with (go_at_call 156; refine (isNaN64 _ _).mono ?_; rintro e w' ⟨rfl, rfl⟩)
        go_ret2
        exact ⟨i, _, rfl, HS.out, Hbw.out⟩
end Go.Proofs.YthcmcjoenepkbaaGreatDoor
