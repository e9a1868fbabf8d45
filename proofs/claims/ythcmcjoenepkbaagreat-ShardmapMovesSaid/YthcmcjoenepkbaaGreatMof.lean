/- Law 27: of: the range and the shard that a move is of. -/
import Derived.Test.YthcmcjoenepkbaaGreatFir
namespace Go.Proofs.YthcmcjoenepkbaaGreat
open Go Go.RowKit Go.Maps

theorem wrapU64 (z : Int) : ∃ n : Nat, n < M64 ∧ IntKind.u64.wrap z = (n : Int) := by
  refine ⟨(z % 18446744073709551616).toNat, ?_, ?_⟩
  · show (z % 18446744073709551616).toNat < 18446744073709551616
    omega
  · rw [IntKind.wrap_u64]; omega
theorem wrapU32 (z : Int) : ∃ n : Nat, n < 4294967296 ∧ IntKind.u32.wrap z = (n : Int) := by
  refine ⟨(z % 4294967296).toNat, by omega, ?_⟩
  rw [IntKind.wrap_u32]; omega
abbrev moveV (f t tw : Nat) (i : Bool) (at_ off len : Nat) : Value := .agg #[.int .u64 (f : Int), .int .u64 (t : Int), .int .u32 (tw : Int), .bool i, .int .u8 (at_ : Int), .int .u64 (off : Int), .int .u64 (len : Int)]
theorem pair_set {W : World} {n : Nat} {u0 u1 : Value} {T : TypeId} (d : W.heap[n]? = some (.cells #[u0, u1] T (0, 0))) (v0 v1 : Value) : ∃ W', (W.setCell ⟨n, 0, none⟩ v0).setCell ⟨n, 1, none⟩ v1 = W' ∧ W'.cell? ⟨n, 0, none⟩ = some v0 ∧ W'.cell? ⟨n, 1, none⟩ = some v1 ∧ Below n W W' := by
  have e1 : (W.setCell ⟨n, 0, none⟩ v0).heap[n]? = some (.cells #[v0, u1] T (0, 0)) := setCell_block (i := 0) d v0
  have e2 : ((W.setCell ⟨n, 0, none⟩ v0).setCell ⟨n, 1, none⟩ v1).heap[n]? = some (.cells #[v0, v1] T (0, 0)) := setCell_block (i := 1) e1 v1
  have b1 : Below n W (W.setCell ⟨n, 0, none⟩ v0) := below_set _ _ (Nat.le_refl _)
  have b2 : Below n (W.setCell ⟨n, 0, none⟩ v0) ((W.setCell ⟨n, 0, none⟩ v0).setCell ⟨n, 1, none⟩ v1) := below_set _ _ (Nat.le_refl _)
  exact ⟨_, rfl, cell_of e2 0, cell_of e2 1, b1.trans b2⟩
theorem pair_setd {W : World} {n : Nat} {u0 u1 : Value} {T : TypeId} (d : W.heap[n]? = some (.cells #[u0, u1] T (0, 0))) (v0 v1 : Value) : ∃ W', ((W.setCell ⟨n, 0, none⟩ v0).setCell ⟨n, 1, none⟩ v1).drew = W' ∧ W'.cell? ⟨n, 0, none⟩ = some v0 ∧ W'.cell? ⟨n, 1, none⟩ = some v1 ∧ Below n W W' := by
  obtain ⟨W', h, h0, h1, h2⟩ := pair_set d v0 v1
  exact ⟨W'.drew, by rw [h], h0, h1, Below.drew h2⟩
/-- What of leaves: some range, some shard. -/
def OfG (w : World) (e : Ending) (w' : World) : Prop := ∃ f t tw : Nat, e = .returned (.tuple #[.agg #[.int .u64 (f : Int), .int .u64 (t : Int)], .int .u32 (tw : Int)]) ∧ f < M64 ∧ t < M64 ∧ tw < 4294967296 ∧ Below w.heap.size w w'

set_option maxRecDepth 100000 in
set_option maxHeartbeats 4000000 in
theorem law27_of (f t tw : Nat) (i : Bool) (at_ off len m e : Nat) (sp : List (Nat × Nat)) (w : World) (hf : f < M64) (ht : t < M64) (htw : tw < 4294967296) (hat : at_ < 256) (hoff : off < M64) (hlen : len < M64) (hD : DocAt w m e sp) (hl : 1 ≤ sp.length) (hl2 : sp.length ≤ 10000) (h64 : ∀ i, i < sp.length → (sp.getD i d0).1 < M64) :
    Calls Tryz.prog 7 #[moveV f t tw i at_ off len, .pointer (some ⟨m, 0, none⟩)] w (OfG w) := by
  obtain ⟨W0, hW0⟩ : ∃ W0, (w.alloc (.cells #[.int .u64 (f : Int), .int .u64 (t : Int), .int .u32 (tw : Int), .bool i, .int .u8 (at_ : Int), .int .u64 (off : Int), .int .u64 (len : Int)] 27)).alloc (.cells #[.int .u64 0, .int .u64 0] 24) = W0 := ⟨_, rfl⟩
  have hB0 : Below w.heap.size w W0 := by rw [← hW0]; exact ((Below.refl _ _).alloc (Nat.le_refl _) _).alloc (by simp) _
  have hz0 : W0.heap.size = w.heap.size + 2 := by rw [← hW0]; simp
  have d1 : W0.heap[w.heap.size]? = some (.cells #[.int .u64 (f : Int), .int .u64 (t : Int), .int .u32 (tw : Int), .bool i, .int .u8 (at_ : Int), .int .u64 (off : Int), .int .u64 (len : Int)] 27) := by rw [← hW0]; exact two1 _ _ _
  have d2 : W0.heap[w.heap.size + 1]? = some (.cells #[.int .u64 0, .int .u64 0] 24) := by rw [← hW0]; exact two2 _ _ _
  have c0 : W0.cell? ⟨w.heap.size, 0, none⟩ = some (.int .u64 (f : Int)) := cell_of d1 0
  have c1 : W0.cell? ⟨w.heap.size, 1, none⟩ = some (.int .u64 (t : Int)) := cell_of d1 1
  have c2 : W0.cell? ⟨w.heap.size, 2, none⟩ = some (.int .u32 (tw : Int)) := cell_of d1 2
  have c3 : W0.cell? ⟨w.heap.size, 3, none⟩ = some (.bool i) := cell_of d1 3
  have c4 : W0.cell? ⟨w.heap.size, 4, none⟩ = some (.int .u8 (at_ : Int)) := cell_of d1 4
  have c5 : W0.cell? ⟨w.heap.size, 5, none⟩ = some (.int .u64 (off : Int)) := cell_of d1 5
  have c6 : W0.cell? ⟨w.heap.size, 6, none⟩ = some (.int .u64 (len : Int)) := cell_of d1 6
  have r0 : W0.cell? ⟨w.heap.size + 1, 0, none⟩ = some (.int .u64 0) := cell_of d2 0
  have r1 : W0.cell? ⟨w.heap.size + 1, 1, none⟩ = some (.int .u64 0) := cell_of d2 1
  have q0 := frozen_of d2 0
  have q1 := frozen_of d2 1
  obtain ⟨g, cp, h1, h2, h3⟩ := hD.below hB0
  have m1 : W0.cell? ⟨m, 1, none⟩ = some (.slice (some ⟨g, 0, none⟩) sp.length cp) := cell_of h1 1
  obtain ⟨L, hL⟩ : ∃ L, sp.length = L := ⟨_, rfl⟩
  rw [hL] at m1 h3 hl hl2 h64
  have HC := Lib.hid h3; have H64 := Lib.hid h64; have HB0 := Lib.hid hB0; have HZ := Lib.hid hz0
  have HF := Lib.hid (And.intro hf (And.intro ht htw))
  have HD2 := Lib.hid d2
  clear d1 d2 h1 h2 h3 h64 hB0 hz0 hf ht htw hL hD
  cases i with
  | false =>
    clear HC H64 m1
    go_enter Tryz.func7, Tryz.ntmps7
    go_upto_region 1 with fail
    clear hW0
    go_wp2_with fail
    go_region
    all_goals (
      go_wp2_with fail
      obtain ⟨W1, hW1, k0, k1, hb1⟩ := pair_setd HD2.out (.int .u64 (f : Int)) (.int .u64 (t : Int))
      rw [hW1]
      refine bodyPost_ret (v := .tuple #[.agg #[.int .u64 (f : Int), .int .u64 (t : Int)], .int .u32 (tw : Int)]) (by simp [results, Tryz.results7, go_sem, k0, k1]) rfl ⟨f, t, tw, rfl, HF.out.1, HF.out.2.1, HF.out.2.2, HB0.out.trans (hb1.mono (by omega))⟩)
  | true =>
    obtain ⟨k, hk⟩ : ∃ k, at_ % L = k := ⟨_, rfl⟩
    have hkL : k < L := by rw [← hk]; exact Nat.mod_lt _ (by omega)
    have hki : (at_ : Int) % (L : Int) = (k : Int) := by omega
    have hkt : (at_ : Int).tmod (L : Int) = (k : Int) := by rw [Int.tmod_eq_emod_of_nonneg (by omega)]; exact hki
    have hL0 : ((L : Int) == 0) = false := by simp; omega
    obtain ⟨k1, hk1⟩ : ∃ k1, k + 1 = k1 := ⟨_, rfl⟩
    have hk1i : (k : Int) + 1 = (k1 : Int) := by omega
    obtain ⟨p0, _⟩ := HC.out k hkL
    obtain ⟨p, hp⟩ : ∃ p, (sp.getD k d0).1 = p := ⟨_, rfl⟩
    rw [hp] at p0
    have HP64 := Lib.hid (show p < M64 by rw [← hp]; exact H64.out k hkL)
    have hkL' : (k : Int) < (L : Int) := by omega
    have hend : ∃ en : Nat, en < M64 ∧ (if k1 < L then IntKind.u64.wrap (((sp.getD k1 d0).1 : Int) - 1) = (en : Int) else en = 18446744073709551615) := by
      by_cases h : k1 < L
      · obtain ⟨en, h1, h2⟩ := wrapU64 (((sp.getD k1 d0).1 : Int) - 1)
        exact ⟨en, h1, by rw [if_pos h]; exact h2⟩
      · exact ⟨18446744073709551615, by decide, by rw [if_neg h]⟩
    obtain ⟨en, hen64, hen⟩ := hend
    obtain ⟨sz, hsz64, hsz⟩ := wrapU64 ((en : Int) - (p : Int))
    obtain ⟨fr, hfr64, hfr⟩ := wrapU64 ((p : Int) + ((off % sz : Nat) : Int))
    have hoi : (off : Int) % (sz : Int) = ((off % sz : Nat) : Int) := by omega
    obtain ⟨o, ho⟩ : ∃ o, off % sz = o := ⟨_, rfl⟩
    rw [ho] at hfr hoi
    obtain ⟨b6, hb6⟩ : ∃ b, tw % 6 = b := ⟨_, rfl⟩
    have hb6i : (tw : Int) % 6 = (b6 : Int) := by omega
    have hb6t : (tw : Int).tmod 6 = (b6 : Int) := by rw [Int.tmod_eq_emod_of_nonneg (by omega)]; exact hb6i
    obtain ⟨b7, hb7⟩ : ∃ b, 1 + b6 = b := ⟨_, rfl⟩
    have hb7i : (1 : Int) + (b6 : Int) = (b7 : Int) := by omega
    have hb7w : IntKind.u32.wrap (b7 : Int) = (b7 : Int) := by rw [IntKind.wrap_u32]; omega
    have hb7l : b7 < 4294967296 := by omega
    by_cases hlt : k1 < L
    · rw [if_pos hlt] at hen
      obtain ⟨p1, _⟩ := HC.out k1 hlt
      obtain ⟨q, hq⟩ : ∃ q, (sp.getD k1 d0).1 = q := ⟨_, rfl⟩
      rw [hq] at p1 hen
      have hlti : (k1 : Int) < (L : Int) := by omega
      clear hq
      by_cases hs0 : sz = 0
      · have hsi : ¬ (0 : Int) < (sz : Int) := by omega
        clear hoi hfr
        have hldi : ¬ (len : Int) < (sz : Int) := by omega
        clear hs0
        clear hk hp hk1 ho hb6 hb7 HC H64
        go_enter Tryz.func7, Tryz.ntmps7
        go_upto_region 3 with fail
        clear hW0
        go_quiet (fail)
        go_wp2_with fail
        go_region
        all_goals (
          go_wp2_with fail
          obtain ⟨W1, hW1, e0, e1, hb1⟩ := pair_set (W := W0.drewN (nq + 1)) HD2.out (.int .u64 (p : Int)) (.int .u64 (en : Int))
          rw [hW1]
          refine bodyPost_ret (v := .tuple #[.agg #[.int .u64 (p : Int), .int .u64 (en : Int)], .int .u32 (b7 : Int)]) (by simp [results, Tryz.results7, go_sem, e0, e1]) rfl ⟨p, en, b7, rfl, HP64.out, hen64, hb7l, (below_dr HB0.out _).trans (hb1.mono (by omega))⟩)
      · have hsi : (0 : Int) < (sz : Int) := by omega
        have hs0b : ((sz : Int) == 0) = false := by simp; omega
        obtain ⟨dd, hdd64, hdd⟩ := wrapU64 ((en : Int) - (fr : Int))
        by_cases hld : len < dd
        · have hldi : (len : Int) < (dd : Int) := by omega
          obtain ⟨tt, htt64, htt⟩ := wrapU64 ((fr : Int) + (len : Int))
          clear hk hp hk1 ho hb6 hb7 HC H64
          go_enter Tryz.func7, Tryz.ntmps7
          go_upto_region 3 with fail
          clear hW0
          go_quiet (fail)
          go_wp2_with fail
          go_region
          all_goals (
            go_wp2_with fail
            obtain ⟨W1, hW1, e0, e1, hb1⟩ := pair_set (W := W0.drewN (nq + 1)) HD2.out (.int .u64 (fr : Int)) (.int .u64 (tt : Int))
            rw [hW1]
            refine bodyPost_ret (v := .tuple #[.agg #[.int .u64 (fr : Int), .int .u64 (tt : Int)], .int .u32 (b7 : Int)]) (by simp [results, Tryz.results7, go_sem, e0, e1]) rfl ⟨fr, tt, b7, rfl, hfr64, htt64, hb7l, (below_dr HB0.out _).trans (hb1.mono (by omega))⟩)
        · have hldi : ¬ (len : Int) < (dd : Int) := by omega
          clear hk hp hk1 ho hb6 hb7 HC H64
          go_enter Tryz.func7, Tryz.ntmps7
          go_upto_region 3 with fail
          clear hW0
          go_quiet (fail)
          go_wp2_with fail
          go_region
          all_goals (
            go_wp2_with fail
            obtain ⟨W1, hW1, e0, e1, hb1⟩ := pair_set (W := W0.drewN (nq + 1)) HD2.out (.int .u64 (fr : Int)) (.int .u64 (en : Int))
            rw [hW1]
            refine bodyPost_ret (v := .tuple #[.agg #[.int .u64 (fr : Int), .int .u64 (en : Int)], .int .u32 (b7 : Int)]) (by simp [results, Tryz.results7, go_sem, e0, e1]) rfl ⟨fr, en, b7, rfl, hfr64, hen64, hb7l, (below_dr HB0.out _).trans (hb1.mono (by omega))⟩)
    · rw [if_neg hlt] at hen
      subst hen
      replace hsz : IntKind.u64.wrap ((18446744073709551615 : Int) - (p : Int)) = (sz : Int) := hsz
      have hlti : ¬ (k1 : Int) < (L : Int) := by omega
      by_cases hs0 : sz = 0
      · have hsi : ¬ (0 : Int) < (sz : Int) := by omega
        clear hoi hfr
        have hldi : ¬ (len : Int) < (sz : Int) := by omega
        clear hs0
        clear hk hp hk1 ho hb6 hb7 HC H64
        go_enter Tryz.func7, Tryz.ntmps7
        go_upto_region 3 with fail
        clear hW0
        go_quiet (fail)
        go_wp2_with fail
        go_region
        all_goals (
          go_wp2_with fail
          obtain ⟨W1, hW1, e0, e1, hb1⟩ := pair_set (W := W0.drewN (nq + 1)) HD2.out (.int .u64 (p : Int)) (.int .u64 (18446744073709551615 : Int))
          rw [hW1]
          refine bodyPost_ret (v := .tuple #[.agg #[.int .u64 (p : Int), .int .u64 (18446744073709551615 : Int)], .int .u32 (b7 : Int)]) (by simp [results, Tryz.results7, go_sem, e0, e1]) rfl ⟨p, (18446744073709551615 : Nat), b7, rfl, HP64.out, (by decide), hb7l, (below_dr HB0.out _).trans (hb1.mono (by omega))⟩)
      · have hsi : (0 : Int) < (sz : Int) := by omega
        have hs0b : ((sz : Int) == 0) = false := by simp; omega
        obtain ⟨dd, hdd64, hdd⟩ := wrapU64 ((18446744073709551615 : Int) - (fr : Int))
        by_cases hld : len < dd
        · have hldi : (len : Int) < (dd : Int) := by omega
          obtain ⟨tt, htt64, htt⟩ := wrapU64 ((fr : Int) + (len : Int))
          clear hk hp hk1 ho hb6 hb7 HC H64
          go_enter Tryz.func7, Tryz.ntmps7
          go_upto_region 3 with fail
          clear hW0
          go_quiet (fail)
          go_wp2_with fail
          go_region
          all_goals (
            go_wp2_with fail
            obtain ⟨W1, hW1, e0, e1, hb1⟩ := pair_set (W := W0.drewN (nq + 1)) HD2.out (.int .u64 (fr : Int)) (.int .u64 (tt : Int))
            rw [hW1]
            refine bodyPost_ret (v := .tuple #[.agg #[.int .u64 (fr : Int), .int .u64 (tt : Int)], .int .u32 (b7 : Int)]) (by simp [results, Tryz.results7, go_sem, e0, e1]) rfl ⟨fr, tt, b7, rfl, hfr64, htt64, hb7l, (below_dr HB0.out _).trans (hb1.mono (by omega))⟩)
        · have hldi : ¬ (len : Int) < (dd : Int) := by omega
          clear hk hp hk1 ho hb6 hb7 HC H64
          go_enter Tryz.func7, Tryz.ntmps7
          go_upto_region 3 with fail
          clear hW0
          go_quiet (fail)
          go_wp2_with fail
          go_region
          all_goals (
            go_wp2_with fail
            obtain ⟨W1, hW1, e0, e1, hb1⟩ := pair_set (W := W0.drewN (nq + 1)) HD2.out (.int .u64 (fr : Int)) (.int .u64 (18446744073709551615 : Int))
            rw [hW1]
            refine bodyPost_ret (v := .tuple #[.agg #[.int .u64 (fr : Int), .int .u64 (18446744073709551615 : Int)], .int .u32 (b7 : Int)]) (by simp [results, Tryz.results7, go_sem, e0, e1]) rfl ⟨fr, (18446744073709551615 : Nat), b7, rfl, hfr64, (by decide), hb7l, (below_dr HB0.out _).trans (hb1.mono (by omega))⟩)
end Go.Proofs.YthcmcjoenepkbaaGreat
