/- Contracts: the library's iterators over rows of uint32 (Values, Backward) and over the keys of a map by uint64. Contracts on rows of numbers: slices.Clone, slices.Compact where nothing is twice, slices.BinarySearch. Plain: the hash as functions on numbers, so that the kernel can reckon them; and the identities by which both texts of it agree. Contracts: word.Put32, Put64, Get32, Get64, Turn. -/
import Derived.Test.YtggdkfijioeijaaGreatDoorQa00
import Derived.Test.YtggdkfijioeijaaGreatDoorQa03
import Derived.Test.YtggdkfijioeijaaGreatDoorQa04
import Derived.Sort.MapsRangeIn
import Derived.Maps.RangeWalk
import Derived.Maps.OwnIn
import Derived.Lib.SliceRun
import Derived.Laws.BytesArg
import Derived.Deep.OwnRows
namespace Go.Proofs.YtggdkfijioeijaaGreatDoor
open Go Go.RowKit Go.Maps Go.Sort Go.Shelf
attribute [local go_sem] Oper.semAt_some
set_option maxRecDepth 100000 in
set_option maxHeartbeats 2000000 in
theorem values1 (n : Nat) (hn : 1 ≤ n) (l Bs b off cap N : Nat) (zs : List Int) (hreach : N ≤ 1000000) (J Jx : List Int → World → Prop) (n₀ : Nat) (hb : b < n₀)
    (hY : ∀ pre x W, J pre W → pre.length < N → YieldAt Fence.wide (n - 1) Tryz.prog l #[.int .u32 x] W fun e W' =>
      (e = .returned (.bool true) ∧ J (pre ++ [x]) W' ∧ Below n₀ W W') ∨ (e = .returned (.bool false) ∧ Jx (pre ++ [x]) W'))
    (W : World) (hBs : W.cell? ⟨Bs, 0, none⟩ = some (.slice (some ⟨b, off, none⟩) N cap)) (hc : ∀ j, j < N → W.cell? ⟨b, off + j, none⟩ = some (.int .u32 (zs[j]?.getD 0))) (h0 : J [] W) :
    CallsIn Fence.wide n Tryz.prog 84 #[.func (.yield l) #[] #[], .pointer (some ⟨Bs, 0, none⟩)] W fun e W' => (∃ v, e = .returned v) ∧
      ((∃ ys, ys = upto (fun j => zs[j]?.getD 0) N ∧ J ys W') ∨ (∃ pre, (∃ k, k ≤ N ∧ pre = upto (fun j => zs[j]?.getD 0) k) ∧ Jx pre W')) := by
  refine callsIn_of_wp Tryz.func84 rfl trivial ?_ rfl
  simp only [Tryz.ntmps84, List.size_toArray, List.length_cons, List.length_nil, Nat.reduceAdd, Nat.reduceSub, Array.replicate_succ, Array.replicate_zero, List.push_toArray, List.append_toArray, List.nil_append, List.cons_append]
  gi_wp2
  gi_loopw [7] (fun i wr => ∃ k : Nat, k ≤ N ∧ i = .int .i64 k ∧ J (upto (fun j => zs[j]?.getD 0) k) wr ∧ Below n₀ W wr)
    (fun i _ => N - (intOf i).toNat)
  case atStart => exact ⟨0, Nat.zero_le _, rfl, h0, Below.refl _ _⟩
  case round =>
    obtain ⟨k, hk, rfl, hJs, hnx⟩ := hrel
    have hcx : k < N → wr.cell? ⟨b, off + k, none⟩ = some (.int .u32 (zs[k]?.getD 0)) := fun h => (hnx.cell (p := ⟨b, off + k, none⟩) hb).trans (hc k h)
    by_cases hlt : k < N
    · obtain ⟨fn, tmps, assign, body, hy, hR⟩ := hY _ (zs[k]?.getD 0) wr hJs (by rw [upto_length]; exact hlt)
      have hcx' := hcx hlt
      gi_wp2
      refine hR.mono ?_
      rintro e W3 (⟨rfl, hJ3, hk3⟩ | ⟨rfl, hJx3⟩)
      · gi_wp2
        go_roundw
        case rel => exact ⟨k + 1, by omega, by simp, by rw [upto_succ]; exact hJ3, hnx.trans hk3⟩
        case measure => simp [intOf]; omega
      · gi_wp2
        refine bodyPost_ret (results_none rfl _ _ _) rfl ?_
        exact ⟨⟨_, rfl⟩, .inr ⟨_, ⟨k + 1, by omega, (upto_succ _ _).symm⟩, hJx3⟩⟩
    · obtain rfl : k = N := by omega
      gi_wp2
      go_end0
      exact ⟨⟨_, rfl⟩, .inl ⟨_, rfl, hJs⟩⟩

set_option maxHeartbeats 1000000 in
theorem values_call (a : Option Addr) (len cap : Nat) (w : World) :
    Calls Tryz.prog 57 #[.slice a len cap] w fun e w' => e = .returned (.func (.func 84) #[] #[.pointer (some ⟨w.heap.size, 0, none⟩)]) ∧ w' = w.alloc (.cells #[.slice a len cap] 64) := by
  go_enter Tryz.func57, Tryz.ntmps57
  go_wp2
  go_ret
  exact ⟨rfl, rfl⟩

theorem values_stops (n : Nat) (hn : 1 ≤ n) (Bs n₀ : Nat) (b off cap : Nat) (zs : List Int) (hreach : zs.length ≤ 1000000) (w : World) (hBs : Bs < w.heap.size) (hn₀ : n₀ ≤ w.heap.size) (hb : b < n₀)
    (hc : w.cell? ⟨Bs, 0, none⟩ = some (.slice (some ⟨b, off, none⟩) zs.length cap)) (hI : ∀ j, j < zs.length → w.cell? ⟨b, off + j, none⟩ = some (.int .u32 (zs.getD j 0))) :
    SeqStopsK Fence.wide n Tryz.prog 84 #[.pointer (some ⟨Bs, 0, none⟩)] (fun x : Int => #[Value.int .u32 x]) (Below n₀) (fun ys => ys = zs) (fun _pre => True) zs.length w := fun l J Jx W hW _ _ hY h0 => by
  refine (values1 n hn l Bs b off cap zs.length zs hreach J Jx n₀ hb hY W ((hW.cell (p := ⟨Bs, 0, none⟩) hBs).trans hc) (fun j hj => ?_) h0).mono ?_
  · rw [(hW.cell (p := ⟨b, off + j, none⟩) (by show b < _; omega)), hI j hj, List.getD_eq_getElem?_getD]
  · rintro e W' ⟨he, h | ⟨pre, _, h⟩⟩
    · obtain ⟨ys, rfl, h⟩ := h
      exact ⟨he, .inl ⟨_, upto_all zs 0, h⟩⟩
    · exact ⟨he, .inr ⟨pre, trivial, h⟩⟩

set_option maxHeartbeats 1000000 in
theorem backward_call (a : Option Addr) (len cap : Nat) (w : World) :
    Calls Tryz.prog 59 #[.slice a len cap] w fun e w' => e = .returned (.func (.func 85) #[] #[.pointer (some ⟨w.heap.size, 0, none⟩)]) ∧ w' = w.alloc (.cells #[.slice a len cap] 64) := by
  go_enter Tryz.func59, Tryz.ntmps59
  go_wp2
  go_ret
  exact ⟨rfl, rfl⟩

abbrev kN (x : Int) : Lit := .int .u64 x
def CollU {H : Type} (D0 : DataW H) (left : Lit → Bool) (ss : List Int) : Prop := ss.Nodup ∧ ∀ x, x ∈ ss ↔ (has D0 (kN x) = true ∧ left (kN x) = false)
theorem CollU.start {H : Type} (D0 : DataW H) : CollU D0 (has D0) [] := ⟨List.nodup_nil, fun x => by cases has D0 (kN x) <;> simp⟩
theorem CollU.step {H : Type} {D0 : DataW H} {left : Lit → Bool} {ss : List Int} (h : CollU D0 left ss) {x : Int} {y : DataW H} (hlk : left (kN x) = true) (hat : ∀ zd, D0.atKey (kN x) zd = y) : CollU D0 (fun z => left z && !z.sameKey (kN x)) (ss ++ [x]) := by
  refine ⟨List.nodup_append.2 ⟨h.1, by simp, fun a ha c hc e => ?_⟩, fun y' => ?_⟩
  · have : c = x := by simpa using hc
    subst e; subst this
    have := ((h.2 a).1 ha).2
    rw [hlk] at this; cases this
  · rw [List.mem_append, h.2 y']
    by_cases e : y' = x
    · subst e
      simp [Lit.sameKey, Maps.has_true_of_atKey hat]
    · have : (kN y').sameKey (kN x) = false := by simp [Lit.sameKey, e]
      simp [this, e]

set_option maxRecDepth 100000 in
set_option maxHeartbeats 1000000 in
theorem keys1 {H : Type} (n : Nat) (hn : 1 ≤ n) (l Bm b nn : Nat) (D0 : DataW H) {R : Value → Option (DataW H × List MemPlace)} (J Jx : List Int → World → Prop)
    (hY : ∀ pre x W, J pre W → pre.length < Maps.size D0 → YieldAt Fence.wide (n - 1) Tryz.prog l #[.int .u64 x] W fun e W' =>
      (e = .returned (.bool true) ∧ J (pre ++ [x]) W' ∧ KeepsWalks W W') ∨ (e = .returned (.bool false) ∧ Jx (pre ++ [x]) W'))
    (W : World) (hJ : AbidesFrom W.heap.size J) (hm : W.cell? ⟨Bm, 0, none⟩ = some (.map (some b))) (hown : W.ownsMap Tryz.prog 25 R b nn D0) (h0 : J [] W) :
    CallsIn Fence.wide n Tryz.prog 89 #[.func (.yield l) #[] #[], .pointer (some ⟨Bm, 0, none⟩)] W fun e W' => (∃ v, e = .returned v) ∧
      ((∃ ss : List Int, (ss.Nodup ∧ (∀ x, x ∈ ss ↔ has D0 (kN x) = true) ∧ ss.length ≤ Maps.size D0) ∧ J ss W') ∨ (∃ pre : List Int, True ∧ Jx pre W')) := by
  refine callsIn_of_wp Tryz.func89 rfl trivial ?_ rfl
  simp only [Tryz.ntmps89, List.size_toArray, List.length_cons, List.length_nil, Nat.reduceAdd, Nat.reduceSub, Array.replicate_succ, Array.replicate_zero, List.push_toArray, List.append_toArray, List.nil_append, List.cons_append]
  gi_wp2_with (first
    | (gi_at_range; refine wpListIn_range_own _ rfl _ 130 rfl 25 28 (int_keyed Tryz.underlying25) Tryz.underlying130 _ b nn _ rfl hown ?_; intro w0 hrg0 hg0 hs0)
    | gi_in)
  go_frame
  gi_loopw [3] (fun _ wr => ∃ (left : Lit → Bool) (cnt : Nat) (ss : List Int), wr.ranges Tryz.prog 25 R b W.heap.size nn D0 left cnt ∧ ss.length + cnt ≤ Maps.size D0 ∧ CollU D0 left ss ∧ J ss wr)
    (fun _ wr => wr.rangeLeft b W.heap.size)
  case atStart =>
    exact ⟨_, _, [], hrg0, by simp, CollU.start D0, hJ [] W w0 none h0 hg0 (fun r e => by cases e)⟩
  case round =>
    obtain ⟨left, cnt, ss, hrg, hcs, hC, hJs⟩ := hrel
    gi_wp2_with (first
      | (gi_at_next; refine wpListIn_next_ranges _ rfl _ rfl 25 (int_keyed Tryz.underlying25) R (Value.int .u64) id (fun key kl hk => by obtain ⟨x, hx, _⟩ := Maps.keyOf_int_inv Tryz.underlying25 hk; exact ⟨x, hx⟩) (fun v _ _ => ⟨v, rfl⟩) b W.heap.size nn _ _ _ rfl hrg ?_ ?_)
      | gi_in)
    · intro hc0 hl0
      gi_wp2
      go_end0
      exact ⟨⟨_, rfl⟩, .inl ⟨ss, ⟨hC.1, fun x => by rw [hC.2 x, hl0]; simp, by omega⟩, hJs⟩⟩
    · intro x c kl yd yp w2 cnt2 hkey hlk hv hat hrg2 hlt hg2 hs2 hen
      obtain ⟨x', ex, rfl, _⟩ := Maps.keyOf_int_inv Tryz.underlying25 hkey
      obtain rfl : x = x' := by simpa using ex
      have hJ2 : J ss w2 := hJ ss wr w2 (some W.heap.size) hJs hg2 (fun r e => by cases e; exact ⟨Nat.le_refl _, hrg.iter_walk⟩)
      obtain ⟨fn, tmps, assign, body, hy, hR⟩ := hY ss x w2 hJ2 (by omega)
      clear hs2
      gi_wp2
      refine hR.mono ?_
      have hC2 := hC.step hlk hat
      rintro e W3 (⟨rfl, hJ3, hk3⟩ | ⟨rfl, hJx3⟩)
      · gi_wp2
        have hrg3 := hrg2.of_walks hk3
        go_roundw
        case rel => exact ⟨_, cnt2, ss ++ [x], hrg3, by simp; omega, hC2, hJ3⟩
        case measure => rw [hrg3.left_eq, hrg.left_eq]; exact hlt
      · gi_wp2
        refine bodyPost_ret (results_none rfl _ _ _) rfl ?_
        exact ⟨⟨_, rfl⟩, .inr ⟨ss ++ [x], trivial, hJx3⟩⟩

theorem keys_stops {H : Type} (n : Nat) (hn : 1 ≤ n) (Bm b nn : Nat) (D0 : DataW H) {R : Value → Option (DataW H × List MemPlace)} (w : World) (hBm : Bm < w.heap.size)
    (hm : w.cell? ⟨Bm, 0, none⟩ = some (.map (some b))) (hown : w.ownsMap Tryz.prog 25 R b nn D0) :
    SeqStopsK Fence.wide n Tryz.prog 89 #[.pointer (some ⟨Bm, 0, none⟩)] (fun x : Int => #[Value.int .u64 x]) KeepsWalks (fun ss => ss.Nodup ∧ (∀ x, x ∈ ss ↔ has D0 (kN x) = true) ∧ ss.length ≤ Maps.size D0) (fun _ => True) (Maps.size D0) w := fun l J Jx W hW hJ _ hY h0 => by
  have hown' : W.ownsMap Tryz.prog 25 R b nn D0 := by
    have hbl := hown.lt
    obtain ⟨es, clock, hb, Ft, hs, hD⟩ := hown
    exact ⟨es, clock, (hW.block b hbl).trans hb, Ft, hs, hD⟩
  exact keys1 n hn l Bm b nn D0 J Jx hY W hJ ((hW.cell (p := ⟨Bm, 0, none⟩) hBm).trans hm) hown' h0

set_option maxHeartbeats 1000000 in
theorem keys_call (b : Option Nat) (w : World) :
    Calls Tryz.prog 62 #[.map b] w fun e w' => e = .returned (.func (.func 89) #[] #[.pointer (some ⟨w.heap.size, 0, none⟩)]) ∧ w' = w.alloc (.cells #[.map b] 130) := by
  go_enter Tryz.func62, Tryz.ntmps62
  go_wp2
  go_ret
  exact ⟨rfl, rfl⟩
end Go.Proofs.YtggdkfijioeijaaGreatDoor

namespace Go.Proofs.YtggdkfijioeijaaGreatDoor
open Go Go.RowKit Go.Sort
theorem addrAdd1 (b off j : Nat) : (⟨b, off, none⟩ : Addr).add j = ⟨b, off + j, none⟩ := by simp [Addr.add]
theorem below_dr {B : Nat} {w w' : World} (h : Below B w w') (n : Nat) : Below B w (w'.drewN n) := ⟨h.os, h.tape, h.output, h.size, h.block⟩
set_option maxHeartbeats 1000000 in
theorem isNaN64 (x : Int) (w : World) : Calls Tryz.prog 156 #[.int .u64 x] w fun e w' => e = .returned (.bool false) ∧ w' = w := by
  go_enter Tryz.func156, Tryz.ntmps156
  go_wp2
  go_ret
  exact ⟨by simp, rfl⟩
theorem ownsRow_empty1 (w : World) (e : TypeId) : (w.alloc (.cells #[] e)).ownsRow w.heap.size e 1 (.slice (some ⟨w.heap.size, 0, none⟩) 0 0) 0 [] :=
  ⟨rfl, Or.inr ⟨w.heap.size, 0, #[], rfl, Nat.le_refl _, (MapKept.heap_alloc w _).1, Nat.le_refl _, Nat.zero_le _, rfl, rfl⟩⟩

set_option maxRecDepth 100000 in
set_option maxHeartbeats 1000000 in
theorem clone32 (L : List Int) (b off cap : Nat) (w : World) (hb : b < w.heap.size) (hc : ∀ i, i < L.length → w.cell? ⟨b, off + i, none⟩ = some (.int .u32 (L.getD i 0))) (hl : L.length ≤ 1000000) :
    Calls Tryz.prog 58 #[.slice (some ⟨b, off, none⟩) L.length cap] w fun e w' => ∃ v, e = .returned v ∧ w'.ownsRow w.heap.size 28 1 v L.length (L.map (Value.int .u32)) ∧ Below w.heap.size w w' := by
  obtain ⟨i0, hi, hz0, hz1, hz2⟩ := info_parts uint32_info
  have hne := fun w => Lib.run_eql_slice_nil (P := Tryz.prog) w 64 28 (some ⟨b, off, none⟩) L.length cap 0 0 Tryz.underlying64
  have hnews : ∀ j u, (L.map (Value.int .u32))[j]? = some u → (w.alloc (.cells #[] 28)).cell? ((⟨b, off, none⟩ : Addr).add j) = some u := by
    intro j u hu
    rw [addrAdd1, World.cell?_alloc_past _ _ _ hb]
    rw [List.getElem?_map] at hu
    cases hj : L[j]? with
    | none => rw [hj] at hu; cases hu
    | some x =>
      rw [hj] at hu; cases hu
      rw [hc j (List.getElem?_eq_some_iff.1 hj).1, List.getD_eq_getElem?_getD, hj]; rfl
  have Hnews := Lib.hid hnews; clear hnews hc
  go_enter Tryz.func58, Tryz.ntmps58
  go_wp2_with (at_builtin; refine wpList_append_own _ rfl _ _ 64 rfl w.heap.size 28 i0 (.int .u32 0) 1 4 Tryz.underlying64 hi hz0 hz1 hz2 rfl (by decide) _ _ _ rfl (ownsRow_empty1 _ _) ⟨b, off, none⟩ L.length cap (L.map (Value.int .u32)) rfl (by simp) Hnews.out (by intro u hu; obtain ⟨x, _, rfl⟩ := List.mem_map.1 hu; rfl) (by unfold maxLen; omega) (by omega) (by simp) ?_; intro v' w1 hown' hgrow _hnil; have Hb := Lib.hid (((Below.refl w.heap.size w).alloc (Nat.le_refl _) (.cells #[] 28)).grown hgrow (by simp) (fun k h => by cases h; exact Nat.le_refl _)); simp only [Nat.zero_add, List.nil_append] at hown'; clear hgrow _hnil)
  go_ret
  exact ⟨_, rfl, hown', Hb.out⟩

set_option maxRecDepth 100000 in
set_option maxHeartbeats 1000000 in
theorem compact_none (L : List Int) (N b off cap : Nat) (_hN : L.length = N) (w : World) (hb : b < w.heap.size) (hc : ∀ i, i < N → w.cell? ⟨b, off + i, none⟩ = some (.int .u32 (L.getD i 0))) (hl : N ≤ 1000000) (hd : ∀ i, i + 1 < N → L.getD (i + 1) 0 ≠ L.getD i 0) :
    Calls Tryz.prog 45 #[.slice (some ⟨b, off, none⟩) N cap] w fun e w' => e = .returned (.slice (some ⟨b, off, none⟩) N cap) ∧ Below w.heap.size w w' := by
  clear _hN
  obtain ⟨G, hG⟩ : ∃ G : Nat → Int, ∀ t, L.getD t 0 = G t := ⟨fun t => L.getD t 0, fun _ => rfl⟩
  simp only [hG] at hc hd
  have Hc := Lib.hid hc; have Hd := Lib.hid hd; clear hc hd hG
  by_cases h2 : N < 2
  · go_enter Tryz.func45, Tryz.ntmps45
    go_wp2
    go_ret
    exact ⟨rfl, Below.refl _ _⟩
  · have h2z : ¬ ((N : Int) < 2) := by omega
    go_enter Tryz.func45, Tryz.ntmps45
    go_wp2_with fail
    go_loopw [3] (fun i wr => ∃ k : Nat, 1 ≤ k ∧ k ≤ N ∧ i = .int .i64 k ∧ Hid (Below w.heap.size w wr)) (fun i _ => N - (intOf i).toNat)
    case atStart => exact ⟨1, Nat.le_refl _, by omega, rfl, Lib.hid (Below.refl _ _)⟩
    case round =>
      obtain ⟨k, hk1, hk, rfl, Hbw⟩ := hrel
      by_cases hlt : k < N
      · have c1 := (Hbw.out.cell (p := ⟨b, off + k, none⟩) hb).trans (Hc.out k hlt)
        have c2 := (Hbw.out.cell (p := ⟨b, off + (k - 1), none⟩) hb).trans (Hc.out (k - 1) (by omega))
        have hne := Hd.out (k - 1) (by omega)
        rw [show k - 1 + 1 = k by omega] at hne
        have hneb : (G k == G (k - 1)) = false := by simpa using hne
        go_wp2_with fail
        go_quiet (fail)
        go_wp2_with fail
        go_roundw
        case rel => exact ⟨k + 1, by omega, by omega, by go_num, Lib.hid (Hbw.out.trans (below_dr (Below.refl _ _) _))⟩
        case measure => simp [intOf]; omega
      · have hge : ¬ ((k : Int) < (N : Int)) := by omega
        go_wp2_with fail
        go_ret
        exact ⟨rfl, Hbw.out⟩

def Spot (L : List Int) (h : Int) (i : Nat) : Prop := i ≤ L.length ∧ (∀ j, j < i → L.getD j 0 < h) ∧ ∀ j, i ≤ j → j < L.length → h ≤ L.getD j 0

set_option maxRecDepth 100000 in
set_option maxHeartbeats 2000000 in
theorem search64 (L : List Int) (h : Int) (b off cap : Nat) (w : World) (hb : b < w.heap.size) (hc : ∀ i, i < L.length → w.cell? ⟨b, off + i, none⟩ = some (.int .u64 (L.getD i 0))) (hl : L.length ≤ 1000000) (hs : L.Pairwise (· ≤ ·)) :
    Calls Tryz.prog 122 #[.slice (some ⟨b, off, none⟩) L.length cap, .int .u64 h] w fun e w' => ∃ (i : Nat) (f : Bool), e = .returned (.tuple #[.int .i64 i, .bool f]) ∧ Spot L h i ∧ Below w.heap.size w w' := by
  obtain ⟨N, hN⟩ : ∃ N, L.length = N := ⟨_, rfl⟩
  obtain ⟨G, hG⟩ : ∃ G : Nat → Int, ∀ t, L.getD t 0 = G t := ⟨fun t => L.getD t 0, fun _ => rfl⟩
  have hmono : ∀ i j, i ≤ j → j < N → G i ≤ G j := by
    intro i j hij hj
    rw [← hG, ← hG, List.getD_eq_getElem?_getD, List.getD_eq_getElem?_getD, List.getElem?_eq_getElem (by omega), List.getElem?_eq_getElem (by omega)]
    rcases Nat.lt_or_ge i j with h1 | h1
    · exact List.pairwise_iff_getElem.1 hs i j (by omega) (by omega) h1
    · obtain rfl : i = j := by omega
      exact Int.le_refl _
  have hfin : ∀ i : Nat, i ≤ N → (∀ j, j < i → G j < h) → (∀ j, i ≤ j → j < N → h ≤ G j) → Spot L h i := fun i h1 h2 h3 => ⟨by omega, fun j hj => by rw [hG]; exact h2 j hj, fun j h4 h5 => by rw [hG]; exact h3 j h4 (by omega)⟩
  simp only [hG] at hc
  rw [hN] at hc hl ⊢
  have HM := Lib.hid hmono; have HF := Lib.hid hfin; have Hc := Lib.hid hc
  clear hmono hfin hc hG hN hs
  go_enter Tryz.func122, Tryz.ntmps122
  go_wp2_with fail
  go_loopw [7, 8] (fun vi vj wr => ∃ i j : Nat, vi = .int .i64 i ∧ vj = .int .i64 j ∧ i ≤ j ∧ j ≤ N ∧ Hid (∀ t, t < i → G t < h) ∧ Hid (∀ t, j ≤ t → t < N → h ≤ G t) ∧ Hid (Below w.heap.size w wr)) (fun vi vj _ => (intOf vj).toNat - (intOf vi).toNat)
  case atStart => exact ⟨0, N, rfl, rfl, Nat.zero_le _, Nat.le_refl _, Lib.hid (fun t ht => by omega), Lib.hid (fun t h1 h2 => by omega), Lib.hid (Below.refl _ _)⟩
  case round =>
    obtain ⟨i, j, rfl, rfl, hij, hjN, HA, HB, Hbw⟩ := hrel
    by_cases hlt : i < j
    · obtain ⟨m, hm, hm1, hm2⟩ : ∃ m : Nat, ((i : Int) + (j : Int)) / 2 = (m : Int) ∧ i ≤ m ∧ m < j := ⟨(i + j) / 2, by omega, by omega, by omega⟩
      have cm := (Hbw.out.cell (p := ⟨b, off + m, none⟩) hb).trans (Hc.out m (by omega))
      go_wp2_with (go_at_call 153; refine (uint64_less _ _ _).mono ?_; rintro e w' ⟨rfl, rfl⟩)
      · have hl : ltInt (G m) h = true := by assumption
        have HL := Lib.hid hl; clear hl
        go_roundw
        case rel =>
          refine ⟨m + 1, j, by go_num, rfl, by omega, hjN, Lib.hid (fun t ht => ?_), HB, Hbw⟩
          have h1 := HM.out t m (by omega) (by omega)
          have h2 := HL.out
          simp only [ltInt, decide_eq_true_eq] at h2
          omega
        case measure => simp [intOf]; omega
      · have hl : ltInt (G m) h = false := by assumption
        have HL := Lib.hid hl; clear hl
        go_roundw
        case rel =>
          refine ⟨i, m, rfl, rfl, by omega, by omega, HA, Lib.hid (fun t ht1 ht2 => ?_), Hbw⟩
          have h1 := HM.out m t ht1 ht2
          have h2 := HL.out
          simp only [ltInt, decide_eq_false_iff_not] at h2
          omega
        case measure => simp [intOf]; omega
    · obtain rfl : i = j := by omega
      have HS := Lib.hid (HF.out i hjN HA.out HB.out)
      by_cases hiN : i < N
      · have cm := (Hbw.out.cell (p := ⟨b, off + i, none⟩) hb).trans (Hc.out i hiN)
        by_cases hq : G i = h
        · have hqb : (G i == h) = true := by simpa using hq
          have hiz : (i : Int) < (N : Int) := by omega
          go_wp2_with (go_at_call 156; refine (isNaN64 _ _).mono ?_; rintro e w' ⟨rfl, rfl⟩)
          go_ret2
          exact ⟨i, _, rfl, HS.out, Hbw.out⟩
        · have hqb : (G i == h) = false := by simpa using hq
          have hiz : (i : Int) < (N : Int) := by omega
          go_wp2_with (go_at_call 156; refine (isNaN64 _ _).mono ?_; rintro e w' ⟨rfl, rfl⟩)
          go_ret2
          exact ⟨i, _, rfl, HS.out, Hbw.out⟩
      · have hiz : decide ((i : Int) < (N : Int)) = false := decide_eq_false (by omega)
        go_wp2_with (go_at_call 156; refine (isNaN64 _ _).mono ?_; rintro e w' ⟨rfl, rfl⟩)
        go_ret2
        exact ⟨i, _, rfl, HS.out, Hbw.out⟩
end Go.Proofs.YtggdkfijioeijaaGreatDoor

namespace Go.Proofs.YtggdkfijioeijaaGreatDoor.Sh
abbrev M32 : Nat := 4294967296
def turn (n k : Nat) : Nat := n / 2 ^ k ||| n * 2 ^ (32 - k) % M32
theorem turn_lt {n k : Nat} (h : n < M32) : turn n k < M32 := by
  unfold turn
  have h1 : n / 2 ^ k < 2 ^ 32 := Nat.lt_of_le_of_lt (Nat.div_le_self _ _) h
  exact Nat.or_lt_two_pow (n := 32) h1 (Nat.mod_lt _ (by decide))
theorem turn_bit {n k j : Nat} (h : n < M32) (hk : 0 < k) (hk2 : k < 32) (hj : j < 32) : (turn n k).testBit j = n.testBit ((j + k) % 32) := by
  unfold turn
  rw [Nat.testBit_or, Nat.testBit_div_two_pow, show M32 = 2 ^ 32 from rfl, Nat.testBit_mod_two_pow, Nat.testBit_mul_two_pow]
  have hn : ∀ i, 32 ≤ i → n.testBit i = false := fun i hi => Nat.testBit_lt_two_pow (Nat.lt_of_lt_of_le h (Nat.pow_le_pow_right (n := 2) (i := 32) (by decide) hi))
  by_cases hc : j + k < 32
  · rw [Nat.mod_eq_of_lt hc, show decide (j ≥ 32 - k) = false from decide_eq_false (by omega)]
    simp [hj, Nat.add_comm]
  · rw [show (j + k) % 32 = j - (32 - k) by omega, show decide (j ≥ 32 - k) = true from decide_eq_true (by omega), hn (j + k) (by omega)]
    simp [hj]
theorem turn_of_bits {n k m : Nat} (h : n < M32) (hk : 0 < k) (hk2 : k < 32) (hm : m < M32) (hb : ∀ j, j < 32 → m.testBit j = n.testBit ((j + k) % 32)) : m = turn n k := by
  refine Nat.eq_of_testBit_eq fun j => ?_
  by_cases hj : j < 32
  · rw [hb j hj, turn_bit h hk hk2 hj]
  · rw [Nat.testBit_lt_two_pow (Nat.lt_of_lt_of_le hm (Nat.pow_le_pow_right (n := 2) (i := 32) (by decide) (by omega))),
      Nat.testBit_lt_two_pow (Nat.lt_of_lt_of_le (turn_lt h) (Nat.pow_le_pow_right (n := 2) (i := 32) (by decide) (by omega)))]

def three (x a b c : Nat) : Nat := turn x a ^^^ turn x b ^^^ turn x c
theorem xor_lt {a b : Nat} (ha : a < M32) (hb : b < M32) : a ^^^ b < M32 := Nat.xor_lt_two_pow (n := 32) ha hb
theorem and_lt {a b : Nat} (ha : a < M32) : a &&& b < M32 := Nat.lt_of_le_of_lt Nat.and_le_left ha
theorem or_lt {a b : Nat} (ha : a < M32) (hb : b < M32) : a ||| b < M32 := Nat.or_lt_two_pow (n := 32) ha hb
theorem three_lt {x a b c : Nat} (h : x < M32) : three x a b c < M32 := xor_lt (xor_lt (turn_lt h) (turn_lt h)) (turn_lt h)
def sig0 (x : Nat) : Nat := turn x 7 ^^^ turn x 18 ^^^ x / 8
def sig1 (x : Nat) : Nat := turn x 17 ^^^ turn x 19 ^^^ x / 1024
theorem div_lt {x k : Nat} (h : x < M32) : x / k < M32 := Nat.lt_of_le_of_lt (Nat.div_le_self _ _) h
theorem sig0_lt {x : Nat} (h : x < M32) : sig0 x < M32 := xor_lt (xor_lt (turn_lt h) (turn_lt h)) (div_lt h)
theorem sig1_lt {x : Nat} (h : x < M32) : sig1 x < M32 := xor_lt (xor_lt (turn_lt h) (turn_lt h)) (div_lt h)
def ch (e f g : Nat) : Nat := g ^^^ (e &&& (f ^^^ g))
def maj (a b c : Nat) : Nat := a &&& b ||| c &&& (a ||| b)
theorem high {e j : Nat} (he : e < M32) (hj : ¬ j < 32) : e.testBit j = false := Nat.testBit_lt_two_pow (Nat.lt_of_lt_of_le he (Nat.pow_le_pow_right (n := 2) (i := 32) (j := j) (by decide) (by omega)))
theorem ch_eq {e f g : Nat} (he : e < M32) (hf : f < M32) (hg : g < M32) : (e &&& f) ^^^ ((M32 - 1 - e) &&& g) = ch e f g := by
  refine Nat.eq_of_testBit_eq fun j => ?_
  unfold ch
  have hx : (M32 - 1 - e).testBit j = (decide (j < 32) && !e.testBit j) := by
    have := Nat.testBit_two_pow_sub_succ (n := 32) (x := e) he j
    rw [show M32 - 1 - e = 2 ^ 32 - (e + 1) by show 4294967296 - 1 - e = 4294967296 - (e + 1); omega]
    exact this
  simp only [Nat.testBit_xor, Nat.testBit_and, hx]
  by_cases hj : j < 32
  · cases e.testBit j <;> cases f.testBit j <;> cases g.testBit j <;> simp [hj]
  · simp [hj, high he hj, high hf hj, high hg hj]
theorem maj_eq (a b c : Nat) : (a &&& b) ^^^ (a &&& c) ^^^ (b &&& c) = maj a b c := by
  refine Nat.eq_of_testBit_eq fun j => ?_
  unfold maj
  simp only [Nat.testBit_xor, Nat.testBit_and, Nat.testBit_or]
  cases a.testBit j <;> cases b.testBit j <;> cases c.testBit j <;> rfl
theorem ch_lt {e f g : Nat} (he : e < M32) (_hf : f < M32) (hg : g < M32) : ch e f g < M32 := xor_lt hg (and_lt he)
theorem maj_lt {a b c : Nat} (ha : a < M32) (_hb : b < M32) (hc : c < M32) : maj a b c < M32 := or_lt (and_lt ha) (and_lt hc)

def word (b : List Nat) (t : Nat) : Nat := ((b.getD (4 * t) 0 * 256 + b.getD (4 * t + 1) 0) * 256 + b.getD (4 * t + 2) 0) * 256 + b.getD (4 * t + 3) 0
def next (w : List Nat) (t : Nat) : Nat := (w.getD (t - 16) 0 + sig0 (w.getD (t - 15) 0) + w.getD (t - 7) 0 + sig1 (w.getD (t - 2) 0)) % M32
def words (b : List Nat) : Nat → List Nat
  | 0 => []
  | n + 1 => words b n ++ [if n < 16 then word b n else next (words b n) n]
theorem words_length (b : List Nat) (n : Nat) : (words b n).length = n := by
  induction n with
  | zero => rfl
  | succ n ih => simp [words, ih]
def Bytes (b : List Nat) : Prop := ∀ x ∈ b, x < 256
theorem Bytes.getD {b : List Nat} (h : Bytes b) (k : Nat) : b.getD k 0 < 256 := by
  rw [List.getD_eq_getElem?_getD]
  cases hb : b[k]? with
  | none => simp
  | some x => exact h x (List.mem_of_getElem? hb)
theorem word_lt {b : List Nat} (h : Bytes b) (t : Nat) : word b t < M32 := by
  have h0 := h.getD (4 * t); have h1 := h.getD (4 * t + 1); have h2 := h.getD (4 * t + 2); have h3 := h.getD (4 * t + 3)
  unfold word; show _ < 4294967296; omega
theorem words_lt {b : List Nat} (h : Bytes b) (n : Nat) : ∀ x ∈ words b n, x < M32 := by
  induction n with
  | zero => intro x hx; cases hx
  | succ n ih =>
    intro x hx
    rw [words, List.mem_append, List.mem_singleton] at hx
    rcases hx with hx | rfl
    · exact ih x hx
    · split
      · exact word_lt h n
      · exact Nat.mod_lt _ (by decide)
theorem words_getD (b : List Nat) {n k : Nat} (hk : k < n) : (words b n).getD k 0 = if k < 16 then word b k else next (words b k) k := by
  induction n with
  | zero => omega
  | succ n ih =>
    rw [words, List.getD_eq_getElem?_getD]
    by_cases e : k = n
    · subst e
      rw [List.getElem?_append_right (by rw [words_length]; omega), words_length, Nat.sub_self]; rfl
    · rw [List.getElem?_append_left (by rw [words_length]; omega), ← List.getD_eq_getElem?_getD, ih (by omega)]
theorem words_getD_lt {b : List Nat} (h : Bytes b) (n k : Nat) : (words b n).getD k 0 < M32 := by
  rw [List.getD_eq_getElem?_getD]
  cases hb : (words b n)[k]? with
  | none => decide
  | some x => exact words_lt h n x (List.mem_of_getElem? hb)

structure S8 where
  (a b c d e f g h : Nat)
structure S8.Ok (s : S8) : Prop where
  a : s.a < M32
  b : s.b < M32
  c : s.c < M32
  d : s.d < M32
  e : s.e < M32
  f : s.f < M32
  g : s.g < M32
  h : s.h < M32
def rnd (s : S8) (k w : Nat) : S8 :=
  let x := (s.h + three s.e 6 11 25 + ch s.e s.f s.g + k + w) % M32
  let y := (three s.a 2 13 22 + maj s.a s.b s.c) % M32
  ⟨(x + y) % M32, s.a, s.b, s.c, (s.d + x) % M32, s.e, s.f, s.g⟩
theorem rnd_ok {s : S8} (h : s.Ok) (k w : Nat) : (rnd s k w).Ok := ⟨Nat.mod_lt _ (by decide), h.a, h.b, h.c, Nat.mod_lt _ (by decide), h.e, h.f, h.g⟩
def ks : List Nat := [
  0x428a2f98, 0x71374491, 0xb5c0fbcf, 0xe9b5dba5, 0x3956c25b, 0x59f111f1, 0x923f82a4, 0xab1c5ed5,
  0xd807aa98, 0x12835b01, 0x243185be, 0x550c7dc3, 0x72be5d74, 0x80deb1fe, 0x9bdc06a7, 0xc19bf174,
  0xe49b69c1, 0xefbe4786, 0x0fc19dc6, 0x240ca1cc, 0x2de92c6f, 0x4a7484aa, 0x5cb0a9dc, 0x76f988da,
  0x983e5152, 0xa831c66d, 0xb00327c8, 0xbf597fc7, 0xc6e00bf3, 0xd5a79147, 0x06ca6351, 0x14292967,
  0x27b70a85, 0x2e1b2138, 0x4d2c6dfc, 0x53380d13, 0x650a7354, 0x766a0abb, 0x81c2c92e, 0x92722c85,
  0xa2bfe8a1, 0xa81a664b, 0xc24b8b70, 0xc76c51a3, 0xd192e819, 0xd6990624, 0xf40e3585, 0x106aa070,
  0x19a4c116, 0x1e376c08, 0x2748774c, 0x34b0bcb5, 0x391c0cb3, 0x4ed8aa4a, 0x5b9cca4f, 0x682e6ff3,
  0x748f82ee, 0x78a5636f, 0x84c87814, 0x8cc70208, 0x90befffa, 0xa4506ceb, 0xbef9a3f7, 0xc67178f2]
def rounds (s : S8) (w : List Nat) : Nat → S8
  | 0 => s
  | n + 1 => rnd (rounds s w n) (ks.getD n 0) (w.getD n 0)
theorem rounds_ok {s : S8} (h : s.Ok) (w : List Nat) (n : Nat) : (rounds s w n).Ok := by
  induction n with
  | zero => exact h
  | succ n ih => exact rnd_ok ih _ _
def plus (s r : S8) : S8 := ⟨(s.a + r.a) % M32, (s.b + r.b) % M32, (s.c + r.c) % M32, (s.d + r.d) % M32, (s.e + r.e) % M32, (s.f + r.f) % M32, (s.g + r.g) % M32, (s.h + r.h) % M32⟩
theorem plus_ok (s r : S8) : (plus s r).Ok := ⟨Nat.mod_lt _ (by decide), Nat.mod_lt _ (by decide), Nat.mod_lt _ (by decide), Nat.mod_lt _ (by decide), Nat.mod_lt _ (by decide), Nat.mod_lt _ (by decide), Nat.mod_lt _ (by decide), Nat.mod_lt _ (by decide)⟩
def block (s : S8) (b : List Nat) : S8 := plus s (rounds s (words b 64) 64)
def init : S8 := ⟨0x6a09e667, 0xbb67ae85, 0x3c6ef372, 0xa54ff53a, 0x510e527f, 0x9b05688c, 0x1f83d9ab, 0x5be0cd19⟩
theorem init_ok : init.Ok := by constructor <;> decide
def run (s : S8) (b : List Nat) : Nat → S8
  | 0 => s
  | n + 1 => run (block s (b.take 64)) (b.drop 64) n
theorem run_ok {s : S8} (h : s.Ok) (b : List Nat) (n : Nat) : (run s b n).Ok := by
  induction n generalizing s b with
  | zero => exact h
  | succ n ih => exact ih (plus_ok _ _) _
theorem run_app (s : S8) (a b : List Nat) (n m : Nat) (h : 64 * n ≤ a.length) : run s (a ++ b) (n + m) = run (run s a n) (a.drop (64 * n) ++ b) m := by
  induction n generalizing s a with
  | zero => simp [run]
  | succ n ih =>
    rw [show n + 1 + m = (n + m) + 1 by omega, run, run, List.take_append_of_le_length (by omega), List.drop_append_of_le_length (by omega), ih _ _ (by simp; omega), List.drop_drop]
    rw [show 64 + 64 * n = 64 * (n + 1) by omega]
def put (n : Nat) : Nat → List Nat
  | 0 => []
  | k + 1 => n / 256 ^ k % 256 :: put n k
theorem put_length (n k : Nat) : (put n k).length = k := by induction k with | zero => rfl | succ k ih => simp [put, ih]
theorem put_bytes (n k : Nat) : Bytes (put n k) := by
  induction k with
  | zero => intro x hx; cases hx
  | succ k ih => intro x hx; rcases List.mem_cons.1 hx with rfl | hx; (· exact Nat.mod_lt _ (by decide)); (· exact ih x hx)
def tail (n : Nat) : List Nat := 128 :: (List.replicate ((119 - n % 64) % 64) 0 ++ put (8 * n % 18446744073709551616) 8)
def out (s : S8) : List Nat := put s.a 4 ++ put s.b 4 ++ put s.c 4 ++ put s.d 4 ++ put s.e 4 ++ put s.f 4 ++ put s.g 4 ++ put s.h 4
def sha (t : List Nat) : List Nat := out (run init (t ++ tail t.length) ((t.length + (tail t.length).length) / 64))
theorem tail_length (n : Nat) : (tail n).length = 9 + (119 - n % 64) % 64 := by simp [tail, put_length]; omega
theorem out_length (s : S8) : (out s).length = 32 := by simp [out, put_length]
def num : List Nat → Nat → Nat
  | [], n => n
  | x :: l, n => num l (n * 256 + x)
def hash (t : List Nat) : Nat := num ((sha t).take 8) 0
def point (s i : Nat) : Nat := hash (1 :: (put s 4 ++ put i 4))
end Go.Proofs.YtggdkfijioeijaaGreatDoor.Sh

namespace Go.Proofs.YtggdkfijioeijaaGreatDoor
open Go Go.RowKit
def nb (s : ByteArray) : List Nat := s.data.toList.map UInt8.toNat
def sb (l : List Nat) : ByteArray := ⟨(l.map UInt8.ofNat).toArray⟩
theorem nb_bytes (s : ByteArray) : Sh.Bytes (nb s) := by
  intro x hx
  obtain ⟨y, _, rfl⟩ := List.mem_map.1 hx
  exact y.toNat_lt
theorem nb_sb {l : List Nat} (h : Sh.Bytes l) : nb (sb l) = l := by
  unfold nb sb
  simp only [List.map_map]
  conv => rhs; rw [← List.map_id l]
  refine List.map_congr_left (fun x hx => ?_)
  have := h x hx
  show (UInt8.ofNat x).toNat = x
  simp; omega
theorem nb_length (s : ByteArray) : (nb s).length = s.size := by simp [nb]
theorem sb_size (l : List Nat) : (sb l).size = l.length := by simp [sb, ByteArray.size]
theorem strOfNums_nat (l : List Nat) : strOfNums (l.map Int.ofNat) = sb l := by simp [strOfNums, sb]
theorem nb_app (a b : ByteArray) : nb (a ++ b) = nb a ++ nb b := by simp [nb]
theorem sb_app (a b : List Nat) : sb a ++ sb b = sb (a ++ b) := by
  refine ba_ext ?_
  simp [sb]
theorem infoU8 : (Tryz.prog.info? 5).map (fun i => (i.zero, i.size, i.bytes)) = some (some (.int .u8 0), 1, 1) := by kernel_rfl

def cellsuint32 (n k : Nat) : Array Value := #[if 0 < k then (.int .u8 ((n / 16777216 % 256 : Nat) : Int)) else .int .u8 0, if 1 < k then (.int .u8 ((n / 65536 % 256 : Nat) : Int)) else .int .u8 0, if 2 < k then (.int .u8 ((n / 256 % 256 : Nat) : Int)) else .int .u8 0, if 3 < k then (.int .u8 ((n / 1 % 256 : Nat) : Int)) else .int .u8 0]
theorem put_uint32_eq (n : Nat) : Sh.put n 4 = [n / 16777216 % 256, n / 65536 % 256, n / 256 % 256, n / 1 % 256] := by simp [Sh.put]
set_option maxRecDepth 100000 in
set_option maxHeartbeats 4000000 in
theorem word_put_uint32 (n : Nat) (hn : n < 4294967296) (w : World) : Calls Tryz.prog 119 #[.int .u32 (n : Int), .int .i64 4] w fun e w' => e = .returned (.string (sb (Sh.put n 4))) ∧ Below w.heap.size w w' := by
  have hmc : madeCells #[Value.int .u8 0] 4 = cellsuint32 n 0 := by simp [madeCells, cellsuint32, Array.range]; rfl
  have hmk : ∀ w, (Instr.makeSlice 195 (.int .i64 4) (.int .i64 4)).run Tryz.prog w = .ok (.slice (some ⟨w.heap.size, 0, none⟩) 4 4) (w.alloc (.cells (cellsuint32 n 0) 5)) := fun w => by
    rw [← hmc]; exact run_make_row' (P := Tryz.prog) 195 5 (.int .u8 0) 1 Tryz.underlying195 infoU8 rfl .i64 .i64 4 (by decide) (by decide) w
  have hO : One w.heap.size (cellsuint32 n 0) (w.alloc (.cells (cellsuint32 n 0) 5)) := One.of w _ _
  clear hmc
  have HO := Lib.hid hO; clear hO
  have Hb0 : Hid (Below w.heap.size w (w.alloc (.cells (cellsuint32 n 0) 5))) := Lib.hid ((Below.refl _ _).alloc (Nat.le_refl _) _)
  go_enter Tryz.func119, Tryz.ntmps119
  go_wp2
  clear hmk
  go_loopw [10] (fun i wr => ∃ k : Nat, k ≤ 4 ∧ i = .int .i64 k ∧ Hid (One w.heap.size (cellsuint32 n k) wr) ∧ Hid (Below w.heap.size w wr)) (fun i _ => 4 - (intOf i).toNat)
  case atStart => exact ⟨0, by omega, rfl, HO, Hb0⟩
  case round =>
    obtain ⟨k, hk, rfl, HO, Hbw⟩ := hrel
    rcases (show k = 0 ∨ k = 1 ∨ k = 2 ∨ k = 3 ∨ k = 4 by omega) with rfl | rfl | rfl | rfl | rfl
    · have cj : wr.cell? ⟨w.heap.size, 0, none⟩ = some (.int .u8 0) := by rw [HO.out.c]; rfl
      have fj := HO.out.f 0
      have HN : Hid (One w.heap.size (cellsuint32 n 1) (wr.setCell ⟨w.heap.size, 0, none⟩ (.int .u8 ((n / 16777216 % 256 : Nat) : Int)))) := Lib.hid (HO.out.set (i := 0) (by show 0 < 4; decide) _)
      rw [show ((n / 16777216 % 256 : Nat) : Int) = (n : Int) / 16777216 by omega] at HN
      go_wp2
      go_roundw
      case rel => exact ⟨1, by omega, by rfl, HN, Lib.hid (Hbw.out.setCell (Nat.le_refl _) _)⟩
      case measure => simp [intOf]
    · have cj : wr.cell? ⟨w.heap.size, 1, none⟩ = some (.int .u8 0) := by rw [HO.out.c]; rfl
      have fj := HO.out.f 1
      have HN : Hid (One w.heap.size (cellsuint32 n 2) (wr.setCell ⟨w.heap.size, 1, none⟩ (.int .u8 ((n / 65536 % 256 : Nat) : Int)))) := Lib.hid (HO.out.set (i := 1) (by show 1 < 4; decide) _)
      rw [show ((n / 65536 % 256 : Nat) : Int) = (n : Int) / 65536 % 256 by omega] at HN
      go_wp2
      go_roundw
      case rel => exact ⟨2, by omega, by rfl, HN, Lib.hid (Hbw.out.setCell (Nat.le_refl _) _)⟩
      case measure => simp [intOf]
    · have cj : wr.cell? ⟨w.heap.size, 2, none⟩ = some (.int .u8 0) := by rw [HO.out.c]; rfl
      have fj := HO.out.f 2
      have HN : Hid (One w.heap.size (cellsuint32 n 3) (wr.setCell ⟨w.heap.size, 2, none⟩ (.int .u8 ((n / 256 % 256 : Nat) : Int)))) := Lib.hid (HO.out.set (i := 2) (by show 2 < 4; decide) _)
      rw [show ((n / 256 % 256 : Nat) : Int) = (n : Int) / 256 % 256 by omega] at HN
      go_wp2
      go_roundw
      case rel => exact ⟨3, by omega, by rfl, HN, Lib.hid (Hbw.out.setCell (Nat.le_refl _) _)⟩
      case measure => simp [intOf]
    · have cj : wr.cell? ⟨w.heap.size, 3, none⟩ = some (.int .u8 0) := by rw [HO.out.c]; rfl
      have fj := HO.out.f 3
      have HN : Hid (One w.heap.size (cellsuint32 n 4) (wr.setCell ⟨w.heap.size, 3, none⟩ (.int .u8 ((n / 1 % 256 : Nat) : Int)))) := Lib.hid (HO.out.set (i := 3) (by show 3 < 4; decide) _)
      rw [show ((n / 1 % 256 : Nat) : Int) = (n : Int) % 256 by omega] at HN
      go_wp2
      go_roundw
      case rel => exact ⟨4, by omega, by rfl, HN, Lib.hid (Hbw.out.setCell (Nat.le_refl _) _)⟩
      case measure => simp [intOf]
    · have hcv := run_convert_bytes_arg (P := Tryz.prog) wr 195 5 Tryz.underlying195 Tryz.underlying5 w.heap.size 0 4 4 ((Sh.put n 4).map Int.ofNat) (by simp [Sh.put_length]) (fun i hi => by
        rw [HO.out.c, Nat.zero_add, put_uint32_eq]
        rcases (show i = 0 ∨ i = 1 ∨ i = 2 ∨ i = 3 by omega) with rfl | rfl | rfl | rfl <;> rfl) 9 Tryz.underlying9
      rw [strOfNums_nat] at hcv
      go_wp2
      go_ret
      exact ⟨rfl, Hbw.out⟩

def cellsuint64 (n k : Nat) : Array Value := #[if 0 < k then (.int .u8 ((n / 72057594037927936 % 256 : Nat) : Int)) else .int .u8 0, if 1 < k then (.int .u8 ((n / 281474976710656 % 256 : Nat) : Int)) else .int .u8 0, if 2 < k then (.int .u8 ((n / 1099511627776 % 256 : Nat) : Int)) else .int .u8 0, if 3 < k then (.int .u8 ((n / 4294967296 % 256 : Nat) : Int)) else .int .u8 0, if 4 < k then (.int .u8 ((n / 16777216 % 256 : Nat) : Int)) else .int .u8 0, if 5 < k then (.int .u8 ((n / 65536 % 256 : Nat) : Int)) else .int .u8 0, if 6 < k then (.int .u8 ((n / 256 % 256 : Nat) : Int)) else .int .u8 0, if 7 < k then (.int .u8 ((n / 1 % 256 : Nat) : Int)) else .int .u8 0]
theorem put_uint64_eq (n : Nat) : Sh.put n 8 = [n / 72057594037927936 % 256, n / 281474976710656 % 256, n / 1099511627776 % 256, n / 4294967296 % 256, n / 16777216 % 256, n / 65536 % 256, n / 256 % 256, n / 1 % 256] := by simp [Sh.put]
set_option maxRecDepth 100000 in
set_option maxHeartbeats 4000000 in
theorem word_put_uint64 (n : Nat) (hn : n < 18446744073709551616) (w : World) : Calls Tryz.prog 164 #[.int .u64 (n : Int), .int .i64 8] w fun e w' => e = .returned (.string (sb (Sh.put n 8))) ∧ Below w.heap.size w w' := by
  have hmc : madeCells #[Value.int .u8 0] 8 = cellsuint64 n 0 := by simp [madeCells, cellsuint64, Array.range]; rfl
  have hmk : ∀ w, (Instr.makeSlice 195 (.int .i64 8) (.int .i64 8)).run Tryz.prog w = .ok (.slice (some ⟨w.heap.size, 0, none⟩) 8 8) (w.alloc (.cells (cellsuint64 n 0) 5)) := fun w => by
    rw [← hmc]; exact run_make_row' (P := Tryz.prog) 195 5 (.int .u8 0) 1 Tryz.underlying195 infoU8 rfl .i64 .i64 8 (by decide) (by decide) w
  have hO : One w.heap.size (cellsuint64 n 0) (w.alloc (.cells (cellsuint64 n 0) 5)) := One.of w _ _
  clear hmc
  have HO := Lib.hid hO; clear hO
  have Hb0 : Hid (Below w.heap.size w (w.alloc (.cells (cellsuint64 n 0) 5))) := Lib.hid ((Below.refl _ _).alloc (Nat.le_refl _) _)
  go_enter Tryz.func164, Tryz.ntmps164
  go_wp2
  clear hmk
  go_loopw [10] (fun i wr => ∃ k : Nat, k ≤ 8 ∧ i = .int .i64 k ∧ Hid (One w.heap.size (cellsuint64 n k) wr) ∧ Hid (Below w.heap.size w wr)) (fun i _ => 8 - (intOf i).toNat)
  case atStart => exact ⟨0, by omega, rfl, HO, Hb0⟩
  case round =>
    obtain ⟨k, hk, rfl, HO, Hbw⟩ := hrel
    rcases (show k = 0 ∨ k = 1 ∨ k = 2 ∨ k = 3 ∨ k = 4 ∨ k = 5 ∨ k = 6 ∨ k = 7 ∨ k = 8 by omega) with rfl | rfl | rfl | rfl | rfl | rfl | rfl | rfl | rfl
    · have cj : wr.cell? ⟨w.heap.size, 0, none⟩ = some (.int .u8 0) := by rw [HO.out.c]; rfl
      have fj := HO.out.f 0
      have HN : Hid (One w.heap.size (cellsuint64 n 1) (wr.setCell ⟨w.heap.size, 0, none⟩ (.int .u8 ((n / 72057594037927936 % 256 : Nat) : Int)))) := Lib.hid (HO.out.set (i := 0) (by show 0 < 8; decide) _)
      rw [show ((n / 72057594037927936 % 256 : Nat) : Int) = (n : Int) / 72057594037927936 by omega] at HN
      go_wp2
      go_roundw
      case rel => exact ⟨1, by omega, by rfl, HN, Lib.hid (Hbw.out.setCell (Nat.le_refl _) _)⟩
      case measure => simp [intOf]
    · have cj : wr.cell? ⟨w.heap.size, 1, none⟩ = some (.int .u8 0) := by rw [HO.out.c]; rfl
      have fj := HO.out.f 1
      have HN : Hid (One w.heap.size (cellsuint64 n 2) (wr.setCell ⟨w.heap.size, 1, none⟩ (.int .u8 ((n / 281474976710656 % 256 : Nat) : Int)))) := Lib.hid (HO.out.set (i := 1) (by show 1 < 8; decide) _)
      rw [show ((n / 281474976710656 % 256 : Nat) : Int) = (n : Int) / 281474976710656 % 256 by omega] at HN
      go_wp2
      go_roundw
      case rel => exact ⟨2, by omega, by rfl, HN, Lib.hid (Hbw.out.setCell (Nat.le_refl _) _)⟩
      case measure => simp [intOf]
    · have cj : wr.cell? ⟨w.heap.size, 2, none⟩ = some (.int .u8 0) := by rw [HO.out.c]; rfl
      have fj := HO.out.f 2
      have HN : Hid (One w.heap.size (cellsuint64 n 3) (wr.setCell ⟨w.heap.size, 2, none⟩ (.int .u8 ((n / 1099511627776 % 256 : Nat) : Int)))) := Lib.hid (HO.out.set (i := 2) (by show 2 < 8; decide) _)
      rw [show ((n / 1099511627776 % 256 : Nat) : Int) = (n : Int) / 1099511627776 % 256 by omega] at HN
      go_wp2
      go_roundw
      case rel => exact ⟨3, by omega, by rfl, HN, Lib.hid (Hbw.out.setCell (Nat.le_refl _) _)⟩
      case measure => simp [intOf]
    · have cj : wr.cell? ⟨w.heap.size, 3, none⟩ = some (.int .u8 0) := by rw [HO.out.c]; rfl
      have fj := HO.out.f 3
      have HN : Hid (One w.heap.size (cellsuint64 n 4) (wr.setCell ⟨w.heap.size, 3, none⟩ (.int .u8 ((n / 4294967296 % 256 : Nat) : Int)))) := Lib.hid (HO.out.set (i := 3) (by show 3 < 8; decide) _)
      rw [show ((n / 4294967296 % 256 : Nat) : Int) = (n : Int) / 4294967296 % 256 by omega] at HN
      go_wp2
      go_roundw
      case rel => exact ⟨4, by omega, by rfl, HN, Lib.hid (Hbw.out.setCell (Nat.le_refl _) _)⟩
      case measure => simp [intOf]
    · have cj : wr.cell? ⟨w.heap.size, 4, none⟩ = some (.int .u8 0) := by rw [HO.out.c]; rfl
      have fj := HO.out.f 4
      have HN : Hid (One w.heap.size (cellsuint64 n 5) (wr.setCell ⟨w.heap.size, 4, none⟩ (.int .u8 ((n / 16777216 % 256 : Nat) : Int)))) := Lib.hid (HO.out.set (i := 4) (by show 4 < 8; decide) _)
      rw [show ((n / 16777216 % 256 : Nat) : Int) = (n : Int) / 16777216 % 256 by omega] at HN
      go_wp2
      go_roundw
      case rel => exact ⟨5, by omega, by rfl, HN, Lib.hid (Hbw.out.setCell (Nat.le_refl _) _)⟩
      case measure => simp [intOf]
    · have cj : wr.cell? ⟨w.heap.size, 5, none⟩ = some (.int .u8 0) := by rw [HO.out.c]; rfl
      have fj := HO.out.f 5
      have HN : Hid (One w.heap.size (cellsuint64 n 6) (wr.setCell ⟨w.heap.size, 5, none⟩ (.int .u8 ((n / 65536 % 256 : Nat) : Int)))) := Lib.hid (HO.out.set (i := 5) (by show 5 < 8; decide) _)
      rw [show ((n / 65536 % 256 : Nat) : Int) = (n : Int) / 65536 % 256 by omega] at HN
      go_wp2
      go_roundw
      case rel => exact ⟨6, by omega, by rfl, HN, Lib.hid (Hbw.out.setCell (Nat.le_refl _) _)⟩
      case measure => simp [intOf]
    · have cj : wr.cell? ⟨w.heap.size, 6, none⟩ = some (.int .u8 0) := by rw [HO.out.c]; rfl
      have fj := HO.out.f 6
      have HN : Hid (One w.heap.size (cellsuint64 n 7) (wr.setCell ⟨w.heap.size, 6, none⟩ (.int .u8 ((n / 256 % 256 : Nat) : Int)))) := Lib.hid (HO.out.set (i := 6) (by show 6 < 8; decide) _)
      rw [show ((n / 256 % 256 : Nat) : Int) = (n : Int) / 256 % 256 by omega] at HN
      go_wp2
      go_roundw
      case rel => exact ⟨7, by omega, by rfl, HN, Lib.hid (Hbw.out.setCell (Nat.le_refl _) _)⟩
      case measure => simp [intOf]
    · have cj : wr.cell? ⟨w.heap.size, 7, none⟩ = some (.int .u8 0) := by rw [HO.out.c]; rfl
      have fj := HO.out.f 7
      have HN : Hid (One w.heap.size (cellsuint64 n 8) (wr.setCell ⟨w.heap.size, 7, none⟩ (.int .u8 ((n / 1 % 256 : Nat) : Int)))) := Lib.hid (HO.out.set (i := 7) (by show 7 < 8; decide) _)
      rw [show ((n / 1 % 256 : Nat) : Int) = (n : Int) % 256 by omega] at HN
      go_wp2
      go_roundw
      case rel => exact ⟨8, by omega, by rfl, HN, Lib.hid (Hbw.out.setCell (Nat.le_refl _) _)⟩
      case measure => simp [intOf]
    · have hcv := run_convert_bytes_arg (P := Tryz.prog) wr 195 5 Tryz.underlying195 Tryz.underlying5 w.heap.size 0 8 8 ((Sh.put n 8).map Int.ofNat) (by simp [Sh.put_length]) (fun i hi => by
        rw [HO.out.c, Nat.zero_add, put_uint64_eq]
        rcases (show i = 0 ∨ i = 1 ∨ i = 2 ∨ i = 3 ∨ i = 4 ∨ i = 5 ∨ i = 6 ∨ i = 7 by omega) with rfl | rfl | rfl | rfl | rfl | rfl | rfl | rfl <;> rfl) 9 Tryz.underlying9
      rw [strOfNums_nat] at hcv
      go_wp2
      go_ret
      exact ⟨rfl, Hbw.out⟩
end Go.Proofs.YtggdkfijioeijaaGreatDoor
