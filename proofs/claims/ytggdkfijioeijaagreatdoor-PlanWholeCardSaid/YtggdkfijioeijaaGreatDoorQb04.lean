/- Contracts: the library's iterators over rows of uint32 (Values, Backward) and over the keys of a map by uint64. Contracts on rows of numbers: slices.Clone, slices.Compact where nothing is twice, slices.BinarySearch. Plain: the hash as functions on numbers, so that the kernel can reckon them; and the identities by which both texts of it agree. Contracts: word.Put32, Put64, Get32, Get64, Turn. Contracts: word.Put32, Put64, Get32, Get64, Turn. Contract: sha.turned. Contract: sha.Words. A region that draws its order, each operation once: what holds of the slots and the world behind any part of it. A region that draws its order in a round (the body of a range over a function): each operation once, told as outside of one. -/
import Derived.Test.YtggdkfijioeijaaGreatDoorQb00
import Derived.Test.YtggdkfijioeijaaGreatDoorQb02
import Derived.Test.YtggdkfijioeijaaGreatDoorQb03
import Derived.Sort.MapsRangeIn
import Derived.Maps.RangeWalk
import Derived.Maps.OwnIn
import Derived.Lib.SliceRun
import Derived.Laws.BytesArg
import Derived.Deep.OwnRows
import Derived.Laws.BitsLemmas
import Derived.Deep.RegionHeld3
import Derived.Deep.RegionWith
import Derived.OrdersIn
namespace Go.Proofs.YtggdkfijioeijaaGreatDoor
open Go Go.RowKit Go.Maps Go.Sort Go.Shelf
attribute [local go_sem] Oper.semAt_some
set_option maxRecDepth 100000 in
set_option maxHeartbeats 2000000 in
theorem values1 (n : Nat) (hn : 1 ≤ n) (l Bs b off cap N : Nat) (zs : List Int) (hreach : N ≤ 1000000) (J Jx : List Int → World → Prop) (n₀ : Nat) (hb : b < n₀)
    (hY : ∀ pre x W, J pre W → pre.length < N → YieldAt Fence.wide (n - 1) Tryz.prog l #[.int .u32 x] W fun e W' =>
      (e = .returned (.bool true) ∧ J (pre ++ [x]) W' ∧ Below n₀ W W') ∨ (e = .returned (.bool false) ∧ Jx (pre ++ [x]) W'))
    (W : World) (hBs : W.cell? ⟨Bs, 0, none⟩ = some (.slice (some ⟨b, off, none⟩) N cap)) (hc : ∀ j, j < N → W.cell? ⟨b, off + j, none⟩ = some (.int .u32 (zs[j]?.getD 0))) (h0 : J [] W) :
    CallsIn Fence.wide n Tryz.prog 84 #[.func (.yield l) #[] #[], .pointer (some ⟨Bs, 0, none⟩)] W fun e W' => (∃ v, e = .returned v) ∧
      ((∃ ys, ys = upto (fun j => zs[j]?.getD 0) N ∧ J ys W') ∨ (∃ pre, (∃ k, k ≤ N ∧ pre = upto (fun j => zs[j]?.getD 0) k) ∧ Jx pre W')) := by
  refine callsIn_of_wp Tryz.func84 rfl trivial ?_ rfl
  simp only [Tryz.ntmps84, List.size_toArray, List.length_cons, List.length_nil, Nat.reduceAdd, Nat.reduceSub, Array.replicate_succ, Array.replicate_zero, List.push_toArray, List.append_toArray, List.nil_append, List.cons_append]
  gi_wp2
  gi_loopw [7] (fun i wr => ∃ k : Nat, k ≤ N ∧ i = .int .i64 k ∧ J (upto (fun j => zs[j]?.getD 0) k) wr ∧ Below n₀ W wr)
    (fun i _ => N - (intOf i).toNat)
  case atStart => exact ⟨0, Nat.zero_le _, rfl, h0, Below.refl _ _⟩
  case round =>
    obtain ⟨k, hk, rfl, hJs, hnx⟩ := hrel
    have hcx : k < N → wr.cell? ⟨b, off + k, none⟩ = some (.int .u32 (zs[k]?.getD 0)) := fun h => (hnx.cell (p := ⟨b, off + k, none⟩) hb).trans (hc k h)
    by_cases hlt : k < N
    · obtain ⟨fn, tmps, assign, body, hy, hR⟩ := hY _ (zs[k]?.getD 0) wr hJs (by rw [upto_length]; exact hlt)
      have hcx' := hcx hlt
      gi_wp2
      refine hR.mono ?_
      rintro e W3 (⟨rfl, hJ3, hk3⟩ | ⟨rfl, hJx3⟩)
      · gi_wp2
        go_roundw
        case rel => exact ⟨k + 1, by omega, by simp, by rw [upto_succ]; exact hJ3, hnx.trans hk3⟩
        case measure => simp [intOf]; omega
      · gi_wp2
        refine bodyPost_ret (results_none rfl _ _ _) rfl ?_
        exact ⟨⟨_, rfl⟩, .inr ⟨_, ⟨k + 1, by omega, (upto_succ _ _).symm⟩, hJx3⟩⟩
    · obtain rfl : k = N := by omega
      gi_wp2
      go_end0
      exact ⟨⟨_, rfl⟩, .inl ⟨_, rfl, hJs⟩⟩
set_option maxHeartbeats 1000000 in
theorem values_call (a : Option Addr) (len cap : Nat) (w : World) :
  Calls Tryz.prog 57 #[.slice a len cap] w fun e w' => e = .returned (.func (.func 84) #[] #[.pointer (some ⟨w.heap.size, 0, none⟩)]) ∧ w' = w.alloc (.cells #[.slice a len cap] 64) := by
 go_enter Tryz.func57, Tryz.ntmps57
 go_wp2
 go_ret
 exact ⟨rfl, rfl⟩
theorem values_stops (n : Nat) (hn : 1 ≤ n) (Bs n₀ : Nat) (b off cap : Nat) (zs : List Int) (hreach : zs.length ≤ 1000000) (w : World) (hBs : Bs < w.heap.size) (hn₀ : n₀ ≤ w.heap.size) (hb : b < n₀)
  (hc : w.cell? ⟨Bs, 0, none⟩ = some (.slice (some ⟨b, off, none⟩) zs.length cap)) (hI : ∀ j, j < zs.length → w.cell? ⟨b, off + j, none⟩ = some (.int .u32 (zs.getD j 0))) :
  SeqStopsK Fence.wide n Tryz.prog 84 #[.pointer (some ⟨Bs, 0, none⟩)] (fun x : Int => #[Value.int .u32 x]) (Below n₀) (fun ys => ys = zs) (fun _pre => True) zs.length w := fun l J Jx W hW _ _ hY h0 => by
 refine (values1 n hn l Bs b off cap zs.length zs hreach J Jx n₀ hb hY W ((hW.cell (p := ⟨Bs, 0, none⟩) hBs).trans hc) (fun j hj => ?_) h0).mono ?_
 ·rw [(hW.cell (p := ⟨b, off + j, none⟩) (by show b < _; omega)), hI j hj, List.getD_eq_getElem?_getD]
 ·rintro e W' ⟨he, h | ⟨pre, _, h⟩⟩
  ·obtain ⟨ys, rfl, h⟩ := h
   exact ⟨he, .inl ⟨_, upto_all zs 0, h⟩⟩
  ·exact ⟨he, .inr ⟨pre, trivial, h⟩⟩
set_option maxHeartbeats 1000000 in
theorem backward_call (a : Option Addr) (len cap : Nat) (w : World) :
  Calls Tryz.prog 59 #[.slice a len cap] w fun e w' => e = .returned (.func (.func 85) #[] #[.pointer (some ⟨w.heap.size, 0, none⟩)]) ∧ w' = w.alloc (.cells #[.slice a len cap] 64) := by
 go_enter Tryz.func59, Tryz.ntmps59
 go_wp2
 go_ret
 exact ⟨rfl, rfl⟩
abbrev kN (x : Int) : Lit := .int .u64 x
def CollU {H : Type} (D0 : DataW H) (left : Lit → Bool) (ss : List Int) : Prop := ss.Nodup ∧ ∀ x, x ∈ ss ↔ (has D0 (kN x) = true ∧ left (kN x) = false)
theorem CollU.start {H : Type} (D0 : DataW H) : CollU D0 (has D0) [] := ⟨List.nodup_nil, fun x => by cases has D0 (kN x) <;> simp⟩
theorem CollU.step {H : Type} {D0 : DataW H} {left : Lit → Bool} {ss : List Int} (h : CollU D0 left ss) {x : Int} {y : DataW H} (hlk : left (kN x) = true) (hat : ∀ zd, D0.atKey (kN x) zd = y) : CollU D0 (fun z => left z && !z.sameKey (kN x)) (ss ++ [x]) := by
 refine ⟨List.nodup_append.2 ⟨h.1, by simp, fun a ha c hc e => ?_⟩, fun y' => ?_⟩
 ·have : c = x := by simpa using hc
  subst e; subst this
  have := ((h.2 a).1 ha).2
  rw [hlk] at this; cases this
 ·rw [List.mem_append, h.2 y']
  by_cases e : y' = x
  ·subst e
   simp [Lit.sameKey, Maps.has_true_of_atKey hat]
  ·have : (kN y').sameKey (kN x) = false := by simp [Lit.sameKey, e]
   simp [this, e]
set_option maxRecDepth 100000 in
set_option maxHeartbeats 1000000 in
theorem keys1 {H : Type} (n : Nat) (hn : 1 ≤ n) (l Bm b nn : Nat) (D0 : DataW H) {R : Value → Option (DataW H × List MemPlace)} (J Jx : List Int → World → Prop)
    (hY : ∀ pre x W, J pre W → pre.length < Maps.size D0 → YieldAt Fence.wide (n - 1) Tryz.prog l #[.int .u64 x] W fun e W' =>
      (e = .returned (.bool true) ∧ J (pre ++ [x]) W' ∧ KeepsWalks W W') ∨ (e = .returned (.bool false) ∧ Jx (pre ++ [x]) W'))
    (W : World) (hJ : AbidesFrom W.heap.size J) (hm : W.cell? ⟨Bm, 0, none⟩ = some (.map (some b))) (hown : W.ownsMap Tryz.prog 25 R b nn D0) (h0 : J [] W) :
    CallsIn Fence.wide n Tryz.prog 89 #[.func (.yield l) #[] #[], .pointer (some ⟨Bm, 0, none⟩)] W fun e W' => (∃ v, e = .returned v) ∧
      ((∃ ss : List Int, (ss.Nodup ∧ (∀ x, x ∈ ss ↔ has D0 (kN x) = true) ∧ ss.length ≤ Maps.size D0) ∧ J ss W') ∨ (∃ pre : List Int, True ∧ Jx pre W')) := by
  refine callsIn_of_wp Tryz.func89 rfl trivial ?_ rfl
  simp only [Tryz.ntmps89, List.size_toArray, List.length_cons, List.length_nil, Nat.reduceAdd, Nat.reduceSub, Array.replicate_succ, Array.replicate_zero, List.push_toArray, List.append_toArray, List.nil_append, List.cons_append]
  gi_wp2_with (first
    | (gi_at_range; refine wpListIn_range_own _ rfl _ 130 rfl 25 28 (int_keyed Tryz.underlying25) Tryz.underlying130 _ b nn _ rfl hown ?_; intro w0 hrg0 hg0 hs0)
    | gi_in)
  go_frame
  gi_loopw [3] (fun _ wr => ∃ (left : Lit → Bool) (cnt : Nat) (ss : List Int), wr.ranges Tryz.prog 25 R b W.heap.size nn D0 left cnt ∧ ss.length + cnt ≤ Maps.size D0 ∧ CollU D0 left ss ∧ J ss wr)
    (fun _ wr => wr.rangeLeft b W.heap.size)
  case atStart =>
    exact ⟨_, _, [], hrg0, by simp, CollU.start D0, hJ [] W w0 none h0 hg0 (fun r e => by cases e)⟩
  case round =>
    obtain ⟨left, cnt, ss, hrg, hcs, hC, hJs⟩ := hrel
    gi_wp2_with (first
      | (gi_at_next; refine wpListIn_next_ranges _ rfl _ rfl 25 (int_keyed Tryz.underlying25) R (Value.int .u64) id (fun key kl hk => by obtain ⟨x, hx, _⟩ := Maps.keyOf_int_inv Tryz.underlying25 hk; exact ⟨x, hx⟩) (fun v _ _ => ⟨v, rfl⟩) b W.heap.size nn _ _ _ rfl hrg ?_ ?_)
      | gi_in)
    · intro hc0 hl0
      gi_wp2
      go_end0
      exact ⟨⟨_, rfl⟩, .inl ⟨ss, ⟨hC.1, fun x => by rw [hC.2 x, hl0]; simp, by omega⟩, hJs⟩⟩
    · intro x c kl yd yp w2 cnt2 hkey hlk hv hat hrg2 hlt hg2 hs2 hen
      obtain ⟨x', ex, rfl, _⟩ := Maps.keyOf_int_inv Tryz.underlying25 hkey
      obtain rfl : x = x' := by simpa using ex
      have hJ2 : J ss w2 := hJ ss wr w2 (some W.heap.size) hJs hg2 (fun r e => by cases e; exact ⟨Nat.le_refl _, hrg.iter_walk⟩)
      obtain ⟨fn, tmps, assign, body, hy, hR⟩ := hY ss x w2 hJ2 (by omega)
      clear hs2
      gi_wp2
      refine hR.mono ?_
      have hC2 := hC.step hlk hat
      rintro e W3 (⟨rfl, hJ3, hk3⟩ | ⟨rfl, hJx3⟩)
      · gi_wp2
        have hrg3 := hrg2.of_walks hk3
        go_roundw
        case rel => exact ⟨_, cnt2, ss ++ [x], hrg3, by simp; omega, hC2, hJ3⟩
        case measure => rw [hrg3.left_eq, hrg.left_eq]; exact hlt
      · gi_wp2
        refine bodyPost_ret (results_none rfl _ _ _) rfl ?_
        exact ⟨⟨_, rfl⟩, .inr ⟨ss ++ [x], trivial, hJx3⟩⟩
theorem keys_stops {H : Type} (n : Nat) (hn : 1 ≤ n) (Bm b nn : Nat) (D0 : DataW H) {R : Value → Option (DataW H × List MemPlace)} (w : World) (hBm : Bm < w.heap.size)
  (hm : w.cell? ⟨Bm, 0, none⟩ = some (.map (some b))) (hown : w.ownsMap Tryz.prog 25 R b nn D0) :
  SeqStopsK Fence.wide n Tryz.prog 89 #[.pointer (some ⟨Bm, 0, none⟩)] (fun x : Int => #[Value.int .u64 x]) KeepsWalks (fun ss => ss.Nodup ∧ (∀ x, x ∈ ss ↔ has D0 (kN x) = true) ∧ ss.length ≤ Maps.size D0) (fun _ => True) (Maps.size D0) w := fun l J Jx W hW hJ _ hY h0 => by
 have hown' : W.ownsMap Tryz.prog 25 R b nn D0 := by
  have hbl := hown.lt
  obtain ⟨es, clock, hb, Ft, hs, hD⟩ := hown
  exact ⟨es, clock, (hW.block b hbl).trans hb, Ft, hs, hD⟩
 exact keys1 n hn l Bm b nn D0 J Jx hY W hJ ((hW.cell (p := ⟨Bm, 0, none⟩) hBm).trans hm) hown' h0
set_option maxHeartbeats 1000000 in
theorem keys_call (b : Option Nat) (w : World) :
  Calls Tryz.prog 62 #[.map b] w fun e w' => e = .returned (.func (.func 89) #[] #[.pointer (some ⟨w.heap.size, 0, none⟩)]) ∧ w' = w.alloc (.cells #[.map b] 130) := by
 go_enter Tryz.func62, Tryz.ntmps62
 go_wp2
 go_ret
 exact ⟨rfl, rfl⟩
end Go.Proofs.YtggdkfijioeijaaGreatDoor
namespace Go.Proofs.YtggdkfijioeijaaGreatDoor
open Go Go.RowKit Go.Sort
theorem addrAdd1 (b off j : Nat) : (⟨b, off, none⟩ : Addr).add j = ⟨b, off + j, none⟩ := by simp [Addr.add]
theorem below_dr {B : Nat} {w w' : World} (h : Below B w w') (n : Nat) : Below B w (w'.drewN n) := ⟨h.os, h.tape, h.output, h.size, h.block⟩
set_option maxHeartbeats 1000000 in
theorem isNaN64 (x : Int) (w : World) : Calls Tryz.prog 156 #[.int .u64 x] w fun e w' => e = .returned (.bool false) ∧ w' = w := by
 go_enter Tryz.func156, Tryz.ntmps156
 go_wp2
 go_ret
 exact ⟨by simp, rfl⟩
theorem ownsRow_empty1 (w : World) (e : TypeId) : (w.alloc (.cells #[] e)).ownsRow w.heap.size e 1 (.slice (some ⟨w.heap.size, 0, none⟩) 0 0) 0 [] :=
 ⟨rfl, Or.inr ⟨w.heap.size, 0, #[], rfl, Nat.le_refl _, (MapKept.heap_alloc w _).1, Nat.le_refl _, Nat.zero_le _, rfl, rfl⟩⟩
set_option maxRecDepth 100000 in
set_option maxHeartbeats 1000000 in
theorem clone32 (L : List Int) (b off cap : Nat) (w : World) (hb : b < w.heap.size) (hc : ∀ i, i < L.length → w.cell? ⟨b, off + i, none⟩ = some (.int .u32 (L.getD i 0))) (hl : L.length ≤ 1000000) :
  Calls Tryz.prog 58 #[.slice (some ⟨b, off, none⟩) L.length cap] w fun e w' => ∃ v, e = .returned v ∧ w'.ownsRow w.heap.size 28 1 v L.length (L.map (Value.int .u32)) ∧ Below w.heap.size w w' := by
 obtain ⟨i0, hi, hz0, hz1, hz2⟩ := info_parts uint32_info
 have hne := fun w => Lib.run_eql_slice_nil (P := Tryz.prog) w 64 28 (some ⟨b, off, none⟩) L.length cap 0 0 Tryz.underlying64
 have hnews : ∀ j u, (L.map (Value.int .u32))[j]? = some u → (w.alloc (.cells #[] 28)).cell? ((⟨b, off, none⟩ : Addr).add j) = some u := by
  intro j u hu
  rw [addrAdd1, World.cell?_alloc_past _ _ _ hb]
  rw [List.getElem?_map] at hu
  cases hj : L[j]? with
  | none => rw [hj] at hu; cases hu
  | some x =>
   rw [hj] at hu; cases hu
   rw [hc j (List.getElem?_eq_some_iff.1 hj).1, List.getD_eq_getElem?_getD, hj]; rfl
 have Hnews := Lib.hid hnews; clear hnews hc
 go_enter Tryz.func58, Tryz.ntmps58
 go_wp2_with (at_builtin; refine wpList_append_own _ rfl _ _ 64 rfl w.heap.size 28 i0 (.int .u32 0) 1 4 Tryz.underlying64 hi hz0 hz1 hz2 rfl (by decide) _ _ _ rfl (ownsRow_empty1 _ _) ⟨b, off, none⟩ L.length cap (L.map (Value.int .u32)) rfl (by simp) Hnews.out (by intro u hu; obtain ⟨x, _, rfl⟩ := List.mem_map.1 hu; rfl) (by unfold maxLen; omega) (by omega) (by simp) ?_; intro v' w1 hown' hgrow _hnil; have Hb := Lib.hid (((Below.refl w.heap.size w).alloc (Nat.le_refl _) (.cells #[] 28)).grown hgrow (by simp) (fun k h => by cases h; exact Nat.le_refl _)); simp only [Nat.zero_add, List.nil_append] at hown'; clear hgrow _hnil)
 go_ret
 exact ⟨_, rfl, hown', Hb.out⟩
set_option maxRecDepth 100000 in
set_option maxHeartbeats 1000000 in
theorem compact_none (L : List Int) (N b off cap : Nat) (_hN : L.length = N) (w : World) (hb : b < w.heap.size) (hc : ∀ i, i < N → w.cell? ⟨b, off + i, none⟩ = some (.int .u32 (L.getD i 0))) (hl : N ≤ 1000000) (hd : ∀ i, i + 1 < N → L.getD (i + 1) 0 ≠ L.getD i 0) :
  Calls Tryz.prog 45 #[.slice (some ⟨b, off, none⟩) N cap] w fun e w' => e = .returned (.slice (some ⟨b, off, none⟩) N cap) ∧ Below w.heap.size w w' := by
 clear _hN
 obtain ⟨G, hG⟩ : ∃ G : Nat → Int, ∀ t, L.getD t 0 = G t := ⟨fun t => L.getD t 0, fun _ => rfl⟩
 simp only [hG] at hc hd
 have Hc := Lib.hid hc; have Hd := Lib.hid hd; clear hc hd hG
 by_cases h2 : N < 2
 ·go_enter Tryz.func45, Tryz.ntmps45
  go_wp2
  go_ret
  exact ⟨rfl, Below.refl _ _⟩
 ·have h2z : ¬ ((N : Int) < 2) := by omega
  go_enter Tryz.func45, Tryz.ntmps45
  go_wp2_with fail
  go_loopw [3] (fun i wr => ∃ k : Nat, 1 ≤ k ∧ k ≤ N ∧ i = .int .i64 k ∧ Hid (Below w.heap.size w wr)) (fun i _ => N - (intOf i).toNat)
  case atStart => exact ⟨1, Nat.le_refl _, by omega, rfl, Lib.hid (Below.refl _ _)⟩
  case round =>
   obtain ⟨k, hk1, hk, rfl, Hbw⟩ := hrel
   by_cases hlt : k < N
   ·have c1 := (Hbw.out.cell (p := ⟨b, off + k, none⟩) hb).trans (Hc.out k hlt)
    have c2 := (Hbw.out.cell (p := ⟨b, off + (k - 1), none⟩) hb).trans (Hc.out (k - 1) (by omega))
    have hne := Hd.out (k - 1) (by omega)
    rw [show k - 1 + 1 = k by omega] at hne
    have hneb : (G k == G (k - 1)) = false := by simpa using hne
    go_wp2_with fail
    go_quiet (fail)
    go_wp2_with fail
    go_roundw
    case rel => exact ⟨k + 1, by omega, by omega, by go_num, Lib.hid (Hbw.out.trans (below_dr (Below.refl _ _) _))⟩
    case measure => simp [intOf]; omega
   ·have hge : ¬ ((k : Int) < (N : Int)) := by omega
    go_wp2_with fail
    go_ret
    exact ⟨rfl, Hbw.out⟩
def Spot (L : List Int) (h : Int) (i : Nat) : Prop := i ≤ L.length ∧ (∀ j, j < i → L.getD j 0 < h) ∧ ∀ j, i ≤ j → j < L.length → h ≤ L.getD j 0
set_option maxRecDepth 100000 in
set_option maxHeartbeats 2000000 in
theorem search64 (L : List Int) (h : Int) (b off cap : Nat) (w : World) (hb : b < w.heap.size) (hc : ∀ i, i < L.length → w.cell? ⟨b, off + i, none⟩ = some (.int .u64 (L.getD i 0))) (hl : L.length ≤ 1000000) (hs : L.Pairwise (· ≤ ·)) :
  Calls Tryz.prog 122 #[.slice (some ⟨b, off, none⟩) L.length cap, .int .u64 h] w fun e w' => ∃ (i : Nat) (f : Bool), e = .returned (.tuple #[.int .i64 i, .bool f]) ∧ Spot L h i ∧ Below w.heap.size w w' := by
 obtain ⟨N, hN⟩ : ∃ N, L.length = N := ⟨_, rfl⟩
 obtain ⟨G, hG⟩ : ∃ G : Nat → Int, ∀ t, L.getD t 0 = G t := ⟨fun t => L.getD t 0, fun _ => rfl⟩
 have hmono : ∀ i j, i ≤ j → j < N → G i ≤ G j := by
  intro i j hij hj
  rw [← hG, ← hG, List.getD_eq_getElem?_getD, List.getD_eq_getElem?_getD, List.getElem?_eq_getElem (by omega), List.getElem?_eq_getElem (by omega)]
  rcases Nat.lt_or_ge i j with h1 | h1
  ·exact List.pairwise_iff_getElem.1 hs i j (by omega) (by omega) h1
  ·obtain rfl : i = j := by omega
   exact Int.le_refl _
 have hfin : ∀ i : Nat, i ≤ N → (∀ j, j < i → G j < h) → (∀ j, i ≤ j → j < N → h ≤ G j) → Spot L h i := fun i h1 h2 h3 => ⟨by omega, fun j hj => by rw [hG]; exact h2 j hj, fun j h4 h5 => by rw [hG]; exact h3 j h4 (by omega)⟩
 simp only [hG] at hc
 rw [hN] at hc hl ⊢
 have HM := Lib.hid hmono; have HF := Lib.hid hfin; have Hc := Lib.hid hc
 clear hmono hfin hc hG hN hs
 go_enter Tryz.func122, Tryz.ntmps122
 go_wp2_with fail
 go_loopw [7, 8] (fun vi vj wr => ∃ i j : Nat, vi = .int .i64 i ∧ vj = .int .i64 j ∧ i ≤ j ∧ j ≤ N ∧ Hid (∀ t, t < i → G t < h) ∧ Hid (∀ t, j ≤ t → t < N → h ≤ G t) ∧ Hid (Below w.heap.size w wr)) (fun vi vj _ => (intOf vj).toNat - (intOf vi).toNat)
 case atStart => exact ⟨0, N, rfl, rfl, Nat.zero_le _, Nat.le_refl _, Lib.hid (fun t ht => by omega), Lib.hid (fun t h1 h2 => by omega), Lib.hid (Below.refl _ _)⟩
 case round =>
  obtain ⟨i, j, rfl, rfl, hij, hjN, HA, HB, Hbw⟩ := hrel
  by_cases hlt : i < j
  ·obtain ⟨m, hm, hm1, hm2⟩ : ∃ m : Nat, ((i : Int) + (j : Int)) / 2 = (m : Int) ∧ i ≤ m ∧ m < j := ⟨(i + j) / 2, by omega, by omega, by omega⟩
   have cm := (Hbw.out.cell (p := ⟨b, off + m, none⟩) hb).trans (Hc.out m (by omega))
   go_wp2_with (go_at_call 153; refine (uint64_less _ _ _).mono ?_; rintro e w' ⟨rfl, rfl⟩)
   ·have hl : ltInt (G m) h = true := by assumption
    have HL := Lib.hid hl; clear hl
    go_roundw
    case rel =>
     refine ⟨m + 1, j, by go_num, rfl, by omega, hjN, Lib.hid (fun t ht => ?_), HB, Hbw⟩
     have h1 := HM.out t m (by omega) (by omega)
     have h2 := HL.out
     simp only [ltInt, decide_eq_true_eq] at h2
     omega
    case measure => simp [intOf]; omega
   ·have hl : ltInt (G m) h = false := by assumption
    have HL := Lib.hid hl; clear hl
    go_roundw
    case rel =>
     refine ⟨i, m, rfl, rfl, by omega, by omega, HA, Lib.hid (fun t ht1 ht2 => ?_), Hbw⟩
     have h1 := HM.out m t ht1 ht2
     have h2 := HL.out
     simp only [ltInt, decide_eq_false_iff_not] at h2
     omega
    case measure => simp [intOf]; omega
  ·obtain rfl : i = j := by omega
   have HS := Lib.hid (HF.out i hjN HA.out HB.out)
   by_cases hiN : i < N
   ·have cm := (Hbw.out.cell (p := ⟨b, off + i, none⟩) hb).trans (Hc.out i hiN)
    by_cases hq : G i = h
    ·have hqb : (G i == h) = true := by simpa using hq
     have hiz : (i : Int) < (N : Int) := by omega
     go_wp2_with (go_at_call 156; refine (isNaN64 _ _).mono ?_; rintro e w' ⟨rfl, rfl⟩)
     go_ret2
     exact ⟨i, _, rfl, HS.out, Hbw.out⟩
    ·have hqb : (G i == h) = false := by simpa using hq
     have hiz : (i : Int) < (N : Int) := by omega
     go_wp2_with (go_at_call 156; refine (isNaN64 _ _).mono ?_; rintro e w' ⟨rfl, rfl⟩)
     go_ret2
     exact ⟨i, _, rfl, HS.out, Hbw.out⟩
   ·have hiz : decide ((i : Int) < (N : Int)) = false := decide_eq_false (by omega)
    go_wp2_with (go_at_call 156; refine (isNaN64 _ _).mono ?_; rintro e w' ⟨rfl, rfl⟩)
    go_ret2
    exact ⟨i, _, rfl, HS.out, Hbw.out⟩
end Go.Proofs.YtggdkfijioeijaaGreatDoor
namespace Go.Proofs.YtggdkfijioeijaaGreatDoor.Sh
abbrev M32 : Nat := 4294967296
def turn (n k : Nat) : Nat := n / 2 ^ k ||| n * 2 ^ (32 - k) % M32
theorem turn_lt {n k : Nat} (h : n < M32) : turn n k < M32 := by
 unfold turn
 have h1 : n / 2 ^ k < 2 ^ 32 := Nat.lt_of_le_of_lt (Nat.div_le_self _ _) h
 exact Nat.or_lt_two_pow (n := 32) h1 (Nat.mod_lt _ (by decide))
theorem turn_bit {n k j : Nat} (h : n < M32) (hk : 0 < k) (hk2 : k < 32) (hj : j < 32) : (turn n k).testBit j = n.testBit ((j + k) % 32) := by
 unfold turn
 rw [Nat.testBit_or, Nat.testBit_div_two_pow, show M32 = 2 ^ 32 from rfl, Nat.testBit_mod_two_pow, Nat.testBit_mul_two_pow]
 have hn : ∀ i, 32 ≤ i → n.testBit i = false := fun i hi => Nat.testBit_lt_two_pow (Nat.lt_of_lt_of_le h (Nat.pow_le_pow_right (n := 2) (i := 32) (by decide) hi))
 by_cases hc : j + k < 32
 ·rw [Nat.mod_eq_of_lt hc, show decide (j ≥ 32 - k) = false from decide_eq_false (by omega)]
  simp [hj, Nat.add_comm]
 ·rw [show (j + k) % 32 = j - (32 - k) by omega, show decide (j ≥ 32 - k) = true from decide_eq_true (by omega), hn (j + k) (by omega)]
  simp [hj]
theorem turn_of_bits {n k m : Nat} (h : n < M32) (hk : 0 < k) (hk2 : k < 32) (hm : m < M32) (hb : ∀ j, j < 32 → m.testBit j = n.testBit ((j + k) % 32)) : m = turn n k := by
 refine Nat.eq_of_testBit_eq fun j => ?_
 by_cases hj : j < 32
 ·rw [hb j hj, turn_bit h hk hk2 hj]
 ·rw [Nat.testBit_lt_two_pow (Nat.lt_of_lt_of_le hm (Nat.pow_le_pow_right (n := 2) (i := 32) (by decide) (by omega))),
   Nat.testBit_lt_two_pow (Nat.lt_of_lt_of_le (turn_lt h) (Nat.pow_le_pow_right (n := 2) (i := 32) (by decide) (by omega)))]
def three (x a b c : Nat) : Nat := turn x a ^^^ turn x b ^^^ turn x c
theorem xor_lt {a b : Nat} (ha : a < M32) (hb : b < M32) : a ^^^ b < M32 := Nat.xor_lt_two_pow (n := 32) ha hb
theorem and_lt {a b : Nat} (ha : a < M32) : a &&& b < M32 := Nat.lt_of_le_of_lt Nat.and_le_left ha
theorem or_lt {a b : Nat} (ha : a < M32) (hb : b < M32) : a ||| b < M32 := Nat.or_lt_two_pow (n := 32) ha hb
theorem three_lt {x a b c : Nat} (h : x < M32) : three x a b c < M32 := xor_lt (xor_lt (turn_lt h) (turn_lt h)) (turn_lt h)
def sig0 (x : Nat) : Nat := turn x 7 ^^^ turn x 18 ^^^ x / 8
def sig1 (x : Nat) : Nat := turn x 17 ^^^ turn x 19 ^^^ x / 1024
theorem div_lt {x k : Nat} (h : x < M32) : x / k < M32 := Nat.lt_of_le_of_lt (Nat.div_le_self _ _) h
theorem sig0_lt {x : Nat} (h : x < M32) : sig0 x < M32 := xor_lt (xor_lt (turn_lt h) (turn_lt h)) (div_lt h)
theorem sig1_lt {x : Nat} (h : x < M32) : sig1 x < M32 := xor_lt (xor_lt (turn_lt h) (turn_lt h)) (div_lt h)
def ch (e f g : Nat) : Nat := g ^^^ (e &&& (f ^^^ g))
def maj (a b c : Nat) : Nat := a &&& b ||| c &&& (a ||| b)
theorem high {e j : Nat} (he : e < M32) (hj : ¬ j < 32) : e.testBit j = false := Nat.testBit_lt_two_pow (Nat.lt_of_lt_of_le he (Nat.pow_le_pow_right (n := 2) (i := 32) (j := j) (by decide) (by omega)))
theorem ch_eq {e f g : Nat} (he : e < M32) (hf : f < M32) (hg : g < M32) : (e &&& f) ^^^ ((M32 - 1 - e) &&& g) = ch e f g := by
 refine Nat.eq_of_testBit_eq fun j => ?_
 unfold ch
 have hx : (M32 - 1 - e).testBit j = (decide (j < 32) && !e.testBit j) := by
  have := Nat.testBit_two_pow_sub_succ (n := 32) (x := e) he j
  rw [show M32 - 1 - e = 2 ^ 32 - (e + 1) by show 4294967296 - 1 - e = 4294967296 - (e + 1); omega]
  exact this
 simp only [Nat.testBit_xor, Nat.testBit_and, hx]
 by_cases hj : j < 32
 ·cases e.testBit j <;> cases f.testBit j <;> cases g.testBit j <;> simp [hj]
 ·simp [hj, high he hj, high hf hj, high hg hj]
theorem maj_eq (a b c : Nat) : (a &&& b) ^^^ (a &&& c) ^^^ (b &&& c) = maj a b c := by
 refine Nat.eq_of_testBit_eq fun j => ?_
 unfold maj
 simp only [Nat.testBit_xor, Nat.testBit_and, Nat.testBit_or]
 cases a.testBit j <;> cases b.testBit j <;> cases c.testBit j <;> rfl
theorem ch_lt {e f g : Nat} (he : e < M32) (_hf : f < M32) (hg : g < M32) : ch e f g < M32 := xor_lt hg (and_lt he)
theorem maj_lt {a b c : Nat} (ha : a < M32) (_hb : b < M32) (hc : c < M32) : maj a b c < M32 := or_lt (and_lt ha) (and_lt hc)
def word (b : List Nat) (t : Nat) : Nat := ((b.getD (4 * t) 0 * 256 + b.getD (4 * t + 1) 0) * 256 + b.getD (4 * t + 2) 0) * 256 + b.getD (4 * t + 3) 0
def next (w : List Nat) (t : Nat) : Nat := (w.getD (t - 16) 0 + sig0 (w.getD (t - 15) 0) + w.getD (t - 7) 0 + sig1 (w.getD (t - 2) 0)) % M32
def words (b : List Nat) : Nat → List Nat
 | 0 => []
 | n + 1 => words b n ++ [if n < 16 then word b n else next (words b n) n]
theorem words_length (b : List Nat) (n : Nat) : (words b n).length = n := by
 induction n with
 | zero => rfl
 | succ n ih => simp [words, ih]
def Bytes (b : List Nat) : Prop := ∀ x ∈ b, x < 256
theorem Bytes.getD {b : List Nat} (h : Bytes b) (k : Nat) : b.getD k 0 < 256 := by
 rw [List.getD_eq_getElem?_getD]
 cases hb : b[k]? with
 | none => simp
 | some x => exact h x (List.mem_of_getElem? hb)
theorem word_lt {b : List Nat} (h : Bytes b) (t : Nat) : word b t < M32 := by
 have h0 := h.getD (4 * t); have h1 := h.getD (4 * t + 1); have h2 := h.getD (4 * t + 2); have h3 := h.getD (4 * t + 3)
 unfold word; show _ < 4294967296; omega
theorem words_lt {b : List Nat} (h : Bytes b) (n : Nat) : ∀ x ∈ words b n, x < M32 := by
 induction n with
 | zero => intro x hx; cases hx
 | succ n ih =>
  intro x hx
  rw [words, List.mem_append, List.mem_singleton] at hx
  rcases hx with hx | rfl
  ·exact ih x hx
  ·split
   ·exact word_lt h n
   ·exact Nat.mod_lt _ (by decide)
theorem words_getD (b : List Nat) {n k : Nat} (hk : k < n) : (words b n).getD k 0 = if k < 16 then word b k else next (words b k) k := by
 induction n with
 | zero => omega
 | succ n ih =>
  rw [words, List.getD_eq_getElem?_getD]
  by_cases e : k = n
  ·subst e
   rw [List.getElem?_append_right (by rw [words_length]; omega), words_length, Nat.sub_self]; rfl
  ·rw [List.getElem?_append_left (by rw [words_length]; omega), ← List.getD_eq_getElem?_getD, ih (by omega)]
theorem words_getD_lt {b : List Nat} (h : Bytes b) (n k : Nat) : (words b n).getD k 0 < M32 := by
 rw [List.getD_eq_getElem?_getD]
 cases hb : (words b n)[k]? with
 | none => decide
 | some x => exact words_lt h n x (List.mem_of_getElem? hb)
structure S8 where
 (a b c d e f g h : Nat)
structure S8.Ok (s : S8) : Prop where
 a : s.a < M32
 b : s.b < M32
 c : s.c < M32
 d : s.d < M32
 e : s.e < M32
 f : s.f < M32
 g : s.g < M32
 h : s.h < M32
def rnd (s : S8) (k w : Nat) : S8 :=
 let x := (s.h + three s.e 6 11 25 + ch s.e s.f s.g + k + w) % M32
 let y := (three s.a 2 13 22 + maj s.a s.b s.c) % M32
 ⟨(x + y) % M32, s.a, s.b, s.c, (s.d + x) % M32, s.e, s.f, s.g⟩
theorem rnd_ok {s : S8} (h : s.Ok) (k w : Nat) : (rnd s k w).Ok := ⟨Nat.mod_lt _ (by decide), h.a, h.b, h.c, Nat.mod_lt _ (by decide), h.e, h.f, h.g⟩
def ks : List Nat := [
 0x428a2f98, 0x71374491, 0xb5c0fbcf, 0xe9b5dba5, 0x3956c25b, 0x59f111f1, 0x923f82a4, 0xab1c5ed5,
 0xd807aa98, 0x12835b01, 0x243185be, 0x550c7dc3, 0x72be5d74, 0x80deb1fe, 0x9bdc06a7, 0xc19bf174,
 0xe49b69c1, 0xefbe4786, 0x0fc19dc6, 0x240ca1cc, 0x2de92c6f, 0x4a7484aa, 0x5cb0a9dc, 0x76f988da,
 0x983e5152, 0xa831c66d, 0xb00327c8, 0xbf597fc7, 0xc6e00bf3, 0xd5a79147, 0x06ca6351, 0x14292967,
 0x27b70a85, 0x2e1b2138, 0x4d2c6dfc, 0x53380d13, 0x650a7354, 0x766a0abb, 0x81c2c92e, 0x92722c85,
 0xa2bfe8a1, 0xa81a664b, 0xc24b8b70, 0xc76c51a3, 0xd192e819, 0xd6990624, 0xf40e3585, 0x106aa070,
 0x19a4c116, 0x1e376c08, 0x2748774c, 0x34b0bcb5, 0x391c0cb3, 0x4ed8aa4a, 0x5b9cca4f, 0x682e6ff3,
 0x748f82ee, 0x78a5636f, 0x84c87814, 0x8cc70208, 0x90befffa, 0xa4506ceb, 0xbef9a3f7, 0xc67178f2]
def rounds (s : S8) (w : List Nat) : Nat → S8
 | 0 => s
 | n + 1 => rnd (rounds s w n) (ks.getD n 0) (w.getD n 0)
theorem rounds_ok {s : S8} (h : s.Ok) (w : List Nat) (n : Nat) : (rounds s w n).Ok := by
 induction n with
 | zero => exact h
 | succ n ih => exact rnd_ok ih _ _
def plus (s r : S8) : S8 := ⟨(s.a + r.a) % M32, (s.b + r.b) % M32, (s.c + r.c) % M32, (s.d + r.d) % M32, (s.e + r.e) % M32, (s.f + r.f) % M32, (s.g + r.g) % M32, (s.h + r.h) % M32⟩
theorem plus_ok (s r : S8) : (plus s r).Ok := ⟨Nat.mod_lt _ (by decide), Nat.mod_lt _ (by decide), Nat.mod_lt _ (by decide), Nat.mod_lt _ (by decide), Nat.mod_lt _ (by decide), Nat.mod_lt _ (by decide), Nat.mod_lt _ (by decide), Nat.mod_lt _ (by decide)⟩
def block (s : S8) (b : List Nat) : S8 := plus s (rounds s (words b 64) 64)
def init : S8 := ⟨0x6a09e667, 0xbb67ae85, 0x3c6ef372, 0xa54ff53a, 0x510e527f, 0x9b05688c, 0x1f83d9ab, 0x5be0cd19⟩
theorem init_ok : init.Ok := by constructor <;> decide
def run (s : S8) (b : List Nat) : Nat → S8
 | 0 => s
 | n + 1 => run (block s (b.take 64)) (b.drop 64) n
theorem run_ok {s : S8} (h : s.Ok) (b : List Nat) (n : Nat) : (run s b n).Ok := by
 induction n generalizing s b with
 | zero => exact h
 | succ n ih => exact ih (plus_ok _ _) _
theorem run_app (s : S8) (a b : List Nat) (n m : Nat) (h : 64 * n ≤ a.length) : run s (a ++ b) (n + m) = run (run s a n) (a.drop (64 * n) ++ b) m := by
 induction n generalizing s a with
 | zero => simp [run]
 | succ n ih =>
  rw [show n + 1 + m = (n + m) + 1 by omega, run, run, List.take_append_of_le_length (by omega), List.drop_append_of_le_length (by omega), ih _ _ (by simp; omega), List.drop_drop]
  rw [show 64 + 64 * n = 64 * (n + 1) by omega]
def put (n : Nat) : Nat → List Nat
 | 0 => []
 | k + 1 => n / 256 ^ k % 256 :: put n k
theorem put_length (n k : Nat) : (put n k).length = k := by induction k with | zero => rfl | succ k ih => simp [put, ih]
theorem put_bytes (n k : Nat) : Bytes (put n k) := by
 induction k with
 | zero => intro x hx; cases hx
 | succ k ih => intro x hx; rcases List.mem_cons.1 hx with rfl | hx; (· exact Nat.mod_lt _ (by decide)); (· exact ih x hx)
def tail (n : Nat) : List Nat := 128 :: (List.replicate ((119 - n % 64) % 64) 0 ++ put (8 * n % 18446744073709551616) 8)
def out (s : S8) : List Nat := put s.a 4 ++ put s.b 4 ++ put s.c 4 ++ put s.d 4 ++ put s.e 4 ++ put s.f 4 ++ put s.g 4 ++ put s.h 4
def sha (t : List Nat) : List Nat := out (run init (t ++ tail t.length) ((t.length + (tail t.length).length) / 64))
theorem tail_length (n : Nat) : (tail n).length = 9 + (119 - n % 64) % 64 := by simp [tail, put_length]; omega
theorem out_length (s : S8) : (out s).length = 32 := by simp [out, put_length]
def num : List Nat → Nat → Nat
 | [], n => n
 | x :: l, n => num l (n * 256 + x)
def hash (t : List Nat) : Nat := num ((sha t).take 8) 0
def point (s i : Nat) : Nat := hash (1 :: (put s 4 ++ put i 4))
end Go.Proofs.YtggdkfijioeijaaGreatDoor.Sh
namespace Go.Proofs.YtggdkfijioeijaaGreatDoor
open Go Go.RowKit
def nb (s : ByteArray) : List Nat := s.data.toList.map UInt8.toNat
def sb (l : List Nat) : ByteArray := ⟨(l.map UInt8.ofNat).toArray⟩
theorem nb_bytes (s : ByteArray) : Sh.Bytes (nb s) := by
 intro x hx
 obtain ⟨y, _, rfl⟩ := List.mem_map.1 hx
 exact y.toNat_lt
theorem nb_sb {l : List Nat} (h : Sh.Bytes l) : nb (sb l) = l := by
 unfold nb sb
 simp only [List.map_map]
 conv => rhs; rw [← List.map_id l]
 refine List.map_congr_left (fun x hx => ?_)
 have := h x hx
 show (UInt8.ofNat x).toNat = x
 simp; omega
theorem nb_length (s : ByteArray) : (nb s).length = s.size := by simp [nb]
theorem sb_size (l : List Nat) : (sb l).size = l.length := by simp [sb, ByteArray.size]
theorem strOfNums_nat (l : List Nat) : strOfNums (l.map Int.ofNat) = sb l := by simp [strOfNums, sb]
theorem nb_app (a b : ByteArray) : nb (a ++ b) = nb a ++ nb b := by simp [nb]
theorem sb_app (a b : List Nat) : sb a ++ sb b = sb (a ++ b) := by
 refine ba_ext ?_
 simp [sb]
theorem infoU8 : (Tryz.prog.info? 5).map (fun i => (i.zero, i.size, i.bytes)) = some (some (.int .u8 0), 1, 1) := by kernel_rfl
def cellsuint32 (n k : Nat) : Array Value := #[if 0 < k then (.int .u8 ((n / 16777216 % 256 : Nat) : Int)) else .int .u8 0, if 1 < k then (.int .u8 ((n / 65536 % 256 : Nat) : Int)) else .int .u8 0, if 2 < k then (.int .u8 ((n / 256 % 256 : Nat) : Int)) else .int .u8 0, if 3 < k then (.int .u8 ((n / 1 % 256 : Nat) : Int)) else .int .u8 0]
theorem put_uint32_eq (n : Nat) : Sh.put n 4 = [n / 16777216 % 256, n / 65536 % 256, n / 256 % 256, n / 1 % 256] := by simp [Sh.put]
set_option maxRecDepth 100000 in
set_option maxHeartbeats 4000000 in
theorem word_put_uint32 (n : Nat) (hn : n < 4294967296) (w : World) : Calls Tryz.prog 119 #[.int .u32 (n : Int), .int .i64 4] w fun e w' => e = .returned (.string (sb (Sh.put n 4))) ∧ Below w.heap.size w w' := by
 have hmc : madeCells #[Value.int .u8 0] 4 = cellsuint32 n 0 := by simp [madeCells, cellsuint32, Array.range]; rfl
 have hmk : ∀ w, (Instr.makeSlice 195 (.int .i64 4) (.int .i64 4)).run Tryz.prog w = .ok (.slice (some ⟨w.heap.size, 0, none⟩) 4 4) (w.alloc (.cells (cellsuint32 n 0) 5)) := fun w => by
  rw [← hmc]; exact run_make_row' (P := Tryz.prog) 195 5 (.int .u8 0) 1 Tryz.underlying195 infoU8 rfl .i64 .i64 4 (by decide) (by decide) w
 have hO : One w.heap.size (cellsuint32 n 0) (w.alloc (.cells (cellsuint32 n 0) 5)) := One.of w _ _
 clear hmc
 have HO := Lib.hid hO; clear hO
 have Hb0 : Hid (Below w.heap.size w (w.alloc (.cells (cellsuint32 n 0) 5))) := Lib.hid ((Below.refl _ _).alloc (Nat.le_refl _) _)
 go_enter Tryz.func119, Tryz.ntmps119
 go_wp2
 clear hmk
 go_loopw [10] (fun i wr => ∃ k : Nat, k ≤ 4 ∧ i = .int .i64 k ∧ Hid (One w.heap.size (cellsuint32 n k) wr) ∧ Hid (Below w.heap.size w wr)) (fun i _ => 4 - (intOf i).toNat)
 case atStart => exact ⟨0, by omega, rfl, HO, Hb0⟩
 case round =>
  obtain ⟨k, hk, rfl, HO, Hbw⟩ := hrel
  rcases (show k = 0 ∨ k = 1 ∨ k = 2 ∨ k = 3 ∨ k = 4 by omega) with rfl | rfl | rfl | rfl | rfl
  ·have cj : wr.cell? ⟨w.heap.size, 0, none⟩ = some (.int .u8 0) := by rw [HO.out.c]; rfl
   have fj := HO.out.f 0
   have HN : Hid (One w.heap.size (cellsuint32 n 1) (wr.setCell ⟨w.heap.size, 0, none⟩ (.int .u8 ((n / 16777216 % 256 : Nat) : Int)))) := Lib.hid (HO.out.set (i := 0) (by show 0 < 4; decide) _)
   rw [show ((n / 16777216 % 256 : Nat) : Int) = (n : Int) / 16777216 by omega] at HN
   go_wp2
   go_roundw
   case rel => exact ⟨1, by omega, by rfl, HN, Lib.hid (Hbw.out.setCell (Nat.le_refl _) _)⟩
   case measure => simp [intOf]
  ·have cj : wr.cell? ⟨w.heap.size, 1, none⟩ = some (.int .u8 0) := by rw [HO.out.c]; rfl
   have fj := HO.out.f 1
   have HN : Hid (One w.heap.size (cellsuint32 n 2) (wr.setCell ⟨w.heap.size, 1, none⟩ (.int .u8 ((n / 65536 % 256 : Nat) : Int)))) := Lib.hid (HO.out.set (i := 1) (by show 1 < 4; decide) _)
   rw [show ((n / 65536 % 256 : Nat) : Int) = (n : Int) / 65536 % 256 by omega] at HN
   go_wp2
   go_roundw
   case rel => exact ⟨2, by omega, by rfl, HN, Lib.hid (Hbw.out.setCell (Nat.le_refl _) _)⟩
   case measure => simp [intOf]
  ·have cj : wr.cell? ⟨w.heap.size, 2, none⟩ = some (.int .u8 0) := by rw [HO.out.c]; rfl
   have fj := HO.out.f 2
   have HN : Hid (One w.heap.size (cellsuint32 n 3) (wr.setCell ⟨w.heap.size, 2, none⟩ (.int .u8 ((n / 256 % 256 : Nat) : Int)))) := Lib.hid (HO.out.set (i := 2) (by show 2 < 4; decide) _)
   rw [show ((n / 256 % 256 : Nat) : Int) = (n : Int) / 256 % 256 by omega] at HN
   go_wp2
   go_roundw
   case rel => exact ⟨3, by omega, by rfl, HN, Lib.hid (Hbw.out.setCell (Nat.le_refl _) _)⟩
   case measure => simp [intOf]
  ·have cj : wr.cell? ⟨w.heap.size, 3, none⟩ = some (.int .u8 0) := by rw [HO.out.c]; rfl
   have fj := HO.out.f 3
   have HN : Hid (One w.heap.size (cellsuint32 n 4) (wr.setCell ⟨w.heap.size, 3, none⟩ (.int .u8 ((n / 1 % 256 : Nat) : Int)))) := Lib.hid (HO.out.set (i := 3) (by show 3 < 4; decide) _)
   rw [show ((n / 1 % 256 : Nat) : Int) = (n : Int) % 256 by omega] at HN
   go_wp2
   go_roundw
   case rel => exact ⟨4, by omega, by rfl, HN, Lib.hid (Hbw.out.setCell (Nat.le_refl _) _)⟩
   case measure => simp [intOf]
  ·have hcv := run_convert_bytes_arg (P := Tryz.prog) wr 195 5 Tryz.underlying195 Tryz.underlying5 w.heap.size 0 4 4 ((Sh.put n 4).map Int.ofNat) (by simp [Sh.put_length]) (fun i hi => by
    rw [HO.out.c, Nat.zero_add, put_uint32_eq]
    rcases (show i = 0 ∨ i = 1 ∨ i = 2 ∨ i = 3 by omega) with rfl | rfl | rfl | rfl <;> rfl) 9 Tryz.underlying9
   rw [strOfNums_nat] at hcv
   go_wp2
   go_ret
   exact ⟨rfl, Hbw.out⟩
def cellsuint64 (n k : Nat) : Array Value := #[if 0 < k then (.int .u8 ((n / 72057594037927936 % 256 : Nat) : Int)) else .int .u8 0, if 1 < k then (.int .u8 ((n / 281474976710656 % 256 : Nat) : Int)) else .int .u8 0, if 2 < k then (.int .u8 ((n / 1099511627776 % 256 : Nat) : Int)) else .int .u8 0, if 3 < k then (.int .u8 ((n / 4294967296 % 256 : Nat) : Int)) else .int .u8 0, if 4 < k then (.int .u8 ((n / 16777216 % 256 : Nat) : Int)) else .int .u8 0, if 5 < k then (.int .u8 ((n / 65536 % 256 : Nat) : Int)) else .int .u8 0, if 6 < k then (.int .u8 ((n / 256 % 256 : Nat) : Int)) else .int .u8 0, if 7 < k then (.int .u8 ((n / 1 % 256 : Nat) : Int)) else .int .u8 0]
theorem put_uint64_eq (n : Nat) : Sh.put n 8 = [n / 72057594037927936 % 256, n / 281474976710656 % 256, n / 1099511627776 % 256, n / 4294967296 % 256, n / 16777216 % 256, n / 65536 % 256, n / 256 % 256, n / 1 % 256] := by simp [Sh.put]
set_option maxRecDepth 100000 in
set_option maxHeartbeats 4000000 in
theorem word_put_uint64 (n : Nat) (hn : n < 18446744073709551616) (w : World) : Calls Tryz.prog 164 #[.int .u64 (n : Int), .int .i64 8] w fun e w' => e = .returned (.string (sb (Sh.put n 8))) ∧ Below w.heap.size w w' := by
 have hmc : madeCells #[Value.int .u8 0] 8 = cellsuint64 n 0 := by simp [madeCells, cellsuint64, Array.range]; rfl
 have hmk : ∀ w, (Instr.makeSlice 195 (.int .i64 8) (.int .i64 8)).run Tryz.prog w = .ok (.slice (some ⟨w.heap.size, 0, none⟩) 8 8) (w.alloc (.cells (cellsuint64 n 0) 5)) := fun w => by
  rw [← hmc]; exact run_make_row' (P := Tryz.prog) 195 5 (.int .u8 0) 1 Tryz.underlying195 infoU8 rfl .i64 .i64 8 (by decide) (by decide) w
 have hO : One w.heap.size (cellsuint64 n 0) (w.alloc (.cells (cellsuint64 n 0) 5)) := One.of w _ _
 clear hmc
 have HO := Lib.hid hO; clear hO
 have Hb0 : Hid (Below w.heap.size w (w.alloc (.cells (cellsuint64 n 0) 5))) := Lib.hid ((Below.refl _ _).alloc (Nat.le_refl _) _)
 go_enter Tryz.func164, Tryz.ntmps164
 go_wp2
 clear hmk
 go_loopw [10] (fun i wr => ∃ k : Nat, k ≤ 8 ∧ i = .int .i64 k ∧ Hid (One w.heap.size (cellsuint64 n k) wr) ∧ Hid (Below w.heap.size w wr)) (fun i _ => 8 - (intOf i).toNat)
 case atStart => exact ⟨0, by omega, rfl, HO, Hb0⟩
 case round =>
  obtain ⟨k, hk, rfl, HO, Hbw⟩ := hrel
  rcases (show k = 0 ∨ k = 1 ∨ k = 2 ∨ k = 3 ∨ k = 4 ∨ k = 5 ∨ k = 6 ∨ k = 7 ∨ k = 8 by omega) with rfl | rfl | rfl | rfl | rfl | rfl | rfl | rfl | rfl
  ·have cj : wr.cell? ⟨w.heap.size, 0, none⟩ = some (.int .u8 0) := by rw [HO.out.c]; rfl
   have fj := HO.out.f 0
   have HN : Hid (One w.heap.size (cellsuint64 n 1) (wr.setCell ⟨w.heap.size, 0, none⟩ (.int .u8 ((n / 72057594037927936 % 256 : Nat) : Int)))) := Lib.hid (HO.out.set (i := 0) (by show 0 < 8; decide) _)
   rw [show ((n / 72057594037927936 % 256 : Nat) : Int) = (n : Int) / 72057594037927936 by omega] at HN
   go_wp2
   go_roundw
   case rel => exact ⟨1, by omega, by rfl, HN, Lib.hid (Hbw.out.setCell (Nat.le_refl _) _)⟩
   case measure => simp [intOf]
  ·have cj : wr.cell? ⟨w.heap.size, 1, none⟩ = some (.int .u8 0) := by rw [HO.out.c]; rfl
   have fj := HO.out.f 1
   have HN : Hid (One w.heap.size (cellsuint64 n 2) (wr.setCell ⟨w.heap.size, 1, none⟩ (.int .u8 ((n / 281474976710656 % 256 : Nat) : Int)))) := Lib.hid (HO.out.set (i := 1) (by show 1 < 8; decide) _)
   rw [show ((n / 281474976710656 % 256 : Nat) : Int) = (n : Int) / 281474976710656 % 256 by omega] at HN
   go_wp2
   go_roundw
   case rel => exact ⟨2, by omega, by rfl, HN, Lib.hid (Hbw.out.setCell (Nat.le_refl _) _)⟩
   case measure => simp [intOf]
  ·have cj : wr.cell? ⟨w.heap.size, 2, none⟩ = some (.int .u8 0) := by rw [HO.out.c]; rfl
   have fj := HO.out.f 2
   have HN : Hid (One w.heap.size (cellsuint64 n 3) (wr.setCell ⟨w.heap.size, 2, none⟩ (.int .u8 ((n / 1099511627776 % 256 : Nat) : Int)))) := Lib.hid (HO.out.set (i := 2) (by show 2 < 8; decide) _)
   rw [show ((n / 1099511627776 % 256 : Nat) : Int) = (n : Int) / 1099511627776 % 256 by omega] at HN
   go_wp2
   go_roundw
   case rel => exact ⟨3, by omega, by rfl, HN, Lib.hid (Hbw.out.setCell (Nat.le_refl _) _)⟩
   case measure => simp [intOf]
  ·have cj : wr.cell? ⟨w.heap.size, 3, none⟩ = some (.int .u8 0) := by rw [HO.out.c]; rfl
   have fj := HO.out.f 3
   have HN : Hid (One w.heap.size (cellsuint64 n 4) (wr.setCell ⟨w.heap.size, 3, none⟩ (.int .u8 ((n / 4294967296 % 256 : Nat) : Int)))) := Lib.hid (HO.out.set (i := 3) (by show 3 < 8; decide) _)
   rw [show ((n / 4294967296 % 256 : Nat) : Int) = (n : Int) / 4294967296 % 256 by omega] at HN
   go_wp2
   go_roundw
   case rel => exact ⟨4, by omega, by rfl, HN, Lib.hid (Hbw.out.setCell (Nat.le_refl _) _)⟩
   case measure => simp [intOf]
  ·have cj : wr.cell? ⟨w.heap.size, 4, none⟩ = some (.int .u8 0) := by rw [HO.out.c]; rfl
   have fj := HO.out.f 4
   have HN : Hid (One w.heap.size (cellsuint64 n 5) (wr.setCell ⟨w.heap.size, 4, none⟩ (.int .u8 ((n / 16777216 % 256 : Nat) : Int)))) := Lib.hid (HO.out.set (i := 4) (by show 4 < 8; decide) _)
   rw [show ((n / 16777216 % 256 : Nat) : Int) = (n : Int) / 16777216 % 256 by omega] at HN
   go_wp2
   go_roundw
   case rel => exact ⟨5, by omega, by rfl, HN, Lib.hid (Hbw.out.setCell (Nat.le_refl _) _)⟩
   case measure => simp [intOf]
  ·have cj : wr.cell? ⟨w.heap.size, 5, none⟩ = some (.int .u8 0) := by rw [HO.out.c]; rfl
   have fj := HO.out.f 5
   have HN : Hid (One w.heap.size (cellsuint64 n 6) (wr.setCell ⟨w.heap.size, 5, none⟩ (.int .u8 ((n / 65536 % 256 : Nat) : Int)))) := Lib.hid (HO.out.set (i := 5) (by show 5 < 8; decide) _)
   rw [show ((n / 65536 % 256 : Nat) : Int) = (n : Int) / 65536 % 256 by omega] at HN
   go_wp2
   go_roundw
   case rel => exact ⟨6, by omega, by rfl, HN, Lib.hid (Hbw.out.setCell (Nat.le_refl _) _)⟩
   case measure => simp [intOf]
  ·have cj : wr.cell? ⟨w.heap.size, 6, none⟩ = some (.int .u8 0) := by rw [HO.out.c]; rfl
   have fj := HO.out.f 6
   have HN : Hid (One w.heap.size (cellsuint64 n 7) (wr.setCell ⟨w.heap.size, 6, none⟩ (.int .u8 ((n / 256 % 256 : Nat) : Int)))) := Lib.hid (HO.out.set (i := 6) (by show 6 < 8; decide) _)
   rw [show ((n / 256 % 256 : Nat) : Int) = (n : Int) / 256 % 256 by omega] at HN
   go_wp2
   go_roundw
   case rel => exact ⟨7, by omega, by rfl, HN, Lib.hid (Hbw.out.setCell (Nat.le_refl _) _)⟩
   case measure => simp [intOf]
  ·have cj : wr.cell? ⟨w.heap.size, 7, none⟩ = some (.int .u8 0) := by rw [HO.out.c]; rfl
   have fj := HO.out.f 7
   have HN : Hid (One w.heap.size (cellsuint64 n 8) (wr.setCell ⟨w.heap.size, 7, none⟩ (.int .u8 ((n / 1 % 256 : Nat) : Int)))) := Lib.hid (HO.out.set (i := 7) (by show 7 < 8; decide) _)
   rw [show ((n / 1 % 256 : Nat) : Int) = (n : Int) % 256 by omega] at HN
   go_wp2
   go_roundw
   case rel => exact ⟨8, by omega, by rfl, HN, Lib.hid (Hbw.out.setCell (Nat.le_refl _) _)⟩
   case measure => simp [intOf]
  ·have hcv := run_convert_bytes_arg (P := Tryz.prog) wr 195 5 Tryz.underlying195 Tryz.underlying5 w.heap.size 0 8 8 ((Sh.put n 8).map Int.ofNat) (by simp [Sh.put_length]) (fun i hi => by
    rw [HO.out.c, Nat.zero_add, put_uint64_eq]
    rcases (show i = 0 ∨ i = 1 ∨ i = 2 ∨ i = 3 ∨ i = 4 ∨ i = 5 ∨ i = 6 ∨ i = 7 by omega) with rfl | rfl | rfl | rfl | rfl | rfl | rfl | rfl <;> rfl) 9 Tryz.underlying9
   rw [strOfNums_nat] at hcv
   go_wp2
   go_ret
   exact ⟨rfl, Hbw.out⟩
end Go.Proofs.YtggdkfijioeijaaGreatDoor
namespace Go.Proofs.YtggdkfijioeijaaGreatDoor
open Go Go.RowKit
theorem word_Put32 (n : Nat) (hn : n < 4294967296) (w : World) : Calls Tryz.prog 86 #[.int .u32 (n : Int)] w fun e w' => e = .returned (.string (sb (Sh.put n 4))) ∧ Below w.heap.size w w' := by
 go_enter Tryz.func86, Tryz.ntmps86
 go_wp2_with fail
 refine (word_put_uint32 n hn w).mono ?_
 rintro e w' ⟨rfl, hb⟩
 have Hb := Lib.hid hb; clear hb
 go_wp2_with fail
 go_ret
 exact ⟨rfl, Hb.out⟩
theorem word_Put64 (n : Nat) (hn : n < 18446744073709551616) (w : World) : Calls Tryz.prog 128 #[.int .u64 (n : Int)] w fun e w' => e = .returned (.string (sb (Sh.put n 8))) ∧ Below w.heap.size w w' := by
 go_enter Tryz.func128, Tryz.ntmps128
 go_wp2_with fail
 refine (word_put_uint64 n hn w).mono ?_
 rintro e w' ⟨rfl, hb⟩
 have Hb := Lib.hid hb; clear hb
 go_wp2_with fail
 go_ret
 exact ⟨rfl, Hb.out⟩
theorem num_app (l : List Nat) (x n : Nat) : Sh.num (l ++ [x]) n = Sh.num l n * 256 + x := by
 induction l generalizing n with
 | nil => rfl
 | cons y l ih => exact ih _
theorem num_lt (l : List Nat) (h : Sh.Bytes l) (n : Nat) : Sh.num l n < (n + 1) * 256 ^ l.length := by
 induction l generalizing n with
 | nil => simp [Sh.num]
 | cons y l ih =>
  have hy := h y (by simp)
  have := ih (fun x hx => h x (List.mem_cons_of_mem _ hx)) (n * 256 + y)
  refine Nat.lt_of_lt_of_le this ?_
  rw [List.length_cons, Nat.pow_succ, Nat.mul_comm (256 ^ l.length) 256, ← Nat.mul_assoc]
  exact Nat.mul_le_mul_right _ (by omega)
theorem nb_get (s : ByteArray) (i : Nat) (h : i < s.size) : (nb s)[i]? = some (s[i].toNat) := by
 unfold nb
 have : s.data.toList[i]? = some s[i] := by
  rw [List.getElem?_eq_getElem (by simpa using h)]; simp; rfl
 rw [List.getElem?_map, this]; rfl
theorem take_succ_nb (s : ByteArray) (a k : Nat) (h : a + k < s.size) : ((nb s).drop a).take (k + 1) = ((nb s).drop a).take k ++ [s[a + k].toNat] := by
 rw [List.take_add_one, List.getElem?_drop, nb_get s _ h]; rfl
set_option maxRecDepth 100000 in
set_option maxHeartbeats 2000000 in
theorem word_get_uint32 (s : ByteArray) (a : Nat) (ha : a + 4 ≤ s.size) (hs : s.size ≤ 1000000) (w : World) :
  Calls Tryz.prog 189 #[.string s, .int .i64 a, .int .i64 4] w fun e w' => e = .returned (.tuple #[.int .u32 (Sh.num (((nb s).drop a).take 4) 0 : Nat), .bool true]) ∧ w' = w := by
 go_enter Tryz.func189, Tryz.ntmps189
 have h1 : ¬ ((s.size : Int) - 4 < (a : Int)) := by omega
 have h2 : decide ((s.size : Int) - 4 < (a : Int)) = false := by simp; omega
 go_wp2
 go_loopw [6, 20] (fun vn i wr => ∃ k : Nat, k ≤ 4 ∧ i = .int .i64 k ∧ vn = .int .u32 (Sh.num (((nb s).drop a).take k) 0 : Nat) ∧ wr = w) (fun _ i _ => 4 - (intOf i).toNat)
 case atStart => exact ⟨0, by omega, rfl, rfl, rfl⟩
 case round =>
  obtain ⟨k, hk, rfl, rfl, rfl⟩ := hrel
  by_cases hlt : k < 4
  ·have hak : a + k < s.size := by omega
   obtain ⟨c, hc⟩ : ∃ c : Nat, c = s[a + k].toNat := ⟨_, rfl⟩
   have hc2 : c < 256 := by rw [hc]; exact s[a + k].toNat_lt
   have hx := num_app (((nb s).drop a).take k) c 0
   have hl := num_lt (((nb s).drop a).take k) (fun x hx => nb_bytes s x (List.mem_of_mem_drop (List.mem_of_mem_take hx))) 0
   have hl2 : Sh.num (((nb s).drop a).take k) 0 < 16777216 := by
    refine Nat.lt_of_lt_of_le hl ?_
    rw [Nat.zero_add, Nat.one_mul]
    exact Nat.le_trans (Nat.pow_le_pow_right (n := 256) (by decide) (show _ ≤ 3 by simp; omega)) (by decide)
   rw [hc, ← take_succ_nb s a k hak] at hx
   rw [← hc] at hx
   obtain ⟨m, hm⟩ : ∃ m, Sh.num (((nb s).drop a).take k) 0 = m := ⟨_, rfl⟩
   rw [hm] at hl2 hx
   have eor : bits .or .u32 ((m : Int) * 256) (c : Int) = ((m * 256 + c : Nat) : Int) := by
    rw [show (m : Int) * 256 = ((m * 256 : Nat) : Int) by omega, u32_or_nat _ _ (by omega) (by omega), nat_join 8 (m * 256) c (by omega) hc2]
   rw [hc] at eor hx hc2
   have HX := Lib.hid hx; have EOR := Lib.hid eor
   rw [hm]
   clear hx hl hm eor hc c
   go_wp2
   go_roundw
   case rel => exact ⟨k + 1, by omega, by go_num, by rw [HX.out]; exact congrArg _ EOR.out, trivial⟩
   case measure => simp [intOf]; omega
  ·obtain rfl : k = 4 := by omega
   go_wp2
   go_ret2
   exact ⟨rfl, rfl⟩
set_option maxRecDepth 100000 in
set_option maxHeartbeats 2000000 in
theorem word_get_uint64 (s : ByteArray) (a : Nat) (ha : a + 8 ≤ s.size) (hs : s.size ≤ 1000000) (w : World) :
  Calls Tryz.prog 99 #[.string s, .int .i64 a, .int .i64 8] w fun e w' => e = .returned (.tuple #[.int .u64 (Sh.num (((nb s).drop a).take 8) 0 : Nat), .bool true]) ∧ w' = w := by
 go_enter Tryz.func99, Tryz.ntmps99
 have h1 : ¬ ((s.size : Int) - 8 < (a : Int)) := by omega
 have h2 : decide ((s.size : Int) - 8 < (a : Int)) = false := by simp; omega
 go_wp2
 go_loopw [6, 20] (fun vn i wr => ∃ k : Nat, k ≤ 8 ∧ i = .int .i64 k ∧ vn = .int .u64 (Sh.num (((nb s).drop a).take k) 0 : Nat) ∧ wr = w) (fun _ i _ => 8 - (intOf i).toNat)
 case atStart => exact ⟨0, by omega, rfl, rfl, rfl⟩
 case round =>
  obtain ⟨k, hk, rfl, rfl, rfl⟩ := hrel
  by_cases hlt : k < 8
  ·have hak : a + k < s.size := by omega
   obtain ⟨c, hc⟩ : ∃ c : Nat, c = s[a + k].toNat := ⟨_, rfl⟩
   have hc2 : c < 256 := by rw [hc]; exact s[a + k].toNat_lt
   have hx := num_app (((nb s).drop a).take k) c 0
   have hl := num_lt (((nb s).drop a).take k) (fun x hx => nb_bytes s x (List.mem_of_mem_drop (List.mem_of_mem_take hx))) 0
   have hl2 : Sh.num (((nb s).drop a).take k) 0 < 72057594037927936 := by
    refine Nat.lt_of_lt_of_le hl ?_
    rw [Nat.zero_add, Nat.one_mul]
    exact Nat.le_trans (Nat.pow_le_pow_right (n := 256) (by decide) (show _ ≤ 7 by simp; omega)) (by decide)
   rw [hc, ← take_succ_nb s a k hak] at hx
   rw [← hc] at hx
   obtain ⟨m, hm⟩ : ∃ m, Sh.num (((nb s).drop a).take k) 0 = m := ⟨_, rfl⟩
   rw [hm] at hl2 hx
   have eor : bits .or .u64 ((m : Int) * 256) (c : Int) = ((m * 256 + c : Nat) : Int) := by
    rw [show (m : Int) * 256 = ((m * 256 : Nat) : Int) by omega, u64_or_nat _ _ (by omega) (by omega), nat_join 8 (m * 256) c (by omega) hc2]
   rw [hc] at eor hx hc2
   have HX := Lib.hid hx; have EOR := Lib.hid eor
   rw [hm]
   clear hx hl hm eor hc c
   go_wp2
   go_roundw
   case rel => exact ⟨k + 1, by omega, by go_num, by rw [HX.out]; exact congrArg _ EOR.out, trivial⟩
   case measure => simp [intOf]; omega
  ·obtain rfl : k = 8 := by omega
   go_wp2
   go_ret2
   exact ⟨rfl, rfl⟩
theorem word_Get32 (s : ByteArray) (a : Nat) (ha : a + 4 ≤ s.size) (hs : s.size ≤ 1000000) (w : World) : Calls Tryz.prog 180 #[.string s, .int .i64 a] w fun e w' => e = .returned (.tuple #[.int .u32 (Sh.num (((nb s).drop a).take 4) 0 : Nat), .bool true]) ∧ w' = w := by
 go_enter Tryz.func180, Tryz.ntmps180
 go_wp2_with fail
 refine (word_get_uint32 s a ha hs w).mono ?_
 rintro e w' ⟨rfl, rfl⟩
 go_wp2_with fail
 go_ret2
 exact ⟨rfl, rfl⟩
theorem word_Get64 (s : ByteArray) (a : Nat) (ha : a + 8 ≤ s.size) (hs : s.size ≤ 1000000) (w : World) : Calls Tryz.prog 72 #[.string s, .int .i64 a] w fun e w' => e = .returned (.tuple #[.int .u64 (Sh.num (((nb s).drop a).take 8) 0 : Nat), .bool true]) ∧ w' = w := by
 go_enter Tryz.func72, Tryz.ntmps72
 go_wp2_with fail
 refine (word_get_uint64 s a ha hs w).mono ?_
 rintro e w' ⟨rfl, rfl⟩
 go_wp2_with fail
 go_ret2
 exact ⟨rfl, rfl⟩
theorem and31 (n : Int) : bits .and .i64 n 31 = n % 32 := by
 have h31 : (BitVec.ofInt 64 31).toNat = 2 ^ 5 - 1 := by decide
 have key : (BitVec.ofInt 64 n &&& BitVec.ofInt 64 31).toNat = (n % ((2 ^ 64 : Nat) : Int)).toNat % 2 ^ 5 := by
  rw [BitVec.toNat_and, BitVec.toNat_ofInt, h31, Nat.and_two_pow_sub_one_eq_mod]
 show IntKind.i64.wrap ((BitVec.ofInt 64 n &&& BitVec.ofInt 64 31).toNat : Nat) = n % 32
 rw [key, IntKind.wrap_i64]
 omega
theorem turn_int (n k : Nat) (hn : n < 4294967296) : bits .or .u32 ((n : Int) / 2 ^ k) ((n : Int) * 2 ^ (32 - k) % 4294967296) = ((Sh.turn n k : Nat) : Int) := by
 have e1 : (n : Int) / 2 ^ k = ((n / 2 ^ k : Nat) : Int) := by rw [Int.natCast_ediv, Int.natCast_pow]; rfl
 have e2 : (n : Int) * 2 ^ (32 - k) % 4294967296 = ((n * 2 ^ (32 - k) % 4294967296 : Nat) : Int) := by rw [Int.natCast_emod, Int.natCast_mul, Int.natCast_pow]; rfl
 rw [e1, e2, u32_or_nat _ _ (Nat.lt_of_le_of_lt (Nat.div_le_self _ _) hn) (Nat.mod_lt _ (by decide))]
 rfl
set_option maxRecDepth 100000 in
set_option maxHeartbeats 2000000 in
theorem word_Turn (n k : Nat) (hn : n < 4294967296) (hk : 0 < k) (hk2 : k < 32) (w : World) : Calls Tryz.prog 181 #[.int .u32 (n : Int), .int .i64 k] w fun e w' => e = .returned (.int .u32 (Sh.turn n k : Nat)) ∧ Below w.heap.size w w' := by
 have eand : bits .and .i64 (k : Int) 31 = (k : Int) := by rw [and31]; omega
 go_enter Tryz.func181, Tryz.ntmps181
 go_wp2
 go_region
 all_goals go_wp2
 all_goals go_ret
 exact ⟨ret_val (congrArg _ (turn_int n k hn)), (Below.refl _ _).drew⟩
end Go.Proofs.YtggdkfijioeijaaGreatDoor
namespace Go.Proofs.YtggdkfijioeijaaGreatDoor
open Go Go.RowKit
def mix (x : Nat) (ks : List Nat) : Nat := ks.foldl (fun y k => y ^^^ Sh.turn x k) 0
theorem mix_lt {x : Nat} (hx : x < 4294967296) (ks : List Nat) : mix x ks < 4294967296 := by
 unfold mix
 have : ∀ (l : List Nat) (y : Nat), y < 4294967296 → l.foldl (fun y k => y ^^^ Sh.turn x k) y < 4294967296 := by
  intro l
  induction l with
  | nil => intro y h; exact h
  | cons a l ih => intro y h; exact ih _ (Sh.xor_lt h (Sh.turn_lt hx))
 exact this ks 0 (by decide)
theorem mix_snoc (x : Nat) (ks : List Nat) (k : Nat) : mix x (ks ++ [k]) = mix x ks ^^^ Sh.turn x k := by simp [mix]
set_option maxRecDepth 100000 in
set_option maxHeartbeats 2000000 in
theorem sha_turned (x : Nat) (hx : x < 4294967296) (ks : List Nat) (hk : ∀ j, j < ks.length → 0 < ks.getD j 0 ∧ ks.getD j 0 < 32) (hl : ks.length ≤ 10) (b : Nat) (cap : Nat) (t : TypeId) (w : World)
  (hb : w.heap[b]? = some (.cells (ks.map (fun k : Nat => Value.int .i64 (k : Int))).toArray t (0, 0))) :
  Calls Tryz.prog 163 #[.int .u32 (x : Int), .slice (some ⟨b, 0, none⟩) ks.length cap] w fun e w' => e = .returned (.int .u32 (mix x ks : Nat)) ∧ Below w.heap.size w w' := by
 have hlt : b < w.heap.size := lt_of_block hb
 have hc : ∀ j, j < ks.length → w.cell? ⟨b, j, none⟩ = some (.int .i64 ((ks.getD j 0 : Nat) : Int)) := by
  intro j hj
  unfold World.cell?
  simp only [hb]
  simp [List.getD_eq_getElem?_getD, hj]
 have Hc := Lib.hid hc; have Hk := Lib.hid hk; clear hc hb hk
 go_enter Tryz.func163, Tryz.ntmps163
 go_wp2_with fail
 go_loopw [4, 9] (fun vy i wr => ∃ k : Nat, k ≤ ks.length ∧ i = .int .i64 k ∧ vy = .int .u32 (mix x (ks.take k) : Nat) ∧ Hid (Below w.heap.size w wr)) (fun _ i _ => ks.length - (intOf i).toNat)
 case atStart => exact ⟨0, Nat.zero_le _, rfl, rfl, Lib.hid (Below.refl _ _)⟩
 case round =>
  obtain ⟨k, hkl, rfl, rfl, Hbw⟩ := hrel
  by_cases hlt2 : k < ks.length
  ·have hcx := (Hbw.out.cell (p := ⟨b, k, none⟩) hlt).trans (Hc.out k hlt2)
   obtain ⟨h0, h31⟩ := Hk.out k hlt2
   obtain ⟨m, hm⟩ : ∃ m, ks.getD k 0 = m := ⟨_, rfl⟩
   rw [hm] at hcx h0 h31
   obtain ⟨y, hy⟩ : ∃ y, mix x (ks.take k) = y := ⟨_, rfl⟩
   have hyl : y < 4294967296 := hy ▸ mix_lt hx _
   obtain ⟨z, hz⟩ : ∃ z, Sh.turn x m = z := ⟨_, rfl⟩
   have hzl : z < 4294967296 := hz ▸ Sh.turn_lt hx
   have ex := u32_xor_nat y z hyl hzl
   have hn : mix x (ks.take (k + 1)) = y ^^^ z := by
    rw [List.take_add_one, show ks[k]? = some m by rw [← hm, List.getD_eq_getElem?_getD, List.getElem?_eq_getElem hlt2]; rfl]
    rw [← hy, ← hz]; exact mix_snoc _ _ _
   have HN := Lib.hid hn; have HT := Lib.hid (word_Turn x m hx h0 h31 wr)
   rw [hy]
   rw [hz] at HT
   clear hn hm hy hz h0 h31
   go_wp2_with (go_at_call 181; refine HT.out.mono ?_; rintro e w1 ⟨rfl, hb1⟩; have Hb1 := Lib.hid hb1; clear hb1)
   go_roundw
   case rel => exact ⟨k + 1, by omega, by go_num, by rw [HN.out], Lib.hid (Hbw.out.trans (Hb1.out.mono Hbw.out.size))⟩
   case measure => simp [intOf]; omega
  ·obtain rfl : k = ks.length := by omega
   rw [List.take_length]
   go_wp2_with fail
   go_ret
   exact ⟨rfl, Hbw.out⟩
end Go.Proofs.YtggdkfijioeijaaGreatDoor
namespace Go.Proofs.YtggdkfijioeijaaGreatDoor
open Go Go.RowKit
theorem two1 (W : World) (A B : Obj) : ((W.alloc A).alloc B).heap[W.heap.size]? = some A := (Below.heap_alloc _ _ _ (by simp)).trans (MapKept.heap_alloc _ _).1
theorem two2 (W : World) (A B : Obj) : ((W.alloc A).alloc B).heap[W.heap.size + 1]? = some B := by
 have h := (MapKept.heap_alloc (W.alloc A) B).1
 rwa [World.size_alloc] at h
structure RowW (B : Nat) (F : Nat → Nat) (k : Nat) (W : World) : Prop where
 lt : B < W.heap.size
 c : ∀ j, j < 64 → W.cell? ⟨B, j, none⟩ = some (.int .u32 ((if j < k then F j else 0 : Nat) : Int))
 f : ∀ j, W.frozen? ⟨B, j, none⟩ = false
structure RowX (B : Nat) (F : Nat → Nat) (k : Nat) (W : World) : Prop where
 lt : B < W.heap.size
 c : ∀ j, j < 64 → j ≠ k → W.cell? ⟨B, j, none⟩ = some (.int .u32 ((if j < k then F j else 0 : Nat) : Int))
 e : ∃ u, W.cell? ⟨B, k, none⟩ = some u
 f : ∀ j, W.frozen? ⟨B, j, none⟩ = false
theorem RowW.x {B : Nat} {F : Nat → Nat} {k : Nat} {W : World} (h : RowW B F k W) (hk : k < 64) : RowX B F k W := ⟨h.lt, fun j hj _ => h.c j hj, ⟨_, h.c k hk⟩, h.f⟩
theorem RowW.below {B : Nat} {F : Nat → Nat} {k : Nat} {W W' : World} (h : RowW B F k W) (hb : Below W.heap.size W W') : RowW B F k W' :=
 ⟨Nat.lt_of_lt_of_le h.lt hb.size, fun j hj => (hb.cell (p := ⟨B, j, none⟩) h.lt).trans (h.c j hj), fun j => (hb.frozen (p := ⟨B, j, none⟩) h.lt).trans (h.f j)⟩
theorem RowX.below {B : Nat} {F : Nat → Nat} {k : Nat} {W W' : World} (h : RowX B F k W) (hb : Below W.heap.size W W') : RowX B F k W' :=
 ⟨Nat.lt_of_lt_of_le h.lt hb.size, fun j hj hne => (hb.cell (p := ⟨B, j, none⟩) h.lt).trans (h.c j hj hne), by obtain ⟨u, hu⟩ := h.e; exact ⟨u, (hb.cell (p := ⟨B, k, none⟩) h.lt).trans hu⟩, fun j => (hb.frozen (p := ⟨B, j, none⟩) h.lt).trans (h.f j)⟩
theorem RowX.alloc {B : Nat} {F : Nat → Nat} {k : Nat} {W : World} (h : RowX B F k W) (o : Obj) : RowX B F k (W.alloc o) := h.below ((Below.refl _ _).alloc (Nat.le_refl _) _)
theorem RowX.drew {B : Nat} {F : Nat → Nat} {k : Nat} {W : World} (h : RowX B F k W) : RowX B F k W.drew := h.below (Below.refl _ _).drew
theorem RowX.set {B : Nat} {F : Nat → Nat} {k : Nat} {W : World} (h : RowX B F k W) (v : Value) : RowX B F k (W.setCell ⟨B, k, none⟩ v) := by
 refine ⟨by simpa using h.lt, fun j hj hne => ?_, ?_, fun j => by rw [World.frozen?_setCell]; exact h.f j⟩
 ·rw [World.cell?_setCell_other _ _ _ _ (by intro x; injection x with _ x; exact hne x.symm)]; exact h.c j hj hne
 ·obtain ⟨u, hu⟩ := h.e
  exact ⟨v, World.cell?_setCell_same' _ _ _ (by rw [hu]; rfl)⟩
theorem RowX.done {B : Nat} {F : Nat → Nat} {k : Nat} {W : World} (h : RowX B F k W) (hk : k < 64) {m : Nat} (hm : m = F k) : RowW B F (k + 1) (W.setCell ⟨B, k, none⟩ (.int .u32 (m : Int))) := by
 subst hm
 refine ⟨by simpa using h.lt, fun j hj => ?_, fun j => by rw [World.frozen?_setCell]; exact h.f j⟩
 by_cases e : j = k
 ·subst e
  obtain ⟨u, hu⟩ := h.e
  rw [World.cell?_setCell_same' _ _ _ (by rw [hu]; rfl), if_pos (by omega)]
 ·rw [World.cell?_setCell_other _ _ _ _ (by intro x; injection x with _ x; exact e x.symm), h.c j hj e]
  congr 3
  by_cases h1 : j < k
  ·rw [if_pos h1, if_pos (by omega)]
  ·rw [if_neg h1, if_neg (by omega)]
theorem take4 (l : List Nat) (a : Nat) (h : a + 4 ≤ l.length) : Sh.num ((l.drop a).take 4) 0 = ((l.getD a 0 * 256 + l.getD (a + 1) 0) * 256 + l.getD (a + 2) 0) * 256 + l.getD (a + 3) 0 := by
 have e : (l.drop a).take 4 = [l.getD a 0, l.getD (a + 1) 0, l.getD (a + 2) 0, l.getD (a + 3) 0] := by
  refine List.ext_getElem (by simp; omega) (fun i h1 h2 => ?_)
  simp only [List.length_cons, List.length_nil] at h2
  rw [List.getElem_take, List.getElem_drop]
  rcases (show i = 0 ∨ i = 1 ∨ i = 2 ∨ i = 3 by omega) with rfl | rfl | rfl | rfl <;> simp [List.getD_eq_getElem?_getD, show a + 3 < l.length by omega, show a + 2 < l.length by omega, show a + 1 < l.length by omega, show a < l.length by omega]
 rw [e]
 simp [Sh.num]
theorem word_num (s : ByteArray) (t : Nat) (h : 4 * t + 4 ≤ s.size) : Sh.num (((nb s).drop (4 * t)).take 4) 0 = Sh.word (nb s) t := by
 rw [take4 _ _ (by rw [nb_length]; exact h)]; rfl
theorem words_stable (b : List Nat) {k j n : Nat} (hj : j < k) (hn : j < n) : (Sh.words b k).getD j 0 = (Sh.words b n).getD j 0 := by rw [Sh.words_getD b hj, Sh.words_getD b hn]
theorem next_eq (b : List Nat) {k : Nat} (h16 : 16 ≤ k) (h64 : k < 64) : (Sh.words b 64).getD k 0 = ((Sh.words b 64).getD (k - 16) 0 + Sh.sig0 ((Sh.words b 64).getD (k - 15) 0) + (Sh.words b 64).getD (k - 7) 0 + Sh.sig1 ((Sh.words b 64).getD (k - 2) 0)) % 4294967296 := by
 rw [Sh.words_getD b h64, if_neg (by omega)]
 unfold Sh.next
 rw [words_stable b (show k - 16 < k by omega) (show k - 16 < 64 by omega), words_stable b (show k - 15 < k by omega) (show k - 15 < 64 by omega), words_stable b (show k - 7 < k by omega) (show k - 7 < 64 by omega), words_stable b (show k - 2 < k by omega) (show k - 2 < 64 by omega)]
theorem sig0_int {x : Nat} (hx : x < 4294967296) : bits .xor .u32 ((mix x [7, 18] : Nat) : Int) ((x : Int) / 8) = ((Sh.sig0 x : Nat) : Int) := by
 rw [show ((x : Int) / 8) = ((x / 8 : Nat) : Int) by omega, u32_xor_nat _ _ (mix_lt hx _) (Sh.div_lt hx)]
 simp [mix, Sh.sig0]
theorem sig1_int {x : Nat} (hx : x < 4294967296) : bits .xor .u32 ((mix x [17, 19] : Nat) : Int) ((x : Int) / 1024) = ((Sh.sig1 x : Nat) : Int) := by
 rw [show ((x : Int) / 1024) = ((x / 1024 : Nat) : Int) by omega, u32_xor_nat _ _ (mix_lt hx _) (Sh.div_lt hx)]
 simp [mix, Sh.sig1]
theorem infoU32 : (Tryz.prog.info? 28).map (fun i => (i.zero, i.size, i.bytes)) = some (some (.int .u32 0), 1, 4) := by kernel_rfl
set_option maxRecDepth 100000 in
set_option maxHeartbeats 8000000 in
theorem sha_Words (s : ByteArray) (hs : s.size = 64) (w : World) :
    Calls Tryz.prog 162 #[.string s] w fun e w' => e = .returned (.slice (some ⟨w.heap.size, 0, none⟩) 64 64) ∧ RowW w.heap.size (fun j => (Sh.words (nb s) 64).getD j 0) 64 w' ∧ Below w.heap.size w w' := by
  obtain ⟨F, hF⟩ : ∃ F : Nat → Nat, ∀ j, (Sh.words (nb s) 64).getD j 0 = F j := ⟨fun j => (Sh.words (nb s) 64).getD j 0, fun _ => rfl⟩
  have hFl : ∀ j, F j < 4294967296 := fun j => hF j ▸ Sh.words_getD_lt (nb_bytes s) 64 j
  have hF16 : ∀ j, j < 16 → F j = Sh.num (((nb s).drop (4 * j)).take 4) 0 := fun j hj => by
    rw [← hF, Sh.words_getD _ (by omega), if_pos hj, word_num s j (by omega)]
  have hFn : ∀ k, 16 ≤ k → k < 64 → F k = (F (k - 16) + Sh.sig0 (F (k - 15)) + F (k - 7) + Sh.sig1 (F (k - 2))) % 4294967296 := fun k h1 h2 => by
    rw [← hF, next_eq _ h1 h2, hF, hF, hF, hF]
  have hmk : ∀ w, (Instr.makeSlice 64 (.int .i64 64) (.int .i64 64)).run Tryz.prog w = .ok (.slice (some ⟨w.heap.size, 0, none⟩) 64 64) (w.alloc (.cells (madeCells #[.int .u32 0] 64) 28)) := fun w =>
    run_make_row' (P := Tryz.prog) 64 28 (.int .u32 0) 4 Tryz.underlying64 infoU32 rfl .i64 .i64 64 (by decide) (by decide) w
  have hR0 : RowW w.heap.size F 0 (w.alloc (.cells (madeCells #[.int .u32 0] 64) 28)) := by
    have h1 := One.of w (madeCells #[.int .u32 0] 64) 28
    refine ⟨h1.lt, fun j hj => ?_, h1.f⟩
    rw [h1.c]
    simp [madeCells, hj, Nat.mod_one]
  have Hb0 : Hid (Below w.heap.size w (w.alloc (.cells (madeCells #[.int .u32 0] 64) 28))) := Lib.hid ((Below.refl _ _).alloc (Nat.le_refl _) _)
  have HR0 := Lib.hid hR0; have HFl := Lib.hid hFl; have HF16 := Lib.hid hF16; have HFn := Lib.hid hFn; have HF := Lib.hid hF
  clear hR0 hFl hF16 hFn hF
  go_enter Tryz.func162, Tryz.ntmps162
  go_wp2_with fail
  clear hmk
  go_loopg [13] 64 (fun g i wr => ∃ k : Nat, k ≤ 64 ∧ 64 - k ≤ g ∧ i = .int .i64 k ∧ Hid (RowW w.heap.size F k wr) ∧ Hid (Below w.heap.size w wr))
  case atStart => exact ⟨0, by omega, by omega, rfl, HR0, Hb0⟩
  case round =>
    obtain ⟨k, hk, hg, rfl, HR, Hbw⟩ := hrel
    by_cases hlt : k < 64
    · by_cases h16 : k < 16
      · have hck : wr.cell? ⟨w.heap.size, k, none⟩ = some (.int .u32 0) := by rw [HR.out.c k hlt, if_neg (by omega)]; rfl
        have hfk := HR.out.f k
        have hget := word_Get32 s (4 * k) (by omega) (by omega) wr
        rw [show ((4 * k : Nat) : Int) = 4 * (k : Int) by omega, ← HF16.out k h16] at hget
        have HG := Lib.hid hget; clear hget
        go_wp2_with (go_at_call 180; refine HG.out.mono ?_; rintro e w1 ⟨rfl, rfl⟩)
        go_roundg (64 - (k + 1))
        case measure => omega
        case rel => exact ⟨k + 1, by omega, by omega, by go_num, Lib.hid ((HR.out.x hlt).done hlt rfl), Lib.hid (Hbw.out.setCell (Nat.le_refl _) _)⟩
      · have c15 : wr.cell? ⟨w.heap.size, k - 15, none⟩ = some (.int .u32 (F (k - 15) : Nat)) := by rw [HR.out.c (k - 15) (by omega), if_pos (by omega)]
        have c2 : wr.cell? ⟨w.heap.size, k - 2, none⟩ = some (.int .u32 (F (k - 2) : Nat)) := by rw [HR.out.c (k - 2) (by omega), if_pos (by omega)]
        obtain ⟨x, hx⟩ : ∃ x, F (k - 15) = x := ⟨_, rfl⟩
        obtain ⟨y, hy⟩ : ∃ y, F (k - 2) = y := ⟨_, rfl⟩
        obtain ⟨p, hp⟩ : ∃ p, F (k - 16) = p := ⟨_, rfl⟩
        obtain ⟨q, hq⟩ : ∃ q, F (k - 7) = q := ⟨_, rfl⟩
        have hxl : x < 4294967296 := hx ▸ HFl.out _
        have hyl : y < 4294967296 := hy ▸ HFl.out _
        have hpl : p < 4294967296 := hp ▸ HFl.out _
        have hql : q < 4294967296 := hq ▸ HFl.out _
        have hfin := HFn.out k (by omega) hlt
        rw [hx, hy, hp, hq] at hfin
        rw [hx] at c15; rw [hy] at c2
        obtain ⟨V, hV⟩ : ∃ V : World → Value, ∀ w', (∃ u, w'.cell? ⟨w.heap.size, k, none⟩ = some u) → w'.cell? ⟨w.heap.size, k, none⟩ = some (V w') :=
          ⟨fun w' => (w'.cell? ⟨w.heap.size, k, none⟩).getD undef, fun w' ⟨u, hu⟩ => by show _ = some ((w'.cell? ⟨w.heap.size, k, none⟩).getD undef); rw [hu]; rfl⟩
        have hkeep : ∀ w', RowX w.heap.size F k w' → Below w.heap.size w w' → (w'.cell? ⟨w.heap.size, k - 16, none⟩ = some (.int .u32 (p : Int)) ∧ w'.cell? ⟨w.heap.size, k - 7, none⟩ = some (.int .u32 (q : Int)) ∧ w'.cell? ⟨w.heap.size, k, none⟩ = some (V w') ∧ w'.frozen? ⟨w.heap.size, k, none⟩ = false ∧ Hid (RowX w.heap.size F k w' ∧ Below w.heap.size w w')) := fun w' h1 h2 =>
          ⟨by rw [h1.c (k - 16) (by omega) (by omega), if_pos (by omega), hp], by rw [h1.c (k - 7) (by omega) (by omega), if_pos (by omega), hq], hV w' h1.e, h1.f k, Lib.hid ⟨h1, h2⟩⟩
        obtain ⟨k16, hk16, hk16', hk16n⟩ : ∃ m : Nat, (k : Int) - 16 = (m : Int) ∧ k - 16 = m ∧ m < 64 := ⟨k - 16, by omega, rfl, by omega⟩
        obtain ⟨k7, hk7, hk7', hk7n⟩ : ∃ m : Nat, (k : Int) - 7 = (m : Int) ∧ k - 7 = m ∧ m < 64 := ⟨k - 7, by omega, rfl, by omega⟩
        rw [hk16', hk7'] at hkeep
        have HK := Lib.hid hkeep
        clear hk16' hk7' hV
        have hw16 : IntKind.i64.wrap ((k : Int) - 16) = (k16 : Int) := by rw [IntKind.wrap_i64]; omega
        have hw7 : IntKind.i64.wrap ((k : Int) - 7) = (k7 : Int) := by rw [IntKind.wrap_i64]; omega
        have hw16' : IntKind.i64.wrap (k16 : Int) = (k16 : Int) := by rw [IntKind.wrap_i64]; omega
        have hw7' : IntKind.i64.wrap (k7 : Int) = (k7 : Int) := by rw [IntKind.wrap_i64]; omega
        have hi16 : (k16 : Int) < 64 := by omega
        have hi7 : (k7 : Int) < 64 := by omega
        have hi16' : (0 : Int) ≤ (k16 : Int) := by omega
        have hi7' : (0 : Int) ≤ (k7 : Int) := by omega
        have hik : (k : Int) < 64 := by omega
        have hik' : (0 : Int) ≤ (k : Int) := by omega
        have HX := Lib.hid (HR.out.x hlt)
        have HFin := Lib.hid hfin
        have e1 := sig0_int hxl; have e2 := sig1_int hyl
        obtain ⟨s0, hs0⟩ : ∃ n, Sh.sig0 x = n := ⟨_, rfl⟩
        obtain ⟨s1, hs1⟩ : ∃ n, Sh.sig1 y = n := ⟨_, rfl⟩
        rw [hs0] at e1; rw [hs1] at e2
        have hs0l : s0 < 4294967296 := hs0 ▸ Sh.sig0_lt hxl
        have hs1l : s1 < 4294967296 := hs1 ▸ Sh.sig1_lt hyl
        rw [hs0, hs1] at HFin
        clear hkeep hfin hx hy hp hq hs0 hs1
        go_wp2_with fail
        go_quiet (fail)
        go_upto_region 10 with fail
        have HX2 := Lib.hid (HX.out.below (below_dr (Below.refl _ _) nq))
        have HB2 := Lib.hid (below_dr Hbw.out nq)
        clear c15 c2 HX Hbw HR
        refine wp_abs (F := fun wx => RowX w.heap.size F k wx ∧ Below w.heap.size w wx) ⟨HX2.out, HB2.out⟩ ?_
        intro wa hwa
        have HA := Lib.hid hwa
        clear hwa HX2 HB2 nq
        have HKB : Hid (∀ w' : World, (w'.cell? ⟨w.heap.size, k16, none⟩ = some (.int .u32 (p : Int)) ∧ w'.cell? ⟨w.heap.size, k7, none⟩ = some (.int .u32 (q : Int)) ∧ w'.cell? ⟨w.heap.size, k, none⟩ = some (V w') ∧ w'.frozen? ⟨w.heap.size, k, none⟩ = false ∧ Hid (RowX w.heap.size F k w' ∧ Below w.heap.size w w')) → RowX w.heap.size F k w' ∧ Below w.heap.size w w') := Lib.hid (fun w' h => h.2.2.2.2.out)
        go_region_held3 (fun w' => w'.cell? ⟨w.heap.size, k16, none⟩ = some (.int .u32 (p : Int)) ∧ w'.cell? ⟨w.heap.size, k7, none⟩ = some (.int .u32 (q : Int)) ∧ w'.cell? ⟨w.heap.size, k, none⟩ = some (V w') ∧ w'.frozen? ⟨w.heap.size, k, none⟩ = false ∧ Hid (RowX w.heap.size F k w' ∧ Below w.heap.size w w'))
          (first
            | exact HK.out _ HN1.out.1 HN1.out.2
            | exact HK.out _ ((HKB.out _ (by assumption)).1.set _) ((HKB.out _ (by assumption)).2.setCell (Nat.le_refl _) _)
            | exact HK.out _ ((HKB.out _ (by assumption)).1.alloc _) ((HKB.out _ (by assumption)).2.alloc (HKB.out _ (by assumption)).2.size _)
            | exact HK.out _ ((HA.out.1.alloc _).alloc _).drew ((HA.out.2.alloc HA.out.2.size _).alloc (HA.out.2.alloc HA.out.2.size _).size _).drew
            | exact HK.out _ (HA.out.1.alloc _).drew (HA.out.2.alloc HA.out.2.size _).drew
            | exact HK.out _ HA.out.1.drew HA.out.2.drew)
          (first
            | (go_at_call_of 163 (Value.int .u32 (x : Int)); refine (sha_turned x hxl [7, 18] (by decide) (by decide) _ 2 3 _ ?hb).mono ?_; (case hb => (first | exact (MapKept.heap_alloc _ _).1 | exact two1 _ _ _ | exact two2 _ _ _ | exact (HC1.out.block _ (by simp <;> omega)).trans (MapKept.heap_alloc _ _).1 | exact (HC1.out.block _ (by simp <;> omega)).trans (two1 _ _ _) | exact (HC1.out.block _ (by simp <;> omega)).trans (two2 _ _ _))); rintro e w1 ⟨rfl, hb⟩; have HN1 := Lib.hid (And.intro ((HKB.out _ (by assumption)).1.below hb) ((HKB.out _ (by assumption)).2.trans (hb.mono (HKB.out _ (by assumption)).2.size))); have HC1 := Lib.hid hb; clear hb)
            | (go_at_call_of 163 (Value.int .u32 (y : Int)); refine (sha_turned y hyl [17, 19] (by decide) (by decide) _ 2 3 _ ?hb2).mono ?_; (case hb2 => (first | exact (MapKept.heap_alloc _ _).1 | exact two1 _ _ _ | exact two2 _ _ _ | exact (HC1.out.block _ (by simp <;> omega)).trans (MapKept.heap_alloc _ _).1 | exact (HC1.out.block _ (by simp <;> omega)).trans (two1 _ _ _) | exact (HC1.out.block _ (by simp <;> omega)).trans (two2 _ _ _))); rintro e w1 ⟨rfl, hb⟩; have HN1 := Lib.hid (And.intro ((HKB.out _ (by assumption)).1.below hb) ((HKB.out _ (by assumption)).2.trans (hb.mono (HKB.out _ (by assumption)).2.size))); have HC1 := Lib.hid hb; clear hb))
        all_goals
          have hv : IntKind.u32.wrap (IntKind.u32.wrap (IntKind.u32.wrap ((p : Int) + (s0 : Int)) + (q : Int)) + (s1 : Int)) = ((F k : Nat) : Int) := by
            rw [HFin.out]; simp only [IntKind.wrap_u32']; omega
          rw [hv]
          clear hv
          go_wp2_with fail
          go_roundg (64 - (k + 1))
          case measure => omega
          case rel => exact ⟨k + 1, by omega, by omega, by go_num, Lib.hid (HN1.out.1.done hlt rfl), Lib.hid (HN1.out.2.setCell (Nat.le_refl _) _)⟩
    · obtain rfl : k = 64 := by omega
      go_wp2_with fail
      go_ret
      exact ⟨rfl, by rw [show (fun j => (Sh.words (nb s) 64).getD j 0) = F from funext HF.out]; exact HR.out, Hbw.out⟩
end Go.Proofs.YtggdkfijioeijaaGreatDoor
namespace Go.Proofs.YtggdkfijioeijaaGreatDoor
open Go Go.RowKit
theorem ready_mem {md : Region.Mode} {ops : Array Oper} {l : Array Bool} {i : Nat} (h : i ∈ Region.ready md ops l) :
  ∃ o : Oper, ops[i]? = some o ∧ l.getD i true = false ∧ ∀ e ∈ o.after, Region.binds md e = true → l.getD e.on false = true := by
 unfold Region.ready at h
 obtain ⟨h1, h2⟩ := List.mem_filter.1 h
 have hi : i < ops.size := by simpa using h1
 simp only [Bool.and_eq_true, Bool.not_eq_true'] at h2
 refine ⟨ops[i], Array.getElem?_eq_getElem hi, h2.1, fun e he hb => ?_⟩
 have h3 := h2.2
 rw [Array.getElem?_eq_getElem hi] at h3
 simp only [Option.map_some, Option.getD_some, Array.all_eq_true_iff_forall_mem, Bool.or_eq_true, Bool.not_eq_true'] at h3
 rcases h3 e he with h4 | h4
 ·rw [hb] at h4; cases h4
 ·exact h4
theorem getD_in {l : Array Bool} {i : Nat} (h : i < l.size) (a b : Bool) : l.getD i a = l.getD i b := by simp [h]
theorem ready_nil {md : Region.Mode} {ops : Array Oper} {l : Array Bool} (hsz : l.size = ops.size) (hlex : ∀ (i : Nat) (o : Oper), ops[i]? = some o → ∀ e ∈ o.after, e.on < i) (h : Region.ready md ops l = []) : ∀ i, i < ops.size → l.getD i false = true := by
 intro i
 induction i using Nat.strongRecOn with
 | ind i ih =>
  intro hi
  cases hl : l.getD i false with
  | true => rfl
  | false =>
   exfalso
   have : i ∈ Region.ready md ops l := by
    unfold Region.ready
    refine List.mem_filter.2 ⟨by simpa using hi, ?_⟩
    rw [getD_in (by omega) true false, hl, Array.getElem?_eq_getElem hi]
    simp only [Bool.not_false, Bool.true_and, Option.map_some, Option.getD_some, Array.all_eq_true_iff_forall_mem, Bool.or_eq_true, Bool.not_eq_true']
    intro e he
    right
    have hlt := hlex i ops[i] (Array.getElem?_eq_getElem hi) e he
    exact ih e.on hlt (by omega)
   rw [h] at this; cases this
def unl (l : Array Bool) : Nat := (l.toList.filter (! ·)).length
theorem filter_set : ∀ (l : List Bool) (i : Nat), l[i]? = some false → ((l.set i true).filter (! ·)).length + 1 = (l.filter (! ·)).length
 | [], i, h => by simp at h
 | x :: l, 0, h => by simp at h; subst h; simp
 | x :: l, i + 1, h => by
  have ih := filter_set l i (by simpa using h)
  cases x
  ·simp at ih ⊢; omega
  ·simp at ih ⊢; omega
theorem unl_set {l : Array Bool} {i : Nat} (h : l.getD i true = false) : unl (l.setIfInBounds i true) + 1 = unl l := by
 unfold unl
 have hi : i < l.size := by
  rcases Nat.lt_or_ge i l.size with h1 | h1
  ·exact h1
  ·simp [h1] at h
 have h2 : l.toList[i]? = some false := by
  simp [hi] at h
  simp [hi, h]
 rw [Array.toList_setIfInBounds]
 exact filter_set _ _ h2
theorem unl_zero {l : Array Bool} (h : unl l = 0) {i : Nat} : l.getD i true = true := by
 cases hl : l.getD i true with
 | true => rfl
 | false => have := unl_set hl; omega
theorem wpAny_each {P : Program} {md : Region.Mode} {ops : Array Oper} {Q : Exit → Act → World → Prop} (Inv : Array Bool → Act → World → Prop)
  (hsz : ∀ l a w, Inv l a w → l.size = ops.size) (hlex : ∀ (i : Nat) (o : Oper), ops[i]? = some o → ∀ e ∈ o.after, e.on < i)
  (hstep : ∀ l a w i, Inv l a w → i ∈ Region.ready md ops l → ∀ K : Act → World → Prop, (∀ a' w', Inv (l.setIfInBounds i true) a' w' → K a' w') → wpOp P ops Q i K a w)
  (hfin : ∀ l a w, (∀ i, i < ops.size → l.getD i false = true) → Inv l a w → Q .normal a w) : ∀ (fuel : Nat) (l : Array Bool) (a : Act) (w : World), unl l ≤ fuel → Inv l a w → wpAny P md ops Q fuel l a w
 | 0, l, a, w, hf, hI => by
  have hr : Region.ready md ops l = [] := by
   cases hc : Region.ready md ops l with
   | nil => rfl
   | cons i r =>
    exfalso
    obtain ⟨o, _, h1, _⟩ := ready_mem (md := md) (ops := ops) (l := l) (i := i) (by rw [hc]; simp)
    rw [unl_zero (by omega)] at h1; cases h1
  exact ⟨hr, hfin l a w (ready_nil (hsz l a w hI) hlex hr) hI⟩
 | fuel + 1, l, a, w, hf, hI => by
  refine ⟨fun hr => hfin l a w (ready_nil (hsz l a w hI) hlex hr) hI, fun i hi => ?_⟩
  obtain ⟨o, _, h1, _⟩ := ready_mem hi
  exact hstep l a w i hI hi _ (fun a' w' hI' => wpAny_each Inv hsz hlex hstep hfin fuel _ a' w' (by have := unl_set h1; omega) hI')
theorem wp_region_each {P : Program} {id : Nat} {ops : Array Oper} {Q : Exit → Act → World → Prop} {a : Act} {w : World} (hm : P.follows .mixedOrders = true)
    (Inv : Array Value → (Nat → Bool) → Array Value → World → Prop) (hlex : ∀ (i : Nat) (o : Oper), ops[i]? = some o → ∀ e ∈ o.after, e.on < i)
    (h0 : Inv a.tmps (fun _ => false) a.tmps { w with drawn := w.drawn + 1 })
    (hstep : ∀ (l : Nat → Bool) (t : Array Value) (w : World) (i : Nat) (o : Oper), Inv a.tmps l t w → ops[i]? = some o → l i = false → (∀ e ∈ o.after, Region.binds .any e = true → l e.on = true) →
      ∀ (K : Act → World → Prop) (Q : Exit → Act → World → Prop), (∀ t' w', Inv a.tmps (fun j => if j = i then true else l j) t' w' → K { tmps := t', defers := a.defers } w') → Region.wanted o (yielded ops t) = true ∧ Oper.wp P o { tmps := t, defers := a.defers } w K Q)
    (hfin : ∀ l t w, (∀ i, i < ops.size → l i = true) → Inv a.tmps l t w → Q .normal { tmps := t, defers := a.defers } w) : (Code.region id ops true).wp P Q a w := by
  refine wp_region_any hm (wpAny_each (fun l a' w' => l.size = ops.size ∧ a'.defers = a.defers ∧ Inv a.tmps (fun i => l.getD i false) a'.tmps w') (fun l a w h => h.1) hlex ?_ ?_ _ _ _ _ ?_ ⟨by simp, rfl, ?_⟩)
  · rintro l ⟨t, d⟩ w' i ⟨hs, hd, hI⟩ hi K hK
    simp only at hd hI
    subst hd
    obtain ⟨o, ho, h1, h2⟩ := ready_mem hi
    have hil : i < ops.size := (Array.getElem?_eq_some_iff.1 ho).1
    obtain ⟨g1, g2⟩ := hstep (fun i => l.getD i false) t w' i o hI ho (by rw [getD_in (by omega) false true]; exact h1) h2 K Q (fun t' w'' hI' => hK _ _ ⟨by simpa using hs, rfl, by
      have : (fun j => (l.setIfInBounds i true).getD j false) = (fun j => if j = i then true else l.getD j false) := by
        funext j
        by_cases e : j = i
        · subst e; simp [hs, hil]
        · simp only [if_neg e, Array.getD_eq_getD_getElem?, Array.getElem?_setIfInBounds, if_neg (Ne.symm e)]
      rw [this]; exact hI'⟩)
    unfold wpOp
    rw [ho]
    show if Region.wanted o (yielded ops t) = true then _ else _
    rw [if_pos g1]
    exact Or.inl g2
  · rintro l ⟨t, d⟩ w' hall ⟨hs, hd, hI⟩
    simp only at hd hI
    subst hd
    exact hfin _ t w' hall hI
  · unfold unl
    refine Nat.le_trans (List.length_filter_le _ _) ?_
    simp
  · have : (fun i => (Array.replicate ops.size false).getD i false) = fun _ => false := by
      funext i
      simp only [Array.getD_eq_getD_getElem?, Array.getElem?_replicate]
      split <;> rfl
    rw [this]; exact h0
end Go.Proofs.YtggdkfijioeijaaGreatDoor
namespace Go.Proofs.YtggdkfijioeijaaGreatDoor
open Go Go.RowKit
theorem opIn_of {r n : Nat} {P : Program} {o : Oper} {a : Act} {w : World} {K : Act → World → Prop} {Q : Exit → Act → World → Prop} (hd : ∀ c, o.op ≠ .defer c) (h : o.wp P a w K Q) : o.wpIn (Fence.wide.inRound r) n P a w K Q := by
 refine ⟨fun _ _ => trivial, ?_⟩
 unfold Oper.wp at h
 show o.uponIn _ n P a K Q ((Oper.semAt (some r) a.eval o).run P w)
 rw [Oper.semAt_some r _ _ hd]
 cases hr : (execOp a.eval o).run P w with
 | ok x w' =>
  rw [hr] at h
  cases x
  case enter f args => exact ⟨fun hh => (by cases hh), callsIn_wide.2 h⟩
  case row row args => exact ⟨fun hh => (by cases hh), fun c cs _ => (h c cs).elim fun v ⟨w'', q, s⟩ => ⟨v, w'', q, stepsIn_wide.2 s⟩⟩
  all_goals first | exact h | exact h.elim
 | halt e w' =>
  rw [hr] at h
  cases e <;> first | exact h | exact h.elim
theorem wpAnyIn_each {r n : Nat} {P : Program} {md : Region.Mode} {ops : Array Oper} {Q : Exit → Act → World → Prop} (hnd : ∀ (i : Nat) (o : Oper), ops[i]? = some o → ∀ c, o.op ≠ .defer c) (Inv : Array Bool → Act → World → Prop)
  (hsz : ∀ l a w, Inv l a w → l.size = ops.size) (hlex : ∀ (i : Nat) (o : Oper), ops[i]? = some o → ∀ e ∈ o.after, e.on < i)
  (hstep : ∀ l a w i, Inv l a w → i ∈ Region.ready md ops l → ∀ o, ops[i]? = some o → Region.wanted o (yielded ops a.tmps) = true ∧ ∀ K : Act → World → Prop, (∀ a' w', Inv (l.setIfInBounds i true) a' w' → K a' w') → o.wp P a w K Q)
  (hfin : ∀ l a w, (∀ i, i < ops.size → l.getD i false = true) → Inv l a w → Q .normal a w) : ∀ (fuel : Nat) (l : Array Bool) (a : Act) (w : World), unl l ≤ fuel → Inv l a w → wpAnyIn (Fence.wide.inRound r) n P md ops Q fuel l a w
 | 0, l, a, w, hf, hI => by
  have hr : Region.ready md ops l = [] := by
   cases hc : Region.ready md ops l with
   | nil => rfl
   | cons i r =>
    exfalso
    obtain ⟨o, _, h1, _⟩ := ready_mem (md := md) (ops := ops) (l := l) (i := i) (by rw [hc]; simp)
    rw [unl_zero (by omega)] at h1; cases h1
  exact ⟨hr, hfin l a w (ready_nil (hsz l a w hI) hlex hr) hI⟩
 | fuel + 1, l, a, w, hf, hI => by
  refine ⟨fun hr => hfin l a w (ready_nil (hsz l a w hI) hlex hr) hI, fun i hi => ?_⟩
  obtain ⟨o, ho, h1, _⟩ := ready_mem hi
  obtain ⟨g1, g2⟩ := hstep l a w i hI hi o ho
  unfold wpOpIn
  rw [ho]
  show if Region.wanted o (yielded ops a.tmps) = true then _ else _
  rw [if_pos g1]
  exact opIn_of (hnd i o ho) (g2 _ (fun a' w' hI' => wpAnyIn_each hnd Inv hsz hlex hstep hfin fuel _ a' w' (by have := unl_set h1; omega) hI'))
def Clsd (ops : Array Oper) (l : Nat → Bool) : Prop := ∀ (i : Nat) (o : Oper), ops[i]? = some o → l i = true → ∀ e ∈ o.after, Region.binds .any e = true → l e.on = true
theorem wpIn_region_each {r n : Nat} {P : Program} {id : Nat} {ops : Array Oper} {Q : Exit → Act → World → Prop} {a : Act} {w : World} (hm : P.follows .mixedOrders = true) (hnd : ∀ (i : Nat) (o : Oper), ops[i]? = some o → ∀ c, o.op ≠ .defer c)
    (Inv : Array Value → (Nat → Bool) → Array Value → World → Prop) (hlex : ∀ (i : Nat) (o : Oper), ops[i]? = some o → ∀ e ∈ o.after, e.on < i)
    (h0 : Inv a.tmps (fun _ => false) a.tmps { w with drawn := w.drawn + 1 })
    (hstep : ∀ (l : Nat → Bool) (t : Array Value) (w : World) (i : Nat) (o : Oper), Inv a.tmps l t w → ops[i]? = some o → l i = false → (∀ e ∈ o.after, Region.binds .any e = true → l e.on = true) → Clsd ops l →
      ∀ (K : Act → World → Prop) (Q : Exit → Act → World → Prop), (∀ t' w', Inv a.tmps (fun j => if j = i then true else l j) t' w' → K { tmps := t', defers := a.defers } w') → Region.wanted o (yielded ops t) = true ∧ Oper.wp P o { tmps := t, defers := a.defers } w K Q)
    (hfin : ∀ l t w, (∀ i, i < ops.size → l i = true) → Inv a.tmps l t w → Q .normal { tmps := t, defers := a.defers } w) : (Code.region id ops true).wpIn (Fence.wide.inRound r) n P Q a w := by
  refine wpIn_region_any hm (wpAnyIn_each hnd (fun l a' w' => l.size = ops.size ∧ a'.defers = a.defers ∧ Clsd ops (fun i => l.getD i false) ∧ Inv a.tmps (fun i => l.getD i false) a'.tmps w') (fun l a w h => h.1) hlex ?_ ?_ _ _ _ _ ?_ ⟨by simp, rfl, ?_, ?_⟩)
  · rintro l ⟨t, d⟩ w' i ⟨hs, hd, hC, hI⟩ hi o ho
    simp only at hd hI
    subst hd
    obtain ⟨o', ho', h1, h2⟩ := ready_mem hi
    have hil : i < ops.size := (Array.getElem?_eq_some_iff.1 ho).1
    rw [ho] at ho'
    cases ho'
    have H := hstep (fun i => l.getD i false) t w' i o hI ho (by rw [getD_in (by omega) false true]; exact h1) h2 hC
    have hfun : (fun j => (l.setIfInBounds i true).getD j false) = (fun j => if j = i then true else l.getD j false) := by
      funext j
      by_cases e : j = i
      · subst e; simp [hs, hil]
      · simp only [if_neg e, Array.getD_eq_getD_getElem?, Array.getElem?_setIfInBounds, if_neg (Ne.symm e)]
    refine ⟨(H (fun _ _ => True) Q (fun _ _ _ => trivial)).1, fun K hK => (H K Q (fun t' w'' hI' => hK _ _ ⟨by simpa using hs, rfl, ?_, ?_⟩)).2⟩
    · rw [hfun]
      intro i' o' ho' hl e he hb
      show (if e.on = i then true else l.getD e.on false) = true
      by_cases ei : i' = i
      · subst ei
        rw [ho] at ho'; cases ho'
        split
        · rfl
        · exact h2 e he hb
      · simp only [if_neg ei] at hl
        split
        · rfl
        · exact hC i' o' ho' hl e he hb
    · rw [hfun]; exact hI'
  · rintro l ⟨t, d⟩ w' hall ⟨hs, hd, hC, hI⟩
    simp only at hd hI
    subst hd
    exact hfin _ t w' hall hI
  · unfold unl
    refine Nat.le_trans (List.length_filter_le _ _) ?_
    simp
  · intro i o _ h
    simp only [Array.getD_eq_getD_getElem?, Array.getElem?_replicate] at h
    split at h <;> cases h
  · have : (fun i => (Array.replicate ops.size false).getD i false) = fun _ => false := by
      funext i
      simp only [Array.getD_eq_getD_getElem?, Array.getElem?_replicate]
      split <;> rfl
    rw [this]; exact h0
theorem wpIn_normal {F : Fence} {n : Nat} {P : Program} {c : Code} {Q : Exit → Act → World → Prop} {a : Act} {w : World} (G : Act → World → Prop) (h : c.wpIn F n P (fun e a w => match e with | .normal => G a w | _ => False) a w) (hG : ∀ a w, G a w → Q .normal a w) : c.wpIn F n P Q a w :=
 wpIn_mono h fun e a w hq => by cases e <;> first | exact hG _ _ hq | exact hq.elim
def Fs (base : Array Value) (lo hi : Nat) (f : Nat → Value) : Array Value := base.mapIdx fun i v => if lo ≤ i ∧ i < hi then f i else v
theorem Fs_self (base : Array Value) (lo hi : Nat) : base = Fs base lo hi (fun i => base.getD i undef) := by
 refine Array.ext_getElem? fun k => ?_
 simp only [Fs, Array.getElem?_mapIdx]
 cases h : base[k]? with
 | none => rfl
 | some v => simp [Array.getD_eq_getD_getElem?, h]
theorem Fs_in {base : Array Value} {lo hi k : Nat} {f : Nat → Value} (h : k < base.size) (h1 : lo ≤ k) (h2 : k < hi) : (Fs base lo hi f).getD k undef = f k := by
 simp [Fs, Array.getD_eq_getD_getElem?, h, h1, h2]
theorem Fs_out {base : Array Value} {lo hi k : Nat} {f : Nat → Value} (h : ¬ (lo ≤ k ∧ k < hi)) : (Fs base lo hi f).getD k undef = base.getD k undef := by
 simp only [Fs, Array.getD_eq_getD_getElem?, Array.getElem?_mapIdx, if_neg h]
 cases base[k]? <;> rfl
theorem Fs_set {base : Array Value} {lo hi k : Nat} {f : Nat → Value} {v : Value} (h1 : lo ≤ k) (h2 : k < hi) : (Fs base lo hi f).setIfInBounds k v = Fs base lo hi (fun i => if i = k then v else f i) := by
 refine Array.ext_getElem? fun i => ?_
 simp only [Fs, Array.getElem?_mapIdx, Array.getElem?_setIfInBounds, Array.size_mapIdx]
 by_cases e : k = i
 ·subst e
  by_cases hk : k < base.size
  ·simp [hk, h1, h2]
  ·simp [hk]
 ·rw [if_neg e]
  cases base[i]? with
  | none => rfl
  | some x =>
   simp only [Option.map_some]
   rw [if_neg (Ne.symm e)]
theorem Fs_nil (base : Array Value) (lo : Nat) (f : Nat → Value) : Fs base lo lo f = base := by
 refine Array.ext_getElem? fun i => ?_
 simp only [Fs, Array.getElem?_mapIdx]
 cases base[i]? with
 | none => rfl
 | some x => simp only [Option.map_some]; rw [if_neg (by omega)]
theorem Fs_succ (base : Array Value) {lo hi : Nat} (h : lo ≤ hi) (f : Nat → Value) : Fs base lo (hi + 1) f = (Fs base lo hi f).setIfInBounds hi (f hi) := by
 refine Array.ext_getElem? fun i => ?_
 simp only [Fs, Array.getElem?_mapIdx, Array.getElem?_setIfInBounds, Array.size_mapIdx]
 by_cases e : hi = i
 ·subst e
  by_cases hk : hi < base.size
  ·simp [hk, h]
  ·simp [hk]
 ·rw [if_neg e]
  cases base[i]? with
  | none => rfl
  | some x =>
   simp only [Option.map_some]
   by_cases hh : lo ≤ i ∧ i < hi
   ·rw [if_pos hh, if_pos ⟨hh.1, by omega⟩]
   ·rw [if_neg hh, if_neg (by omega)]
end Go.Proofs.YtggdkfijioeijaaGreatDoor
