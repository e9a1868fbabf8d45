/- Contracts: the document's numbers as bytes: ref01's Put, Get, Turn. Contracts: the document's turning of words: ref01's Turn, ref02's three. Contracts: the document's constants and words of a block: ref02's K, Words. Contract: the document's state behind a block: ref02's step. Contracts: the document's hash: ref02's Of; ref26's Hash, Point. Plain: points and whose they are, as a list of puts; the map that holds them. -/
import Derived.Test.YtggdkfijioeijaaGreatDoorQb04
import Derived.Test.YtggdkfijioeijaaGreatDoorQb05
import Derived.Test.YtggdkfijioeijaaGreatDoorQb06
import Derived.Laws.BitsAllLaws
import Derived.Deep.AppendLies
import Derived.Deep.RegionLaw
import Derived.StillTailTactics
namespace Go.Proofs.YtggdkfijioeijaaGreatDoor
open Go Go.RowKit
def cellsP (n s q : Nat) : Array Value := ((List.range s).map (fun j => if j < q then Value.int .u8 0 else Value.int .u8 ((n / 256 ^ (s - 1 - j) % 256 : Nat) : Int))).toArray
theorem cellsP_get (n s q j : Nat) (h : j < s) : (cellsP n s q)[j]? = some (if j < q then Value.int .u8 0 else Value.int .u8 ((n / 256 ^ (s - 1 - j) % 256 : Nat) : Int)) := by
 simp [cellsP, h]
theorem put_get (n : Nat) : ∀ (k i : Nat), i < k → (Sh.put n k)[i]? = some (n / 256 ^ (k - 1 - i) % 256)
 | 0, i, h => by omega
 | k + 1, 0, _ => by simp [Sh.put]
 | k + 1, i + 1, h => by
  rw [Sh.put, List.getElem?_cons_succ, put_get n k i (by omega)]
  congr 4; omega
theorem cellsP_set (n s q : Nat) (_h : q < s) (hh : q < (cellsP n s (q + 1)).size) : (cellsP n s (q + 1)).set q (.int .u8 ((n / 256 ^ (s - 1 - q) % 256 : Nat) : Int)) hh = cellsP n s q := by
 apply Array.ext
 ·simp [cellsP]
 ·intro i h1 h2
  have hi : i < s := by simpa [cellsP] using h2
  have e2 := cellsP_get n s q i hi
  rw [Array.getElem?_eq_getElem h2] at e2
  rw [Option.some.inj e2, Array.getElem_set]
  by_cases e : q = i
  ·subst e; simp
  ·rw [if_neg e]
   have e3 := cellsP_get n s (q + 1) i hi
   rw [Array.getElem?_eq_getElem (by simpa [cellsP] using hi)] at e3
   rw [Option.some.inj e3]
   by_cases e4 : i < q
   ·rw [if_pos e4, if_pos (by omega)]
   ·rw [if_neg e4, if_neg (by omega)]
set_option maxRecDepth 100000 in
set_option maxHeartbeats 4000000 in
theorem ref01_Put4 (n : Nat) (hn : n < 18446744073709551616) (w : World) : Calls Tryz.prog 93 #[.int .u64 (n : Int), .int .i64 4] w fun e w' => e = .returned (.string (sb (Sh.put n 4))) ∧ Below w.heap.size w w' := by
 have hmc : madeCells #[Value.int .u8 0] 4 = cellsP n 4 4 := by simp [madeCells, cellsP, Array.range, List.range, List.range.loop]; rfl
 have hmk : ∀ w, (Instr.makeSlice 195 (.int .i64 4) (.int .i64 4)).run Tryz.prog w = .ok (.slice (some ⟨w.heap.size, 0, none⟩) 4 4) (w.alloc (.cells (cellsP n 4 4) 5)) := fun w => by
  rw [← hmc]; exact run_make_row' (P := Tryz.prog) 195 5 (.int .u8 0) 1 Tryz.underlying195 infoU8 rfl .i64 .i64 4 (by decide) (by decide) w
 have hO : One w.heap.size (cellsP n 4 4) (w.alloc (.cells (cellsP n 4 4) 5)) := One.of w _ _
 clear hmc
 have HO := Lib.hid hO; clear hO
 have Hb0 : Hid (Below w.heap.size w (w.alloc (.cells (cellsP n 4 4) 5))) := Lib.hid ((Below.refl _ _).alloc (Nat.le_refl _) _)
 go_enter Tryz.func93, Tryz.ntmps93
 go_wp2
 clear hmk
 go_loopw [0, 6] (fun vn i wr => ∃ (q m : Nat) (z : Int), q ≤ 4 ∧ i = .int .i64 z ∧ Hid (z = (q : Int) - 1) ∧ vn = .int .u64 (m : Int) ∧ Hid (m = n / 256 ^ (4 - q)) ∧ Hid (One w.heap.size (cellsP n 4 q) wr) ∧ Hid (Below w.heap.size w wr)) (fun _ i _ => (intOf i + 1).toNat)
 case atStart => exact ⟨4, n, _, Nat.le_refl _, rfl, Lib.hid rfl, rfl, Lib.hid (by simp), HO, Hb0⟩
 case round =>
  obtain ⟨q, m, z, hq, rfl, HZ, rfl, HM, HO, Hbw⟩ := hrel
  by_cases h0 : q = 0
  ·have hz : z = -1 := by have := HZ.out; omega
   subst hz; subst h0
   have hcv := run_convert_bytes_arg (P := Tryz.prog) wr 195 5 Tryz.underlying195 Tryz.underlying5 w.heap.size 0 4 4 ((Sh.put n 4).map Int.ofNat) (by simp [Sh.put_length]) (fun i hi => by
    have hi' : i < 4 := by simpa [Sh.put_length] using hi
    rw [HO.out.c, Nat.zero_add, cellsP_get n 4 0 i hi', if_neg (by omega), List.getD_eq_getElem?_getD, List.getElem?_map, put_get n 4 i hi']; rfl) 9 Tryz.underlying9
   rw [strOfNums_nat] at hcv
   go_wp2
   go_ret
   exact ⟨rfl, Hbw.out⟩
  ·obtain ⟨q, rfl⟩ : ∃ q', q = q' + 1 := ⟨q - 1, by omega⟩
   have hz : z = (q : Int) := by have := HZ.out; omega
   subst hz
   have hqs : q < 4 := by omega
   have cj : wr.cell? ⟨w.heap.size, q, none⟩ = some (.int .u8 0) := by rw [HO.out.c, cellsP_get n 4 _ q hqs, if_pos (by omega)]
   have fj := HO.out.f q
   have hm1 : m % 256 = n / 256 ^ (4 - 1 - q) % 256 := by rw [HM.out, show 4 - (q + 1) = 4 - 1 - q by omega]
   have hset := HO.out.set (i := q) (by simpa [cellsP] using hqs) (.int .u8 ((n / 256 ^ (4 - 1 - q) % 256 : Nat) : Int))
   rw [cellsP_set n 4 q hqs, ← hm1] at hset
   have HN : Hid (One w.heap.size (cellsP n 4 q) (wr.setCell ⟨w.heap.size, q, none⟩ (.int .u8 ((m : Int) % 256)))) := Lib.hid hset
   have HM2 : Hid (m / 256 = n / 256 ^ (4 - q)) := Lib.hid (by rw [HM.out, Nat.div_div_eq_div_mul, ← Nat.pow_succ]; congr 2; omega)
   have hql : ((q : Int) < 4) = True := by simp; omega
   have hmn : m ≤ n := by rw [HM.out]; exact Nat.div_le_self _ _
   have hw : IntKind.u64.wrap ((m : Int) / 256) = ((m / 256 : Nat) : Int) := by rw [IntKind.wrap_u64]; omega
   clear hset hm1 hmn
   go_wp2
   go_roundw
   case rel => exact ⟨q, m / 256, _, by omega, rfl, Lib.hid rfl, by rfl, HM2, HN, Lib.hid (Hbw.out.setCell (Nat.le_refl _) _)⟩
   case measure => simp [intOf]
set_option maxRecDepth 100000 in
set_option maxHeartbeats 4000000 in
theorem ref01_Put8 (n : Nat) (hn : n < 18446744073709551616) (w : World) : Calls Tryz.prog 93 #[.int .u64 (n : Int), .int .i64 8] w fun e w' => e = .returned (.string (sb (Sh.put n 8))) ∧ Below w.heap.size w w' := by
 have hmc : madeCells #[Value.int .u8 0] 8 = cellsP n 8 8 := by simp [madeCells, cellsP, Array.range, List.range, List.range.loop]; rfl
 have hmk : ∀ w, (Instr.makeSlice 195 (.int .i64 8) (.int .i64 8)).run Tryz.prog w = .ok (.slice (some ⟨w.heap.size, 0, none⟩) 8 8) (w.alloc (.cells (cellsP n 8 8) 5)) := fun w => by
  rw [← hmc]; exact run_make_row' (P := Tryz.prog) 195 5 (.int .u8 0) 1 Tryz.underlying195 infoU8 rfl .i64 .i64 8 (by decide) (by decide) w
 have hO : One w.heap.size (cellsP n 8 8) (w.alloc (.cells (cellsP n 8 8) 5)) := One.of w _ _
 clear hmc
 have HO := Lib.hid hO; clear hO
 have Hb0 : Hid (Below w.heap.size w (w.alloc (.cells (cellsP n 8 8) 5))) := Lib.hid ((Below.refl _ _).alloc (Nat.le_refl _) _)
 go_enter Tryz.func93, Tryz.ntmps93
 go_wp2
 clear hmk
 go_loopw [0, 6] (fun vn i wr => ∃ (q m : Nat) (z : Int), q ≤ 8 ∧ i = .int .i64 z ∧ Hid (z = (q : Int) - 1) ∧ vn = .int .u64 (m : Int) ∧ Hid (m = n / 256 ^ (8 - q)) ∧ Hid (One w.heap.size (cellsP n 8 q) wr) ∧ Hid (Below w.heap.size w wr)) (fun _ i _ => (intOf i + 1).toNat)
 case atStart => exact ⟨8, n, _, Nat.le_refl _, rfl, Lib.hid rfl, rfl, Lib.hid (by simp), HO, Hb0⟩
 case round =>
  obtain ⟨q, m, z, hq, rfl, HZ, rfl, HM, HO, Hbw⟩ := hrel
  by_cases h0 : q = 0
  ·have hz : z = -1 := by have := HZ.out; omega
   subst hz; subst h0
   have hcv := run_convert_bytes_arg (P := Tryz.prog) wr 195 5 Tryz.underlying195 Tryz.underlying5 w.heap.size 0 8 8 ((Sh.put n 8).map Int.ofNat) (by simp [Sh.put_length]) (fun i hi => by
    have hi' : i < 8 := by simpa [Sh.put_length] using hi
    rw [HO.out.c, Nat.zero_add, cellsP_get n 8 0 i hi', if_neg (by omega), List.getD_eq_getElem?_getD, List.getElem?_map, put_get n 8 i hi']; rfl) 9 Tryz.underlying9
   rw [strOfNums_nat] at hcv
   go_wp2
   go_ret
   exact ⟨rfl, Hbw.out⟩
  ·obtain ⟨q, rfl⟩ : ∃ q', q = q' + 1 := ⟨q - 1, by omega⟩
   have hz : z = (q : Int) := by have := HZ.out; omega
   subst hz
   have hqs : q < 8 := by omega
   have cj : wr.cell? ⟨w.heap.size, q, none⟩ = some (.int .u8 0) := by rw [HO.out.c, cellsP_get n 8 _ q hqs, if_pos (by omega)]
   have fj := HO.out.f q
   have hm1 : m % 256 = n / 256 ^ (8 - 1 - q) % 256 := by rw [HM.out, show 8 - (q + 1) = 8 - 1 - q by omega]
   have hset := HO.out.set (i := q) (by simpa [cellsP] using hqs) (.int .u8 ((n / 256 ^ (8 - 1 - q) % 256 : Nat) : Int))
   rw [cellsP_set n 8 q hqs, ← hm1] at hset
   have HN : Hid (One w.heap.size (cellsP n 8 q) (wr.setCell ⟨w.heap.size, q, none⟩ (.int .u8 ((m : Int) % 256)))) := Lib.hid hset
   have HM2 : Hid (m / 256 = n / 256 ^ (8 - q)) := Lib.hid (by rw [HM.out, Nat.div_div_eq_div_mul, ← Nat.pow_succ]; congr 2; omega)
   have hql : ((q : Int) < 8) = True := by simp; omega
   have hmn : m ≤ n := by rw [HM.out]; exact Nat.div_le_self _ _
   have hw : IntKind.u64.wrap ((m : Int) / 256) = ((m / 256 : Nat) : Int) := by rw [IntKind.wrap_u64]; omega
   clear hset hm1 hmn
   go_wp2
   go_roundw
   case rel => exact ⟨q, m / 256, _, by omega, rfl, Lib.hid rfl, by rfl, HM2, HN, Lib.hid (Hbw.out.setCell (Nat.le_refl _) _)⟩
   case measure => simp [intOf]
set_option maxRecDepth 100000 in
set_option maxHeartbeats 2000000 in
theorem ref01_Get (s : ByteArray) (a z : Nat) (hz : z ≤ 8) (ha : a + z ≤ s.size) (hs : s.size ≤ 1000000) (w : World) :
  Calls Tryz.prog 81 #[.string s, .int .i64 a, .int .i64 z] w fun e w' => e = .returned (.tuple #[.int .u64 (Sh.num (((nb s).drop a).take z) 0 : Nat), .bool true]) ∧ w' = w := by
 go_enter Tryz.func81, Tryz.ntmps81
 have h1 : ¬ ((s.size : Int) - (z : Int) < (a : Int)) := by omega
 have h2 : decide ((s.size : Int) - (z : Int) < (a : Int)) = false := by simp; omega
 go_wp2
 go_loopw [8, 9] (fun vn i wr => ∃ k : Nat, k ≤ z ∧ i = .int .i64 k ∧ vn = .int .u64 (Sh.num (((nb s).drop a).take k) 0 : Nat) ∧ wr = w) (fun _ i _ => z - (intOf i).toNat)
 case atStart => exact ⟨0, by omega, rfl, rfl, rfl⟩
 case round =>
  obtain ⟨k, hk, rfl, rfl, rfl⟩ := hrel
  by_cases hlt : k < z
  ·have hak : a + k < s.size := by omega
   obtain ⟨c, hc⟩ : ∃ c : Nat, c = s[a + k].toNat := ⟨_, rfl⟩
   have hc2 : c < 256 := by rw [hc]; exact s[a + k].toNat_lt
   have hx := num_app (((nb s).drop a).take k) c 0
   have hl := num_lt (((nb s).drop a).take k) (fun x hx => nb_bytes s x (List.mem_of_mem_drop (List.mem_of_mem_take hx))) 0
   have hl2 : Sh.num (((nb s).drop a).take k) 0 < 72057594037927936 := by
    refine Nat.lt_of_lt_of_le hl ?_
    rw [Nat.zero_add, Nat.one_mul]
    exact Nat.le_trans (Nat.pow_le_pow_right (n := 256) (by decide) (show _ ≤ 7 by simp; omega)) (by decide)
   rw [hc, ← take_succ_nb s a k hak] at hx
   rw [← hc] at hx
   obtain ⟨m, hm⟩ : ∃ m, Sh.num (((nb s).drop a).take k) 0 = m := ⟨_, rfl⟩
   rw [hm] at hl2 hx
   rw [hc] at hx hc2
   have HX := Lib.hid hx
   rw [hm]
   clear hx hl hm hc c
   go_wp2
   go_roundw
   case rel => exact ⟨k + 1, by omega, by go_num, by rw [HX.out]; go_num, trivial⟩
   case measure => simp [intOf]; omega
  ·obtain rfl : k = z := by omega
   go_wp2
   go_ret2
   exact ⟨rfl, rfl⟩
end Go.Proofs.YtggdkfijioeijaaGreatDoor
namespace Go.Proofs.YtggdkfijioeijaaGreatDoor
open Go Go.RowKit
def TB (n b i m : Nat) : Prop := m < 4294967296 ∧ ∀ j, j < 32 → m.testBit j = (decide ((j + b) % 32 < i) && n.testBit ((j + b) % 32))
theorem TB.zero (n b : Nat) : TB n b 0 0 := ⟨by decide, fun j _ => by simp⟩
theorem TB.skip {n b i m : Nat} (h : TB n b i m) (hi : n.testBit i = false) : TB n b (i + 1) m := by
 refine ⟨h.1, fun j hj => ?_⟩
 rw [h.2 j hj]
 by_cases e : (j + b) % 32 = i
 ·rw [e, hi]; simp
 ·congr 1
  by_cases e2 : (j + b) % 32 < i
  ·simp [e2]; omega
  ·simp [e2]; omega
theorem TB.put {n b i m : Nat} (h : TB n b i m) (hi : n.testBit i = true) (hb : b < 32) (hi2 : i < 32) : TB n b (i + 1) (m ||| 1 <<< ((i + 32 - b) % 32)) := by
 have ht : (i + 32 - b) % 32 < 32 := Nat.mod_lt _ (by decide)
 have h1 : 1 <<< ((i + 32 - b) % 32) = 2 ^ ((i + 32 - b) % 32) := Nat.one_shiftLeft _
 refine ⟨?_, fun j hj => ?_⟩
 ·exact Nat.or_lt_two_pow (n := 32) h.1 (by rw [h1]; exact Nat.pow_lt_pow_right (by decide) ht)
 ·rw [Nat.testBit_or, h1, Nat.testBit_two_pow, h.2 j hj]
  by_cases e : (j + b) % 32 = i
  ·have e3 : (i + 32 - b) % 32 = j := by omega
   rw [e, hi]; simp [e3]
  ·have e3 : ¬ (i + 32 - b) % 32 = j := by omega
   rw [decide_eq_false e3, Bool.or_false]
   congr 1
   by_cases e2 : (j + b) % 32 < i
   ·simp [e2]; omega
   ·simp [e2]; omega
theorem TB.done {n b m : Nat} (h : TB n b 32 m) (hn : n < 4294967296) (hb : 0 < b) (hb2 : b < 32) : m = Sh.turn n b :=
 Sh.turn_of_bits hn hb hb2 h.1 (fun j hj => by
  rw [h.2 j hj]
  have : (j + b) % 32 < 32 := Nat.mod_lt _ (by decide)
  simp [this])
theorem bit_and_one (n i : Nat) : n / 2 ^ i % 2 = (n.testBit i).toNat := by
 rw [Nat.testBit_eq_decide_div_mod_eq]
 rcases Nat.mod_two_eq_zero_or_one (n / 2 ^ i) with h | h <;> simp [h]
set_option maxRecDepth 100000 in
set_option maxHeartbeats 2000000 in
theorem ref01_Turn (n b : Nat) (hn : n < 4294967296) (hb : 0 < b) (hb2 : b < 32) (w : World) :
  Calls Tryz.prog 170 #[.int .u32 (n : Int), .int .i64 (b : Int)] w fun e w' => e = .returned (.int .u32 (Sh.turn n b : Nat)) ∧ w' = w := by
 go_enter Tryz.func170, Tryz.ntmps170
 go_wp2_with fail
 go_loopw [6, 7] (fun v i wr => ∃ k m : Nat, k ≤ 32 ∧ i = .int .i64 k ∧ v = .int .u32 (m : Int) ∧ Hid (TB n b k m) ∧ wr = w) (fun _ i _ => 32 - (intOf i).toNat)
 case atStart => exact ⟨0, 0, by omega, rfl, rfl, Lib.hid (TB.zero _ _), rfl⟩
 case round =>
  obtain ⟨k, m, hk, rfl, rfl, HT, rfl⟩ := hrel
  by_cases hlt : k < 32
  ·have hdv : (n : Int) / 2 ^ k = ((n / 2 ^ k : Nat) : Int) := by push_cast; rfl
   have hdl : n / 2 ^ k < 4294967296 := Nat.lt_of_le_of_lt (Nat.div_le_self _ _) hn
   have hand : bits .and .u32 ((n : Int) / 2 ^ k) 1 = (((n.testBit k).toNat : Nat) : Int) := by
    rw [hdv, show (1 : Int) = ((1 : Nat) : Int) from rfl, u32_and_nat _ _ hdl (by decide), Nat.and_one_is_mod, bit_and_one]
   have HAND := Lib.hid hand
   clear hand hdv hdl
   cases hbit : n.testBit k with
   | false =>
    have ht : (bits .and .u32 ((n : Int) / 2 ^ k) 1 == 1) = false := by rw [HAND.out, hbit]; rfl
    have HTN := Lib.hid (HT.out.skip hbit)
    clear HAND hbit HT
    go_wp2_with fail
    go_roundw
    case rel => exact ⟨k + 1, m, by omega, rfl, rfl, HTN, by first | trivial | rfl⟩
    case measure => simp [intOf]; omega
   | true =>
    have ht : (bits .and .u32 ((n : Int) / 2 ^ k) 1 == 1) = true := by rw [HAND.out, hbit]; rfl
    obtain ⟨m', hm'⟩ : ∃ m', m ||| 1 <<< ((k + 32 - b) % 32) = m' := ⟨_, rfl⟩
    have HTN := HT.out.put hbit hb2 hlt
    rw [hm'] at HTN
    have hor : bits .or .u32 (m : Int) ((2 : Int) ^ (((k : Int) - (b : Int)) % 32).toNat % (4294967296 : Int)) = (m' : Int) := by
     have e1 : (((k : Int) - (b : Int)) % 32).toNat = (k + 32 - b) % 32 := by omega
     have e2 : ((2 : Int) ^ ((k + 32 - b) % 32)) % (4294967296 : Int) = ((1 <<< ((k + 32 - b) % 32) : Nat) : Int) := by
      have e3 : 2 ^ ((k + 32 - b) % 32) < 4294967296 := Nat.pow_lt_pow_right (n := 32) (by decide) (Nat.mod_lt _ (by decide))
      rw [Nat.one_shiftLeft, show ((2 : Int) ^ ((k + 32 - b) % 32)) = ((2 ^ ((k + 32 - b) % 32) : Nat) : Int) by push_cast; rfl]
      generalize 2 ^ ((k + 32 - b) % 32) = y at e3 ⊢
      omega
     have e4 : 1 <<< ((k + 32 - b) % 32) < 4294967296 := by rw [Nat.one_shiftLeft]; exact Nat.pow_lt_pow_right (n := 32) (by decide) (Nat.mod_lt _ (by decide))
     rw [e1, e2, u32_or_nat _ _ HT.out.1 e4, hm']
    have HTN := Lib.hid HTN
    clear HAND hbit HT hm'
    go_wp2_with fail
    go_roundw
    case rel => exact ⟨k + 1, m', by omega, rfl, by first | rfl | rw [hor], HTN, by first | trivial | rfl⟩
    case measure => simp [intOf]; omega
  ·obtain rfl : k = 32 := by omega
   go_wp2_with fail
   go_ret
   exact ⟨by rw [HT.out.done hn hb hb2]; rfl, rfl⟩
set_option maxHeartbeats 1000000 in
theorem ref02_three (x a b c : Nat) (hx : x < 4294967296) (ha : 0 < a ∧ a < 32) (hb : 0 < b ∧ b < 32) (hc : 0 < c ∧ c < 32) (w : World) :
  Calls Tryz.prog 146 #[.int .u32 (x : Int), .int .i64 (a : Int), .int .i64 (b : Int), .int .i64 (c : Int)] w fun e w' => e = .returned (.int .u32 (Sh.three x a b c : Nat)) ∧ w' = w := by
 go_enter Tryz.func146, Tryz.ntmps146
 go_wp2_with fail
 refine (ref01_Turn x a hx ha.1 ha.2 w).mono ?_
 rintro e w1 ⟨rfl, rfl⟩
 go_wp2_with fail
 refine (ref01_Turn x b hx hb.1 hb.2 w1).mono ?_
 rintro e w2 ⟨rfl, rfl⟩
 have e1 := u32_xor_nat (Sh.turn x a) (Sh.turn x b) (Sh.turn_lt hx) (Sh.turn_lt hx)
 go_wp2_with fail
 refine (ref01_Turn x c hx hc.1 hc.2 w2).mono ?_
 rintro e w3 ⟨rfl, rfl⟩
 have e2 := u32_xor_nat (Sh.turn x a ^^^ Sh.turn x b) (Sh.turn x c) (Sh.xor_lt (Sh.turn_lt hx) (Sh.turn_lt hx)) (Sh.turn_lt hx)
 go_wp2_with fail
 go_ret
 exact ⟨by unfold Sh.three; rfl, rfl⟩
end Go.Proofs.YtggdkfijioeijaaGreatDoor
namespace Go.Proofs.YtggdkfijioeijaaGreatDoor
open Go Go.RowKit
set_option maxRecDepth 100000 in
set_option maxHeartbeats 1000000 in
theorem ref02_K (w : World) : Calls Tryz.prog 144 #[] w fun e w' => e = .returned (.slice (some ⟨w.heap.size, 0, none⟩) 64 64) ∧ (∀ k, k < 64 → w'.cell? ⟨w.heap.size, k, none⟩ = some (.int .u32 ((Sh.ks.getD k 0 : Nat) : Int))) ∧ w.heap.size < w'.heap.size ∧ Below w.heap.size w w' := by
 go_enter Tryz.func144, Tryz.ntmps144
 go_wp2_with fail
 go_ret
 refine ⟨rfl, fun k hk => ?_, by simp, (Below.refl _ _).alloc (Nat.le_refl _) _⟩
 rw [cell_of (MapKept.heap_alloc _ _).1 k]
 exact ksV_get hk
theorem rowBelow {w w' : World} {B e n k : Nat} {v : Value} {xs : List Value} (h : w.ownsRow B e k v n xs) (hb : Below w.heap.size w w') : w'.ownsRow B e k v n xs := by
 refine ⟨h.1, ?_⟩
 rcases h.2 with hn | ⟨g, cap, cur, hv, hBg, hg, rest⟩
 ·exact Or.inl hn
 ·exact Or.inr ⟨g, cap, cur, hv, hBg, (hb.block g (lt_of_block hg)).trans hg, rest⟩
theorem words_succ (b : List Nat) (k : Nat) : Sh.words b (k + 1) = Sh.words b k ++ [if k < 16 then Sh.word b k else Sh.next (Sh.words b k) k] := rfl
set_option maxRecDepth 100000 in
set_option maxHeartbeats 4000000 in
theorem ref02_Words (s : ByteArray) (hs : s.size = 64) (w : World) :
  Calls Tryz.prog 145 #[.string s] w fun e w' => ∃ g c, e = .returned (.slice (some ⟨g, 0, none⟩) 64 c) ∧ w'.ownsRow w.heap.size 28 1 (.slice (some ⟨g, 0, none⟩) 64 c) 64 ((Sh.words (nb s) 64).map (fun s : Nat => Value.int .u32 (s : Int))) ∧ Below w.heap.size w w' := by
 obtain ⟨i0, hi, hz0, hz1, hz2⟩ := info_parts infoU32
 have hby : Sh.Bytes (nb s) := nb_bytes s
 go_enter Tryz.func145, Tryz.ntmps145
 go_wp2_with fail
 go_loopw [3, 4] (fun v i wr => ∃ k : Nat, k ≤ 16 ∧ i = .int .i64 k ∧ (∃ a c, v = .slice a k c) ∧ Hid (wr.ownsRow w.heap.size 28 1 v k ((Sh.words (nb s) k).map (fun s : Nat => Value.int .u32 (s : Int)))) ∧ Hid (Below w.heap.size w wr)) (fun _ i _ => 16 - (intOf i).toNat)
 case atStart => exact ⟨0, by omega, rfl, ⟨none, 0, rfl⟩, Lib.hid (World.ownsRow_nil _ _ _ _), Lib.hid (Below.refl _ _)⟩
 case round =>
  obtain ⟨k, hk, rfl, ⟨av, cv, rfl⟩, HROW, HB⟩ := hrel
  by_cases hlt : k < 16
  ·have hget := ref01_Get s (4 * k) 4 (by omega) (by omega) (by omega) wr
   rw [word_num s k (by omega)] at hget
   have hwl := Sh.word_lt hby k
   obtain ⟨x, hx⟩ : ∃ x, Sh.word (nb s) k = x := ⟨_, rfl⟩
   rw [hx] at hget hwl
   have hrow2 : Sh.words (nb s) k ++ [x] = Sh.words (nb s) (k + 1) := by rw [words_succ, if_pos hlt, hx]
   obtain ⟨k4, hk4⟩ : ∃ k4, 4 * k = k4 := ⟨_, rfl⟩
   have h4 : (4 : Int) * (k : Int) = (k4 : Int) := by omega
   rw [hk4] at hget
   have HG := Lib.hid hget; have HW := Lib.hid hrow2
   have hwx : IntKind.u32.wrap (x : Int) = (x : Int) := by
    have h : x < 4294967296 := hwl
    rw [IntKind.wrap_u32]; omega
   clear hget hrow2 hx hby hk4 hwl
   go_wp2_with fail
   refine HG.out.mono ?_
   rintro e w1 ⟨rfl, rfl⟩
   go_wp2_with (
    at_builtin
    refine wpList_append_lies _ rfl (.tmp 23) (.tmp 26) 64 rfl w.heap.size 28 i0 (.int .u32 0) 1 4 Tryz.underlying64 hi hz0 hz1 hz2 rfl (by decide) _ k ((Sh.words (nb s) k).map (fun s : Nat => Value.int .u32 (s : Int))) rfl (HROW.out.alloc _) ⟨w1.heap.size, 0, none⟩ 1 1 [.int .u32 (x : Int)] rfl rfl (cell_one_new _ _ _) (few_one _) (by decide) (by unfold maxLen; omega) (by omega) (by have := HB.out.size; simp; omega) (w1.heap.size + 1) (by simp) ?gow
    intro g8 cp8 w8 hown8 hg8 _hat8 _hlt8
    replace hown8 : w8.ownsRow w.heap.size 28 1 (.slice (some ⟨g8, 0, none⟩) (k + 1) cp8) (k + 1) ((Sh.words (nb s) (k + 1)).map (fun s : Nat => Value.int .u32 (s : Int))) := (by rw [← HW.out, List.map_append]; exact hown8)
    have hB8 : Below w.heap.size w w8 := (HB.out.alloc HB.out.size _).grown hg8 (by have := HB.out.size; simp; omega) (own_above HROW.out)
    have HB8 := Lib.hid hB8; have HO8 := Lib.hid hown8
    clear hown8 hg8 _hat8 _hlt8 hB8)
   go_roundw
   case rel => exact ⟨k + 1, by omega, rfl, ⟨_, _, rfl⟩, HO8, HB8⟩
   case measure => simp [intOf]; omega
  ·have hke : k = 16 := by omega
   have HKE := Lib.hid hke
   have hnl : ((k : Int) < 16) = False := by simp; omega
   clear hke
   go_wp2_with fail
   go_loopw [3, 7] (fun v i wx => ∃ k : Nat, 16 ≤ k ∧ k ≤ 64 ∧ i = .int .i64 k ∧ (∃ g c, v = .slice (some ⟨g, 0, none⟩) k c) ∧ Hid (wx.ownsRow w.heap.size 28 1 v k ((Sh.words (nb s) k).map (fun s : Nat => Value.int .u32 (s : Int)))) ∧ Hid (Below w.heap.size w wx)) (fun _ i _ => 64 - (intOf i).toNat)
   case atStart =>
    obtain rfl : k = 16 := HKE.out
    have hg : ∃ g, av = some ⟨g, 0, none⟩ := by
     rcases HROW.out.2 with ⟨h', hn⟩ | ⟨g, cap, cur, h', _⟩
     ·omega
     ·simp only [Value.slice.injEq] at h'
      exact ⟨g, h'.1⟩
    obtain ⟨g, rfl⟩ := hg
    exact ⟨16, by omega, by omega, rfl, ⟨_, _, rfl⟩, HROW, HB⟩
   case round =>
    clear HROW HB hnl hk hlt HKE
    obtain ⟨k, hk16, hk, rfl, ⟨g, cv, rfl⟩, HROW, HB⟩ := hrel
    by_cases hlt : k < 64
    ·have hcw : ∀ j, j < k → wr.cell? ⟨g, j, none⟩ = some (.int .u32 (((Sh.words (nb s) k).getD j 0 : Nat) : Int)) := fun j hj => by
      rw [World.ownsRow.cellAt HROW.out j (by omega), List.getElem?_map, List.getD_eq_getElem?_getD, List.getElem?_eq_getElem (by rw [Sh.words_length]; exact hj)]; rfl
     have hnx : (Sh.words (nb s) (k + 1)) = Sh.words (nb s) k ++ [Sh.next (Sh.words (nb s) k) k] := by rw [words_succ, if_neg (by omega)]
     obtain ⟨W, hW⟩ : ∃ W, Sh.words (nb s) k = W := ⟨_, rfl⟩
     have hWl : ∀ j, W.getD j 0 < 4294967296 := fun j => by rw [← hW]; exact Sh.words_getD_lt hby k j
     obtain ⟨y, hy⟩ : ∃ y, W.getD (k - 2) 0 = y := ⟨_, rfl⟩
     obtain ⟨x, hx⟩ : ∃ x, W.getD (k - 15) 0 = x := ⟨_, rfl⟩
     obtain ⟨p, hp⟩ : ∃ p, W.getD (k - 16) 0 = p := ⟨_, rfl⟩
     obtain ⟨q, hq⟩ : ∃ q, W.getD (k - 7) 0 = q := ⟨_, rfl⟩
     obtain ⟨n, hn⟩ : ∃ n, Sh.next W k = n := ⟨_, rfl⟩
     have hnv : n = (p + Sh.sig0 x + q + Sh.sig1 y) % 4294967296 := by rw [← hn]; unfold Sh.next; rw [hp, hx, hq, hy]
     have hyl : y < 4294967296 := hy ▸ hWl _
     have hxl : x < 4294967296 := hx ▸ hWl _
     have hpl : p < 4294967296 := hp ▸ hWl _
     have hql : q < 4294967296 := hq ▸ hWl _
     have hnl : n < 4294967296 := hnv ▸ Nat.mod_lt _ (by decide)
     rw [hW] at hcw hnx; rw [hn] at hnx
     obtain ⟨k2, hk2, hk2e, hk2l⟩ : ∃ m : Nat, (k : Int) - 2 = (m : Int) ∧ k - 2 = m ∧ m < k := ⟨k - 2, by omega, rfl, by omega⟩
     obtain ⟨k15, hk15, hk15e, hk15l⟩ : ∃ m : Nat, (k : Int) - 15 = (m : Int) ∧ k - 15 = m ∧ m < k := ⟨k - 15, by omega, rfl, by omega⟩
     obtain ⟨k7, hk7, hk7e, hk7l⟩ : ∃ m : Nat, (k : Int) - 7 = (m : Int) ∧ k - 7 = m ∧ m < k := ⟨k - 7, by omega, rfl, by omega⟩
     obtain ⟨kp, hkp, hkpe, hkpl⟩ : ∃ m : Nat, (k : Int) - 16 = (m : Int) ∧ k - 16 = m ∧ m < k := ⟨k - 16, by omega, rfl, by omega⟩
     have c2 := hcw _ hk2l; have c15 := hcw _ hk15l; have c7 := hcw _ hk7l; have cp := hcw _ hkpl
     rw [← hk2e, hy] at c2; rw [← hk15e, hx] at c15; rw [← hk7e, hq] at c7; rw [← hkpe, hp] at cp
     rw [hk2e] at c2; rw [hk15e] at c15; rw [hk7e] at c7; rw [hkpe] at cp
     have t17 := ref01_Turn y 17 hyl (by omega) (by omega)
     have t19 := ref01_Turn y 19 hyl (by omega) (by omega)
     have t7 := ref01_Turn x 7 hxl (by omega) (by omega)
     have t18 := ref01_Turn x 18 hxl (by omega) (by omega)
     have e1 := u32_xor_nat _ _ (Sh.turn_lt (k := 17) hyl) (Sh.turn_lt (k := 19) hyl)
     have e2 : bits .xor .u32 ((Sh.turn y 17 ^^^ Sh.turn y 19 : Nat) : Int) ((y : Int) / 1024) = ((Sh.sig1 y : Nat) : Int) := by
      rw [show ((y : Int) / 1024) = ((y / 1024 : Nat) : Int) by omega, u32_xor_nat _ _ (Sh.xor_lt (Sh.turn_lt hyl) (Sh.turn_lt hyl)) (Sh.div_lt hyl)]; rfl
     have e3 := u32_xor_nat _ _ (Sh.turn_lt (k := 7) hxl) (Sh.turn_lt (k := 18) hxl)
     have e4 : bits .xor .u32 ((Sh.turn x 7 ^^^ Sh.turn x 18 : Nat) : Int) ((x : Int) / 8) = ((Sh.sig0 x : Nat) : Int) := by
      rw [show ((x : Int) / 8) = ((x / 8 : Nat) : Int) by omega, u32_xor_nat _ _ (Sh.xor_lt (Sh.turn_lt hxl) (Sh.turn_lt hxl)) (Sh.div_lt hxl)]; rfl
     obtain ⟨s0, hs0⟩ : ∃ n, Sh.sig0 x = n := ⟨_, rfl⟩
     obtain ⟨s1, hs1⟩ : ∃ n, Sh.sig1 y = n := ⟨_, rfl⟩
     rw [hs1] at e2; rw [hs0] at e4
     rw [hs0, hs1] at hnv
     obtain ⟨a1, ha1⟩ : ∃ n, Sh.turn y 17 = n := ⟨_, rfl⟩
     obtain ⟨a2, ha2⟩ : ∃ n, Sh.turn y 19 = n := ⟨_, rfl⟩
     obtain ⟨a3, ha3⟩ : ∃ n, Sh.turn x 7 = n := ⟨_, rfl⟩
     obtain ⟨a4, ha4⟩ : ∃ n, Sh.turn x 18 = n := ⟨_, rfl⟩
     rw [ha1, ha2] at e1 e2; rw [ha3, ha4] at e3 e4; rw [ha1] at t17; rw [ha2] at t19; rw [ha3] at t7; rw [ha4] at t18
     obtain ⟨a5, ha5⟩ : ∃ n, a1 ^^^ a2 = n := ⟨_, rfl⟩
     obtain ⟨a6, ha6⟩ : ∃ n, a3 ^^^ a4 = n := ⟨_, rfl⟩
     rw [ha5] at e1 e2; rw [ha6] at e3 e4
     have hs0l : s0 < 4294967296 := hs0 ▸ Sh.sig0_lt hxl
     have hs1l : s1 < 4294967296 := hs1 ▸ Sh.sig1_lt hyl
     have T17 := Lib.hid t17; have T19 := Lib.hid t19; have T7 := Lib.hid t7; have T18 := Lib.hid t18
     have HNV := Lib.hid (And.intro hnv (And.intro hpl (And.intro hql (And.intro hs0l hs1l)))); have HNX := Lib.hid hnx
     have HROW' := HROW.out
     rw [hW] at HROW'
     have HROW2 := Lib.hid HROW'
     clear HROW'
     clear hnv hnx t17 t19 t7 t18 hy hx hp hq hn hWl hcw hW hk2e hk15e hk7e hkpe ha1 ha2 ha3 ha4 ha5 ha6 hs0 hs1 hyl hxl hpl hql hnl hs0l hs1l hby
     go_wp2_with fail
     go_quiet (fail)
     go_wp2_with fail
     refine (T17.out _).mono ?_
     rintro e w1 ⟨rfl, rfl⟩
     go_wp2_with fail
     refine (T19.out _).mono ?_
     rintro e w2 ⟨rfl, rfl⟩
     go_wp2_with fail
     refine (T7.out _).mono ?_
     rintro e w3 ⟨rfl, rfl⟩
     go_wp2_with fail
     refine (T18.out _).mono ?_
     rintro e w4 ⟨rfl, rfl⟩
     go_upto_region 13 with fail
     have HRA := HROW2
     have u7 : IntKind.i64.wrap (k7 : Int) = (k7 : Int) := by rw [IntKind.wrap_i64]; omega
     have up : IntKind.i64.wrap (kp : Int) = (kp : Int) := by rw [IntKind.wrap_i64]; omega
     have i7 : (k7 : Int) < (k : Int) := by omega
     have ip : (kp : Int) < (k : Int) := by omega
     have j7 : (0 : Int) ≤ (k7 : Int) := by omega
     have jp : (0 : Int) ≤ (kp : Int) := by omega
     have hvv : IntKind.u32.wrap (IntKind.u32.wrap (IntKind.u32.wrap ((s1 : Int) + (q : Int)) + (s0 : Int)) + (p : Int)) = ((n : Nat) : Int) := by
      rw [HNV.out.1]; simp only [IntKind.wrap_u32']; omega
     have HBD := Lib.hid (below_dr HB.out (nq + 1))
     go_region_law (refine step_append_lies (hgd := rfl) (s := .tmp 58) (x := .tmp 74) (t := 64) (ho := rfl) (base := w.heap.size) (e := 28) (i := i0) (z := .int .u32 0) (size := 1) (bytes := 4) (ht := Tryz.underlying64) (hi := hi) (hz := hz0) (hsize := hz1) (hby := hz2) (hzs := rfl) (hsz := by decide) (v := _) (n := k) (xs := W.map (fun s : Nat => Value.int .u32 (s : Int))) (hs := rfl) (hown := rowBelow HROW2.out ((below_dr (Below.refl _ _) (nq + 1)).alloc (Nat.le_refl _) _)) (ad := _) (m := 1) (c := _) (news := [.int .u32 (n : Int)]) (hx := rfl) (hl := rfl) (hnews := World.news_of_block (MapKept.heap_alloc _ _).1) (h1 := few_one n) (hm := Nat.zero_lt_one) (h63 := by unfold maxLen; omega) (hbytes := by omega) (hbase := by have := HB.out.size; simp; omega) (H := _) (hH := rfl) (h := ?_); intro g8 cp8 w8 hown8 hg8 _hat8 _hlt8; have HB8 := Lib.hid ((HBD.out.alloc HBD.out.size _).grown hg8 (by have := HB.out.size; simp; omega) (own_above HROW2.out)); have HO8 := Lib.hid hown8; clear hown8 hg8 _hat8 _hlt8)
     all_goals (
      go_wp2_with fail
      go_roundw
      case rel => exact ⟨k + 1, by omega, by omega, rfl, ⟨_, _, rfl⟩, Lib.hid (by rw [HNX.out, List.map_append]; exact HO8.out), HB8⟩
      case measure => simp [intOf]; omega)
    ·obtain rfl : k = 64 := by omega
     go_wp2_with fail
     go_ret
     exact ⟨g, cv, rfl, HROW.out, HB.out⟩
end Go.Proofs.YtggdkfijioeijaaGreatDoor
namespace Go.Proofs.YtggdkfijioeijaaGreatDoor
open Go Go.RowKit
def S8at (g : Nat) (s : Sh.S8) (w : World) : Prop := w.cell? ⟨g, 0, none⟩ = some (.int .u32 (s.a : Int)) ∧ w.cell? ⟨g, 1, none⟩ = some (.int .u32 (s.b : Int)) ∧ w.cell? ⟨g, 2, none⟩ = some (.int .u32 (s.c : Int)) ∧ w.cell? ⟨g, 3, none⟩ = some (.int .u32 (s.d : Int)) ∧
 w.cell? ⟨g, 4, none⟩ = some (.int .u32 (s.e : Int)) ∧ w.cell? ⟨g, 5, none⟩ = some (.int .u32 (s.f : Int)) ∧ w.cell? ⟨g, 6, none⟩ = some (.int .u32 (s.g : Int)) ∧ w.cell? ⟨g, 7, none⟩ = some (.int .u32 (s.h : Int))
theorem S8at.below {g : Nat} {s : Sh.S8} {w w' : World} (h : S8at g s w) (hb : Below w.heap.size w w') : S8at g s w' := by
 obtain ⟨h0, h1, h2, h3, h4, h5, h6, h7⟩ := h
 have hl := block_lt_of_cell h0
 exact ⟨(hb.cell (p := ⟨g, 0, none⟩) hl).trans h0, (hb.cell (p := ⟨g, 1, none⟩) hl).trans h1, (hb.cell (p := ⟨g, 2, none⟩) hl).trans h2, (hb.cell (p := ⟨g, 3, none⟩) hl).trans h3, (hb.cell (p := ⟨g, 4, none⟩) hl).trans h4, (hb.cell (p := ⟨g, 5, none⟩) hl).trans h5, (hb.cell (p := ⟨g, 6, none⟩) hl).trans h6, (hb.cell (p := ⟨g, 7, none⟩) hl).trans h7⟩
theorem not32 {e : Nat} (he : e < 4294967296) : 4294967295 ^^^ e = 4294967295 - e := by
 refine Nat.eq_of_testBit_eq fun j => ?_
 have h1 := Nat.testBit_two_pow_sub_succ (n := 32) (x := e) he j
 rw [show 4294967295 - e = 2 ^ 32 - (e + 1) by omega, h1, Nat.testBit_xor, show (4294967295 : Nat) = 2 ^ 32 - 1 from rfl, Nat.testBit_two_pow_sub_one]
 by_cases hj : j < 32
 ·simp [hj]
 ·simp [hj, Sh.high he hj]
set_option maxRecDepth 100000 in
set_option maxHeartbeats 8000000 in
theorem ref02_step (g cap : Nat) (st : Sh.S8) (s : ByteArray) (hs : s.size = 64) (hok : st.Ok) (w : World) (hst : S8at g st w) :
  Calls Tryz.prog 117 #[.slice (some ⟨g, 0, none⟩) 8 cap, .string s] w fun e w' => ∃ g', e = .returned (.slice (some ⟨g', 0, none⟩) 8 8) ∧ S8at g' (Sh.block st (nb s)) w' ∧ Below w.heap.size w w' := by
 have HST := Lib.hid hst; have HOK := Lib.hid hok
 obtain ⟨W, hW⟩ : ∃ W, Sh.words (nb s) 64 = W := ⟨_, rfl⟩
 have hWl : ∀ j, W.getD j 0 < 4294967296 := fun j => by rw [← hW]; exact Sh.words_getD_lt (nb_bytes s) 64 j
 have hWn : W.length = 64 := by rw [← hW, Sh.words_length]
 have hwd := fun w => ref02_Words s hs w
 rw [hW] at hwd
 have HWD := Lib.hid hwd; have HWL := Lib.hid hWl; have HWN := Lib.hid hWn
 have HBK := Lib.hid (show Sh.block st (nb s) = Sh.plus st (Sh.rounds st W 64) by rw [← hW]; rfl)
 clear hst hok hwd hWl hW hWn
 go_enter Tryz.func117, Tryz.ntmps117
 go_wp2_with fail
 refine (ref02_K w).mono ?_
 rintro e w1 ⟨rfl, hk1, hs1, hb1⟩
 have HK1 := Lib.hid hk1; have HB1 := Lib.hid hb1
 clear hk1 hb1
 go_wp2_with fail
 refine (HWD.out w1).mono ?_
 rintro e w2 ⟨gw, cw, rfl, hrow2, hb2⟩
 have hs2 := hb2.size
 have HK2 := Lib.hid (fun k hk => (hb2.cell (p := ⟨w.heap.size, k, none⟩) hs1).trans (HK1.out k hk))
 have HW2 := Lib.hid (show ∀ k, k < 64 → w2.cell? ⟨gw, k, none⟩ = some (.int .u32 ((W.getD k 0 : Nat) : Int)) from fun k hk => by
  rw [World.ownsRow.cellAt hrow2 k (by omega), List.getElem?_map, List.getD_eq_getElem?_getD, List.getElem?_eq_getElem (by rw [HWN.out]; exact hk)]; rfl)
 have HB2 := Lib.hid (HB1.out.trans (hb2.mono HB1.out.size))
 have HS2 := Lib.hid (HST.out.below HB2.out)
 clear hrow2 hb2 HK1 HB1 HST HWD
 have hst2 := HS2.out
 unfold S8at at hst2
 obtain ⟨f0, f1, f2, f3, f4, f5, f6, f7⟩ := hst2
 obtain ⟨sa, sb, sc, sd, se, sf, sg, sh⟩ := st
 simp only at f0 f1 f2 f3 f4 f5 f6 f7
 go_wp2_with fail
 go_quiet (fail)
 go_wp2_with fail
 go_quiet (fail)
 go_wp2_with fail
 go_loopw [7, 8, 9, 10, 11, 12, 13, 14, 15] (fun va vb vc vd ve vf vg vh vt wr => ∃ (t : Nat) (r : Sh.S8), t ≤ 64 ∧ vt = .int .i64 t ∧ va = .int .u32 (r.a : Int) ∧ vb = .int .u32 (r.b : Int) ∧ vc = .int .u32 (r.c : Int) ∧ vd = .int .u32 (r.d : Int) ∧ ve = .int .u32 (r.e : Int) ∧ vf = .int .u32 (r.f : Int) ∧ vg = .int .u32 (r.g : Int) ∧ vh = .int .u32 (r.h : Int) ∧ Hid (r = Sh.rounds ⟨sa, sb, sc, sd, se, sf, sg, sh⟩ W t) ∧ Hid (Below w2.heap.size w2 wr)) (fun _ _ _ _ _ _ _ _ vt _ => 64 - (intOf vt).toNat)
 case atStart => exact ⟨0, ⟨sa, sb, sc, sd, se, sf, sg, sh⟩, by omega, rfl, rfl, rfl, rfl, rfl, rfl, rfl, rfl, rfl, Lib.hid rfl, Lib.hid (below_dr (below_dr (Below.refl _ _) _) _)⟩
 case round =>
  obtain ⟨t, ⟨ra, rb, rc, rd, re, rf, rg, rh⟩, ht, rfl, rfl, rfl, rfl, rfl, rfl, rfl, rfl, rfl, HR, HB⟩ := hrel
  simp only at *
  have hrok := Sh.rounds_ok HOK.out W t
  rw [← HR.out] at hrok
  obtain ⟨la, lb, lc, ld, le, lf, lg, lh⟩ := hrok
  simp only at la lb lc ld le lf lg lh
  by_cases hlt : t < 64
  ·have kc := (HB.out.cell (p := ⟨w.heap.size, t, none⟩) (block_lt_of_cell (HK2.out t hlt))).trans (HK2.out t hlt)
   have wcl := (HB.out.cell (p := ⟨gw, t, none⟩) (block_lt_of_cell (HW2.out t hlt))).trans (HW2.out t hlt)
   obtain ⟨kk, hkk⟩ : ∃ kk, Sh.ks.getD t 0 = kk := ⟨_, rfl⟩
   obtain ⟨wk, hwk⟩ : ∃ wk, W.getD t 0 = wk := ⟨_, rfl⟩
   have hkkl : kk < 4294967296 := hkk ▸ ks_lt t
   have hwkl : wk < 4294967296 := hwk ▸ HWL.out t
   rw [hkk] at kc; rw [hwk] at wcl
   have t1 := ref02_three re 6 11 25 le (by omega) (by omega) (by omega)
   have t2 := ref02_three ra 2 13 22 la (by omega) (by omega) (by omega)
   have e1 := u32_and_nat re rf le lf
   have e2 : bits .xor .u32 (if IntKind.u32.signed = true then -1 else IntKind.u32.max) (re : Int) = ((4294967295 - re : Nat) : Int) := by
    show bits .xor .u32 ((4294967295 : Nat) : Int) (re : Int) = _
    rw [u32_xor_nat _ _ (by decide) le, not32 le]
   have e3 := u32_and_nat (4294967295 - re) rg (by omega) lg
   have e4 := u32_xor_nat (re &&& rf) ((4294967295 - re) &&& rg) (Sh.and_lt le) (Sh.and_lt (by show _ < 4294967296; omega))
   have ech := Sh.ch_eq le lf lg
   rw [show Sh.M32 - 1 - re = 4294967295 - re from rfl] at ech
   rw [ech] at e4
   obtain ⟨u1, hu1⟩ : ∃ u, re &&& rf = u := ⟨_, rfl⟩
   obtain ⟨n2, hn2⟩ : ∃ u, 4294967295 - re = u := ⟨_, rfl⟩
   rw [hn2] at e2 e3 e4
   obtain ⟨u2, hu2⟩ : ∃ u, n2 &&& rg = u := ⟨_, rfl⟩
   obtain ⟨cv, hcv⟩ : ∃ u, Sh.ch re rf rg = u := ⟨_, rfl⟩
   have lcv : cv < 4294967296 := hcv ▸ Sh.ch_lt le lf lg
   rw [hu1] at e1 e4; rw [hu2] at e3 e4; rw [hcv] at e4
   obtain ⟨q1, hq1⟩ : ∃ u, Sh.three re 6 11 25 = u := ⟨_, rfl⟩
   obtain ⟨q2, hq2⟩ : ∃ u, Sh.three ra 2 13 22 = u := ⟨_, rfl⟩
   have lq1 : q1 < 4294967296 := hq1 ▸ Sh.three_lt le
   have lq2 : q2 < 4294967296 := hq2 ▸ Sh.three_lt la
   rw [hq1] at t1; rw [hq2] at t2
   obtain ⟨x, hx⟩ : ∃ x, (rh + q1 + cv + kk + wk) % 4294967296 = x := ⟨_, rfl⟩
   have ex : ((((rh : Int) + (q1 : Int) + (cv : Int) + (kk : Int)) % 4294967296) + (wk : Int)) % 4294967296 = (x : Int) := by omega
   have e5 := u32_and_nat ra rb la lb
   have e6 := u32_and_nat ra rc la lc
   have e7 := u32_xor_nat (ra &&& rb) (ra &&& rc) (Sh.and_lt la) (Sh.and_lt la)
   have e8 := u32_and_nat rb rc lb lc
   have e9 := u32_xor_nat ((ra &&& rb) ^^^ (ra &&& rc)) (rb &&& rc) (Sh.xor_lt (Sh.and_lt la) (Sh.and_lt la)) (Sh.and_lt lb)
   rw [Sh.maj_eq] at e9
   obtain ⟨mv, hmv⟩ : ∃ u, Sh.maj ra rb rc = u := ⟨_, rfl⟩
   have lmv : mv < 4294967296 := hmv ▸ Sh.maj_lt la lb lc
   rw [hmv] at e9
   obtain ⟨u3, hu3⟩ : ∃ u, ra &&& rb = u := ⟨_, rfl⟩
   obtain ⟨u4, hu4⟩ : ∃ u, ra &&& rc = u := ⟨_, rfl⟩
   obtain ⟨u6, hu6⟩ : ∃ u, rb &&& rc = u := ⟨_, rfl⟩
   rw [hu3] at e5 e7 e9; rw [hu4] at e6 e7 e9; rw [hu6] at e8 e9
   obtain ⟨u5, hu5⟩ : ∃ u, u3 ^^^ u4 = u := ⟨_, rfl⟩
   rw [hu5] at e7 e9
   obtain ⟨y, hy⟩ : ∃ y, (q2 + mv) % 4294967296 = y := ⟨_, rfl⟩
   have ey : ((q2 : Int) + (mv : Int)) % 4294967296 = (y : Int) := by omega
   obtain ⟨ne, hne⟩ : ∃ z, (rd + x) % 4294967296 = z := ⟨_, rfl⟩
   obtain ⟨na, hna⟩ : ∃ z, (x + y) % 4294967296 = z := ⟨_, rfl⟩
   have ene : ((rd : Int) + (x : Int)) % 4294967296 = (ne : Int) := by omega
   have ena : ((x : Int) + (y : Int)) % 4294967296 = (na : Int) := by omega
   have hnext : (⟨na, ra, rb, rc, ne, re, rf, rg⟩ : Sh.S8) = Sh.rounds ⟨sa, sb, sc, sd, se, sf, sg, sh⟩ W (t + 1) := by
    rw [Sh.rounds, ← HR.out, hkk, hwk]
    unfold Sh.rnd
    simp only [hq1, hq2, hcv, hmv]
    rw [← hna, ← hne, ← hx, ← hy]
   have T1 := Lib.hid t1; have T2 := Lib.hid t2; have HNX := Lib.hid hnext
   have LL := Lib.hid (And.intro la (And.intro lb (And.intro lc (And.intro ld (And.intro le (And.intro lf (And.intro lg lh)))))))
   clear t1 t2 hnext hx hy hna hne hu1 hn2 hu2 hcv lcv hq1 hq2 lq1 lq2 hmv lmv hu3 hu4 hu5 hu6 hkk hwk hkkl hwkl ech la lb lc ld le lf lg lh HR
   go_wp2_with fail
   go_quiet (exact (T1.out _).mono (fun e wz h => ⟨h.1, ⟨_, h.2⟩⟩))
   go_wp2_with fail
   refine (T2.out _).mono ?_
   rintro e wz ⟨rfl, rfl⟩
   go_wp2_with fail
   go_roundw
   case rel => exact ⟨t + 1, ⟨na, ra, rb, rc, ne, re, rf, rg⟩, by omega, rfl, (by first | rfl | rw [ena]), rfl, rfl, rfl, (by first | rfl | rw [ene]), rfl, rfl, rfl, HNX, Lib.hid (below_dr HB.out _)⟩
   case measure => simp [intOf]; omega
  ·have hte : t = 64 := by omega
   have HR64 := Lib.hid (show (⟨ra, rb, rc, rd, re, rf, rg, rh⟩ : Sh.S8) = Sh.rounds ⟨sa, sb, sc, sd, se, sf, sg, sh⟩ W 64 from by rw [HR.out, hte])
   have hnlt : ((t : Int) < 64) = False := by simp; omega
   have hg0 := HS2.out.below HB.out
   unfold S8at at hg0
   simp only at hg0
   obtain ⟨g0, g1, g2, g3, g4, g5, g6, g7⟩ := hg0
   have hok0 := HOK.out
   obtain ⟨ka, kb, kc, kd, ke, kf, kg, kh⟩ := hok0
   simp only at ka kb kc kd ke kf kg kh
   obtain ⟨z0, y0⟩ : ∃ z, (sa + ra) % 4294967296 = z := ⟨_, rfl⟩
   obtain ⟨z1, y1⟩ : ∃ z, (sb + rb) % 4294967296 = z := ⟨_, rfl⟩
   obtain ⟨z2, y2⟩ : ∃ z, (sc + rc) % 4294967296 = z := ⟨_, rfl⟩
   obtain ⟨z3, y3⟩ : ∃ z, (sd + rd) % 4294967296 = z := ⟨_, rfl⟩
   obtain ⟨z4, y4⟩ : ∃ z, (se + re) % 4294967296 = z := ⟨_, rfl⟩
   obtain ⟨z5, y5⟩ : ∃ z, (sf + rf) % 4294967296 = z := ⟨_, rfl⟩
   obtain ⟨z6, y6⟩ : ∃ z, (sg + rg) % 4294967296 = z := ⟨_, rfl⟩
   obtain ⟨z7, y7⟩ : ∃ z, (sh + rh) % 4294967296 = z := ⟨_, rfl⟩
   have x0 : ((sa : Int) + (ra : Int)) % 4294967296 = (z0 : Int) := by omega
   have x1 : ((sb : Int) + (rb : Int)) % 4294967296 = (z1 : Int) := by omega
   have x2 : ((sc : Int) + (rc : Int)) % 4294967296 = (z2 : Int) := by omega
   have x3 : ((sd : Int) + (rd : Int)) % 4294967296 = (z3 : Int) := by omega
   have x4 : ((se : Int) + (re : Int)) % 4294967296 = (z4 : Int) := by omega
   have x5 : ((sf : Int) + (rf : Int)) % 4294967296 = (z5 : Int) := by omega
   have x6 : ((sg : Int) + (rg : Int)) % 4294967296 = (z6 : Int) := by omega
   have x7 : ((sh : Int) + (rh : Int)) % 4294967296 = (z7 : Int) := by omega
   have hfin : Sh.block ⟨sa, sb, sc, sd, se, sf, sg, sh⟩ (nb s) = ⟨z0, z1, z2, z3, z4, z5, z6, z7⟩ := by
    rw [HBK.out, ← HR64.out]; unfold Sh.plus; simp only
    rw [← y0, ← y1, ← y2, ← y3, ← y4, ← y5, ← y6, ← y7]
   have HFIN := Lib.hid hfin
   clear hte HR HR64 hfin y0 y1 y2 y3 y4 y5 y6 y7 la lb lc ld le lf lg lh ka kb kc kd ke kf kg kh HOK HS2
   go_wp2_with fail
   go_still_tail 40, (by kernel_rfl)
   change wpList _ _ _ _ _ wr.drew
   have hbd : Below w.heap.size w wr.drew := HB2.out.trans (HB.out.drew.mono HB2.out.size)
   obtain ⟨w3, hw3⟩ : ∃ w3, wr.drew = w3 := ⟨_, rfl⟩
   rw [hw3] at hbd ⊢
   have HBD := Lib.hid hbd
   clear hbd hw3
   go_wp2_with fail
   go_ret
   have hc := fun j => cell_of (MapKept.heap_alloc w3 (.cells #[.int .u32 (z0 : Int), .int .u32 (z1 : Int), .int .u32 (z2 : Int), .int .u32 (z3 : Int), .int .u32 (z4 : Int), .int .u32 (z5 : Int), .int .u32 (z6 : Int), .int .u32 (z7 : Int)] 28)).1 j
   refine ⟨w3.heap.size, rfl, ?_, HBD.out.alloc HBD.out.size _⟩
   rw [HFIN.out, x0, x1, x2, x3, x4, x5, x6, x7]
   exact ⟨hc 0, hc 1, hc 2, hc 3, hc 4, hc 5, hc 6, hc 7⟩
end Go.Proofs.YtggdkfijioeijaaGreatDoor
namespace Go.Proofs.YtggdkfijioeijaaGreatDoor
open Go Go.RowKit
theorem run_snoc (s : Sh.S8) (b : List Nat) (n : Nat) : Sh.run s b (n + 1) = Sh.block (Sh.run s b n) ((b.drop (64 * n)).take 64) := by
 induction n generalizing s b with
 | zero => rfl
 | succ n ih =>
  rw [Sh.run, ih, Sh.run, List.drop_drop, show 64 + 64 * n = 64 * (n + 1) by omega]
def S8l (s : Sh.S8) : List Nat := [s.a, s.b, s.c, s.d, s.e, s.f, s.g, s.h]
theorem out_l (s : Sh.S8) : Sh.out s = (S8l s).flatMap (fun x => Sh.put x 4) := by simp [Sh.out, S8l]
theorem S8l_lt {s : Sh.S8} (h : s.Ok) (k : Nat) : (S8l s).getD k 0 < 4294967296 := by
 obtain ⟨a, b, c, d, e, f, g, h⟩ := h
 rcases (show k = 0 ∨ k = 1 ∨ k = 2 ∨ k = 3 ∨ k = 4 ∨ k = 5 ∨ k = 6 ∨ k = 7 ∨ 8 ≤ k by omega) with rfl | rfl | rfl | rfl | rfl | rfl | rfl | rfl | hk
 all_goals first | assumption | skip
 rw [List.getD_eq_getElem?_getD, List.getElem?_eq_none (by simp [S8l]; omega)]; decide
theorem S8at.get {g : Nat} {s : Sh.S8} {w : World} (h : S8at g s w) (k : Nat) (hk : k < 8) : w.cell? ⟨g, k, none⟩ = some (.int .u32 (((S8l s).getD k 0 : Nat) : Int)) := by
 obtain ⟨h0, h1, h2, h3, h4, h5, h6, h7⟩ := h
 rcases (show k = 0 ∨ k = 1 ∨ k = 2 ∨ k = 3 ∨ k = 4 ∨ k = 5 ∨ k = 6 ∨ k = 7 by omega) with rfl | rfl | rfl | rfl | rfl | rfl | rfl | rfl
 all_goals assumption
set_option maxRecDepth 100000 in
set_option maxHeartbeats 8000000 in
theorem ref02_Of (s : ByteArray) (hs : s.size ≤ 100000) (w : World) :
  Calls Tryz.prog 82 #[.string s] w fun e w' => e = .returned (.string (sb (Sh.sha (nb s)))) ∧ Below w.heap.size w w' := by
 obtain ⟨n, hn⟩ : ∃ n, s.size = n := ⟨_, rfl⟩
 have hnl : (nb s).length = n := by rw [nb_length, hn]
 have hp0 : nb (s ++ ⟨#[128]⟩) = nb s ++ 128 :: List.replicate 0 0 := by rw [nb_app]; rfl
 have hp0s : (s ++ ⟨#[128]⟩).size = n + 1 := by rw [← nb_length, hp0]; simp [hnl]
 have HP0 := Lib.hid hp0; have HP0S := Lib.hid hp0s; have HNL := Lib.hid hnl
 clear hp0 hp0s hnl
 go_enter Tryz.func82, Tryz.ntmps82
 go_wp2_with fail
 go_loopw [3] (fun v wr => ∃ (p : ByteArray) (m j : Nat), v = .string p ∧ Hid (p.size = m) ∧ Hid (m = n + 1 + j) ∧ j ≤ (119 - n % 64) % 64 ∧ Hid (nb p = nb s ++ 128 :: List.replicate j 0) ∧ wr = w) (fun v _ => 64 - (match v with | .string p => p.size - (n + 1) | _ => 0))
 case atStart => exact ⟨_, n + 1, 0, rfl, HP0S, Lib.hid rfl, Nat.zero_le _, HP0, rfl⟩
 case round =>
  obtain ⟨p, m, j, rfl, HPS, HMJ, hj, HNP, rfl⟩ := hrel
  have hps := HPS.out
  by_cases hlt : j < (119 - n % 64) % 64
  ·have hm := HMJ.out
   have ht : ((m : Int) % 64 != 56) = true := by simp; omega
   have hp2 : nb (p ++ ⟨#[0]⟩) = nb s ++ 128 :: List.replicate (j + 1) 0 := by
    rw [nb_app, HNP.out, List.replicate_succ']; simp; rfl
   have hp2s : (p ++ ⟨#[0]⟩).size = m + 1 := by rw [← nb_length, nb_app, List.length_append, nb_length, hps]; rfl
   have HP2 := Lib.hid hp2; have HP2S := Lib.hid hp2s
   have hov : ¬ (9223372036854775807 < m + 1) := by omega
   clear hp2 hp2s hm
   go_wp2_with fail
   go_roundw
   case rel => exact ⟨_, m + 1, j + 1, rfl, HP2S, Lib.hid (by rw [HMJ.out]; omega), by omega, HP2, by first | trivial | rfl⟩
   case measure =>
    show 64 - ((p ++ ⟨#[0]⟩).size - (n + 1)) < 64 - (p.size - (n + 1))
    have := HMJ.out
    rw [HP2S.out, HPS.out]; omega
  ·have hm := HMJ.out
   have ht : ((m : Int) % 64 != 56) = false := by simp; omega
   have hje : j = (119 - n % 64) % 64 := by omega
   obtain ⟨n8, hn8⟩ : ∃ n8, 8 * n = n8 := ⟨_, rfl⟩
   have h8 : (8 : Int) * (n : Int) = (n8 : Int) := by omega
   have hwn : IntKind.u64.wrap (n : Int) = (n : Int) := by rw [IntKind.wrap_u64]; omega
   have hw8 : IntKind.u64.wrap (n8 : Int) = (n8 : Int) := by rw [IntKind.wrap_u64]; omega
   have hput := ref01_Put8 n8 (by omega) wr
   have hq : nb (p ++ sb (Sh.put n8 8)) = nb s ++ Sh.tail n := by
    rw [nb_app, HNP.out, nb_sb (Sh.put_bytes _ _), List.append_assoc]
    congr 1
    unfold Sh.tail
    rw [List.cons_append, hje, hn8, Nat.mod_eq_of_lt (show n8 < 18446744073709551616 by omega)]
   have htl : (Sh.tail n).length = 9 + (119 - n % 64) % 64 := Sh.tail_length n
   obtain ⟨Q, hQ⟩ : ∃ Q, (n + (9 + (119 - n % 64) % 64)) / 64 = Q := ⟨_, rfl⟩
   have hq64 : n + (9 + (119 - n % 64) % 64) = 64 * Q := by omega
   have hqs : (p ++ sb (Sh.put n8 8)).size = 64 * Q := by rw [← nb_length, hq, List.length_append, HNL.out, htl, hq64]
   have hps8 : (sb (Sh.put n8 8)).size = 8 := by rw [sb_size, Sh.put_length]
   have hov : ¬ (9223372036854775807 < m + 8) := by omega
   have hsha : Sh.sha (nb s) = Sh.out (Sh.run Sh.init (nb s ++ Sh.tail n) Q) := by
    unfold Sh.sha
    rw [HNL.out, htl, hQ]
   have HPUT := Lib.hid hput; have HQ := Lib.hid hq; have HQS := Lib.hid hqs; have HSHA := Lib.hid hsha; have HP8 := Lib.hid hps8
   have hQl : Q ≤ 2000 := by omega
   clear hput hq hqs hsha htl hQ hq64 hje hn8 hm HNP HMJ HP0 HP0S
   go_wp2_with fail
   refine HPUT.out.mono ?_
   rintro e w1 ⟨rfl, hb1⟩
   have HB1 := Lib.hid hb1
   have hp8 := HP8.out
   clear hb1
   go_wp2_with fail
   have hinit : S8at w1.heap.size Sh.init (w1.alloc (.cells #[.int .u32 1779033703, .int .u32 3144134277, .int .u32 1013904242, .int .u32 2773480762, .int .u32 1359893119, .int .u32 2600822924, .int .u32 528734635, .int .u32 1541459225] 28)) := by
    have hc := fun j => cell_of (MapKept.heap_alloc w1 (.cells #[.int .u32 1779033703, .int .u32 3144134277, .int .u32 1013904242, .int .u32 2773480762, .int .u32 1359893119, .int .u32 2600822924, .int .u32 528734635, .int .u32 1541459225] 28)).1 j
    exact ⟨hc 0, hc 1, hc 2, hc 3, hc 4, hc 5, hc 6, hc 7⟩
   have HINIT := Lib.hid hinit
   clear hinit
   obtain ⟨pp, hpp⟩ : ∃ pp, p ++ sb (Sh.put n8 8) = pp := ⟨_, rfl⟩
   rw [hpp] at HQ HQS ⊢
   obtain ⟨N, hN⟩ : ∃ N, 64 * Q = N := ⟨_, rfl⟩
   have hpps := HQS.out
   rw [hN] at hpps
   have HN := Lib.hid hN
   have hNl : N ≤ 128000 := by omega
   clear hpp hN HQS hps hov HPS HPUT
   go_loopw [4, 5] (fun v i wx => ∃ (q z gg : Nat), q ≤ Q ∧ i = .int .i64 z ∧ Hid (z = 64 * q) ∧ v = .slice (some ⟨gg, 0, none⟩) 8 8 ∧ Hid (S8at gg (Sh.run Sh.init (nb s ++ Sh.tail n) q) wx) ∧ Hid (Below wr.heap.size wr wx)) (fun _ i _ => 64 * Q - (intOf i).toNat)
   case atStart => exact ⟨0, 0, w1.heap.size, Nat.zero_le _, rfl, Lib.hid rfl, rfl, HINIT, Lib.hid (HB1.out.alloc HB1.out.size _)⟩
   case round =>
    obtain ⟨q, z, gg, hq, rfl, HZ, rfl, HS, HB⟩ := hrel
    by_cases hlt2 : q < Q
    ·have hzN : z + 64 ≤ N := by have := HZ.out; have := HN.out; omega
     have hzi : (z : Int) < (N : Int) := by omega
     have hzj : (z : Int) + 64 ≤ (N : Int) := by omega
     have hex : nb (pp.extract z (z + 64)) = ((nb s ++ Sh.tail n).drop z).take 64 := by
      rw [nb_extract, HQ.out, show z + 64 - z = 64 by omega]
     have hes : (pp.extract z (z + 64)).size = 64 := by rw [← nb_length, nb_extract, List.length_take, List.length_drop, nb_length, hpps]; omega
     have hstep := ref02_step gg 8 (Sh.run Sh.init (nb s ++ Sh.tail n) q) (pp.extract z (z + 64)) hes (Sh.run_ok Sh.init_ok _ _) wr HS.out
     rw [hex, HZ.out, ← run_snoc, ← HZ.out] at hstep
     have HSTEP := Lib.hid hstep
     have h64 : ((z : Int) + 64) = ((z + 64 : Nat) : Int) := by omega
     have H64 := Lib.hid h64
     clear hstep hex hes h64
     go_wp2_with fail
     refine HSTEP.out.mono ?_
     rintro e w2 ⟨g2, rfl, hs2, hb2⟩
     have HS2 := Lib.hid hs2; have HB2 := Lib.hid (HB.out.trans (hb2.mono HB.out.size))
     clear hs2 hb2
     go_wp2_with fail
     go_roundw
     case rel => exact ⟨q + 1, z + 64, g2, by omega, by rw [H64.out], Lib.hid (by rw [HZ.out]; omega), rfl, HS2, HB2⟩
     case measure => have := HN.out; simp [intOf]; omega
    ·have hqe : q = Q := by omega
     have hzn : ((z : Int) < (N : Int)) = False := by have := HZ.out; have := HN.out; simp; omega
     have hsx := HS.out
     rw [hqe] at hsx
     obtain ⟨st, hst⟩ : ∃ st, Sh.run Sh.init (nb s ++ Sh.tail n) Q = st := ⟨_, rfl⟩
     have hstok : st.Ok := hst ▸ Sh.run_ok Sh.init_ok _ _
     rw [hst] at hsx
     have HSX := Lib.hid hsx; have HOKS := Lib.hid hstok
     have HFIN := Lib.hid (show Sh.sha (nb s) = Sh.out st by rw [HSHA.out, hst])
     have HBL := HB
     clear hsx hst hstok hqe HS HSHA HQ HN hlt2 HB
     go_wp2_with fail
     go_loopw [6, 7] (fun v i wx => ∃ (k : Nat) (o : ByteArray), k ≤ 8 ∧ i = .int .i64 k ∧ v = .string o ∧ Hid (o = sb (((S8l st).take k).flatMap (fun x => Sh.put x 4))) ∧ Hid (Below wr.heap.size wr wx)) (fun _ i _ => 8 - (intOf i).toNat)
     case atStart => exact ⟨0, ByteArray.empty, by omega, rfl, rfl, Lib.hid rfl, Lib.hid (Below.refl _ _)⟩
     case round =>
      clear hzn
      obtain ⟨k, o, hk, rfl, rfl, HO, HB⟩ := hrel
      have hll : (S8l st).length = 8 := rfl
      by_cases hlt3 : k < 8
      ·have hcx := (HSX.out.below HB.out).get k hlt3
       obtain ⟨x, hx⟩ : ∃ x, (S8l st).getD k 0 = x := ⟨_, rfl⟩
       have hxl : x < 4294967296 := hx ▸ S8l_lt HOKS.out k
       rw [hx] at hcx
       have hwx : IntKind.u64.wrap (x : Int) = (x : Int) := by rw [IntKind.wrap_u64]; omega
       have hput4 := ref01_Put4 x (by omega) wr
       have ho2 : o ++ sb (Sh.put x 4) = sb (((S8l st).take (k + 1)).flatMap (fun x => Sh.put x 4)) := by
        rw [HO.out, sb_app, List.take_succ_eq_append_getElem (by omega), List.flatMap_append]
        have hg : (S8l st)[k]'(by omega) = x := by rw [← hx, List.getD_eq_getElem?_getD, List.getElem?_eq_getElem (by omega)]; rfl
        rw [hg]; simp
       obtain ⟨ms, hms⟩ : ∃ ms, o.size = ms := ⟨_, rfl⟩
       have hmsl : ms ≤ 32 := by
        rw [← hms, HO.out, sb_size]
        have : ∀ l : List Nat, (l.flatMap (fun x => Sh.put x 4)).length = 4 * l.length := by
         intro l; induction l with
         | nil => rfl
         | cons a l ih => rw [List.flatMap_cons, List.length_append, ih, Sh.put_length, List.length_cons]; omega
        rw [this, List.length_take]; omega
       have hp4 : (sb (Sh.put x 4)).size = 4 := by rw [sb_size, Sh.put_length]
       have hov : ¬ (9223372036854775807 < ms + 4) := by omega
       have HP4 := Lib.hid hput4; have HO2 := Lib.hid ho2
       clear hput4 ho2 hx hxl hmsl hll
       go_wp2_with fail
       refine HP4.out.mono ?_
       rintro e w2 ⟨rfl, hb2⟩
       have HB2 := Lib.hid (HB.out.trans (hb2.mono HB.out.size))
       clear hb2
       go_wp2_with fail
       go_roundw
       case rel => exact ⟨k + 1, _, by omega, rfl, rfl, HO2, HB2⟩
       case measure => simp [intOf]; omega
      ·obtain rfl : k = 8 := by omega
       have hoe : o = sb (Sh.sha (nb s)) := by
        rw [HO.out, HFIN.out, out_l, List.take_of_length_le (by omega)]
       subst hoe
       have HBE := Lib.hid (HBL.out.trans (HB.out.mono HBL.out.size))
       clear hll
       go_wp2_with fail
       go_ret
       exact ⟨rfl, HBE.out⟩
end Go.Proofs.YtggdkfijioeijaaGreatDoor
namespace Go.Proofs.YtggdkfijioeijaaGreatDoor
open Go Go.RowKit Go.Maps
def lastOf (ps : List (Nat × Nat)) (p : Nat) : Option Nat := (ps.reverse.find? (fun x => x.1 == p)).map (·.2)
theorem lastOf_snoc (ps : List (Nat × Nat)) (p s q : Nat) : lastOf (ps ++ [(p, s)]) q = if q = p then some s else lastOf ps q := by
 unfold lastOf
 rw [List.reverse_append]
 by_cases e : q = p
 ·subst e; simp
 ·simp [e, show (p == q) = false by simpa using fun h => e h.symm]
theorem lastOf_none {ps : List (Nat × Nat)} {p : Nat} : lastOf ps p = none ↔ ∀ x ∈ ps, x.1 ≠ p := by
 unfold lastOf
 simp
theorem lastOf_mem {ps : List (Nat × Nat)} {p s : Nat} (h : lastOf ps p = some s) : (p, s) ∈ ps := by
 unfold lastOf at h
 obtain ⟨x, hx, rfl⟩ := Option.map_eq_some_iff.1 h
 have h1 := List.mem_of_find?_eq_some hx
 have h2 := List.find?_some hx
 simp only [beq_iff_eq] at h2
 rw [← h2]; simpa using h1
theorem kN_ne {p q : Nat} (e : ¬ q = p) : kN (q : Int) ≠ kN (p : Int) := by
 intro h
 have h : ((q : Nat) : Int) = ((p : Nat) : Int) := by simpa [kN] using h
 omega
structure ByM {H : Type} (D : DataW H) (ps : List (Nat × Nat)) : Prop where
 has : ∀ p : Nat, Maps.has D (kN p) = (lastOf ps p).isSome
 val : ∀ p s : Nat, lastOf ps p = some s → ∀ z, D.atKey (kN p) z = .lit (.int .u32 s)
 neg : ∀ x : Int, Maps.has D (kN x) = true → 0 ≤ x
theorem ByM.nil {H : Type} : ByM (.map [] : DataW H) [] := ⟨fun p => by simp [lastOf]; rfl, fun p s h => by simp [lastOf] at h, fun x h => by cases h⟩
theorem kN_key (p : Int) : WideAt.IsKeyLit (kN p) := trivial
theorem ByM.put {H : Type} {D : DataW H} {ps : List (Nat × Nat)} (h : ByM D ps) (hD : IsMap D) (p s : Nat) : ByM (D.put (kN p) (.lit (.int .u32 s))) (ps ++ [(p, s)]) := by
 refine ⟨fun q => ?_, fun q t hq z => ?_, fun x hx => ?_⟩
 ·rw [lastOf_snoc]
  by_cases e : q = p
  ·subst e; rw [Maps.has_put_same hD (kN_key _)]; simp
  ·rw [Maps.has_put_other (kN_ne e), h.has q, if_neg e]
 ·rw [lastOf_snoc] at hq
  by_cases e : q = p
  ·subst e; rw [if_pos rfl] at hq; cases hq
   rw [Maps.atKey_put_same hD (kN_key _)]
  ·rw [if_neg e] at hq
   rw [Maps.atKey_put_other (kN_ne e)]; exact h.val q t hq z
 ·by_cases e : x = (p : Int)
  ·rw [e]; exact Int.natCast_nonneg _
  ·have hne : kN x ≠ kN (p : Int) := fun he => e (by simpa [kN] using he)
   rw [Maps.has_put_other hne] at hx; exact h.neg x hx
abbrev Sd : Type := Nat × { s : Nat // s < 4294967296 }
abbrev encSd (x : Sd) : Array Value := #[.int .i64 (x.1 : Int), .int .u32 (x.2.1 : Int)]
def nthSd (l : List { s : Nat // s < 4294967296 }) (N j : Nat) : Sd := (N - 1 - j, l.getD (N - 1 - j) ⟨0, by decide⟩)
theorem upto_rev (l : List { s : Nat // s < 4294967296 }) : (upto (nthSd l l.length) l.length).map (fun x => x.2.1) = (l.map (·.1)).reverse := by
 refine List.ext_getElem (by simp [upto]) (fun i h1 h2 => ?_)
 have hi : i < l.length := by simpa [upto] using h1
 simp only [upto, List.map_map, List.getElem_map, List.getElem_range, List.getElem_reverse, Function.comp_apply, nthSd, List.length_map]
 rw [List.getD_eq_getElem?_getD, List.getElem?_eq_getElem (by omega)]; rfl
attribute [local go_sem] Oper.semAt_some
open Go.Shelf in
set_option maxRecDepth 100000 in
set_option maxHeartbeats 2000000 in
theorem backward_stops (n : Nat) (hn : 1 ≤ n) (Bs b off cap N : Nat) (f : Nat → Sd) (hf : ∀ j, j < N → (f j).1 = N - 1 - j) (hreach : N ≤ 1000000) (w : World) (Kp : World → World → Prop) (hBl : Bs < w.heap.size) (hbl : b < w.heap.size)
  (hKc : ∀ A B, Kp A B → ∀ p : Addr, p.block = Bs ∨ p.block = b → B.cell? p = A.cell? p)
  (hBs : w.cell? ⟨Bs, 0, none⟩ = some (.slice (some ⟨b, off, none⟩) N cap)) (hc : ∀ j, j < N → w.cell? ⟨b, off + (N - 1 - j), none⟩ = some (.int .u32 ((f j).2.1 : Int))) :
  SeqStopsK Fence.wide n Tryz.prog 85 #[.pointer (some ⟨Bs, 0, none⟩)] encSd Kp (fun ys => ys = upto f N) (fun _ => True) N w := fun l J Jx W hW _ _ hY h0 => by
 have hBs2 : W.cell? ⟨Bs, 0, none⟩ = some (.slice (some ⟨b, off, none⟩) N cap) := (hW.cell (p := ⟨Bs, 0, none⟩) hBl).trans hBs
 have hc2 : ∀ j, j < N → W.cell? ⟨b, off + (N - 1 - j), none⟩ = some (.int .u32 ((f j).2.1 : Int)) := fun j hj => (hW.cell (p := ⟨b, off + (N - 1 - j), none⟩) hbl).trans (hc j hj)
 have HB := Lib.hid hBs2; have HC := Lib.hid hc2; have HF := Lib.hid hf; have HKc := Lib.hid hKc
 clear hBs2 hc2 hf hKc hBs hc hW
 refine callsIn_of_wp Tryz.func85 rfl trivial ?_ rfl
 simp only [Tryz.ntmps85, List.size_toArray, List.length_cons, List.length_nil, Nat.reduceAdd, Nat.reduceSub, Array.replicate_succ, Array.replicate_zero, List.push_toArray, List.append_toArray, List.nil_append, List.cons_append]
 have hbx0 := HB.out
 gi_wp2
 clear hbx0
 gi_loopw [3] (fun i wr => ∃ k : Nat, k ≤ N ∧ i = .int .i64 ((N : Int) - 1 - (k : Int)) ∧ J (upto f k) wr ∧ Hid (wr.cell? ⟨Bs, 0, none⟩ = some (.slice (some ⟨b, off, none⟩) N cap)) ∧ Hid (∀ j, j < N → wr.cell? ⟨b, off + (N - 1 - j), none⟩ = some (.int .u32 ((f j).2.1 : Int))))
  (fun i _ => (intOf i + 1).toNat)
 case atStart => exact ⟨0, Nat.zero_le _, by congr 1; omega, h0, HB, HC⟩
 case round =>
  obtain ⟨k, hk, rfl, hJs, HB2, HC2⟩ := hrel
  by_cases hlt : k < N
  ·obtain ⟨m, hm, hm2⟩ : ∃ m : Nat, (N : Int) - 1 - (k : Int) = (m : Int) ∧ N - 1 - k = m := ⟨N - 1 - k, by omega, rfl⟩
   have hcx' := HC2.out k hlt
   have hbx := HB2.out
   rw [hm2] at hcx'
   have hyy := hY _ (f k) wr hJs (by rw [upto_length]; exact hlt)
   have hi1 := HF.out k hlt
   rw [hm2] at hi1
   obtain ⟨fn, tmps, assign, body, hy, hR⟩ := hyy
   obtain ⟨x1, hx1⟩ : ∃ x1, (f k).2.1 = x1 := ⟨_, rfl⟩
   simp only [encSd, hi1, hx1] at hy
   rw [hx1] at hcx'
   have hmN : m < N := by omega
   have HM := Lib.hid hm
   rw [hm]
   clear hm hm2 hi1 hx1
   gi_wp2
   refine hR.mono ?_
   rintro e W3 (⟨rfl, hJ3, hk3⟩ | ⟨rfl, hJx3⟩)
   ·gi_wp2
    go_roundw
    case rel => exact ⟨k + 1, by omega, by have := HM.out; congr 1; omega, by rw [upto_succ]; exact hJ3, Lib.hid ((HKc.out _ _ hk3 _ (Or.inl rfl)).trans HB2.out), Lib.hid (fun j hj => (HKc.out _ _ hk3 _ (Or.inr rfl)).trans (HC2.out j hj))⟩
    case measure => simp [intOf]
   ·gi_wp2
    refine bodyPost_ret (results_none rfl _ _ _) rfl ?_
    exact ⟨⟨_, rfl⟩, .inr ⟨_, trivial, hJx3⟩⟩
  ·obtain rfl : k = N := by omega
   gi_wp2
   go_end0
   exact ⟨⟨_, rfl⟩, .inl ⟨_, rfl, hJs⟩⟩
end Go.Proofs.YtggdkfijioeijaaGreatDoor
