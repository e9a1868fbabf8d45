/- Contracts: word.Put32, Put64, Get32, Get64, Turn. -/
import Derived.Test.YthcmcjoenepkbaaGreatDoorWord
import Derived.Laws.BitsLemmas
namespace Go.Proofs.YthcmcjoenepkbaaGreatDoor
open Go Go.RowKit

theorem word_Put32 (n : Nat) (hn : n < 4294967296) (w : World) : Calls Tryz.prog 86 #[.int .u32 (n : Int)] w fun e w' => e = .returned (.string (sb (Sh.put n 4))) ∧ Below w.heap.size w w' := by
  go_enter Tryz.func86, Tryz.ntmps86
  go_wp2_with fail
  refine (word_put_uint32 n hn w).mono ?_
  rintro e w' ⟨rfl, hb⟩
  have Hb := Lib.hid hb; clear hb
  go_wp2_with fail
  go_ret
  exact ⟨rfl, Hb.out⟩
theorem word_Put64 (n : Nat) (hn : n < 18446744073709551616) (w : World) : Calls Tryz.prog 128 #[.int .u64 (n : Int)] w fun e w' => e = .returned (.string (sb (Sh.put n 8))) ∧ Below w.heap.size w w' := by
  go_enter Tryz.func128, Tryz.ntmps128
  go_wp2_with fail
  refine (word_put_uint64 n hn w).mono ?_
  rintro e w' ⟨rfl, hb⟩
  have Hb := Lib.hid hb; clear hb
  go_wp2_with fail
  go_ret
  exact ⟨rfl, Hb.out⟩

theorem num_app (l : List Nat) (x n : Nat) : Sh.num (l ++ [x]) n = Sh.num l n * 256 + x := by
  induction l generalizing n with
  | nil => rfl
  | cons y l ih => exact ih _
theorem num_lt (l : List Nat) (h : Sh.Bytes l) (n : Nat) : Sh.num l n < (n + 1) * 256 ^ l.length := by
  induction l generalizing n with
  | nil => simp [Sh.num]
  | cons y l ih =>
    have hy := h y (by simp)
    have := ih (fun x hx => h x (List.mem_cons_of_mem _ hx)) (n * 256 + y)
    refine Nat.lt_of_lt_of_le this ?_
    rw [List.length_cons, Nat.pow_succ, Nat.mul_comm (256 ^ l.length) 256, ← Nat.mul_assoc]
    exact Nat.mul_le_mul_right _ (by omega)
theorem nb_get (s : ByteArray) (i : Nat) (h : i < s.size) : (nb s)[i]? = some (s[i].toNat) := by
  unfold nb
  have : s.data.toList[i]? = some s[i] := by
    rw [List.getElem?_eq_getElem (by simpa using h)]; simp; rfl
  rw [List.getElem?_map, this]; rfl
theorem take_succ_nb (s : ByteArray) (a k : Nat) (h : a + k < s.size) : ((nb s).drop a).take (k + 1) = ((nb s).drop a).take k ++ [s[a + k].toNat] := by
  rw [List.take_add_one, List.getElem?_drop, nb_get s _ h]; rfl

set_option maxRecDepth 100000 in
set_option maxHeartbeats 2000000 in
theorem word_get_uint32 (s : ByteArray) (a : Nat) (ha : a + 4 ≤ s.size) (hs : s.size ≤ 1000000) (w : World) :
    Calls Tryz.prog 189 #[.string s, .int .i64 a, .int .i64 4] w fun e w' => e = .returned (.tuple #[.int .u32 (Sh.num (((nb s).drop a).take 4) 0 : Nat), .bool true]) ∧ w' = w := by
  go_enter Tryz.func189, Tryz.ntmps189
  have h1 : ¬ ((s.size : Int) - 4 < (a : Int)) := by omega
  have h2 : decide ((s.size : Int) - 4 < (a : Int)) = false := by simp; omega
  go_wp2
  go_loopw [6, 20] (fun vn i wr => ∃ k : Nat, k ≤ 4 ∧ i = .int .i64 k ∧ vn = .int .u32 (Sh.num (((nb s).drop a).take k) 0 : Nat) ∧ wr = w) (fun _ i _ => 4 - (intOf i).toNat)
  case atStart => exact ⟨0, by omega, rfl, rfl, rfl⟩
  case round =>
    obtain ⟨k, hk, rfl, rfl, rfl⟩ := hrel
    by_cases hlt : k < 4
    · have hak : a + k < s.size := by omega
      obtain ⟨c, hc⟩ : ∃ c : Nat, c = s[a + k].toNat := ⟨_, rfl⟩
      have hc2 : c < 256 := by rw [hc]; exact s[a + k].toNat_lt
      have hx := num_app (((nb s).drop a).take k) c 0
      have hl := num_lt (((nb s).drop a).take k) (fun x hx => nb_bytes s x (List.mem_of_mem_drop (List.mem_of_mem_take hx))) 0
      have hl2 : Sh.num (((nb s).drop a).take k) 0 < 16777216 := by
        refine Nat.lt_of_lt_of_le hl ?_
        rw [Nat.zero_add, Nat.one_mul]
        exact Nat.le_trans (Nat.pow_le_pow_right (n := 256) (by decide) (show _ ≤ 3 by simp; omega)) (by decide)
      rw [hc, ← take_succ_nb s a k hak] at hx
      rw [← hc] at hx
      obtain ⟨m, hm⟩ : ∃ m, Sh.num (((nb s).drop a).take k) 0 = m := ⟨_, rfl⟩
      rw [hm] at hl2 hx
      have eor : bits .or .u32 ((m : Int) * 256) (c : Int) = ((m * 256 + c : Nat) : Int) := by
        rw [show (m : Int) * 256 = ((m * 256 : Nat) : Int) by omega, u32_or_nat _ _ (by omega) (by omega), nat_join 8 (m * 256) c (by omega) hc2]
      rw [hc] at eor hx hc2
      have HX := Lib.hid hx; have EOR := Lib.hid eor
      rw [hm]
      clear hx hl hm eor hc c
      go_wp2
      go_roundw
      case rel => exact ⟨k + 1, by omega, by go_num, by rw [HX.out]; exact congrArg _ EOR.out, trivial⟩
      case measure => simp [intOf]; omega
    · obtain rfl : k = 4 := by omega
      go_wp2
      go_ret2
      exact ⟨rfl, rfl⟩
set_option maxRecDepth 100000 in
set_option maxHeartbeats 2000000 in
theorem word_get_uint64 (s : ByteArray) (a : Nat) (ha : a + 8 ≤ s.size) (hs : s.size ≤ 1000000) (w : World) :
    Calls Tryz.prog 99 #[.string s, .int .i64 a, .int .i64 8] w fun e w' => e = .returned (.tuple #[.int .u64 (Sh.num (((nb s).drop a).take 8) 0 : Nat), .bool true]) ∧ w' = w := by
  go_enter Tryz.func99, Tryz.ntmps99
  have h1 : ¬ ((s.size : Int) - 8 < (a : Int)) := by omega
  have h2 : decide ((s.size : Int) - 8 < (a : Int)) = false := by simp; omega
  go_wp2
  go_loopw [6, 20] (fun vn i wr => ∃ k : Nat, k ≤ 8 ∧ i = .int .i64 k ∧ vn = .int .u64 (Sh.num (((nb s).drop a).take k) 0 : Nat) ∧ wr = w) (fun _ i _ => 8 - (intOf i).toNat)
  case atStart => exact ⟨0, by omega, rfl, rfl, rfl⟩
  case round =>
    obtain ⟨k, hk, rfl, rfl, rfl⟩ := hrel
    by_cases hlt : k < 8
    · have hak : a + k < s.size := by omega
      obtain ⟨c, hc⟩ : ∃ c : Nat, c = s[a + k].toNat := ⟨_, rfl⟩
      have hc2 : c < 256 := by rw [hc]; exact s[a + k].toNat_lt
      have hx := num_app (((nb s).drop a).take k) c 0
      have hl := num_lt (((nb s).drop a).take k) (fun x hx => nb_bytes s x (List.mem_of_mem_drop (List.mem_of_mem_take hx))) 0
      have hl2 : Sh.num (((nb s).drop a).take k) 0 < 72057594037927936 := by
        refine Nat.lt_of_lt_of_le hl ?_
        rw [Nat.zero_add, Nat.one_mul]
        exact Nat.le_trans (Nat.pow_le_pow_right (n := 256) (by decide) (show _ ≤ 7 by simp; omega)) (by decide)
      rw [hc, ← take_succ_nb s a k hak] at hx
      rw [← hc] at hx
      obtain ⟨m, hm⟩ : ∃ m, Sh.num (((nb s).drop a).take k) 0 = m := ⟨_, rfl⟩
      rw [hm] at hl2 hx
      have eor : bits .or .u64 ((m : Int) * 256) (c : Int) = ((m * 256 + c : Nat) : Int) := by
        rw [show (m : Int) * 256 = ((m * 256 : Nat) : Int) by omega, u64_or_nat _ _ (by omega) (by omega), nat_join 8 (m * 256) c (by omega) hc2]
      rw [hc] at eor hx hc2
      have HX := Lib.hid hx; have EOR := Lib.hid eor
      rw [hm]
      clear hx hl hm eor hc c
      go_wp2
      go_roundw
      case rel => exact ⟨k + 1, by omega, by go_num, by rw [HX.out]; exact congrArg _ EOR.out, trivial⟩
      case measure => simp [intOf]; omega
    · obtain rfl : k = 8 := by omega
      go_wp2
      go_ret2
      exact ⟨rfl, rfl⟩

theorem word_Get32 (s : ByteArray) (a : Nat) (ha : a + 4 ≤ s.size) (hs : s.size ≤ 1000000) (w : World) : Calls Tryz.prog 180 #[.string s, .int .i64 a] w fun e w' => e = .returned (.tuple #[.int .u32 (Sh.num (((nb s).drop a).take 4) 0 : Nat), .bool true]) ∧ w' = w := by
  go_enter Tryz.func180, Tryz.ntmps180
  go_wp2_with fail
  refine (word_get_uint32 s a ha hs w).mono ?_
  rintro e w' ⟨rfl, rfl⟩
  go_wp2_with fail
  go_ret2
  exact ⟨rfl, rfl⟩
theorem word_Get64 (s : ByteArray) (a : Nat) (ha : a + 8 ≤ s.size) (hs : s.size ≤ 1000000) (w : World) : Calls Tryz.prog 72 #[.string s, .int .i64 a] w fun e w' => e = .returned (.tuple #[.int .u64 (Sh.num (((nb s).drop a).take 8) 0 : Nat), .bool true]) ∧ w' = w := by
  go_enter Tryz.func72, Tryz.ntmps72
  go_wp2_with fail
  refine (word_get_uint64 s a ha hs w).mono ?_
  rintro e w' ⟨rfl, rfl⟩
  go_wp2_with fail
  go_ret2
  exact ⟨rfl, rfl⟩

theorem and31 (n : Int) : bits .and .i64 n 31 = n % 32 := by
  have h31 : (BitVec.ofInt 64 31).toNat = 2 ^ 5 - 1 := by decide
  have key : (BitVec.ofInt 64 n &&& BitVec.ofInt 64 31).toNat = (n % ((2 ^ 64 : Nat) : Int)).toNat % 2 ^ 5 := by
    rw [BitVec.toNat_and, BitVec.toNat_ofInt, h31, Nat.and_two_pow_sub_one_eq_mod]
  show IntKind.i64.wrap ((BitVec.ofInt 64 n &&& BitVec.ofInt 64 31).toNat : Nat) = n % 32
  rw [key, IntKind.wrap_i64]
  omega
theorem turn_int (n k : Nat) (hn : n < 4294967296) : bits .or .u32 ((n : Int) / 2 ^ k) ((n : Int) * 2 ^ (32 - k) % 4294967296) = ((Sh.turn n k : Nat) : Int) := by
  have e1 : (n : Int) / 2 ^ k = ((n / 2 ^ k : Nat) : Int) := by rw [Int.natCast_ediv, Int.natCast_pow]; rfl
  have e2 : (n : Int) * 2 ^ (32 - k) % 4294967296 = ((n * 2 ^ (32 - k) % 4294967296 : Nat) : Int) := by rw [Int.natCast_emod, Int.natCast_mul, Int.natCast_pow]; rfl
  rw [e1, e2, u32_or_nat _ _ (Nat.lt_of_le_of_lt (Nat.div_le_self _ _) hn) (Nat.mod_lt _ (by decide))]
  rfl

set_option maxRecDepth 100000 in
set_option maxHeartbeats 2000000 in
theorem word_Turn (n k : Nat) (hn : n < 4294967296) (hk : 0 < k) (hk2 : k < 32) (w : World) : Calls Tryz.prog 181 #[.int .u32 (n : Int), .int .i64 k] w fun e w' => e = .returned (.int .u32 (Sh.turn n k : Nat)) ∧ Below w.heap.size w w' := by
  have eand : bits .and .i64 (k : Int) 31 = (k : Int) := by rw [and31]; omega
  go_enter Tryz.func181, Tryz.ntmps181
  go_wp2
  go_region
  all_goals go_wp2
  all_goals go_ret
  exact ⟨ret_val (congrArg _ (turn_int n k hn)), (Below.refl _ _).drew⟩
end Go.Proofs.YthcmcjoenepkbaaGreatDoor
