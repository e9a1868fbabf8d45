/- Contracts: bits.Len32, bits.Len64, bits.Len; xorshift.Next; nextPowerOfTwo. -/
import Derived.Test.YthcmcjoenepkbaaGreatDoorBut
import Derived.Laws.BitsAllLaws
import Derived.Sort.LotD5
import Derived.Test.YthcmcjoenepkbaaGreatDoorShelf
namespace Go.Proofs.YthcmcjoenepkbaaGreatDoor
open Go Go.RowKit Go.Sort

/-- What is returned lies within a number's room. -/
theorem rnd_next (rb X : Nat) (hX : X < 18446744073709551616) (w : World) (hc : w.cell? ⟨rb, 0, none⟩ = some (.int .u64 X)) (hf : w.frozen? ⟨rb, 0, none⟩ = false) :
    Calls Tryz.prog 131 #[.pointer (some ⟨rb, 0, none⟩)] w fun e w' => ∃ r : Nat, r < 18446744073709551616 ∧ e = .returned (.int .u64 r) ∧ w' = (w.setCell ⟨rb, 0, none⟩ (.int .u64 r)).drewN 3 := by
  obtain ⟨A, hA⟩ : ∃ A : Nat, A = X ^^^ (X * 8192 % 18446744073709551616) := ⟨_, rfl⟩
  obtain ⟨B, hB⟩ : ∃ B : Nat, B = A ^^^ (A / 128) := ⟨_, rfl⟩
  obtain ⟨C, hC⟩ : ∃ C : Nat, C = B ^^^ (B * 131072 % 18446744073709551616) := ⟨_, rfl⟩
  have lA : A < 18446744073709551616 := by rw [hA]; exact Nat.xor_lt_two_pow (n := 64) (by omega) (by omega)
  have lB : B < 18446744073709551616 := by rw [hB]; exact Nat.xor_lt_two_pow (n := 64) (by omega) (by omega)
  have lC : C < 18446744073709551616 := by rw [hC]; exact Nat.xor_lt_two_pow (n := 64) (by omega) (by omega)
  have e1 : bits .xor .u64 (X : Int) ((X : Int) * 8192 % 18446744073709551616) = (A : Int) := by
    rw [show ((X : Int) * 8192 % 18446744073709551616) = ((X * 8192 % 18446744073709551616 : Nat) : Int) by omega, u64_xor_nat _ _ hX (by omega), hA]
  have e2 : bits .xor .u64 (A : Int) ((A : Int) / 128) = (B : Int) := by
    rw [show ((A : Int) / 128) = ((A / 128 : Nat) : Int) by omega, u64_xor_nat _ _ lA (by omega), hB]
  have e3 : bits .xor .u64 (B : Int) ((B : Int) * 131072 % 18446744073709551616) = (C : Int) := by
    rw [show ((B : Int) * 131072 % 18446744073709551616) = ((B * 131072 % 18446744073709551616 : Nat) : Int) by omega, u64_xor_nat _ _ lB (by omega), hC]
  have e1' : bits .xor .u64 (X : Int) (IntKind.u64.wrap ((X : Int) * 8192)) = (A : Int) := by rw [IntKind.wrap_u64]; exact e1
  have e3' : bits .xor .u64 (B : Int) (IntKind.u64.wrap ((B : Int) * 131072)) = (C : Int) := by rw [IntKind.wrap_u64]; exact e3
  clear hA hB hC
  have hss : ∀ v v', (w.setCell ⟨rb, 0, none⟩ v).setCell ⟨rb, 0, none⟩ v' = w.setCell ⟨rb, 0, none⟩ v' := fun v v' => by
    rw [setCell_eq, setCell_eq, mapBlock_mapBlock, setCell_eq]
    congr 1
    funext c
    simp
  go_enter Tryz.func131, Tryz.ntmps131
  go_wp2
  go_region
  all_goals go_wp2
  all_goals go_region
  all_goals go_wp2
  all_goals go_region
  all_goals go_wp2
  go_ret
  exact ⟨C, lC, rfl, rfl⟩

/-- '2 ^ k' fits a uint64 for k up to 62, and is '1 <<< k'. -/
theorem wrap_pow (k : Nat) (hk : k ≤ 62) : IntKind.u64.wrap ((2 : Int) ^ k) = ((1 <<< k : Nat) : Int) := by
  have h : (2 : Nat) ^ k ≤ 2 ^ 62 := Nat.pow_le_pow_right (by decide) hk
  rw [IntKind.wrap_u64, Nat.one_shiftLeft, show ((2 : Int) ^ k) = ((2 ^ k : Nat) : Int) by push_cast; rfl]
  generalize (2 : Nat) ^ k = p at h
  omega
theorem len_eq : ∀ (f x : Nat), x < f → x < 2 ^ 64 → Lib.bitLen x = bitsLen x := by
  intro f
  induction f with
  | zero => intro x h; omega
  | succ f ih =>
    intro x hf hx
    rcases Nat.eq_zero_or_pos x with rfl | h0
    · decide
    rw [Lib.bitLen_half x (by omega) hx, ih (x / 2) (by omega) (by omega)]
    unfold bitsLen
    rcases Nat.lt_or_ge x 2 with h2 | h2
    · obtain rfl : x = 1 := by omega
      decide
    · rw [if_neg (by omega), if_neg (by omega), Nat.log2_def x, if_pos h2]; omega
theorem bits_len (n : Nat) (hn : n < 4611686018427387904) (w : World) : Calls Tryz.prog 77 #[.int .u64 (n : Int)] w fun e w' => e = .returned (.int .i64 (bitsLen n : Nat)) ∧ w' = w := by
  have h := Tryz.bits_Len (n : Int) w (by omega) (by omega)
  rwa [Int.toNat_natCast, len_eq (n + 1) n (by omega) (by omega)] at h
theorem slices_nextPowerOfTwo (n : Nat) (hn : n < 4611686018427387904) (w : World) :
    Calls Tryz.prog 130 #[.int .i64 n] w fun e w' => e = .returned (.int .u64 ((1 <<< bitsLen n : Nat) : Int)) ∧ w' = w := by
  have hk : bitsLen n ≤ 62 := (bitsLen_le_iff n 62).2 (by omega)
  have hp := wrap_pow (bitsLen n) hk
  go_enter Tryz.func130, Tryz.ntmps130
  go_wp2_with (first | (go_at_call 77; refine (bits_len n hn _).mono ?_; rintro e w' ⟨rfl, rfl⟩))
  go_ret
  exact ⟨rfl, rfl⟩
end Go.Proofs.YthcmcjoenepkbaaGreatDoor
