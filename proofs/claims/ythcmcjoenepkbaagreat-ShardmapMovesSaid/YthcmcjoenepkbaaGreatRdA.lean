/- Plain: which bytes are a map's; the words that are not there. -/
import Derived.Test.YthcmcjoenepkbaaGreatFir
import Derived.Test.YthcmcjoenepkbaaGreatSm7
namespace Go.Proofs.YthcmcjoenepkbaaGreat
open Go Go.RowKit Go.Maps

def rdE (s : ByteArray) : Nat := Sh.num (((nb s).drop 0).take 8) 0
def rdN (s : ByteArray) : Nat := Sh.num (((nb s).drop 8).take 4) 0
def ent (s : ByteArray) (i : Nat) : Nat × Nat := (Sh.num (((nb s).drop (12 + 12 * i)).take 8) 0, Sh.num (((nb s).drop (20 + 12 * i)).take 4) 0)
def entOk (s : ByteArray) (i : Nat) : Prop := (ent s i).2 ≠ 0 ∧ (i = 0 → (ent s i).1 = 0) ∧ (0 < i → (ent s (i - 1)).1 < (ent s i).1 ∧ (ent s i).2 ≠ (ent s (i - 1)).2)
structure HdOk (s : ByteArray) : Prop where
  room : 12 ≤ s.size
  e : rdE s ≠ 0
  lo : 1 ≤ rdN s
  hi : rdN s ≤ 2048
  size : s.size = 12 + 12 * rdN s
def RdOk (s : ByteArray) : Prop := HdOk s ∧ ∀ i, i < rdN s → entOk s i
theorem num8_lt (s : ByteArray) (a : Nat) : Sh.num (((nb s).drop a).take 8) 0 < M64 := by
  have hl := num_lt (((nb s).drop a).take 8) (fun x hx => nb_bytes s x (List.mem_of_mem_drop (List.mem_of_mem_take hx))) 0
  refine Nat.lt_of_lt_of_le hl ?_
  rw [Nat.zero_add, Nat.one_mul]
  exact Nat.le_trans (Nat.pow_le_pow_right (n := 256) (by decide) (show _ ≤ 8 by simp; omega)) (by decide)
theorem num4_lt (s : ByteArray) (a : Nat) : Sh.num (((nb s).drop a).take 4) 0 < 4294967296 := by
  have hl := num_lt (((nb s).drop a).take 4) (fun x hx => nb_bytes s x (List.mem_of_mem_drop (List.mem_of_mem_take hx))) 0
  refine Nat.lt_of_lt_of_le hl ?_
  rw [Nat.zero_add, Nat.one_mul]
  exact Nat.le_trans (Nat.pow_le_pow_right (n := 256) (by decide) (show _ ≤ 4 by simp; omega)) (by decide)
theorem ents_get (s : ByteArray) (n i : Nat) (hi : i < n) : (upto (ent s) n).getD i d0 = ent s i := by
  unfold upto
  rw [List.getD_eq_getElem?_getD, List.getElem?_map, List.getElem?_range hi]; rfl
theorem ents_64 (s : ByteArray) (n : Nat) : ∀ x ∈ upto (ent s) n, x.1 < M64 := fun x hx => by
  obtain ⟨i, _, rfl⟩ := List.mem_map.1 hx; exact num8_lt s _
theorem ents_32 (s : ByteArray) (n : Nat) : ∀ x ∈ upto (ent s) n, x.2 < 4294967296 := fun x hx => by
  obtain ⟨i, _, rfl⟩ := List.mem_map.1 hx; exact num4_lt s _

theorem word_Get64_none (s : ByteArray) (a : Nat) (ha : s.size < a + 8) (hs : s.size ≤ 1000000) (w : World) : Calls Tryz.prog 35 #[.string s, .int .i64 a] w fun e w' => e = .returned (.tuple #[.int .u64 0, .bool false]) ∧ w' = w := by
  have hin : Calls Tryz.prog 56 #[.string s, .int .i64 a, .int .i64 8] w fun e w' => e = .returned (.tuple #[.int .u64 0, .bool false]) ∧ w' = w := by
    have h1 : ((s.size : Int) - 8 < (a : Int)) := by omega
    have h2 : decide ((s.size : Int) - 8 < (a : Int)) = true := by simp; omega
    go_enter Tryz.func56, Tryz.ntmps56
    go_wp2
    go_ret2
    exact ⟨rfl, rfl⟩
  have HIN := Lib.hid hin
  clear hin ha hs
  go_enter Tryz.func35, Tryz.ntmps35
  go_wp2_with fail
  refine HIN.out.mono ?_
  rintro e w' ⟨rfl, hw⟩
  subst hw
  go_wp2_with fail
  go_ret2
  exact ⟨rfl, rfl⟩
theorem word_Get32_none (s : ByteArray) (a : Nat) (ha : s.size < a + 4) (hs : s.size ≤ 1000000) (w : World) : Calls Tryz.prog 36 #[.string s, .int .i64 a] w fun e w' => e = .returned (.tuple #[.int .u32 0, .bool false]) ∧ w' = w := by
  have hin : Calls Tryz.prog 57 #[.string s, .int .i64 a, .int .i64 4] w fun e w' => e = .returned (.tuple #[.int .u32 0, .bool false]) ∧ w' = w := by
    have h1 : ((s.size : Int) - 4 < (a : Int)) := by omega
    have h2 : decide ((s.size : Int) - 4 < (a : Int)) = true := by simp; omega
    go_enter Tryz.func57, Tryz.ntmps57
    go_wp2
    go_ret2
    exact ⟨rfl, rfl⟩
  have HIN := Lib.hid hin
  clear hin ha hs
  go_enter Tryz.func36, Tryz.ntmps36
  go_wp2_with fail
  refine HIN.out.mono ?_
  rintro e w' ⟨rfl, hw⟩
  subst hw
  go_wp2_with fail
  go_ret2
  exact ⟨rfl, rfl⟩
theorem ref01_Get_none (s : ByteArray) (a z : Nat) (hz : z ≤ 8) (ha : s.size < a + z) (hs : s.size ≤ 1000000) (w : World) :
    Calls Tryz.prog 37 #[.string s, .int .i64 a, .int .i64 z] w fun e w' => e = .returned (.tuple #[.int .u64 0, .bool false]) ∧ w' = w := by
  have h1 : ((s.size : Int) - (z : Int) < (a : Int)) := by omega
  have h2 : decide ((s.size : Int) - (z : Int) < (a : Int)) = true := by simp; omega
  go_enter Tryz.func37, Tryz.ntmps37
  go_wp2
  go_ret2
  exact ⟨rfl, rfl⟩
end Go.Proofs.YthcmcjoenepkbaaGreat
