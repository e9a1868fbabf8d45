/- Plain: the hash as functions on numbers, so that the kernel can reckon them; and the identities by which both texts of it agree. -/
import Derived.Test.YthcmcjoenepkbaaGreatDoorRBase
namespace Go.Proofs.YthcmcjoenepkbaaGreatDoor.Sh

abbrev M32 : Nat := 4294967296
/-- Turned right by k places (1 to 31). -/
def turn (n k : Nat) : Nat := n / 2 ^ k ||| n * 2 ^ (32 - k) % M32
theorem turn_lt {n k : Nat} (h : n < M32) : turn n k < M32 := by
  unfold turn
  have h1 : n / 2 ^ k < 2 ^ 32 := Nat.lt_of_le_of_lt (Nat.div_le_self _ _) h
  exact Nat.or_lt_two_pow (n := 32) h1 (Nat.mod_lt _ (by decide))
theorem turn_bit {n k j : Nat} (h : n < M32) (hk : 0 < k) (hk2 : k < 32) (hj : j < 32) : (turn n k).testBit j = n.testBit ((j + k) % 32) := by
  unfold turn
  rw [Nat.testBit_or, Nat.testBit_div_two_pow, show M32 = 2 ^ 32 from rfl, Nat.testBit_mod_two_pow, Nat.testBit_mul_two_pow]
  have hn : ∀ i, 32 ≤ i → n.testBit i = false := fun i hi => Nat.testBit_lt_two_pow (Nat.lt_of_lt_of_le h (Nat.pow_le_pow_right (n := 2) (i := 32) (by decide) hi))
  by_cases hc : j + k < 32
  · rw [Nat.mod_eq_of_lt hc, show decide (j ≥ 32 - k) = false from decide_eq_false (by omega)]
    simp [hj, Nat.add_comm]
  · rw [show (j + k) % 32 = j - (32 - k) by omega, show decide (j ≥ 32 - k) = true from decide_eq_true (by omega), hn (j + k) (by omega)]
    simp [hj]
/-- The bits of a number whose places are found by k. -/
theorem turn_of_bits {n k m : Nat} (h : n < M32) (hk : 0 < k) (hk2 : k < 32) (hm : m < M32) (hb : ∀ j, j < 32 → m.testBit j = n.testBit ((j + k) % 32)) : m = turn n k := by
  refine Nat.eq_of_testBit_eq fun j => ?_
  by_cases hj : j < 32
  · rw [hb j hj, turn_bit h hk hk2 hj]
  · rw [Nat.testBit_lt_two_pow (Nat.lt_of_lt_of_le hm (Nat.pow_le_pow_right (n := 2) (i := 32) (by decide) (by omega))),
      Nat.testBit_lt_two_pow (Nat.lt_of_lt_of_le (turn_lt h) (Nat.pow_le_pow_right (n := 2) (i := 32) (by decide) (by omega)))]

def three (x a b c : Nat) : Nat := turn x a ^^^ turn x b ^^^ turn x c
theorem xor_lt {a b : Nat} (ha : a < M32) (hb : b < M32) : a ^^^ b < M32 := Nat.xor_lt_two_pow (n := 32) ha hb
theorem and_lt {a b : Nat} (ha : a < M32) : a &&& b < M32 := Nat.lt_of_le_of_lt Nat.and_le_left ha
theorem or_lt {a b : Nat} (ha : a < M32) (hb : b < M32) : a ||| b < M32 := Nat.or_lt_two_pow (n := 32) ha hb
theorem three_lt {x a b c : Nat} (h : x < M32) : three x a b c < M32 := xor_lt (xor_lt (turn_lt h) (turn_lt h)) (turn_lt h)
def sig0 (x : Nat) : Nat := turn x 7 ^^^ turn x 18 ^^^ x / 8
def sig1 (x : Nat) : Nat := turn x 17 ^^^ turn x 19 ^^^ x / 1024
theorem div_lt {x k : Nat} (h : x < M32) : x / k < M32 := Nat.lt_of_le_of_lt (Nat.div_le_self _ _) h
theorem sig0_lt {x : Nat} (h : x < M32) : sig0 x < M32 := xor_lt (xor_lt (turn_lt h) (turn_lt h)) (div_lt h)
theorem sig1_lt {x : Nat} (h : x < M32) : sig1 x < M32 := xor_lt (xor_lt (turn_lt h) (turn_lt h)) (div_lt h)
def ch (e f g : Nat) : Nat := g ^^^ (e &&& (f ^^^ g))
def maj (a b c : Nat) : Nat := a &&& b ||| c &&& (a ||| b)
theorem high {e j : Nat} (he : e < M32) (hj : ¬ j < 32) : e.testBit j = false := Nat.testBit_lt_two_pow (Nat.lt_of_lt_of_le he (Nat.pow_le_pow_right (n := 2) (i := 32) (j := j) (by decide) (by omega)))
theorem ch_eq {e f g : Nat} (he : e < M32) (hf : f < M32) (hg : g < M32) : (e &&& f) ^^^ ((M32 - 1 - e) &&& g) = ch e f g := by
  refine Nat.eq_of_testBit_eq fun j => ?_
  unfold ch
  have hx : (M32 - 1 - e).testBit j = (decide (j < 32) && !e.testBit j) := by
    have := Nat.testBit_two_pow_sub_succ (n := 32) (x := e) he j
    rw [show M32 - 1 - e = 2 ^ 32 - (e + 1) by show 4294967296 - 1 - e = 4294967296 - (e + 1); omega]
    exact this
  simp only [Nat.testBit_xor, Nat.testBit_and, hx]
  by_cases hj : j < 32
  · cases e.testBit j <;> cases f.testBit j <;> cases g.testBit j <;> simp [hj]
  · simp [hj, high he hj, high hf hj, high hg hj]
theorem maj_eq (a b c : Nat) : (a &&& b) ^^^ (a &&& c) ^^^ (b &&& c) = maj a b c := by
  refine Nat.eq_of_testBit_eq fun j => ?_
  unfold maj
  simp only [Nat.testBit_xor, Nat.testBit_and, Nat.testBit_or]
  cases a.testBit j <;> cases b.testBit j <;> cases c.testBit j <;> rfl
theorem ch_lt {e f g : Nat} (he : e < M32) (_hf : f < M32) (hg : g < M32) : ch e f g < M32 := xor_lt hg (and_lt he)
theorem maj_lt {a b c : Nat} (ha : a < M32) (_hb : b < M32) (hc : c < M32) : maj a b c < M32 := or_lt (and_lt ha) (and_lt hc)

/-- A block's number at word t. -/
def word (b : List Nat) (t : Nat) : Nat := ((b.getD (4 * t) 0 * 256 + b.getD (4 * t + 1) 0) * 256 + b.getD (4 * t + 2) 0) * 256 + b.getD (4 * t + 3) 0
def next (w : List Nat) (t : Nat) : Nat := (w.getD (t - 16) 0 + sig0 (w.getD (t - 15) 0) + w.getD (t - 7) 0 + sig1 (w.getD (t - 2) 0)) % M32
/-- The first n words. -/
def words (b : List Nat) : Nat → List Nat
  | 0 => []
  | n + 1 => words b n ++ [if n < 16 then word b n else next (words b n) n]
theorem words_length (b : List Nat) (n : Nat) : (words b n).length = n := by
  induction n with
  | zero => rfl
  | succ n ih => simp [words, ih]
def Bytes (b : List Nat) : Prop := ∀ x ∈ b, x < 256
theorem Bytes.getD {b : List Nat} (h : Bytes b) (k : Nat) : b.getD k 0 < 256 := by
  rw [List.getD_eq_getElem?_getD]
  cases hb : b[k]? with
  | none => simp
  | some x => exact h x (List.mem_of_getElem? hb)
theorem word_lt {b : List Nat} (h : Bytes b) (t : Nat) : word b t < M32 := by
  have h0 := h.getD (4 * t); have h1 := h.getD (4 * t + 1); have h2 := h.getD (4 * t + 2); have h3 := h.getD (4 * t + 3)
  unfold word; show _ < 4294967296; omega
theorem words_lt {b : List Nat} (h : Bytes b) (n : Nat) : ∀ x ∈ words b n, x < M32 := by
  induction n with
  | zero => intro x hx; cases hx
  | succ n ih =>
    intro x hx
    rw [words, List.mem_append, List.mem_singleton] at hx
    rcases hx with hx | rfl
    · exact ih x hx
    · split
      · exact word_lt h n
      · exact Nat.mod_lt _ (by decide)
theorem words_getD (b : List Nat) {n k : Nat} (hk : k < n) : (words b n).getD k 0 = if k < 16 then word b k else next (words b k) k := by
  induction n with
  | zero => omega
  | succ n ih =>
    rw [words, List.getD_eq_getElem?_getD]
    by_cases e : k = n
    · subst e
      rw [List.getElem?_append_right (by rw [words_length]; omega), words_length, Nat.sub_self]; rfl
    · rw [List.getElem?_append_left (by rw [words_length]; omega), ← List.getD_eq_getElem?_getD, ih (by omega)]
theorem words_getD_lt {b : List Nat} (h : Bytes b) (n k : Nat) : (words b n).getD k 0 < M32 := by
  rw [List.getD_eq_getElem?_getD]
  cases hb : (words b n)[k]? with
  | none => decide
  | some x => exact words_lt h n x (List.mem_of_getElem? hb)

structure S8 where
  (a b c d e f g h : Nat)
structure S8.Ok (s : S8) : Prop where
  a : s.a < M32
  b : s.b < M32
  c : s.c < M32
  d : s.d < M32
  e : s.e < M32
  f : s.f < M32
  g : s.g < M32
  h : s.h < M32
def rnd (s : S8) (k w : Nat) : S8 :=
  let x := (s.h + three s.e 6 11 25 + ch s.e s.f s.g + k + w) % M32
  let y := (three s.a 2 13 22 + maj s.a s.b s.c) % M32
  ⟨(x + y) % M32, s.a, s.b, s.c, (s.d + x) % M32, s.e, s.f, s.g⟩
theorem rnd_ok {s : S8} (h : s.Ok) (k w : Nat) : (rnd s k w).Ok := ⟨Nat.mod_lt _ (by decide), h.a, h.b, h.c, Nat.mod_lt _ (by decide), h.e, h.f, h.g⟩
def ks : List Nat := [
  0x428a2f98, 0x71374491, 0xb5c0fbcf, 0xe9b5dba5, 0x3956c25b, 0x59f111f1, 0x923f82a4, 0xab1c5ed5,
  0xd807aa98, 0x12835b01, 0x243185be, 0x550c7dc3, 0x72be5d74, 0x80deb1fe, 0x9bdc06a7, 0xc19bf174,
  0xe49b69c1, 0xefbe4786, 0x0fc19dc6, 0x240ca1cc, 0x2de92c6f, 0x4a7484aa, 0x5cb0a9dc, 0x76f988da,
  0x983e5152, 0xa831c66d, 0xb00327c8, 0xbf597fc7, 0xc6e00bf3, 0xd5a79147, 0x06ca6351, 0x14292967,
  0x27b70a85, 0x2e1b2138, 0x4d2c6dfc, 0x53380d13, 0x650a7354, 0x766a0abb, 0x81c2c92e, 0x92722c85,
  0xa2bfe8a1, 0xa81a664b, 0xc24b8b70, 0xc76c51a3, 0xd192e819, 0xd6990624, 0xf40e3585, 0x106aa070,
  0x19a4c116, 0x1e376c08, 0x2748774c, 0x34b0bcb5, 0x391c0cb3, 0x4ed8aa4a, 0x5b9cca4f, 0x682e6ff3,
  0x748f82ee, 0x78a5636f, 0x84c87814, 0x8cc70208, 0x90befffa, 0xa4506ceb, 0xbef9a3f7, 0xc67178f2]
/-- The first n rounds. -/
def rounds (s : S8) (w : List Nat) : Nat → S8
  | 0 => s
  | n + 1 => rnd (rounds s w n) (ks.getD n 0) (w.getD n 0)
theorem rounds_ok {s : S8} (h : s.Ok) (w : List Nat) (n : Nat) : (rounds s w n).Ok := by
  induction n with
  | zero => exact h
  | succ n ih => exact rnd_ok ih _ _
def plus (s r : S8) : S8 := ⟨(s.a + r.a) % M32, (s.b + r.b) % M32, (s.c + r.c) % M32, (s.d + r.d) % M32, (s.e + r.e) % M32, (s.f + r.f) % M32, (s.g + r.g) % M32, (s.h + r.h) % M32⟩
theorem plus_ok (s r : S8) : (plus s r).Ok := ⟨Nat.mod_lt _ (by decide), Nat.mod_lt _ (by decide), Nat.mod_lt _ (by decide), Nat.mod_lt _ (by decide), Nat.mod_lt _ (by decide), Nat.mod_lt _ (by decide), Nat.mod_lt _ (by decide), Nat.mod_lt _ (by decide)⟩
def block (s : S8) (b : List Nat) : S8 := plus s (rounds s (words b 64) 64)
def init : S8 := ⟨0x6a09e667, 0xbb67ae85, 0x3c6ef372, 0xa54ff53a, 0x510e527f, 0x9b05688c, 0x1f83d9ab, 0x5be0cd19⟩
theorem init_ok : init.Ok := by constructor <;> decide
/-- The state behind n whole blocks. -/
def run (s : S8) (b : List Nat) : Nat → S8
  | 0 => s
  | n + 1 => run (block s (b.take 64)) (b.drop 64) n
theorem run_ok {s : S8} (h : s.Ok) (b : List Nat) (n : Nat) : (run s b n).Ok := by
  induction n generalizing s b with
  | zero => exact h
  | succ n ih => exact ih (plus_ok _ _) _
theorem run_app (s : S8) (a b : List Nat) (n m : Nat) (h : 64 * n ≤ a.length) : run s (a ++ b) (n + m) = run (run s a n) (a.drop (64 * n) ++ b) m := by
  induction n generalizing s a with
  | zero => simp [run]
  | succ n ih =>
    rw [show n + 1 + m = (n + m) + 1 by omega, run, run, List.take_append_of_le_length (by omega), List.drop_append_of_le_length (by omega), ih _ _ (by simp; omega), List.drop_drop]
    rw [show 64 + 64 * n = 64 * (n + 1) by omega]
/-- A number's bytes, the highest first. -/
def put (n : Nat) : Nat → List Nat
  | 0 => []
  | k + 1 => n / 256 ^ k % 256 :: put n k
theorem put_length (n k : Nat) : (put n k).length = k := by induction k with | zero => rfl | succ k ih => simp [put, ih]
theorem put_bytes (n k : Nat) : Bytes (put n k) := by
  induction k with
  | zero => intro x hx; cases hx
  | succ k ih => intro x hx; rcases List.mem_cons.1 hx with rfl | hx; (· exact Nat.mod_lt _ (by decide)); (· exact ih x hx)
/-- What is put behind a text of n bytes. -/
def tail (n : Nat) : List Nat := 128 :: (List.replicate ((119 - n % 64) % 64) 0 ++ put (8 * n % 18446744073709551616) 8)
def out (s : S8) : List Nat := put s.a 4 ++ put s.b 4 ++ put s.c 4 ++ put s.d 4 ++ put s.e 4 ++ put s.f 4 ++ put s.g 4 ++ put s.h 4
def sha (t : List Nat) : List Nat := out (run init (t ++ tail t.length) ((t.length + (tail t.length).length) / 64))
theorem tail_length (n : Nat) : (tail n).length = 9 + (119 - n % 64) % 64 := by simp [tail, put_length]; omega
theorem out_length (s : S8) : (out s).length = 32 := by simp [out, put_length]
/-- A text's place: the first eight bytes of its hash. -/
def num : List Nat → Nat → Nat
  | [], n => n
  | x :: l, n => num l (n * 256 + x)
def hash (t : List Nat) : Nat := num ((sha t).take 8) 0
def point (s i : Nat) : Nat := hash (1 :: (put s 4 ++ put i 4))
set_option maxRecDepth 100000 in
theorem eight : ((List.range 8).map (point 1)).Nodup := by decide +kernel
end Go.Proofs.YthcmcjoenepkbaaGreatDoor.Sh
