/- One step of each plain function of the library's sort (Derived/Sort/Defs.lean). Contracts: bits.Len32, bits.Len64, bits.Len; xorshift.Next; nextPowerOfTwo. Rows of numbers in memory. -/
import Derived.Test.YtggdkfijioeijaaGreatDoorQb00
import Derived.Laws.BitsAllLaws
import Derived.Sort.LotD5
import Derived.Sort.LotA
namespace Go.Proofs.YtggdkfijioeijaaGreatDoor
open Go Go.RowKit Go.Sort
section
variable {α : Type} [Inhabited α] {lt : α → α → Bool}
theorem ins_go {a j : Nat} {d : Array α} (hj : a < j) (hl : lt d[j]! d[j - 1]! = true) : insInner lt a j d = insInner lt a (j - 1) (swp d j (j - 1)) := by
 obtain _ | k := j
 ·omega
 ·rw [insInner]; simp only [Nat.add_sub_cancel] at hl ⊢
  rw [if_pos (by simp [hl]; omega)]
theorem ins_stop {a j : Nat} {d : Array α} (h : j ≤ a ∨ lt d[j]! d[j - 1]! = false) : insInner lt a j d = d := by
 obtain _ | k := j
 ·rw [insInner]
 ·rw [insInner]; simp only [Nat.add_sub_cancel] at h
  rw [if_neg]
  rintro h2
  simp only [Bool.and_eq_true, decide_eq_true_eq] at h2
  rcases h with h | h
  ·omega
  ·rw [h] at h2; cases h2.2
theorem insOut_go {a b i : Nat} {d : Array α} (h : i < b) : insOuter lt a b i d = insOuter lt a b (i + 1) (insInner lt a i d) := by rw [insOuter, if_pos h]
theorem insOut_stop {a b i : Nat} {d : Array α} (h : ¬ i < b) : insOuter lt a b i d = d := by rw [insOuter, if_neg h]
theorem sift_end {hi F root : Nat} {d : Array α} (h : hi ≤ 2 * root + 1) : siftDown lt hi F root d = d := by rw [siftDown, dif_pos h]
def Child (lt : α → α → Bool) (hi F root : Nat) (d : Array α) (c : Nat) : Prop :=
 c < hi ∧ root < c ∧ siftDown lt hi F root d = if lt d[F + root]! d[F + c]! then siftDown lt hi F c (swp d (F + root) (F + c)) else d
theorem child_right {hi F root : Nat} {d : Array α} (h1 : 2 * root + 2 < hi) (h2 : lt d[F + (2 * root + 1)]! d[F + (2 * root + 2)]! = true) : Child lt hi F root d (2 * root + 2) := by
 refine ⟨h1, by omega, ?_⟩
 rw [siftDown, dif_neg (by omega), if_pos (by rw [show F + (2 * root + 1) + 1 = F + (2 * root + 2) by omega, h2]; simp; omega), dif_pos h1]
 cases lt d[F + root]! d[F + (2 * root + 2)]! <;> simp
theorem child_left {hi F root : Nat} {d : Array α} (h1 : 2 * root + 1 < hi) (h2 : 2 * root + 2 < hi → lt d[F + (2 * root + 1)]! d[F + (2 * root + 2)]! = false) : Child lt hi F root d (2 * root + 1) := by
 refine ⟨h1, by omega, ?_⟩
 rw [siftDown, dif_neg (by omega), if_neg]
 ·cases lt d[F + root]! d[F + (2 * root + 1)]! <;> simp
 ·intro h
  simp only [Bool.and_eq_true, decide_eq_true_eq] at h
  rw [show F + (2 * root + 1) + 1 = F + (2 * root + 2) by omega, h2 (by omega)] at h
  cases h.2
theorem up_go {p : α → Bool} {d : Array α} {j i : Nat} (h : i ≤ j) (hp : p d[i]! = true) : scanUp p d j i = scanUp p d j (i + 1) := by
 rw [scanUp, if_pos (by simp [h, hp])]
theorem up_end {p : α → Bool} {d : Array α} {j i : Nat} (h : ¬ i ≤ j ∨ p d[i]! = false) : scanUp p d j i = i := by
 rw [scanUp, if_neg]
 intro h2
 simp only [Bool.and_eq_true, decide_eq_true_eq] at h2
 rcases h with h | h
 ·exact h h2.1
 ·rw [h] at h2; cases h2.2
theorem down_go {p : α → Bool} {d : Array α} {j i : Nat} (h : i ≤ j) (h0 : 0 < j) (hp : p d[j]! = true) : scanDown p d i j = scanDown p d i (j - 1) := by
 obtain _ | k := j
 ·omega
 ·rw [scanDown, if_pos (by simp [h, hp]), Nat.add_sub_cancel]
theorem down_end {p : α → Bool} {d : Array α} {j i : Nat} (h : ¬ i ≤ j ∨ p d[j]! = false) : scanDown p d i j = j := by
 obtain _ | k := j
 ·rw [scanDown]
 ·rw [scanDown, if_neg]
  intro h2
  simp only [Bool.and_eq_true, decide_eq_true_eq] at h2
  rcases h with h | h
  ·exact h h2.1
  ·rw [h] at h2; cases h2.2
theorem sorted_go {d : Array α} {b i : Nat} (h : i < b) (hl : lt d[i]! d[i - 1]! = false) : scanSorted lt d b i = scanSorted lt d b (i + 1) := by
 rw [scanSorted, if_pos (by simp [h, hl])]
theorem sorted_end {d : Array α} {b i : Nat} (h : ¬ i < b ∨ lt d[i]! d[i - 1]! = true) : scanSorted lt d b i = i := by
 rw [scanSorted, if_neg]
 intro h2
 simp only [Bool.and_eq_true, decide_eq_true_eq, Bool.not_eq_true'] at h2
 rcases h with h | h
 ·exact h h2.1
 ·rw [h] at h2; cases h2.2
theorem shd_go {j : Nat} {d : Array α} (hj : 1 ≤ j) (hl : lt d[j]! d[j - 1]! = true) : shiftDown lt j d = shiftDown lt (j - 1) (swp d j (j - 1)) := by
 obtain _ | k := j
 ·omega
 ·rw [shiftDown]; simp only [Nat.add_sub_cancel] at hl ⊢
  rw [if_neg (by simp [hl])]
theorem shd_stop {j : Nat} {d : Array α} (h : j = 0 ∨ lt d[j]! d[j - 1]! = false) : shiftDown lt j d = d := by
 obtain _ | k := j
 ·rw [shiftDown]
 ·rw [shiftDown]; simp only [Nat.add_sub_cancel] at h
  rw [if_pos]
  rcases h with h | h
  ·omega
  ·simp [h]
theorem shu_go {b j : Nat} {d : Array α} (hj : j < b) (hl : lt d[j]! d[j - 1]! = true) : shiftUp lt b j d = shiftUp lt b (j + 1) (swp d j (j - 1)) := by
 rw [shiftUp, if_pos hj, if_neg (by simp [hl])]
theorem shu_stop {b j : Nat} {d : Array α} (h : ¬ j < b ∨ lt d[j]! d[j - 1]! = false) : shiftUp lt b j d = d := by
 rw [shiftUp]
 by_cases hj : j < b
 ·rw [if_pos hj, if_pos (by rcases h with h | h; (· exact absurd hj h); (· simp [h]))]
 ·rw [if_neg hj]
theorem partL_stop {a i j : Nat} {d : Array α} {i2 j2 : Nat} (hi : scanUp (fun x => lt x d[a]!) d j i = i2) (hj : scanDown (fun x => !lt x d[a]!) d i2 j = j2) (h : j2 < i2) : partLoop lt a i j d = (j2, d) := by
 rw [partLoop_eq]; subst hi; subst hj; simp [h]
theorem partL_go {a i j : Nat} {d : Array α} {i2 j2 : Nat} (hi : scanUp (fun x => lt x d[a]!) d j i = i2) (hj : scanDown (fun x => !lt x d[a]!) d i2 j = j2) (h : ¬ j2 < i2) : partLoop lt a i j d = partLoop lt a (i2 + 1) (j2 - 1) (swp d i2 j2) := by
 rw [partLoop_eq]; subst hi; subst hj; simp [h]
theorem partE_stop {a i j : Nat} {d : Array α} {i2 j2 : Nat} (hi : scanUp (fun x => !lt d[a]! x) d j i = i2) (hj : scanDown (fun x => lt d[a]! x) d i2 j = j2) (h : j2 < i2) : partEqLoop lt a i j d = (i2, d) := by
 rw [partEqLoop_eq]; subst hi; subst hj; simp [h]
theorem partE_go {a i j : Nat} {d : Array α} {i2 j2 : Nat} (hi : scanUp (fun x => !lt d[a]! x) d j i = i2) (hj : scanDown (fun x => lt d[a]! x) d i2 j = j2) (h : ¬ j2 < i2) : partEqLoop lt a i j d = partEqLoop lt a (i2 + 1) (j2 - 1) (swp d i2 j2) := by
 rw [partEqLoop_eq]; subst hi; subst hj; simp [h]
end
end Go.Proofs.YtggdkfijioeijaaGreatDoor
namespace Go.Proofs.YtggdkfijioeijaaGreatDoor
open Go Go.RowKit Go.Sort
theorem rnd_next (rb X : Nat) (hX : X < 18446744073709551616) (w : World) (hc : w.cell? ⟨rb, 0, none⟩ = some (.int .u64 X)) (hf : w.frozen? ⟨rb, 0, none⟩ = false) :
  Calls Tryz.prog 131 #[.pointer (some ⟨rb, 0, none⟩)] w fun e w' => ∃ r : Nat, r < 18446744073709551616 ∧ e = .returned (.int .u64 r) ∧ w' = (w.setCell ⟨rb, 0, none⟩ (.int .u64 r)).drewN 3 := by
 obtain ⟨A, hA⟩ : ∃ A : Nat, A = X ^^^ (X * 8192 % 18446744073709551616) := ⟨_, rfl⟩
 obtain ⟨B, hB⟩ : ∃ B : Nat, B = A ^^^ (A / 128) := ⟨_, rfl⟩
 obtain ⟨C, hC⟩ : ∃ C : Nat, C = B ^^^ (B * 131072 % 18446744073709551616) := ⟨_, rfl⟩
 have lA : A < 18446744073709551616 := by rw [hA]; exact Nat.xor_lt_two_pow (n := 64) (by omega) (by omega)
 have lB : B < 18446744073709551616 := by rw [hB]; exact Nat.xor_lt_two_pow (n := 64) (by omega) (by omega)
 have lC : C < 18446744073709551616 := by rw [hC]; exact Nat.xor_lt_two_pow (n := 64) (by omega) (by omega)
 have e1 : bits .xor .u64 (X : Int) ((X : Int) * 8192 % 18446744073709551616) = (A : Int) := by
  rw [show ((X : Int) * 8192 % 18446744073709551616) = ((X * 8192 % 18446744073709551616 : Nat) : Int) by omega, u64_xor_nat _ _ hX (by omega), hA]
 have e2 : bits .xor .u64 (A : Int) ((A : Int) / 128) = (B : Int) := by
  rw [show ((A : Int) / 128) = ((A / 128 : Nat) : Int) by omega, u64_xor_nat _ _ lA (by omega), hB]
 have e3 : bits .xor .u64 (B : Int) ((B : Int) * 131072 % 18446744073709551616) = (C : Int) := by
  rw [show ((B : Int) * 131072 % 18446744073709551616) = ((B * 131072 % 18446744073709551616 : Nat) : Int) by omega, u64_xor_nat _ _ lB (by omega), hC]
 have e1' : bits .xor .u64 (X : Int) (IntKind.u64.wrap ((X : Int) * 8192)) = (A : Int) := by rw [IntKind.wrap_u64]; exact e1
 have e3' : bits .xor .u64 (B : Int) (IntKind.u64.wrap ((B : Int) * 131072)) = (C : Int) := by rw [IntKind.wrap_u64]; exact e3
 clear hA hB hC
 have hss : ∀ v v', (w.setCell ⟨rb, 0, none⟩ v).setCell ⟨rb, 0, none⟩ v' = w.setCell ⟨rb, 0, none⟩ v' := fun v v' => by
  rw [setCell_eq, setCell_eq, mapBlock_mapBlock, setCell_eq]
  congr 1
  funext c
  simp
 go_enter Tryz.func131, Tryz.ntmps131
 go_wp2
 go_region
 all_goals go_wp2
 all_goals go_region
 all_goals go_wp2
 all_goals go_region
 all_goals go_wp2
 go_ret
 exact ⟨C, lC, rfl, rfl⟩
theorem wrap_pow (k : Nat) (hk : k ≤ 62) : IntKind.u64.wrap ((2 : Int) ^ k) = ((1 <<< k : Nat) : Int) := by
 have h : (2 : Nat) ^ k ≤ 2 ^ 62 := Nat.pow_le_pow_right (by decide) hk
 rw [IntKind.wrap_u64, Nat.one_shiftLeft, show ((2 : Int) ^ k) = ((2 ^ k : Nat) : Int) by push_cast; rfl]
 generalize (2 : Nat) ^ k = p at h
 omega
theorem len_eq : ∀ (f x : Nat), x < f → x < 2 ^ 64 → Lib.bitLen x = bitsLen x := by
 intro f
 induction f with
 | zero => intro x h; omega
 | succ f ih =>
  intro x hf hx
  rcases Nat.eq_zero_or_pos x with rfl | h0
  ·decide
  rw [Lib.bitLen_half x (by omega) hx, ih (x / 2) (by omega) (by omega)]
  unfold bitsLen
  rcases Nat.lt_or_ge x 2 with h2 | h2
  ·obtain rfl : x = 1 := by omega
   decide
  ·rw [if_neg (by omega), if_neg (by omega), Nat.log2_def x, if_pos h2]; omega
theorem bits_len (n : Nat) (hn : n < 4611686018427387904) (w : World) : Calls Tryz.prog 77 #[.int .u64 (n : Int)] w fun e w' => e = .returned (.int .i64 (bitsLen n : Nat)) ∧ w' = w := by
 have h := Tryz.bits_Len (n : Int) w (by omega) (by omega)
 rwa [Int.toNat_natCast, len_eq (n + 1) n (by omega) (by omega)] at h
theorem slices_nextPowerOfTwo (n : Nat) (hn : n < 4611686018427387904) (w : World) :
  Calls Tryz.prog 130 #[.int .i64 n] w fun e w' => e = .returned (.int .u64 ((1 <<< bitsLen n : Nat) : Int)) ∧ w' = w := by
 have hk : bitsLen n ≤ 62 := (bitsLen_le_iff n 62).2 (by omega)
 have hp := wrap_pow (bitsLen n) hk
 go_enter Tryz.func130, Tryz.ntmps130
 go_wp2_with (first | (go_at_call 77; refine (bits_len n hn _).mono ?_; rintro e w' ⟨rfl, rfl⟩))
 go_ret
 exact ⟨rfl, rfl⟩
end Go.Proofs.YtggdkfijioeijaaGreatDoor
namespace Go.Proofs.YtggdkfijioeijaaGreatDoor
open Go Go.RowKit Go.Sort
def IsInts (K : IntKind) (w : World) (v : Value) (l : List Int) : Prop :=
 (v = .slice none 0 0 ∧ l = []) ∨ ∃ b off cap, v = .slice (some ⟨b, off, none⟩) l.length cap ∧ b < w.heap.size ∧ ∀ i, i < l.length → w.cell? ⟨b, off + i, none⟩ = some (.int K (l.getD i 0))
theorem IsInts.below {K : IntKind} {w w' : World} {v : Value} {l : List Int} {B : Nat} (h : IsInts K w v l) (hb : Below B w w') (hB : w.heap.size ≤ B) : IsInts K w' v l := by
 rcases h with h | ⟨b, off, cap, hv, hlt, hc⟩
 ·exact Or.inl h
 ·exact Or.inr ⟨b, off, cap, hv, by have := hb.size; omega, fun i hi => (hb.cell (p := ⟨b, off + i, none⟩) (by show b < B; omega)).trans (hc i hi)⟩
theorem IsInts.but {K : IntKind} {S : Nat → Prop} {w w' : World} {v : Value} {l : List Int} (h : IsInts K w v l) (hb : ButS S w w') (hn : ∀ b, v.ownBlock = some b → ¬ S b) : IsInts K w' v l := by
 rcases h with h | ⟨b, off, cap, rfl, hlt, hc⟩
 ·exact Or.inl h
 ·exact Or.inr ⟨b, off, cap, rfl, by have := hb.size; omega, fun i hi => (hb.cell (p := ⟨b, off + i, none⟩) hlt (hn b rfl)).trans (hc i hi)⟩
theorem IsInts.len {K : IntKind} {w : World} {v : Value} {l : List Int} (h : IsInts K w v l) : ∃ a cap, v = .slice a l.length cap := by
 rcases h with ⟨rfl, rfl⟩ | ⟨b, off, cap, rfl, _⟩
 ·exact ⟨none, 0, rfl⟩
 ·exact ⟨_, _, rfl⟩
theorem IsInts.own {K : IntKind} {w : World} {B e : Nat} {v : Value} {l : List Int} (h : w.ownsRow B e 1 v l.length (l.map (Value.int K))) : IsInts K w v l := by
 rcases h.2 with ⟨hv, hl⟩ | ⟨g, cap, cur, hv, hB, hg, hn, hcap, hsz, htake⟩
 ·have : l = [] := List.length_eq_zero_iff.1 hl
  subst this; exact Or.inl ⟨hv, rfl⟩
 ·refine Or.inr ⟨g, 0, cap, hv, lt_of_block hg, fun i hi => ?_⟩
  subst hv
  have := World.ownsRow.cellAt h i (by omega)
  rw [Nat.zero_add, this, List.getElem?_map, List.getD_eq_getElem?_getD, List.getElem?_eq_getElem hi]; rfl
theorem sorted_list {N : Nat} {d d' : Array Int} (hd : d.size = N) (hp : PermIn 0 N d d') (hs : SortedIn ltInt 0 N d') : d'.toList.Perm d.toList ∧ d'.toList.Pairwise (· ≤ ·) := by
 have e1 : d'.extract 0 N = d' := by rw [← hd, ← hp.1]; simp
 have e2 : d.extract 0 N = d := by rw [← hd]; simp
 refine ⟨by have := hp.2.2; rw [e1, e2] at this; exact this, ?_⟩
 rw [List.pairwise_iff_getElem]
 intro i j hi hj hij
 have h := hs i j (Nat.zero_le _) hij (by rw [← hd, ← hp.1]; simpa using hj)
 rw [getElem!_pos d' i (by simpa using hi), getElem!_pos d' j (by simpa using hj)] at h
 simp only [ltInt, decide_eq_false_iff_not] at h
 simp only [Array.getElem_toList]
 omega
theorem SR.ints {K : IntKind} {S : Nat → Prop} {w0 w : World} {blk off : Nat} {d : Array Int} (h : SR K S w0 blk off d w) (cap : Nat) (hlt : blk < w.heap.size) : IsInts K w (.slice (some ⟨blk, off, none⟩) d.size cap) d.toList := by
 refine Or.inr ⟨blk, off, cap, by simp, hlt, fun i hi => ?_⟩
 have hi' : i < d.size := by simpa using hi
 rw [(h.holds i hi').1, getElem!_pos d i hi', List.getD_eq_getElem?_getD, List.getElem?_eq_getElem hi]; simp
theorem own_SR {K : IntKind} {w : World} {B e g cap : Nat} {l : List Int} (h : w.ownsRow B e 1 (.slice (some ⟨g, 0, none⟩) l.length cap) l.length (l.map (Value.int K))) : SR K (fun k => k = g) w g 0 l.toArray w := by
 refine SR.start (fun j hj => ?_)
 have hj' : j < l.length := by simpa using hj
 rw [Nat.zero_add]
 refine ⟨?_, World.ownsRow.frozenAt h j⟩
 rw [World.ownsRow.cellAt h j (by omega), List.getElem?_map, List.getElem?_eq_getElem hj', getElem!_pos l.toArray j hj]; simp
def upto {α : Type} (f : Nat → α) (k : Nat) : List α := (List.range k).map f
theorem upto_succ {α : Type} (f : Nat → α) (k : Nat) : upto f (k + 1) = upto f k ++ [f k] := by simp [upto, List.range_succ]
theorem upto_length {α : Type} (f : Nat → α) (k : Nat) : (upto f k).length = k := by simp [upto]
theorem upto_all {α : Type} [Inhabited α] (l : List α) (z : α) : upto (fun j => l[j]?.getD z) l.length = l := by
 apply List.ext_getElem
 ·simp [upto]
 ·intro i h1 h2
  simp [upto, h2]
end Go.Proofs.YtggdkfijioeijaaGreatDoor
