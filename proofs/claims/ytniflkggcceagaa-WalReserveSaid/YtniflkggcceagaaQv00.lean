/- Small facts that all walks of this seat use: lists of strings in memory, and how they stay as they are when only new memory is made. Contracts: crc.More, crc.Sum; frame.number. Contracts: frame.head, frame.Encode. Contracts: frame.Encode, frame.Decode, frame.Size. A region that draws its order in a round: told as outside of one. Own rows and cells of one's own beside each other: small facts. -/
import Derived.Test.YtniflkggcceagaaRows
import Derived.WalkKit
import Derived.WalkSpells
import Derived.WalkLawsBesides
import Derived.Lib.Hide
import Derived.Deep.Quiet
import Derived.Deep.QuietTactic
import Derived.Deep.RegionHeld
import Derived.Deep.AppendLies
import Derived.ProofKit
import Derived.SliceStrings
import Derived.Deep.RegionWith
import Derived.Deep.DeepCutAuto
import Derived.Deep.RegionHeld3
import Derived.Deep.RegionLaw
import Derived.Laws.CopyOwn
import Derived.Laws.Tables
import Derived.Laws.Rows
import Derived.Laws.AppendOwnNone
import Derived.StillTailTactics
import Derived.BigQuiet
import Derived.Deep.OwnRows
import Derived.Deep.MidRow
import Derived.Deep.WholeRow
import Derived.Laws.BytesArg
import Derived.Laws.BitsLemmas
import Derived.Laws.BitsAllLaws
import Derived.Laws.IdiomStrings
import Derived.OrdersIn
import Derived.OrdersHeld
import Derived.RangeFuncBox
import Derived.RangeFuncWrites
import Derived.Maps.OwnIn
import Derived.Below
namespace Go.Proofs.Ytniflkggcceagaa
open Go Go.RowKit
theorem ret_bool {a b : Bool} (h : a = b) : Ending.returned (.bool a) = .returned (.bool b) := by rw [h]
def bs (l : List UInt8) : ByteArray := ⟨l.toArray⟩
theorem toList_bs (s : ByteArray) : bs s.data.toList = s := rfl
theorem bs_size (l : List UInt8) : (bs l).size = l.length := rfl
theorem ba_ext {a b : ByteArray} (h : a.data.toList = b.data.toList) : a = b := by rw [← toList_bs a, h]; rfl
def IsStrs (w : World) (v : Value) (l : List ByteArray) : Prop :=
  ∃ a cap, v = .slice a l.length cap ∧ (l = [] ∨ ∃ b off, a = some ⟨b, off, none⟩ ∧ b < w.heap.size ∧ ∀ i, i < l.length → w.cell? ⟨b, off + i, none⟩ = some (.string (l.getD i ByteArray.empty)))
theorem IsStrs.below {w w' : World} {v : Value} {l : List ByteArray} {B : Nat} (h : IsStrs w v l) (hb : Below B w w') (hB : w.heap.size ≤ B) : IsStrs w' v l := by
  obtain ⟨a, cap, hv, h⟩ := h
  refine ⟨a, cap, hv, ?_⟩
  rcases h with h | ⟨b, off, ha, hlt, hc⟩
  · exact Or.inl h
  · exact Or.inr ⟨b, off, ha, by have := hb.size; omega, fun i hi => (hb.cell (p := ⟨b, off + i, none⟩) (by show b < B; omega)).trans (hc i hi)⟩
theorem IsStrs.drewN {w : World} {v : Value} {l : List ByteArray} (h : IsStrs w v l) (n : Nat) : IsStrs (w.drewN n) v l := by
  obtain ⟨a, cap, hv, h⟩ := h
  refine ⟨a, cap, hv, ?_⟩
  rcases h with h | ⟨b, off, ha, hlt, hc⟩
  · exact Or.inl h
  · exact Or.inr ⟨b, off, ha, hlt, hc⟩
theorem IsStrs.nil (w : World) : IsStrs w (.slice none 0 0) [] := ⟨none, 0, rfl, Or.inl rfl⟩
theorem IsStrs.own {w : World} {B e : Nat} {v : Value} {l : List ByteArray} (h : w.ownsRow B e 1 v l.length (l.map Value.string)) : IsStrs w v l := by
  rcases h.2 with ⟨hv, hl⟩ | ⟨g, cap, cur, hv, hB, hg, hn, hcap, hsz, htake⟩
  · have : l = [] := List.length_eq_zero_iff.1 hl
    subst this; exact ⟨none, 0, hv, Or.inl rfl⟩
  · refine ⟨_, _, hv, Or.inr ⟨g, 0, rfl, lt_of_block hg, fun i hi => ?_⟩⟩
    subst hv
    have := World.ownsRow.cellAt h i (by omega)
    rw [Nat.zero_add, this, List.getElem?_map, List.getD_eq_getElem?_getD, List.getElem?_eq_getElem hi]; rfl
theorem IsStrs.new (w : World) (l : List ByteArray) (cap : Nat) (e : TypeId) (x : Nat × Nat) : IsStrs (w.alloc (.cells (l.map Value.string).toArray e x)) (.slice (some ⟨w.heap.size, 0, none⟩) l.length cap) l := by
  refine ⟨_, _, rfl, Or.inr ⟨w.heap.size, 0, rfl, by simp, fun i hi => ?_⟩⟩
  rw [Nat.zero_add, World.cell?_alloc_mark]
  simp [hi]
theorem cell_lt {w : World} {b o : Nat} {v : Value} (h : w.cell? ⟨b, o, none⟩ = some v) : b < w.heap.size := block_lt_of_cell h
structure ButS (S : Nat → Prop) (w w' : World) : Prop where
  os : w'.os = w.os
  tape : w'.tape = w.tape
  output : w'.output = w.output
  size : w.heap.size ≤ w'.heap.size
  block : ∀ k, k < w.heap.size → ¬ S k → w'.heap[k]? = w.heap[k]?
theorem ButS.refl {S : Nat → Prop} (w : World) : ButS S w w := ⟨rfl, rfl, rfl, Nat.le_refl _, fun _ _ _ => rfl⟩
theorem ButS.of {S : Nat → Prop} {w w' : World} (h : Below w.heap.size w w') : ButS S w w' := ⟨h.os, h.tape, h.output, h.size, fun k hk _ => h.block k hk⟩
theorem ButS.trans {S : Nat → Prop} {a b c : World} (h : ButS S a b) (k : ButS S b c) : ButS S a c :=
  ⟨k.os.trans h.os, k.tape.trans h.tape, k.output.trans h.output, Nat.le_trans h.size k.size, fun i hi hS => (k.block i (Nat.lt_of_lt_of_le hi h.size) hS).trans (h.block i hi hS)⟩
theorem ButS.mono {S S' : Nat → Prop} {w w' : World} (h : ButS S w w') (hS : ∀ k, S k → S' k) : ButS S' w w' := ⟨h.os, h.tape, h.output, h.size, fun k hk hn => h.block k hk (fun hs => hn (hS k hs))⟩
theorem ButS.grown {S : Nat → Prop} {w w' : World} {b : Nat} (h : w.grownBy w' (some b)) (hS : S b) : ButS S w w' :=
  ⟨h.os, h.tape, h.output, h.size, fun k hk hn => h.block k hk (fun e => hn (by cases e; exact hS))⟩
theorem ButS.set {S : Nat → Prop} (w : World) {p : Addr} (hS : S p.block) (u : Value) : ButS S w (w.setCell p u) := by
  have h := (Below.refl 0 w).setCell (p := p) (Nat.zero_le _) u
  exact ⟨h.os, h.tape, h.output, h.size, fun k hk hn => Below.heap_setCell w p u k (fun e => hn (e ▸ hS))⟩
theorem ButS.below {S : Nat → Prop} {B : Nat} {w w' : World} (h : ButS S w w') (hS : ∀ k, S k → B ≤ k) (hB : B ≤ w.heap.size) : Below B w w' :=
  ⟨h.os, h.tape, h.output, h.size, fun k hk => h.block k (by omega) (fun hs => by have := hS k hs; omega)⟩
theorem ButS.cell {S : Nat → Prop} {w w' : World} (h : ButS S w w') {p : Addr} (hp : p.block < w.heap.size) (hn : ¬ S p.block) : w'.cell? p = w.cell? p := World.cell?_of_block (w := w) (h.block p.block hp hn)
theorem ButS.frozen {S : Nat → Prop} {w w' : World} (h : ButS S w w') {p : Addr} (hp : p.block < w.heap.size) (hn : ¬ S p.block) : w'.frozen? p = w.frozen? p := World.frozen?_of_block (w := w) (h.block p.block hp hn)
theorem ButS.drewN {S : Nat → Prop} {a b : World} (h : ButS S a b) (n : Nat) : ButS S a (b.drewN n) := ⟨h.os, h.tape, h.output, h.size, h.block⟩

structure One (n : Nat) (C : Array Value) (W : World) : Prop where
  lt : n < W.heap.size
  c : ∀ j, W.cell? ⟨n, j, none⟩ = C[j]?
  f : ∀ j, W.frozen? ⟨n, j, none⟩ = false
theorem One.step {n : Nat} {C : Array Value} {W W' : World} (h : One n C W) (hb : Below W.heap.size W W') : One n C W' :=
  ⟨by have := hb.size; have := h.lt; omega, fun j => (hb.cell h.lt).trans (h.c j), fun j => (hb.frozen h.lt).trans (h.f j)⟩
theorem One.but {S : Nat → Prop} {n : Nat} {C : Array Value} {W W' : World} (h : One n C W) (hb : ButS S W W') (hn : ¬ S n) : One n C W' :=
  ⟨by have := hb.size; have := h.lt; omega, fun j => (hb.cell h.lt hn).trans (h.c j), fun j => (hb.frozen h.lt hn).trans (h.f j)⟩
theorem One.drewN {n : Nat} {C : Array Value} {W : World} (h : One n C W) (k : Nat) : One n C (W.drewN k) := ⟨h.lt, h.c, h.f⟩
theorem One.of (w : World) (C : Array Value) (t : TypeId) : One w.heap.size C (w.alloc (.cells C t)) := by
  have hh := (MapKept.heap_alloc w (.cells C t)).1
  refine ⟨by simp, fun j => ?_, fun j => ?_⟩
  · unfold World.cell?; rw [hh]; rfl
  · unfold World.frozen?; rw [hh]; simp
theorem One.far {n : Nat} {C : Array Value} {W : World} (h : One n C W) {p : Addr} (hp : p.block ≠ n) (u : Value) : One n C (W.setCell p u) := by
  refine ⟨by simpa using h.lt, fun j => ?_, fun j => ?_⟩
  · rw [World.cell?_setCell_far _ _ _ _ hp]; exact h.c j
  · rw [World.frozen?_setCell]; exact h.f j
theorem One.set {n : Nat} {C : Array Value} {W : World} (h : One n C W) {i : Nat} (hi : i < C.size) (u : Value) : One n (C.set i u hi) (W.setCell ⟨n, i, none⟩ u) := by
  refine ⟨by simpa using h.lt, fun j => ?_, fun j => ?_⟩
  · by_cases e : i = j
    · subst e
      rw [World.cell?_setCell_same' _ _ _ (by rw [h.c i]; simp [hi])]; simp
    · rw [World.cell?_setCell_other _ _ _ _ (by intro x; injection x with _ x; exact e x), h.c j]
      simp [e]
  · rw [World.frozen?_setCell]; exact h.f j
theorem One.grown {n : Nat} {C : Array Value} {W W' : World} {b : Nat} (h : One n C W) (hg : W.grownBy W' (some b)) (hb : n ≠ b) : One n C W' :=
  ⟨by have := hg.size; have := h.lt; omega, fun j => (hg.cell_far ⟨n, j, none⟩ h.lt (by simpa using hb)).trans (h.c j), fun j => (hg.frozen_far ⟨n, j, none⟩ h.lt (by simpa using hb)).trans (h.f j)⟩

theorem wp_abs {P : Program} {c : Code} {Q : Exit → Act → World → Prop} {a : Act} {W : World} {F : World → Prop} (h : F W) (k : ∀ W', F W' → c.wp P Q a W') : c.wp P Q a W := k W h

theorem quiet_plain' {P : Program} {ops : Array Oper} {C : World → Prop} {Q : Act → Prop} {a : Act} {o : Oper} {rest : List Oper} (hw : Region.wanted o (yielded ops a.tmps) = true) (v : Value)
    (h : ∀ w, C w → (execOp a.eval o).run P w = .ok (.value v) w) (k : wpQuiet P ops C Q rest (a.put o.dst v)) : wpQuiet P ops C Q (o :: rest) a := by
  refine wpQuiet_step (fun K hK => ?_)
  rw [if_pos hw]
  refine ⟨v, fun w hw => ?_, hK _ k⟩
  unfold Oper.quietAt
  rw [h w hw]
  exact ⟨rfl, rfl⟩
theorem quiet_call' {P : Program} {ops : Array Oper} {C : World → Prop} {Q : Act → Prop} {a : Act} {o : Oper} {rest : List Oper} (hw : Region.wanted o (yielded ops a.tmps) = true) (v : Value) (f : FuncId) (args : Array Value)
    (h : ∀ w, C w → (execOp a.eval o).run P w = .ok (.enter f args) w ∧ Calls P f args w (fun e w'' => e = .returned v ∧ C w'')) (k : wpQuiet P ops C Q rest (a.put o.dst v)) : wpQuiet P ops C Q (o :: rest) a := by
  refine wpQuiet_step (fun K hK => ?_)
  rw [if_pos hw]
  refine ⟨v, fun w hw => ?_, hK _ k⟩
  unfold Oper.quietAt
  rw [(h w hw).1]
  exact ⟨rfl, (h w hw).2⟩

theorem quiet_skip {P : Program} {ops : Array Oper} {C : World → Prop} {Q : Act → Prop} {a : Act} {o : Oper} {rest : List Oper} (hw : Region.wanted o (yielded ops a.tmps) = false)
    (k : wpQuiet P ops C Q rest (a.put o.dst undef)) : wpQuiet P ops C Q (o :: rest) a := by
  refine wpQuiet_step (fun K hK => ?_)
  rw [if_neg (by rw [hw]; decide)]
  exact hK _ k
end Go.Proofs.Ytniflkggcceagaa

namespace Wl
abbrev Bs := List UInt8
def be : Nat → Nat → Bs
  | 0, _ => []
  | k + 1, n => be k (n / 256) ++ [UInt8.ofNat n]
def num (s : Bs) : Nat := s.foldl (fun n c => n * 256 + c.toNat) 0
theorem be_length (k n : Nat) : (be k n).length = k := by
  induction k generalizing n with
  | zero => rfl
  | succ k ih => simp [be, ih]
theorem num_be (k n : Nat) (h : n < 256 ^ k) : num (be k n) = n := by
  induction k generalizing n with
  | zero => simp at h; subst h; rfl
  | succ k ih =>
    have h1 : n / 256 < 256 ^ k := by rw [Nat.pow_succ] at h; exact Nat.div_lt_of_lt_mul (by omega)
    have := ih _ h1
    unfold num at this ⊢
    rw [be, List.foldl_append, this]
    simp
    omega
section
variable (sum : Bs → Bs → Nat)
def hd (n : Nat) (t : Bs) : Bs := be 4 t.length ++ be 8 n
def enc (n : Nat) (t : Bs) : Bs := hd n t ++ (be 4 (sum (hd n t) t) ++ t)
theorem hd_length (n : Nat) (t : Bs) : (hd n t).length = 12 := by simp [hd, be_length]
theorem enc_length (n : Nat) (t : Bs) : (enc sum n t).length = 16 + t.length := by simp [enc, hd_length, be_length]; omega
def dec (s : Bs) : Option (Nat × Bs × Nat) :=
  if s.length < 16 then none
  else if 65536 < num (s.take 4) then none
  else if s.length - 16 < num (s.take 4) then none
  else if sum (s.take 12) ((s.drop 16).take (num (s.take 4))) ≠ num ((s.drop 12).take 4) then none
  else some (num ((s.drop 4).take 8), (s.drop 16).take (num (s.take 4)), 16 + num (s.take 4))
theorem dec_enc (hs : ∀ a b, sum a b < 4294967296) {n : Nat} {t r : Bs} (hn : n < 18446744073709551616) (ht : t.length ≤ 65536) : dec sum (enc sum n t ++ r) = some (n, t, 16 + t.length) := by
  have e1 : (enc sum n t ++ r).take 4 = be 4 t.length := by
    unfold enc hd
    rw [List.append_assoc, List.append_assoc, List.take_append_of_le_length (by simp [be_length])]
    exact List.take_of_length_le (by simp [be_length])
  have e2 : (enc sum n t ++ r).take 12 = hd n t := by
    unfold enc
    rw [List.append_assoc, List.take_append_of_le_length (by simp [hd_length])]
    exact List.take_of_length_le (by simp [hd_length])
  have e3 : (enc sum n t ++ r).drop 12 = be 4 (sum (hd n t) t) ++ (t ++ r) := by
    unfold enc
    rw [List.append_assoc, List.drop_append_of_le_length (by simp [hd_length]), List.drop_of_length_le (by simp [hd_length])]
    simp
  have e4 : (enc sum n t ++ r).drop 16 = t ++ r := by
    have : (enc sum n t ++ r).drop 16 = ((enc sum n t ++ r).drop 12).drop 4 := by rw [List.drop_drop]
    rw [this, e3, List.drop_append_of_le_length (by simp [be_length]), List.drop_of_length_le (by simp [be_length])]
    simp
  have e5 : ((enc sum n t ++ r).drop 4).take 8 = be 8 n := by
    unfold enc hd
    rw [List.append_assoc, List.append_assoc, List.drop_append_of_le_length (by simp [be_length]), List.drop_of_length_le (by simp [be_length]), List.nil_append, List.take_append_of_le_length (by simp [be_length])]
    exact List.take_of_length_le (by simp [be_length])
  have n1 : num (be 4 t.length) = t.length := num_be 4 _ (by omega)
  have n2 : num (be 8 n) = n := num_be 8 _ (by omega)
  have n3 : num (be 4 (sum (hd n t) t)) = sum (hd n t) t := num_be 4 _ (by have := hs (hd n t) t; omega)
  have hl : (enc sum n t ++ r).length = 16 + t.length + r.length := by rw [List.length_append, enc_length]
  unfold dec
  rw [e1, e2, e3, e4, e5, n1, n2, if_neg (by omega), if_neg (by omega), if_neg (by omega), List.take_append_of_le_length (Nat.le_refl _), List.take_length, List.take_append_of_le_length (by simp [be_length]), List.take_of_length_le (by simp [be_length]), n3, if_neg (by simp)]
theorem dec_torn {n : Nat} {t : Bs} (ht : t.length ≤ 65536) {k : Nat} (hk : k < 16 + t.length) : dec sum ((enc sum n t).take k) = none := by
  have hl : ((enc sum n t).take k).length = k := by rw [List.length_take, enc_length]; omega
  unfold dec
  rw [hl]
  by_cases h16 : k < 16
  · rw [if_pos h16]
  · have e1 : ((enc sum n t).take k).take 4 = be 4 t.length := by
      rw [List.take_take, Nat.min_eq_left (by omega)]
      unfold enc hd
      rw [List.append_assoc, List.take_append_of_le_length (by simp [be_length])]
      exact List.take_of_length_le (by simp [be_length])
    have n1 : num (be 4 t.length) = t.length := num_be 4 _ (by omega)
    rw [if_neg h16, e1, n1, if_neg (by omega), if_pos (by omega)]
theorem dec_len {s : Bs} {n : Nat} {t : Bs} {u : Nat} (h : dec sum s = some (n, t, u)) : t.length ≤ 65536 := by
  unfold dec at h
  split at h
  · cases h
  · split at h
    · cases h
    · split at h
      · cases h
      · split at h
        · cases h
        · injection h with h
          injection h with h1 h2
          injection h2 with h2 h3
          subst h2
          rw [List.length_take]; omega
def scan : Nat → Nat → Bs → List Bs
  | 0, _, _ => []
  | f + 1, n, s => match dec sum s with
    | none => []
    | some (m, t, u) => if m = n then t :: scan f (n + 1) (s.drop u) else []
def frs (n : Nat) : List Bs → Bs
  | [] => []
  | t :: r => enc sum n t ++ frs (n + 1) r
theorem scan_nil (f n : Nat) : scan sum f n [] = [] := by cases f <;> simp [scan, dec]
theorem scan_frs (hs : ∀ a b, sum a b < 4294967296) (l : List Bs) (ht : ∀ t ∈ l, t.length ≤ 65536) : ∀ (f n k : Nat), l.length < f → n + l.length < 18446744073709551616 →
    ∃ m, m ≤ l.length ∧ scan sum f n ((frs sum n l).take k) = l.take m ∧ (frs sum n (l.take m)).length ≤ k ∧ ((frs sum n l).length ≤ k → m = l.length) ∧ (∀ q, q ≤ l.length → (frs sum n (l.take q)).length ≤ k → q ≤ m) := by
  induction l with
  | nil => intro f n k _ _; exact ⟨0, Nat.le_refl _, by simp [frs, scan_nil], by simp [frs], fun _ => rfl, fun q hq _ => hq⟩
  | cons t r ih =>
    intro f n k hf hn
    obtain ⟨f, rfl⟩ : ∃ g, f = g + 1 := ⟨f - 1, by simp at hf; omega⟩
    have htt := ht t (List.mem_cons_self ..)
    simp only [List.length_cons] at hf hn
    by_cases hk : k < 16 + t.length
    · refine ⟨0, Nat.zero_le _, ?_, by simp [frs], fun h => ?_, fun q hq h => ?_⟩
      · unfold frs
        rw [List.take_append_of_le_length (by rw [enc_length]; omega)]
        unfold scan
        rw [dec_torn sum htt hk]; rfl
      · simp [frs, enc_length] at h; omega
      · cases q with
        | zero => exact Nat.le_refl _
        | succ q => simp [frs, enc_length] at h; omega
    · obtain ⟨m, h1, h2, h3, h4, h5⟩ := ih (fun x hx => ht x (List.mem_cons_of_mem _ hx)) f (n + 1) (k - (16 + t.length)) (by omega) (by omega)
      refine ⟨m + 1, by simpa using h1, ?_, ?_, fun h => ?_, fun q hq h => ?_⟩
      · unfold frs
        rw [List.take_append, enc_length, List.take_of_length_le (by rw [enc_length]; omega)]
        unfold scan
        rw [dec_enc sum hs (by omega) htt]
        simp only [if_true, List.take_succ_cons]
        rw [List.drop_append_of_le_length (by rw [enc_length]; omega), List.drop_of_length_le (by rw [enc_length]; omega), List.nil_append, h2]
      · simp only [List.take_succ_cons, frs, List.length_append, enc_length]; omega
      · simp only [frs, List.length_append, enc_length] at h; have := h4 (by omega); simpa using this
      · cases q with
        | zero => exact Nat.zero_le _
        | succ q =>
          simp only [List.take_succ_cons, frs, List.length_append, enc_length] at h
          have := h5 q (by simpa using hq) (by omega)
          omega
theorem dec_used {s : Bs} {n : Nat} {t : Bs} {u : Nat} (h : dec sum s = some (n, t, u)) : 16 ≤ u ∧ u ≤ s.length ∧ u = 16 + t.length := by
  unfold dec at h
  split at h
  · cases h
  · split at h
    · cases h
    · split at h
      · cases h
      · split at h
        · cases h
        · injection h with h
          injection h with h1 h2
          injection h2 with h2 h3
          subst h3; subst h2
          refine ⟨by omega, by omega, ?_⟩
          rw [List.length_take, List.length_drop]; omega
theorem scan_fuel : ∀ (f g n : Nat) (s : Bs), s.length < f → s.length < g → scan sum f n s = scan sum g n s
  | 0, _, _, _, h, _ => by omega
  | f + 1, 0, _, _, _, h => by omega
  | f + 1, g + 1, n, s, hf, hg => by
    unfold scan
    cases h : dec sum s with
    | none => rfl
    | some x =>
      obtain ⟨m, t, u⟩ := x
      have := dec_used sum h
      simp only
      rw [scan_fuel f g (n + 1) (s.drop u) (by rw [List.length_drop]; omega) (by rw [List.length_drop]; omega)]
def head (k g : Nat) (n : Nat) (t : Bs) : Bs := enc sum n (UInt8.ofNat k :: UInt8.ofNat g :: t)
structure Sg where
  kind : Nat
  gen : Nat
  first : Nat
  text : Bs
  recs : List Bs
  used : Nat
  whole : Bool
def lens (l : List Bs) : Nat := l.foldr (fun t n => 16 + t.length + n) 0
theorem lens_snoc (l : List Bs) (t : Bs) : lens (l ++ [t]) = lens l + (16 + t.length) := by
  induction l with
  | nil => simp [lens]
  | cons x r ih =>
    have : lens (x :: r ++ [t]) = 16 + x.length + lens (r ++ [t]) := rfl
    rw [this, ih]
    show _ = 16 + x.length + lens r + _
    omega
theorem frs_length (n : Nat) (l : List Bs) : (frs sum n l).length = lens l := by
  induction l generalizing n with
  | nil => rfl
  | cons t r ih => simp only [frs, List.length_append, enc_length, ih, lens, List.foldr_cons]
def parse (s : Bs) : Option Sg := match dec sum s with
  | some (n, k :: g :: t, u) => if k.toNat ≤ 1 ∧ 1 ≤ g.toNat ∧ 1 ≤ n ∧ n ≤ 281474976710656 ∧ (k.toNat = 0 → t = []) then
      let l := scan sum (s.length + 1) n (s.drop u)
      some ⟨k.toNat, g.toNat, n, t, l, u + lens l, decide (u + lens l = s.length)⟩
    else none
  | _ => none
def seg (k g n : Nat) (t : Bs) (l : List Bs) : Bs := head sum k g n t ++ frs sum n l
theorem head_length (k g n : Nat) (t : Bs) : (head sum k g n t).length = 18 + t.length := by unfold head; rw [enc_length]; simp; omega
theorem parse_seg (hs : ∀ a b, sum a b < 4294967296) {k g n : Nat} {t : Bs} {l : List Bs} {j : Nat} (hk : k ≤ 1) (hg : 1 ≤ g ∧ g < 128) (hn : 1 ≤ n ∧ n ≤ 281474976710656) (hkt : k = 0 → t = []) (ht : t.length ≤ 65534) (hl : ∀ x ∈ l, x.length ≤ 65536) (hll : l.length ≤ 4294967296) (hj : 18 + t.length ≤ j) :
    ∃ m, m ≤ l.length ∧ parse sum ((seg sum k g n t l).take j) = some ⟨k, g, n, t, l.take m, 18 + t.length + lens (l.take m), decide (18 + t.length + lens (l.take m) = ((seg sum k g n t l).take j).length)⟩ ∧ 18 + t.length + lens (l.take m) ≤ j ∧ (18 + t.length + lens l ≤ j → m = l.length) ∧ (∀ q, q ≤ l.length → 18 + t.length + lens (l.take q) ≤ j → q ≤ m) := by
  obtain ⟨m, h1, h2, h3, h4, h5⟩ := scan_frs sum hs l hl (max (l.length + 1) (((seg sum k g n t l).take j).length + 1)) n (j - (18 + t.length)) (by omega) (by omega)
  rw [frs_length] at h3 h4
  refine ⟨m, h1, ?_, by omega, fun h => h4 (by omega), fun q hq h => h5 q hq (by rw [frs_length]; omega)⟩
  have e : (seg sum k g n t l).take j = head sum k g n t ++ (frs sum n l).take (j - (18 + t.length)) := by
    unfold seg
    rw [List.take_append, head_length, List.take_of_length_le (by rw [head_length]; omega)]
  have ed : dec sum ((seg sum k g n t l).take j) = some (n, UInt8.ofNat k :: UInt8.ofNat g :: t, 18 + t.length) := by
    rw [e]; unfold head
    rw [dec_enc sum hs (by omega) (by simp; omega)]
    simp; omega
  have hk2 : (UInt8.ofNat k).toNat = k := by simp; omega
  have hg2 : (UInt8.ofNat g).toNat = g := by simp; omega
  have es : scan sum (((seg sum k g n t l).take j).length + 1) n (((seg sum k g n t l).take j).drop (18 + t.length)) = l.take m := by
    rw [← h2, e, List.drop_append_of_le_length (by rw [head_length]; omega), List.drop_of_length_le (by rw [head_length]; omega), List.nil_append]
    refine scan_fuel sum _ _ _ _ ?_ ?_
    · rw [List.length_append]; omega
    · have : (head sum k g n t ++ (frs sum n l).take (j - (18 + t.length))).length + 1 ≤ max (l.length + 1) ((head sum k g n t ++ (frs sum n l).take (j - (18 + t.length))).length + 1) := Nat.le_max_right ..
      rw [List.length_append] at this ⊢; omega
  unfold parse
  rw [ed]
  simp only [hk2, hg2]
  rw [if_pos ⟨hk, hg.1, hn.1, hn.2, hkt⟩, es]
end
-- segment.Row: the chain from a segment on: while it is whole, the least one left that goes on where it ends
section
variable (fi nx : Nat → Nat) (wh : Nat → Bool)
end
end Wl

namespace Go.Proofs.Ytniflkggcceagaa
open Go Go.RowKit
theorem str_bytes (w : World) (s : List UInt8) : ∃ W1 cap, (convert 9 53 (.string (bs s))).run Try.prog w = .ok (.slice (some ⟨w.heap.size, 0, none⟩) (bs s).size cap) W1 ∧ Below w.heap.size w W1 ∧ w.heap.size < W1.heap.size ∧ ∀ j, j < s.length → W1.cell? ⟨w.heap.size, j, none⟩ = some (.int .u8 ((s.getD j 0).toNat : Int)) := by
  refine ⟨_, _, run_bytes_of_string w 9 53 5 (bs s) Try.underlying9 Try.underlying53 Try.underlying5, ?_, ?_, fun j hj => ?_⟩
  · exact (⟨rfl, rfl, rfl, Nat.le_refl _, fun _ _ => rfl⟩ : Below w.heap.size w w.drew).alloc (Nat.le_refl _) _
  · show _ < (w.heap.push _).size
    simp
  · have hj' : j < (bs s).data.size := by simpa [bs] using hj
    have := bytesRow_at (bs s) (grownCap w (bs s).size 0 5) j hj'
    rw [show (w.drew.alloc (.cells (bytesRow (bs s) (grownCap w (bs s).size 0 5)) 5 ((bytesRow (bs s) (grownCap w (bs s).size 0 5)).size, (bytesRow (bs s) (grownCap w (bs s).size 0 5)).size + 1))).cell? ⟨w.heap.size, j, none⟩ = (bytesRow (bs s) (grownCap w (bs s).size 0 5))[j]? from World.cell?_alloc_mark w.drew _ _ _ _, this]
    simp [bs, List.getD_eq_getElem?_getD, List.getElem?_eq_getElem hj]

def crcBit (m : Int) : Int := bits BinOp.xor IntKind.u32 (m / 2) (3988292384 * bits BinOp.and IntKind.u32 m 1 % 4294967296)
def crcBits : Nat → Int → Int
  | 0, m => m
  | k + 1, m => crcBit (crcBits k m)
def crcByte (m : Int) (x : UInt8) : Int := crcBits 8 (bits BinOp.xor IntKind.u32 m (x.toNat : Int))
def crcF (c : Nat) (s : List UInt8) : Int := bits BinOp.xor IntKind.u32 IntKind.u32.max (s.foldl crcByte (bits BinOp.xor IntKind.u32 IntKind.u32.max (c : Int)))
theorem bits_u32 (o : BinOp) (a b : Int) : 0 ≤ bits o .u32 a b ∧ bits o .u32 a b < 4294967296 := by
  unfold bits; rw [IntKind.wrap_u32]; omega
def crcN (c : Nat) (s : List UInt8) : Nat := (crcF c s).toNat
theorem crcN_lt (c : Nat) (s : List UInt8) : crcN c s < 4294967296 := by
  have := bits_u32 BinOp.xor IntKind.u32.max (s.foldl crcByte (bits BinOp.xor IntKind.u32 IntKind.u32.max (c : Int)))
  unfold crcN crcF; omega
theorem crcN_eq (c : Nat) (s : List UInt8) : (crcN c s : Int) = crcF c s := by
  have := bits_u32 BinOp.xor IntKind.u32.max (s.foldl crcByte (bits BinOp.xor IntKind.u32 IntKind.u32.max (c : Int)))
  unfold crcN crcF; omega
def sumF (a b : List UInt8) : Nat := crcN (crcN 0 a) b
theorem sumF_lt (a b : List UInt8) : sumF a b < 4294967296 := crcN_lt _ _
theorem take_fold {α : Type} (f : α → UInt8 → α) (a : α) (s : List UInt8) (k : Nat) (hk : k < s.length) : (s.take (k + 1)).foldl f a = f ((s.take k).foldl f a) (s.getD k 0) := by
  rw [List.take_succ_eq_append_getElem hk, List.foldl_append, List.getD_eq_getElem?_getD, List.getElem?_eq_getElem hk]; rfl

set_option maxRecDepth 100000 in
set_option maxHeartbeats 2000000 in
theorem crc_More (c : Nat) (s : List UInt8) (_hc : c < 4294967296) (hs : s.length ≤ 1000000) (w : World) :
    Calls Try.prog 73 #[.int .u32 (c : Int), .string (bs s)] w fun e w' => e = .returned (.int .u32 (crcN c s : Int)) ∧ Below w.heap.size w w' := by
  obtain ⟨W1, cap, hcv, hb1, hl1, hcells⟩ := str_bytes w s
  rw [crcN_eq]
  obtain ⟨L, hL⟩ : ∃ L, s.length = L := ⟨_, rfl⟩
  rw [bs_size, hL] at hcv
  rw [hL] at hcells hs
  have HC := Lib.hid hcells; have HL := Lib.hid hL; have HB := Lib.hid hb1
  clear hcells hL hb1
  go_enter Try.func73, Try.ntmps73
  go_wp2_with fail
  go_loopw [0, 12] (fun v0 i wr => ∃ (k : Nat) (m : Int), k ≤ L ∧ i = .int .i64 k ∧ v0 = .int .u32 m ∧ Hid (m = (s.take k).foldl crcByte (bits BinOp.xor IntKind.u32 IntKind.u32.max (c : Int))) ∧ wr = W1) (fun _ i _ => L - (intOf i).toNat)
  case atStart => exact ⟨0, _, by omega, rfl, rfl, Lib.hid rfl, rfl⟩
  case round =>
    obtain ⟨k, m, hk, rfl, rfl, HM, rfl⟩ := hrel
    by_cases hlt : k < L
    · have hkc := HC.out k hlt
      obtain ⟨x, hx⟩ : ∃ x, s.getD k 0 = x := ⟨_, rfl⟩
      rw [hx] at hkc
      have HX := Lib.hid hx
      clear hx
      obtain ⟨y, hy⟩ : ∃ y : Int, (x.toNat : Int) = y := ⟨_, rfl⟩
      rw [hy] at hkc
      have hyw : IntKind.u32.wrap y = y := by rw [IntKind.wrap_u32]; have := x.toNat_lt; omega
      have HY := Lib.hid hy
      clear hy
      go_wp2
      go_loopw [0, 20] (fun v0 i wq => ∃ (q : Nat) (m2 : Int), q ≤ 8 ∧ i = .int .i64 q ∧ v0 = .int .u32 m2 ∧ Hid (m2 = crcBits q (bits BinOp.xor IntKind.u32 m y)) ∧ wq = wr) (fun _ i _ => 8 - (intOf i).toNat)
      case atStart => exact ⟨0, _, by omega, rfl, rfl, Lib.hid rfl, rfl⟩
      case round =>
        obtain ⟨q, m2, hq, rfl, rfl, HM2, rfl⟩ := hrel
        by_cases hlq : q < 8
        · go_wp2
          go_roundw
          case rel => exact ⟨q + 1, _, by omega, by go_num, rfl, Lib.hid (by rw [HM2.out]; rfl), trivial⟩
          case measure => simp [intOf]; omega
        · obtain rfl : q = 8 := by omega
          go_wp2
          go_roundw
          case rel => exact ⟨k + 1, _, by omega, by go_num, rfl, Lib.hid (by rw [take_fold _ _ _ _ (by rw [HL.out]; exact hlt), HX.out, ← HM.out, HM2.out]; unfold crcByte; rw [HY.out]), trivial⟩
          case measure => simp [intOf]; omega
    · obtain rfl : k = L := by omega
      go_wp2
      go_ret
      refine ⟨?_, HB.out⟩
      rw [HM.out, ← HL.out, List.take_length]
      rfl
theorem crc_Sum (s : List UInt8) (hs : s.length ≤ 1000000) (w : World) :
    Calls Try.prog 74 #[.string (bs s)] w fun e w' => e = .returned (.int .u32 (crcN 0 s : Int)) ∧ Below w.heap.size w w' := by
  have H := Lib.hid (crc_More 0 s (by decide) hs w)
  go_enter Try.func74, Try.ntmps74
  go_wp2_with fail
  refine H.out.mono ?_
  rintro e w' ⟨rfl, hb⟩
  have Hb := Lib.hid hb; clear hb
  go_wp2_with fail
  go_ret
  exact ⟨rfl, Hb.out⟩

theorem num_take (s : List UInt8) (k : Nat) (hk : k < s.length) : Wl.num (s.take (k + 1)) = Wl.num (s.take k) * 256 + (s.getD k 0).toNat := take_fold _ _ _ _ hk
theorem num_bound (s : List UInt8) : Wl.num s < 256 ^ s.length := by
  unfold Wl.num
  have : ∀ (l : List UInt8) (a : Nat), l.foldl (fun n c => n * 256 + c.toNat) a < (a + 1) * 256 ^ l.length := by
    intro l
    induction l with
    | nil => intro a; simp
    | cons x l ih =>
      intro a
      have h1 := ih (a * 256 + x.toNat)
      have := x.toNat_lt
      refine Nat.lt_of_lt_of_le h1 ?_
      rw [List.length_cons, Nat.pow_succ, Nat.mul_comm (256 ^ l.length) 256, ← Nat.mul_assoc]
      exact Nat.mul_le_mul_right _ (by omega)
  simpa using this s 0
set_option maxRecDepth 100000 in
set_option maxHeartbeats 2000000 in
theorem frame_number (s : List UInt8) (hs : s.length ≤ 8) (w : World) :
    Calls Try.prog 78 #[.string (bs s)] w fun e w' => e = .returned (.int .u64 (Wl.num s : Int)) ∧ Below w.heap.size w w' := by
  obtain ⟨W1, cap, hcv, hb1, hl1, hcells⟩ := str_bytes w s
  obtain ⟨L, hL⟩ : ∃ L, s.length = L := ⟨_, rfl⟩
  rw [bs_size, hL] at hcv
  rw [hL] at hcells hs
  have HC := Lib.hid hcells; have HL := Lib.hid hL; have HB := Lib.hid hb1
  clear hcells hL hb1
  go_enter Try.func78, Try.ntmps78
  go_wp2_with fail
  go_loopw [2, 8] (fun v0 i wr => ∃ (k : Nat) (m : Nat), k ≤ L ∧ i = .int .i64 k ∧ v0 = .int .u64 m ∧ Hid (m = Wl.num (s.take k)) ∧ wr = W1) (fun _ i _ => L - (intOf i).toNat)
  case atStart => exact ⟨0, 0, by omega, rfl, rfl, Lib.hid (by simp [Wl.num]), rfl⟩
  case round =>
    obtain ⟨k, m, hk, rfl, rfl, HM, rfl⟩ := hrel
    by_cases hlt : k < L
    · have hkc := HC.out k hlt
      have hn := num_take s k (by rw [HL.out]; exact hlt)
      have hb := num_bound (s.take k)
      rw [← HM.out] at hn hb
      obtain ⟨x, hx⟩ : ∃ x, (s.getD k 0).toNat = x := ⟨_, rfl⟩
      have hx2 : x < 256 := by rw [← hx]; exact (s.getD k 0).toNat_lt
      rw [hx] at hkc hn
      have hm : m < 72057594037927936 := by
        refine Nat.lt_of_lt_of_le hb ?_
        exact Nat.le_trans (Nat.pow_le_pow_right (n := 256) (by decide) (show _ ≤ 7 by simp; omega)) (by decide)
      have eor : bits .or .u64 ((m : Int) * 256) (x : Int) = ((m * 256 + x : Nat) : Int) := by
        rw [show (m : Int) * 256 = ((m * 256 : Nat) : Int) by omega, u64_or_nat _ _ (by omega) (by omega), nat_join 8 (m * 256) x (by omega) hx2]
      have HN := Lib.hid hn; have EOR := Lib.hid eor
      clear hn hb hx eor
      go_wp2
      go_roundw
      case rel => exact ⟨k + 1, _, by omega, by go_num, congrArg _ EOR.out, Lib.hid HN.out.symm, trivial⟩
      case measure => simp [intOf]; omega
    · obtain rfl : k = L := by omega
      go_wp2
      go_ret
      refine ⟨?_, HB.out⟩
      rw [HM.out, ← HL.out, List.take_length]
      rfl
end Go.Proofs.Ytniflkggcceagaa

namespace Go.Proofs.Ytniflkggcceagaa
open Go Go.RowKit
def hdC (n N k : Nat) : Array Value := #[if 0 < k then (.int .u8 ((n / 16777216 % 256 : Nat) : Int)) else .int .u8 0, if 1 < k then (.int .u8 ((n / 65536 % 256 : Nat) : Int)) else .int .u8 0, if 2 < k then (.int .u8 ((n / 256 % 256 : Nat) : Int)) else .int .u8 0, if 3 < k then (.int .u8 ((n / 1 % 256 : Nat) : Int)) else .int .u8 0, if 4 < k then (.int .u8 ((N / 72057594037927936 % 256 : Nat) : Int)) else .int .u8 0, if 5 < k then (.int .u8 ((N / 281474976710656 % 256 : Nat) : Int)) else .int .u8 0, if 6 < k then (.int .u8 ((N / 1099511627776 % 256 : Nat) : Int)) else .int .u8 0, if 7 < k then (.int .u8 ((N / 4294967296 % 256 : Nat) : Int)) else .int .u8 0, if 8 < k then (.int .u8 ((N / 16777216 % 256 : Nat) : Int)) else .int .u8 0, if 9 < k then (.int .u8 ((N / 65536 % 256 : Nat) : Int)) else .int .u8 0, if 10 < k then (.int .u8 ((N / 256 % 256 : Nat) : Int)) else .int .u8 0, if 11 < k then (.int .u8 ((N / 1 % 256 : Nat) : Int)) else .int .u8 0]
def hdL (n N : Nat) : List Nat := [n / 16777216 % 256, n / 65536 % 256, n / 256 % 256, n / 1 % 256, N / 72057594037927936 % 256, N / 281474976710656 % 256, N / 1099511627776 % 256, N / 4294967296 % 256, N / 16777216 % 256, N / 65536 % 256, N / 256 % 256, N / 1 % 256]
theorem hdL_eq (n N : Nat) : strOfNums ((hdL n N).map Int.ofNat) = bs (Wl.be 4 n ++ Wl.be 8 N) := by
  refine ba_ext ?_
  have h : ∀ m : Nat, UInt8.ofNat ((m : Int) % 256).toNat = UInt8.ofNat m := fun m => by
    rw [show ((m : Int) % 256).toNat = m % 256 by omega]
    exact UInt8.toNat_inj.1 (by simp)
  have h2 : ∀ m k : Nat, UInt8.ofNat ((m : Int) / (k : Int) % 256).toNat = UInt8.ofNat (m / k) := fun m k => by
    rw [show (m : Int) / (k : Int) = ((m / k : Nat) : Int) by simp]; exact h _
  simp [strOfNums, hdL, Wl.be, bs, Nat.div_div_eq_div_mul, h]
  refine ⟨h2 n 16777216, h2 n 65536, h2 n 256, h2 N 72057594037927936, h2 N 281474976710656, h2 N 1099511627776, h2 N 4294967296, h2 N 16777216, h2 N 65536, h2 N 256⟩
set_option maxRecDepth 100000 in
set_option maxHeartbeats 4000000 in
theorem frame_head (N : Nat) (t : List UInt8) (hN : N < 18446744073709551616) (ht : t.length ≤ 65536) (w : World) :
    Calls Try.prog 72 #[.agg #[.int .u64 (N : Int), .string (bs t)]] w fun e w' => e = .returned (.string (bs (Wl.hd N t))) ∧ Below w.heap.size w w' := by
  unfold Wl.hd
  obtain ⟨n, hn⟩ : ∃ n, t.length = n := ⟨_, rfl⟩
  have hsz : (bs t).size = n := by rw [bs_size, hn]
  rw [hn] at ht ⊢
  clear hn
  have hnw : IntKind.u64.wrap (n : Int) = (n : Int) := by rw [IntKind.wrap_u64]; omega
  go_enter Try.func72, Try.ntmps72
  go_upto_region 3 with fail
  refine wp_abs (F := fun W => Hid (One (w.heap.size + 1) (hdC n N 0) W) ∧ Hid (Below w.heap.size w W) ∧ W.cell? ⟨w.heap.size, 0, none⟩ = some (.int .u64 (N : Int)) ∧ w.heap.size + 1 < W.heap.size) ?_ ?_
  · have hb0 : Below w.heap.size w (w.alloc (.cells #[.int .u64 (N : Int), .string (bs t)] 93)) := (Below.refl _ _).alloc (Nat.le_refl _) _
    refine ⟨Lib.hid ?_, Lib.hid (hb0.alloc (by simp) _), ?_, by simp⟩
    · have := One.of (w.alloc (.cells #[.int .u64 (N : Int), .string (bs t)] 93)) (hdC n N 0) 135
      rw [show (w.alloc (.cells #[.int .u64 (N : Int), .string (bs t)] 93)).heap.size = w.heap.size + 1 by simp] at this
      exact this
    · rw [World.cell?_alloc_past _ _ _ (by simp), World.cell?_alloc_mark]; rfl
  rintro W0 ⟨HO, Hb0, hcN, hlt0⟩
  go_wp2
  go_loopw [11] (fun i wr => ∃ k : Nat, k ≤ 4 ∧ i = .int .i64 k ∧ Hid (One (w.heap.size + 1) (hdC n N k) wr) ∧ Hid (Below (w.heap.size + 1) W0 wr)) (fun i _ => 4 - (intOf i).toNat)
  case atStart => exact ⟨0, by omega, rfl, HO, Lib.hid (Below.refl _ _)⟩
  case round =>
    clear HO
    obtain ⟨k, hk, rfl, HO, Hbw⟩ := hrel
    rcases (show k = 0 ∨ k = 1 ∨ k = 2 ∨ k = 3 ∨ k = 4 by omega) with rfl | rfl | rfl | rfl | rfl
    · have cj : wr.cell? ⟨w.heap.size + 1, 0, none⟩ = some (.int .u8 0) := by rw [HO.out.c]; rfl
      have fj := HO.out.f 0
      have HN : Hid (One (w.heap.size + 1) (hdC n N 1) (wr.setCell ⟨w.heap.size + 1, 0, none⟩ (.int .u8 ((n : Int) / 16777216)))) := Lib.hid (by
        rw [show (n : Int) / 16777216 = ((n / 16777216 % 256 : Nat) : Int) by omega]; exact HO.out.set (i := 0) (by show 0 < 12; decide) _)
      go_wp2
      go_roundw
      case rel => exact ⟨1, by omega, by rfl, HN, Lib.hid (Hbw.out.setCell (Nat.le_refl _) _)⟩
      case measure => simp [intOf]
    · have cj : wr.cell? ⟨w.heap.size + 1, 1, none⟩ = some (.int .u8 0) := by rw [HO.out.c]; rfl
      have fj := HO.out.f 1
      have HN : Hid (One (w.heap.size + 1) (hdC n N 2) (wr.setCell ⟨w.heap.size + 1, 1, none⟩ (.int .u8 ((n : Int) / 65536)))) := Lib.hid (by
        rw [show (n : Int) / 65536 = ((n / 65536 % 256 : Nat) : Int) by omega]; exact HO.out.set (i := 1) (by show 1 < 12; decide) _)
      go_wp2
      go_roundw
      case rel => exact ⟨2, by omega, by rfl, HN, Lib.hid (Hbw.out.setCell (Nat.le_refl _) _)⟩
      case measure => simp [intOf]
    · have cj : wr.cell? ⟨w.heap.size + 1, 2, none⟩ = some (.int .u8 0) := by rw [HO.out.c]; rfl
      have fj := HO.out.f 2
      have HN : Hid (One (w.heap.size + 1) (hdC n N 3) (wr.setCell ⟨w.heap.size + 1, 2, none⟩ (.int .u8 ((n : Int) / 256 % 256)))) := Lib.hid (by
        rw [show (n : Int) / 256 % 256 = ((n / 256 % 256 : Nat) : Int) by omega]; exact HO.out.set (i := 2) (by show 2 < 12; decide) _)
      go_wp2
      go_roundw
      case rel => exact ⟨3, by omega, by rfl, HN, Lib.hid (Hbw.out.setCell (Nat.le_refl _) _)⟩
      case measure => simp [intOf]
    · have cj : wr.cell? ⟨w.heap.size + 1, 3, none⟩ = some (.int .u8 0) := by rw [HO.out.c]; rfl
      have fj := HO.out.f 3
      have HN : Hid (One (w.heap.size + 1) (hdC n N 4) (wr.setCell ⟨w.heap.size + 1, 3, none⟩ (.int .u8 ((n : Int) % 256)))) := Lib.hid (by
        rw [show (n : Int) % 256 = ((n / 1 % 256 : Nat) : Int) by omega]; exact HO.out.set (i := 3) (by show 3 < 12; decide) _)
      go_wp2
      go_roundw
      case rel => exact ⟨4, by omega, by rfl, HN, Lib.hid (Hbw.out.setCell (Nat.le_refl _) _)⟩
      case measure => simp [intOf]
    · go_wp2
      obtain ⟨W4, hW4⟩ : ∃ W4, W4 = wr := ⟨_, rfl⟩
      rw [← hW4]
      rw [← hW4] at HO Hbw
      clear hW4
      go_loopw [23] (fun i wr => ∃ k : Nat, k ≤ 8 ∧ i = .int .i64 k ∧ Hid (One (w.heap.size + 1) (hdC n N (k + 4)) wr) ∧ Hid (Below (w.heap.size + 1) W4 wr)) (fun i _ => 8 - (intOf i).toNat)
      case atStart => exact ⟨0, by omega, rfl, HO, Lib.hid (Below.refl _ _)⟩
      case round =>
        have Hb4 := Hbw
        clear HO Hbw
        obtain ⟨k, hk, rfl, HO, Hbw⟩ := hrel
        have cN : wr.cell? ⟨w.heap.size, 0, none⟩ = some (.int .u64 (N : Int)) := (Hbw.out.cell (p := ⟨w.heap.size, 0, none⟩) (by show w.heap.size < w.heap.size + 1; omega)).trans ((Hb4.out.cell (p := ⟨w.heap.size, 0, none⟩) (by show w.heap.size < w.heap.size + 1; omega)).trans hcN)
        rcases (show k = 0 ∨ k = 1 ∨ k = 2 ∨ k = 3 ∨ k = 4 ∨ k = 5 ∨ k = 6 ∨ k = 7 ∨ k = 8 by omega) with rfl | rfl | rfl | rfl | rfl | rfl | rfl | rfl | rfl
        · have cj : wr.cell? ⟨w.heap.size + 1, 4, none⟩ = some (.int .u8 0) := by rw [HO.out.c]; rfl
          have fj := HO.out.f 4
          have HN : Hid (One (w.heap.size + 1) (hdC n N 5) (wr.setCell ⟨w.heap.size + 1, 4, none⟩ (.int .u8 ((N : Int) / 72057594037927936)))) := Lib.hid (by
            rw [show (N : Int) / 72057594037927936 = ((N / 72057594037927936 % 256 : Nat) : Int) by omega]; exact HO.out.set (i := 4) (by show 4 < 12; decide) _)
          go_wp2
          go_roundw
          case rel => exact ⟨1, by omega, by rfl, HN, Lib.hid (Hbw.out.setCell (Nat.le_refl _) _)⟩
          case measure => simp [intOf]
        · have cj : wr.cell? ⟨w.heap.size + 1, 5, none⟩ = some (.int .u8 0) := by rw [HO.out.c]; rfl
          have fj := HO.out.f 5
          have HN : Hid (One (w.heap.size + 1) (hdC n N 6) (wr.setCell ⟨w.heap.size + 1, 5, none⟩ (.int .u8 ((N : Int) / 281474976710656 % 256)))) := Lib.hid (by
            rw [show (N : Int) / 281474976710656 % 256 = ((N / 281474976710656 % 256 : Nat) : Int) by omega]; exact HO.out.set (i := 5) (by show 5 < 12; decide) _)
          go_wp2
          go_roundw
          case rel => exact ⟨2, by omega, by rfl, HN, Lib.hid (Hbw.out.setCell (Nat.le_refl _) _)⟩
          case measure => simp [intOf]
        · have cj : wr.cell? ⟨w.heap.size + 1, 6, none⟩ = some (.int .u8 0) := by rw [HO.out.c]; rfl
          have fj := HO.out.f 6
          have HN : Hid (One (w.heap.size + 1) (hdC n N 7) (wr.setCell ⟨w.heap.size + 1, 6, none⟩ (.int .u8 ((N : Int) / 1099511627776 % 256)))) := Lib.hid (by
            rw [show (N : Int) / 1099511627776 % 256 = ((N / 1099511627776 % 256 : Nat) : Int) by omega]; exact HO.out.set (i := 6) (by show 6 < 12; decide) _)
          go_wp2
          go_roundw
          case rel => exact ⟨3, by omega, by rfl, HN, Lib.hid (Hbw.out.setCell (Nat.le_refl _) _)⟩
          case measure => simp [intOf]
        · have cj : wr.cell? ⟨w.heap.size + 1, 7, none⟩ = some (.int .u8 0) := by rw [HO.out.c]; rfl
          have fj := HO.out.f 7
          have HN : Hid (One (w.heap.size + 1) (hdC n N 8) (wr.setCell ⟨w.heap.size + 1, 7, none⟩ (.int .u8 ((N : Int) / 4294967296 % 256)))) := Lib.hid (by
            rw [show (N : Int) / 4294967296 % 256 = ((N / 4294967296 % 256 : Nat) : Int) by omega]; exact HO.out.set (i := 7) (by show 7 < 12; decide) _)
          go_wp2
          go_roundw
          case rel => exact ⟨4, by omega, by rfl, HN, Lib.hid (Hbw.out.setCell (Nat.le_refl _) _)⟩
          case measure => simp [intOf]
        · have cj : wr.cell? ⟨w.heap.size + 1, 8, none⟩ = some (.int .u8 0) := by rw [HO.out.c]; rfl
          have fj := HO.out.f 8
          have HN : Hid (One (w.heap.size + 1) (hdC n N 9) (wr.setCell ⟨w.heap.size + 1, 8, none⟩ (.int .u8 ((N : Int) / 16777216 % 256)))) := Lib.hid (by
            rw [show (N : Int) / 16777216 % 256 = ((N / 16777216 % 256 : Nat) : Int) by omega]; exact HO.out.set (i := 8) (by show 8 < 12; decide) _)
          go_wp2
          go_roundw
          case rel => exact ⟨5, by omega, by rfl, HN, Lib.hid (Hbw.out.setCell (Nat.le_refl _) _)⟩
          case measure => simp [intOf]
        · have cj : wr.cell? ⟨w.heap.size + 1, 9, none⟩ = some (.int .u8 0) := by rw [HO.out.c]; rfl
          have fj := HO.out.f 9
          have HN : Hid (One (w.heap.size + 1) (hdC n N 10) (wr.setCell ⟨w.heap.size + 1, 9, none⟩ (.int .u8 ((N : Int) / 65536 % 256)))) := Lib.hid (by
            rw [show (N : Int) / 65536 % 256 = ((N / 65536 % 256 : Nat) : Int) by omega]; exact HO.out.set (i := 9) (by show 9 < 12; decide) _)
          go_wp2
          go_roundw
          case rel => exact ⟨6, by omega, by rfl, HN, Lib.hid (Hbw.out.setCell (Nat.le_refl _) _)⟩
          case measure => simp [intOf]
        · have cj : wr.cell? ⟨w.heap.size + 1, 10, none⟩ = some (.int .u8 0) := by rw [HO.out.c]; rfl
          have fj := HO.out.f 10
          have HN : Hid (One (w.heap.size + 1) (hdC n N 11) (wr.setCell ⟨w.heap.size + 1, 10, none⟩ (.int .u8 ((N : Int) / 256 % 256)))) := Lib.hid (by
            rw [show (N : Int) / 256 % 256 = ((N / 256 % 256 : Nat) : Int) by omega]; exact HO.out.set (i := 10) (by show 10 < 12; decide) _)
          go_wp2
          go_roundw
          case rel => exact ⟨7, by omega, by rfl, HN, Lib.hid (Hbw.out.setCell (Nat.le_refl _) _)⟩
          case measure => simp [intOf]
        · have cj : wr.cell? ⟨w.heap.size + 1, 11, none⟩ = some (.int .u8 0) := by rw [HO.out.c]; rfl
          have fj := HO.out.f 11
          have HN : Hid (One (w.heap.size + 1) (hdC n N 12) (wr.setCell ⟨w.heap.size + 1, 11, none⟩ (.int .u8 ((N : Int) % 256)))) := Lib.hid (by
            rw [show (N : Int) % 256 = ((N / 1 % 256 : Nat) : Int) by omega]; exact HO.out.set (i := 11) (by show 11 < 12; decide) _)
          go_wp2
          go_roundw
          case rel => exact ⟨8, by omega, by rfl, HN, Lib.hid (Hbw.out.setCell (Nat.le_refl _) _)⟩
          case measure => simp [intOf]
        · have hcv := run_convert_bytes_arg (P := Try.prog) wr 53 5 Try.underlying53 Try.underlying5 (w.heap.size + 1) 0 12 12 ((hdL n N).map Int.ofNat) (by simp [hdL]) (fun i hi => by
            rw [HO.out.c, Nat.zero_add]
            rcases (show i = 0 ∨ i = 1 ∨ i = 2 ∨ i = 3 ∨ i = 4 ∨ i = 5 ∨ i = 6 ∨ i = 7 ∨ i = 8 ∨ i = 9 ∨ i = 10 ∨ i = 11 by omega) with rfl | rfl | rfl | rfl | rfl | rfl | rfl | rfl | rfl | rfl | rfl | rfl <;> rfl) 9 Try.underlying9
          rw [hdL_eq] at hcv
          go_wp2
          go_ret
          exact ⟨rfl, Hb0.out.trans ((Hb4.out.trans Hbw.out).mono (by omega))⟩
end Go.Proofs.Ytniflkggcceagaa

namespace Go.Proofs.Ytniflkggcceagaa
open Go Go.RowKit
set_option maxRecDepth 100000 in
set_option maxHeartbeats 4000000 in
theorem frame_Encode (N : Nat) (t : List UInt8) (hN : N < 18446744073709551616) (ht : t.length ≤ 65536) (w : World) :
    Calls Try.prog 53 #[.agg #[.int .u64 (N : Int), .string (bs t)]] w fun e w' => e = .returned (.tuple #[.string (bs (Wl.enc sumF N t)), .int .i64 0]) ∧ Below w.heap.size w w' := by
  have hlen : ((bs t).size : Int) ≤ 65536 := by rw [bs_size]; omega
  have hlb : decide (((bs t).size : Int) > 65536) = false := by simp; omega
  go_enter Try.func53, Try.ntmps53
  go_upto_region 3 with fail
  refine wp_abs (F := fun W => Hid (Below w.heap.size w W) ∧ W.cell? ⟨w.heap.size, 0, none⟩ = some (.int .u64 (N : Int)) ∧ W.cell? ⟨w.heap.size, 1, none⟩ = some (.string (bs t)) ∧ w.heap.size < W.heap.size) ?_ ?_
  · refine ⟨Lib.hid ((Below.refl _ _).alloc (Nat.le_refl _) _), ?_, ?_, by simp⟩
    · rw [World.cell?_alloc_mark]; rfl
    · rw [World.cell?_alloc_mark]; rfl
  rintro W0 ⟨Hb0, c0, c1, hl0⟩
  have HH := Lib.hid (frame_head N t hN ht W0)
  go_wp2_with fail
  refine HH.out.mono ?_
  rintro e w1 ⟨rfl, hb1⟩
  have d1 : w1.cell? ⟨w.heap.size, 1, none⟩ = some (.string (bs t)) := (hb1.cell (p := ⟨w.heap.size, 1, none⟩) hl0).trans c1
  have HB1 : Hid (Below w.heap.size w w1) := Lib.hid (Hb0.out.trans (hb1.mono Hb0.out.size))
  have hl1 := hb1.size
  obtain ⟨H, hH⟩ : ∃ H, Wl.hd N t = H := ⟨_, rfl⟩
  have hHl : H.length = 12 := by rw [← hH]; exact Wl.hd_length _ _
  have HHH := Lib.hid hH
  have HHL := Lib.hid hHl
  rw [hH]
  clear hb1 HH hH hHl
  go_upto_region 4 with fail
  have HS1 : Hid (∀ W, Calls Try.prog 74 #[.string (bs H)] W fun e w' => e = .returned (.int .u32 (crcN 0 H : Int)) ∧ Below W.heap.size W w') := Lib.hid (fun W => crc_Sum H (by rw [HHL.out]; omega) W)
  have HS2 : Hid (∀ W, Calls Try.prog 73 #[.int .u32 (crcN 0 H : Int), .string (bs t)] W fun e w' => e = .returned (.int .u32 (sumF H t : Int)) ∧ Below W.heap.size W w') := Lib.hid (fun W => crc_More (crcN 0 H) t (crcN_lt _ _) (by omega) W)
  have hz := sumF_lt H t
  obtain ⟨z1, hz1⟩ : ∃ z1, crcN 0 H = z1 := ⟨_, rfl⟩
  rw [hz1] at HS1 HS2
  obtain ⟨z, hzz⟩ : ∃ z, sumF H t = z := ⟨_, rfl⟩
  rw [hzz] at HS2 hz
  have HZ := Lib.hid hzz
  clear hz1 hzz
  refine wp_region_quiet (C := fun W => Hid (Below w1.heap.size w1 W)) (by kernel_rfl) (by kernel_rfl) (Lib.hid (Below.drew (Below.refl _ _))) ?_
  refine (quiet_plain' ?_ (.string (bs H)) (fun w' hw' => ?_) ?_ : _)
  · exact rfl
  · go_simp
  go_frame
  refine (quiet_call' ?_ (.int .u32 (z1 : Int)) 74 #[.string (bs H)] (fun w' hw' => ⟨?_, ?_⟩) ?_ : _)
  · exact rfl
  · have y1 := (hw'.out.cell (p := ⟨w.heap.size, 1, none⟩) (by show w.heap.size < _; omega)).trans d1
    go_simp
  · exact (HS1.out w').mono (fun e wz h => ⟨h.1, Lib.hid (hw'.out.trans (h.2.mono hw'.out.size))⟩)
  go_frame
  refine (quiet_plain' ?_ (.pointer (some ⟨w.heap.size, 1, none⟩)) (fun w' hw' => ?_) ?_ : _)
  · exact rfl
  · go_simp
  go_frame
  refine (quiet_plain' ?_ (.string (bs t)) (fun w' hw' => ?_) ?_ : _)
  · exact rfl
  · have y1 := (hw'.out.cell (p := ⟨w.heap.size, 1, none⟩) (by show w.heap.size < _; omega)).trans d1
    go_simp
  go_frame
  refine (quiet_call' ?_ (.int .u32 (z : Int)) 73 #[.int .u32 (z1 : Int), .string (bs t)] (fun w' hw' => ⟨?_, ?_⟩) ?_ : _)
  · exact rfl
  · have y1 := (hw'.out.cell (p := ⟨w.heap.size, 1, none⟩) (by show w.heap.size < _; omega)).trans d1
    go_simp
  · exact (HS2.out w').mono (fun e wz h => ⟨h.1, Lib.hid (hw'.out.trans (h.2.mono hw'.out.size))⟩)
  go_frame
  refine (quiet_plain' ?_ (.int .u32 (z : Int)) (fun w' hw' => ?_) ?_ : _)
  · exact rfl
  · go_simp
  go_frame
  refine (wpQuiet_nil ?_ : _)
  intro W6 hW6
  have e1 : W6.cell? ⟨w.heap.size, 1, none⟩ = some (.string (bs t)) := (hW6.out.cell (p := ⟨w.heap.size, 1, none⟩) (by show w.heap.size < _; omega)).trans d1
  have hl6 := hW6.out.size
  have e2 : (W6.alloc (.cells #[.int .u8 ((z : Int) / 16777216), .int .u8 ((z : Int) / 65536 % 256), .int .u8 ((z : Int) / 256 % 256), .int .u8 ((z : Int) % 256)] 5)).cell? ⟨w.heap.size, 1, none⟩ = some (.string (bs t)) := by rw [World.cell?_alloc_past _ _ _ (by omega)]; exact e1
  have hcv := run_convert_bytes_arg (P := Try.prog) (W6.alloc (.cells #[.int .u8 ((z : Int) / 16777216), .int .u8 ((z : Int) / 65536 % 256), .int .u8 ((z : Int) / 256 % 256), .int .u8 ((z : Int) % 256)] 5)) 53 5 Try.underlying53 Try.underlying5 W6.heap.size 0 4 4 [(z : Int) / 16777216, (z : Int) / 65536 % 256, (z : Int) / 256 % 256, (z : Int) % 256] (by simp) (fun i hi => by
    rw [World.cell?_alloc_mark]
    rcases (show i = 0 ∨ i = 1 ∨ i = 2 ∨ i = 3 by omega) with rfl | rfl | rfl | rfl <;> rfl) 9 Try.underlying9
  have hz4 : strOfNums [(z : Int) / 16777216, (z : Int) / 65536 % 256, (z : Int) / 256 % 256, (z : Int) % 256] = bs (Wl.be 4 z) := by
    refine ba_ext ?_
    have h : ∀ m : Nat, UInt8.ofNat ((m : Int) % 256).toNat = UInt8.ofNat m := fun m => by
      rw [show ((m : Int) % 256).toNat = m % 256 by omega]
      exact UInt8.toNat_inj.1 (by simp)
    have h2 : ∀ m k : Nat, UInt8.ofNat ((m : Int) / (k : Int) % 256).toNat = UInt8.ofNat (m / k) := fun m k => by
      rw [show (m : Int) / (k : Int) = ((m / k : Nat) : Int) by simp]; exact h _
    simp [strOfNums, Wl.be, bs, Nat.div_div_eq_div_mul, h]
    exact ⟨by rw [← h2 z 16777216]; congr 2; omega, h2 z 65536, h2 z 256⟩
  obtain ⟨Z, hZ⟩ : ∃ Z, strOfNums [(z : Int) / 16777216, (z : Int) / 65536 % 256, (z : Int) / 256 % 256, (z : Int) % 256] = Z := ⟨_, rfl⟩
  rw [hZ] at hcv hz4
  have hZl : Z.size = 4 := by rw [hz4, bs_size, Wl.be_length]
  have j1 : ¬ 9223372036854775807 < (bs H).size + Z.size := by rw [bs_size, HHL.out, hZl]; omega
  have j2 : ¬ 9223372036854775807 < (bs H).size + Z.size + (bs t).size := by rw [bs_size, HHL.out, hZl, bs_size]; omega
  have HZ4 := Lib.hid hz4
  clear hz4 hZl hZ
  go_wp2_with fail
  go_ret2
  have hb : Below w.heap.size w W6 := HB1.out.trans (hW6.out.mono HB1.out.size)
  refine ⟨?_, hb.alloc hb.size _⟩
  have he : bs H ++ Z ++ bs t = bs (Wl.enc sumF N t) := by
    rw [HZ4.out]
    refine ba_ext ?_
    unfold Wl.enc
    rw [HHH.out, HZ.out]
    simp [bs]
  rw [← he]
  rfl
theorem frame_Size (t : List UInt8) (ht : t.length ≤ 1000000) (w : World) :
    Calls Try.prog 71 #[.string (bs t)] w fun e w' => e = .returned (.int .i64 (16 + t.length : Nat)) ∧ w' = w := by
  obtain ⟨n, hn⟩ : ∃ n, t.length = n := ⟨_, rfl⟩
  have hsz : (bs t).size = n := by rw [bs_size, hn]
  rw [hn] at ht ⊢
  clear hn
  go_enter Try.func71, Try.ntmps71
  go_wp2_with fail
  go_ret
  exact ⟨rfl, rfl⟩
theorem bs_extract (l : List UInt8) (a b : Nat) : (bs l).extract a b = bs ((l.drop a).take (b - a)) := by
  refine ba_ext ?_
  simp [bs]

def decErr (s : List UInt8) : Int := if s.length < 16 then 100 else if 65536 < Wl.num (s.take 4) then 5 else if s.length - 16 < Wl.num (s.take 4) then 100 else 101
theorem decErr_ne (s : List UInt8) : decErr s ≠ 0 := by unfold decErr; split <;> (try split) <;> (try split) <;> decide
def DecG (s : List UInt8) (e : Ending) : Prop :=
  (∃ n t u, Wl.dec sumF s = some (n, t, u) ∧ e = .returned (.tuple #[.agg #[.int .u64 (n : Int), .string (bs t)], .int .i64 (u : Int), .int .i64 0])) ∨
  (Wl.dec sumF s = none ∧ e = .returned (.tuple #[.agg #[.int .u64 0, .string ⟨#[]⟩], .int .i64 0, .int .i64 (decErr s)]))
set_option maxRecDepth 100000 in
set_option maxHeartbeats 4000000 in
theorem frame_Decode (s : List UInt8) (hs : s.length ≤ 1000000) (w : World) :
    Calls Try.prog 65 #[.string (bs s)] w fun e w' => DecG s e ∧ Below w.heap.size w w' := by
  have x1 : (bs s).extract 0 4 = bs (s.take 4) := bs_extract s 0 4
  have x2 : (bs s).extract 0 12 = bs (s.take 12) := bs_extract s 0 12
  have x3 : (bs s).extract 12 16 = bs ((s.drop 12).take 4) := bs_extract s 12 16
  have x4 : (bs s).extract 4 12 = bs ((s.drop 4).take 8) := bs_extract s 4 12
  go_enter Try.func65, Try.ntmps65
  go_upto_region 1 with fail
  refine wp_abs (F := fun W => Hid (One w.heap.size #[.int .u64 0, .string ⟨#[]⟩] W) ∧ Hid (Below w.heap.size w W)) ⟨Lib.hid (One.of _ _ _), Lib.hid ((Below.refl _ _).alloc (Nat.le_refl _) _)⟩ ?_
  rintro W0 ⟨HO0, HB0⟩
  have o0 := HO0.out.c 0; have o1 := HO0.out.c 1; have f0 := HO0.out.f 0; have f1 := HO0.out.f 1
  simp at o0 o1
  obtain ⟨n, hn⟩ : ∃ n, s.length = n := ⟨_, rfl⟩
  have hsz : (bs s).size = n := by rw [bs_size, hn]
  have HN := Lib.hid hn
  rw [hn] at hs
  by_cases h16 : n < 16
  · have h1 : decide ((n : Int) < 16) = true := by simp; omega
    have h2 : (n : Int) < 16 := by omega
    go_wp2_with fail
    refine bodyPost_ret (v := .tuple #[.agg #[.int .u64 0, .string ⟨#[]⟩], .int .i64 0, .int .i64 100]) (by simp [results, Try.results65, go_sem, o0, o1]) rfl ⟨Or.inr ⟨?_, ?_⟩, (HB0.out.setCell (Nat.le_refl _) _).setCell (Nat.le_refl _) _⟩
    · unfold Wl.dec; rw [if_pos (by rw [HN.out]; exact h16)]
    · unfold decErr; rw [if_pos (by rw [HN.out]; exact h16)]
  · have h1 : decide ((n : Int) < 16) = false := by simp; omega
    have h2 : ¬ (n : Int) < 16 := by omega
    have HC1 := Lib.hid (frame_number (s.take 4) (by rw [List.length_take]; omega) W0)
    go_wp2_with fail
    refine HC1.out.mono ?_
    rintro e w1 ⟨rfl, hb1⟩
    have hw0 : w.heap.size < W0.heap.size := HO0.out.lt
    have HO1 := Lib.hid (HO0.out.step hb1)
    have HB1 := Lib.hid (HB0.out.trans (hb1.mono HB0.out.size))
    have o0 := HO1.out.c 0; have o1 := HO1.out.c 1; have f0 := HO1.out.f 0; have f1 := HO1.out.f 1
    simp at o0 o1
    clear HC1 hb1 HO0 HB0
    obtain ⟨m, hm⟩ : ∃ m, Wl.num (s.take 4) = m := ⟨_, rfl⟩
    rw [hm]
    have HM := Lib.hid hm
    clear hm hn
    by_cases hbig : 65536 < m
    · have h3 : decide ((m : Int) > 65536) = true := by simp; omega
      have h4 : (65536 : Int) < m := by omega
      go_wp2_with fail
      refine bodyPost_ret (v := .tuple #[.agg #[.int .u64 0, .string ⟨#[]⟩], .int .i64 0, .int .i64 5]) (by simp [results, Try.results65, go_sem, o0, o1]) rfl ⟨Or.inr ⟨?_, ?_⟩, (HB1.out.setCell (Nat.le_refl _) _).setCell (Nat.le_refl _) _⟩
      · unfold Wl.dec; rw [if_neg (by rw [HN.out]; exact h16), if_pos (by rw [HM.out]; exact hbig)]
      · unfold decErr; rw [if_neg (by rw [HN.out]; exact h16), if_pos (by rw [HM.out]; exact hbig)]
    · have h3 : decide ((m : Int) > 65536) = false := by simp; omega
      have h4 : ¬ (65536 : Int) < m := by omega
      have hmw : IntKind.i64.wrap (m : Int) = m := by rw [IntKind.wrap_i64]; omega
      by_cases hsh : n - 16 < m
      · have h5 : decide ((n : Int) - 16 < m) = true := by simp; omega
        have h6 : (n : Int) - 16 < m := by omega
        go_wp2_with fail
        refine bodyPost_ret (v := .tuple #[.agg #[.int .u64 0, .string ⟨#[]⟩], .int .i64 0, .int .i64 100]) (by simp [results, Try.results65, go_sem, o0, o1]) rfl ⟨Or.inr ⟨?_, ?_⟩, (HB1.out.setCell (Nat.le_refl _) _).setCell (Nat.le_refl _) _⟩
        · unfold Wl.dec; rw [if_neg (by rw [HN.out]; exact h16), if_neg (by rw [HM.out]; exact hbig), if_pos (by rw [HM.out, HN.out]; exact hsh)]
        · unfold decErr; rw [if_neg (by rw [HN.out]; exact h16), if_neg (by rw [HM.out]; exact hbig), if_pos (by rw [HM.out, HN.out]; exact hsh)]
      · have h5 : decide ((n : Int) - 16 < m) = false := by simp; omega
        have h6 : ¬ (n : Int) - 16 < m := by omega
        have h7 : (16 : Int) + m ≤ n := by omega
        have x5 : (bs s).extract 16 (16 + m) = bs ((s.drop 16).take m) := by rw [bs_extract, Nat.add_sub_cancel_left]
        go_upto_region 10 with fail
        obtain ⟨T, hT⟩ : ∃ T, (s.drop 16).take m = T := ⟨_, rfl⟩
        have hTl : T.length ≤ 65536 := by rw [← hT, List.length_take]; omega
        have HS1 : Hid (∀ W, Calls Try.prog 74 #[.string (bs (s.take 12))] W fun e w' => e = .returned (.int .u32 (crcN 0 (s.take 12) : Int)) ∧ Below W.heap.size W w') := Lib.hid (fun W => crc_Sum _ (by rw [List.length_take]; omega) W)
        have HS2 : Hid (∀ W, Calls Try.prog 73 #[.int .u32 (crcN 0 (s.take 12) : Int), .string (bs T)] W fun e w' => e = .returned (.int .u32 (sumF (s.take 12) T : Int)) ∧ Below W.heap.size W w') := Lib.hid (fun W => crc_More _ T (crcN_lt _ _) (by omega) W)
        have HS3 : Hid (∀ W, Calls Try.prog 78 #[.string (bs ((s.drop 12).take 4))] W fun e w' => e = .returned (.int .u64 (Wl.num ((s.drop 12).take 4) : Int)) ∧ Below W.heap.size W w') := Lib.hid (fun W => frame_number _ (by rw [List.length_take]; omega) W)
        have hz := sumF_lt (s.take 12) T
        have hq : Wl.num ((s.drop 12).take 4) < 4294967296 := by
          refine Nat.lt_of_lt_of_le (num_bound _) ?_
          exact Nat.le_trans (Nat.pow_le_pow_right (n := 256) (by decide) (show _ ≤ 4 by rw [List.length_take]; omega)) (by decide)
        obtain ⟨z1, hz1⟩ : ∃ z1, crcN 0 (s.take 12) = z1 := ⟨_, rfl⟩
        rw [hz1] at HS1 HS2
        obtain ⟨z, hzz⟩ : ∃ z, sumF (s.take 12) T = z := ⟨_, rfl⟩
        rw [hzz] at HS2 hz
        obtain ⟨q, hqq⟩ : ∃ q, Wl.num ((s.drop 12).take 4) = q := ⟨_, rfl⟩
        rw [hqq] at HS3 hq
        have HZ := Lib.hid hzz; have HQ := Lib.hid hqq; have HT := Lib.hid hT; have HTL := Lib.hid hTl
        rw [hT] at x5
        rw [x5]
        have h9 : ¬ (n : Int) < 12 := by omega
        have h10 : ¬ (n : Int) < 16 := by omega
        have hqw : IntKind.u32.wrap (q : Int) = q := by rw [IntKind.wrap_u32]; omega
        clear hz1 hzz hqq hT hTl
        refine wp_region_quiet (C := fun W => Hid (Below w1.heap.size w1 W)) (by kernel_rfl) (by kernel_rfl) (Lib.hid (Below.drew (Below.refl _ _))) ?_
        refine (quiet_plain' ?_ (.string (bs s)) (fun w' hw' => ?_) ?_ : _)
        · exact rfl
        · go_simp
        go_frame
        refine (quiet_plain' ?_ (.string (bs (s.take 12))) (fun w' hw' => ?_) ?_ : _)
        · exact rfl
        · go_simp
        go_frame
        refine (quiet_call' ?_ (.int .u32 (z1 : Int)) 74 #[.string (bs (s.take 12))] (fun w' hw' => ⟨?_, ?_⟩) ?_ : _)
        · exact rfl
        · skip
          go_simp
        · exact (HS1.out w').mono (fun e wz h => ⟨h.1, Lib.hid (hw'.out.trans (h.2.mono hw'.out.size))⟩)
        go_frame
        refine (quiet_plain' ?_ (.string (bs T)) (fun w' hw' => ?_) ?_ : _)
        · exact rfl
        · go_simp
        go_frame
        refine (quiet_call' ?_ (.int .u32 (z : Int)) 73 #[.int .u32 (z1 : Int), .string (bs T)] (fun w' hw' => ⟨?_, ?_⟩) ?_ : _)
        · exact rfl
        · skip
          go_simp
        · exact (HS2.out w').mono (fun e wz h => ⟨h.1, Lib.hid (hw'.out.trans (h.2.mono hw'.out.size))⟩)
        go_frame
        refine (quiet_plain' ?_ (.string (bs s)) (fun w' hw' => ?_) ?_ : _)
        · exact rfl
        · go_simp
        go_frame
        refine (quiet_plain' ?_ (.string (bs ((s.drop 12).take 4))) (fun w' hw' => ?_) ?_ : _)
        · exact rfl
        · go_simp
        go_frame
        refine (quiet_call' ?_ (.int .u64 (q : Int)) 78 #[.string (bs ((s.drop 12).take 4))] (fun w' hw' => ⟨?_, ?_⟩) ?_ : _)
        · exact rfl
        · skip
          go_simp
        · exact (HS3.out w').mono (fun e wz h => ⟨h.1, Lib.hid (hw'.out.trans (h.2.mono hw'.out.size))⟩)
        go_frame
        refine (quiet_plain' ?_ (.int .u32 (q : Int)) (fun w' hw' => ?_) ?_ : _)
        · exact rfl
        · go_simp
        go_frame
        refine (quiet_plain' ?_ (.bool ((z : Int) != (q : Int))) (fun w' hw' => ?_) ?_ : _)
        · exact rfl
        · go_simp
        go_frame
        refine (wpQuiet_nil ?_ : _)
        intro W6 hW6
        have HO6 := Lib.hid (HO1.out.step hW6.out)
        have HB6 := Lib.hid (HB1.out.trans (hW6.out.mono HB1.out.size))
        have o0 := HO6.out.c 0; have o1 := HO6.out.c 1; have f0 := HO6.out.f 0; have f1 := HO6.out.f 1
        simp at o0 o1
        by_cases hne : z = q
        · have h8 : ((z : Int) != (q : Int)) = false := by simp; omega
          have HC6 := Lib.hid (frame_number ((s.drop 4).take 8) (by rw [List.length_take]; omega) W6)
          obtain ⟨u, hu⟩ : ∃ u, 16 + m = u := ⟨_, rfl⟩
          have hui : (16 : Int) + (m : Int) = (u : Int) := by omega
          go_wp2_with fail
          refine HC6.out.mono ?_
          rintro e w7 ⟨rfl, hb7⟩
          have HO7 := Lib.hid (HO6.out.step hb7)
          have HB7 := Lib.hid (HB6.out.trans (hb7.mono HB6.out.size))
          have o0 := HO7.out.c 0; have o1 := HO7.out.c 1; have f0 := HO7.out.f 0; have f1 := HO7.out.f 1
          simp at o0 o1
          go_wp2_with fail
          have HO8 := (HO7.out.set (i := 0) (by simp) (.int .u64 (Wl.num ((s.drop 4).take 8) : Int))).set (i := 1) (by simp) (.string (bs T))
          have p0 := HO8.c 0; have p1 := HO8.c 1
          simp at p0 p1
          refine bodyPost_ret (v := .tuple #[.agg #[.int .u64 (Wl.num ((s.drop 4).take 8) : Int), .string (bs T)], .int .i64 (u : Int), .int .i64 0]) (by simp [results, Try.results65, go_sem, p0, p1]) rfl ⟨Or.inl ⟨_, _, _, ?_, rfl⟩, (HB7.out.setCell (Nat.le_refl _) _).setCell (Nat.le_refl _) _⟩
          unfold Wl.dec; rw [if_neg (by rw [HN.out]; exact h16), HM.out, if_neg hbig, HN.out, if_neg hsh, HT.out, HZ.out, HQ.out, if_neg (by simp [hne]), hu]
        · have h8 : ((z : Int) != (q : Int)) = true := by simp; omega
          go_wp2_with fail
          refine bodyPost_ret (v := .tuple #[.agg #[.int .u64 0, .string ⟨#[]⟩], .int .i64 0, .int .i64 101]) (by simp [results, Try.results65, go_sem, o0, o1]) rfl ⟨Or.inr ⟨?_, ?_⟩, (HB6.out.setCell (Nat.le_refl _) _).setCell (Nat.le_refl _) _⟩
          · unfold Wl.dec; rw [if_neg (by rw [HN.out]; exact h16), HM.out, if_neg hbig, HN.out, if_neg hsh, HT.out, HZ.out, HQ.out, if_pos (by exact hne)]
          · unfold decErr; rw [if_neg (by rw [HN.out]; exact h16), HM.out, if_neg hbig, HN.out, if_neg hsh]
end Go.Proofs.Ytniflkggcceagaa

namespace Go.Proofs.Ytniflkggcceagaa
open Go Go.RowKit
theorem opIn_of {r n : Nat} {P : Program} {o : Oper} {a : Act} {w : World} {K : Act → World → Prop} {Q : Exit → Act → World → Prop} (hd : ∀ c, o.op ≠ .defer c) (h : o.wp P a w K Q) : o.wpIn (Fence.wide.inRound r) n P a w K Q := by
  refine ⟨fun _ _ => trivial, ?_⟩
  unfold Oper.wp at h
  show o.uponIn _ n P a K Q ((Oper.semAt (some r) a.eval o).run P w)
  rw [Oper.semAt_some r _ _ hd]
  cases hr : (execOp a.eval o).run P w with
  | ok x w' =>
    rw [hr] at h
    cases x
    case enter f args => exact ⟨fun hh => (by cases hh), callsIn_wide.2 h⟩
    case row row args => exact ⟨fun hh => (by cases hh), fun c cs _ => (h c cs).elim fun v ⟨w'', q, s⟩ => ⟨v, w'', q, stepsIn_wide.2 s⟩⟩
    all_goals first | exact h | exact h.elim
  | halt e w' =>
    rw [hr] at h
    cases e <;> first | exact h | exact h.elim
theorem wpAnyIn_of {r n : Nat} {P : Program} {md : Region.Mode} {ops : Array Oper} {Q : Exit → Act → World → Prop} (hnd : ∀ (i : Nat) (o : Oper), ops[i]? = some o → ∀ c, o.op ≠ .defer c) (hlo : ¬ LetsOut Q) :
    ∀ (fuel : Nat) (l : Array Bool) (a : Act) (w : World), wpAny P md ops Q fuel l a w → wpAnyIn (Fence.wide.inRound r) n P md ops Q fuel l a w
  | 0, _, _, _, h => h
  | fuel + 1, l, a, w, h => by
    refine ⟨h.1, fun i hi => ?_⟩
    have h2 := h.2 i hi
    unfold wpOp at h2
    unfold wpOpIn
    split
    · rename_i ho
      rw [ho] at h2
      exact wpAnyIn_of hnd hlo fuel _ a w h2
    · rename_i o ho
      rw [ho] at h2
      dsimp only at h2
      split
      · rename_i hw
        rw [if_pos hw] at h2
        rcases h2 with h2 | h2
        · exact opIn_of (hnd i o ho) (Oper.wp_mono (fun a w h => wpAnyIn_of hnd hlo fuel _ a w h) h2)
        · exact absurd h2.2 hlo
      · rename_i hw
        rw [if_neg hw] at h2
        exact ⟨fun _ _ => trivial, wpAnyIn_of hnd hlo fuel _ _ w h2⟩
theorem wpIn_region_held {r n : Nat} {P : Program} {id : Nat} {ops : Array Oper} {Q : Exit → Act → World → Prop} {S : World → Prop} {a : Act} {w : World} (hm : P.follows .mixedOrders = true) (hnd : ∀ (i : Nat) (o : Oper), ops[i]? = some o → ∀ c, o.op ≠ .defer c) (hlo : ¬ LetsOut Q)
    (hS : S w.drew) (h : S w.drew → wpAnyH P .any ops Q S ops.size (Array.replicate ops.size false) a w.drew) : (Code.region id ops true).wpIn (Fence.wide.inRound r) n P Q a w :=
  wpIn_region_any hm (wpAnyIn_of hnd hlo _ _ _ _ (wpAny_of_held _ _ _ _ (h hS)))
theorem opIn_ofW {n : Nat} {P : Program} {o : Oper} {a : Act} {w : World} {K : Act → World → Prop} {Q : Exit → Act → World → Prop} (h : o.wp P a w K Q) : o.wpIn Fence.wide n P a w K Q := by
  refine ⟨fun _ _ => trivial, ?_⟩
  unfold Oper.wp at h
  show o.uponIn _ n P a K Q ((Oper.semAt none a.eval o).run P w)
  rw [Oper.semAt_none]
  cases hr : (execOp a.eval o).run P w with
  | ok x w' =>
    rw [hr] at h
    cases x
    case enter f args => exact ⟨fun hh => (by cases hh), callsIn_wide.2 h⟩
    case row row args => exact ⟨fun hh => (by cases hh), fun c cs _ => (h c cs).elim fun v ⟨w'', q, s⟩ => ⟨v, w'', q, stepsIn_wide.2 s⟩⟩
    all_goals first | exact h | exact h.elim
  | halt e w' =>
    rw [hr] at h
    cases e <;> first | exact h | exact h.elim
theorem wpAnyIn_ofW {n : Nat} {P : Program} {md : Region.Mode} {ops : Array Oper} {Q : Exit → Act → World → Prop} (hlo : ¬ LetsOut Q) :
    ∀ (fuel : Nat) (l : Array Bool) (a : Act) (w : World), wpAny P md ops Q fuel l a w → wpAnyIn Fence.wide n P md ops Q fuel l a w
  | 0, _, _, _, h => h
  | fuel + 1, l, a, w, h => by
    refine ⟨h.1, fun i hi => ?_⟩
    have h2 := h.2 i hi
    unfold wpOp at h2
    unfold wpOpIn
    split
    · rename_i ho
      rw [ho] at h2
      exact wpAnyIn_ofW hlo fuel _ a w h2
    · rename_i o ho
      rw [ho] at h2
      dsimp only at h2
      split
      · rename_i hw
        rw [if_pos hw] at h2
        rcases h2 with h2 | h2
        · exact opIn_ofW (Oper.wp_mono (fun a w h => wpAnyIn_ofW hlo fuel _ a w h) h2)
        · exact absurd h2.2 hlo
      · rename_i hw
        rw [if_neg hw] at h2
        exact ⟨fun _ _ => trivial, wpAnyIn_ofW hlo fuel _ _ w h2⟩
theorem wpIn_region_heldW {n : Nat} {P : Program} {id : Nat} {ops : Array Oper} {Q : Exit → Act → World → Prop} {S : World → Prop} {a : Act} {w : World} (hm : P.follows .mixedOrders = true) (hlo : ¬ LetsOut Q)
    (hS : S w.drew) (h : S w.drew → wpAnyH P .any ops Q S ops.size (Array.replicate ops.size false) a w.drew) : (Code.region id ops true).wpIn Fence.wide n P Q a w :=
  wpIn_region_any hm (wpAnyIn_ofW hlo _ _ _ _ (wpAny_of_held _ _ _ _ (h hS)))
theorem wpIn_normal {F : Fence} {n : Nat} {P : Program} {c : Code} {Q : Exit → Act → World → Prop} {a : Act} {w : World} (G : Act → World → Prop) (h : c.wpIn F n P (fun e a w => match e with | .normal => G a w | _ => False) a w) (hG : ∀ a w, G a w → Q .normal a w) : c.wpIn F n P Q a w :=
  wpIn_mono h fun e a w hq => by cases e <;> first | exact hG _ _ hq | exact hq.elim
end Go.Proofs.Ytniflkggcceagaa

namespace Go.Proofs.Ytniflkggcceagaa
open Go Go.RowKit
theorem cell_of {W : World} {b : Nat} {C : Array Value} {t : TypeId} {fr : Nat × Nat} (h : W.heap[b]? = some (.cells C t fr)) (j : Nat) : W.cell? ⟨b, j, none⟩ = C[j]? := by
  unfold World.cell?; simp [h]
theorem frozen_of {W : World} {b : Nat} {C : Array Value} {t : TypeId} (h : W.heap[b]? = some (.cells C t (0, 0))) (j : Nat) : W.frozen? ⟨b, j, none⟩ = false := by
  unfold World.frozen?; simp only [h]; simp
theorem own_cells {w : World} {B e n k : Nat} {v : Value} {xs : List Value} (h : w.ownsRow B e k v n xs) : ∀ j, v.ownBlock = some j → ∃ C T F, w.heap[j]? = some (.cells C T F) := by
  intro j hj
  rcases h.2 with ⟨rfl, _⟩ | ⟨g, cap, cur, rfl, _, hg, _⟩
  · cases hj
  · cases hj; exact ⟨_, _, _, hg⟩
theorem ownShape {w : World} {B e n k : Nat} {v : Value} {xs : List Value} (h : w.ownsRow B e k v n xs) : ∃ a c, v = .slice a n c := by
  rcases h.2 with ⟨hv, hn⟩ | ⟨g, cap, cur, hv, hB, _⟩
  · exact ⟨none, 0, by rw [hv, hn]⟩
  · exact ⟨_, _, hv⟩
theorem ownBelow {w w' : World} {B e n k : Nat} {v : Value} {xs : List Value} (h : w.ownsRow B e k v n xs) (hb : Below w.heap.size w w') : w'.ownsRow B e k v n xs := by
  refine ⟨h.1, ?_⟩
  rcases h.2 with hn | ⟨g, cap, cur, hv, hBg, hg, rest⟩
  · exact Or.inl hn
  · exact Or.inr ⟨g, cap, cur, hv, hBg, (hb.block g (lt_of_block hg)).trans hg, rest⟩
theorem ownAbove {w : World} {B e n k : Nat} {v : Value} {xs : List Value} (h : w.ownsRow B e k v n xs) : ∀ k, v.ownBlock = some k → B ≤ k := by
  intro k hk
  rcases h.2 with ⟨hv, _⟩ | ⟨g, cap, cur, hv, hB, _⟩
  · subst hv; cases hk
  · subst hv; cases hk; exact hB
theorem ownsRow_lower {w : World} {B B' e n k : Nat} {v : Value} {xs : List Value} (h : w.ownsRow B e k v n xs) (hle : B' ≤ B) : w.ownsRow B' e k v n xs := by
  refine ⟨h.1, ?_⟩
  rcases h.2 with hn | ⟨g, cap, cur, hv, hBg, rest⟩
  · exact Or.inl hn
  · exact Or.inr ⟨g, cap, cur, hv, Nat.le_trans hle hBg, rest⟩
theorem setCell_block {W : World} {nb i : Nat} {cs : Array Value} {T : TypeId} {fz : Nat × Nat} (h : W.heap[nb]? = some (.cells cs T fz)) (v : Value) : (W.setCell ⟨nb, i, none⟩ v).heap[nb]? = some (.cells (cs.setIfInBounds i v) T fz) := by
  simp [World.setCell, Array.getElem?_modify, h]
theorem setCell_size (W : World) (a : Addr) (v : Value) : (W.setCell a v).heap.size = W.heap.size := by
  show (W.heap.modify _ _).size = _
  rw [Array.size_modify]
theorem keepsFrom_below {A B : World} {n lo : Nat} (h : Below n A B) (hn : A.heap.size ≤ n) : KeepsFrom lo A B := ⟨h.size, fun k o _ hk _ => (h.block k (by have := (Array.getElem?_eq_some_iff.1 hk).1; omega)).trans hk⟩
theorem below_grown {A B : World} (h : Below A.heap.size A B) : A.grownBy B none := ⟨h.os, h.tape, h.output, h.size, fun j hj _ => h.block j hj⟩
theorem ButS.row {S : Nat → Prop} {A B : World} {row : Option Nat} (h : A.grownBy B row) (hr : ∀ j, row = some j → S j) : ButS S A B := ⟨h.os, h.tape, h.output, h.size, fun k hk hn => h.block k hk (fun e => hn (hr k e.symm))⟩
def Bx (W : World) (b : Nat) (T : TypeId) (v : Value) : Prop := W.heap[b]? = some (.cells #[v] T (0, 0))
theorem Bx.c {W : World} {b : Nat} {T : TypeId} {v : Value} (h : Bx W b T v) : W.cell? ⟨b, 0, none⟩ = some v := cell_of h 0
theorem Bx.f {W : World} {b : Nat} {T : TypeId} {v : Value} (h : Bx W b T v) : W.frozen? ⟨b, 0, none⟩ = false := frozen_of h 0
theorem Bx.lt {W : World} {b : Nat} {T : TypeId} {v : Value} (h : Bx W b T v) : b < W.heap.size := (Array.getElem?_eq_some_iff.1 h).1
theorem Bx.set {W : World} {b : Nat} {T : TypeId} {v : Value} (h : Bx W b T v) (u : Value) : Bx (W.setCell ⟨b, 0, none⟩ u) b T u := setCell_block (i := 0) h u
theorem Bx.far {W : World} {b : Nat} {T : TypeId} {v : Value} (h : Bx W b T v) {p : Addr} (hp : p.block ≠ b) (u : Value) : Bx (W.setCell p u) b T v := (Below.heap_setCell W p u b (fun e => hp e.symm)).trans h
theorem Bx.but {W W' : World} {b : Nat} {T : TypeId} {v : Value} {S : Nat → Prop} (h : Bx W b T v) (hb : ButS S W W') (hn : ¬ S b) : Bx W' b T v := (hb.block b h.lt hn).trans h
theorem Bx.below {W W' : World} {b : Nat} {T : TypeId} {v : Value} (h : Bx W b T v) (hb : Below W.heap.size W W') : Bx W' b T v := (hb.block b h.lt).trans h
theorem Bx.grown {W W' : World} {b : Nat} {T : TypeId} {v : Value} {row : Option Nat} (h : Bx W b T v) (hg : W.grownBy W' row) (hr : row ≠ some b) : Bx W' b T v := (hg.block b h.lt (fun e => hr e.symm)).trans h
theorem notCells {A : World} {row : Option Nat} (hr : ∀ r, row = some r → ∃ o : Obj, A.heap[r]? = some o ∧ o.isCells = false) {b : Nat} {C : Array Value} {T : TypeId} {F : Nat × Nat} (h : A.heap[b]? = some (.cells C T F)) : row ≠ some b := fun e => by
  obtain ⟨o, ho, hc⟩ := hr b e
  rw [h] at ho; cases ho; cases hc
theorem own_kept {A B : World} {row : Option Nat} {base e k n : Nat} {v : Value} {xs : List Value} (h : A.ownsRow base e k v n xs) (hg : A.grownBy B row) (hr : ∀ r, row = some r → ∃ o : Obj, A.heap[r]? = some o ∧ o.isCells = false) : B.ownsRow base e k v n xs := by
  refine h.kept hg ?_
  cases e1 : v.ownBlock with
  | none => exact Or.inl rfl
  | some j =>
    obtain ⟨C, T, F, hj⟩ := own_cells h j e1
    exact Or.inr (fun e2 => notCells hr hj e2.symm)
theorem Bx.new (W : World) (T : TypeId) (v : Value) : Bx (W.alloc (.cells #[v] T)) W.heap.size T v := (MapKept.heap_alloc _ _).1
theorem Bx.alloc {W : World} {b : Nat} {T : TypeId} {v : Value} (h : Bx W b T v) (o : Obj) : Bx (W.alloc o) b T v := h.below ((Below.refl _ _).alloc (Nat.le_refl _) _)
theorem boxes4 (w : World) (T0 T1 T2 T3 : TypeId) (v0 v1 v2 v3 : Value) : Below w.heap.size w ((((w.alloc (.cells #[v0] T0)).alloc (.cells #[v1] T1)).alloc (.cells #[v2] T2)).alloc (.cells #[v3] T3)) ∧ ((((w.alloc (.cells #[v0] T0)).alloc (.cells #[v1] T1)).alloc (.cells #[v2] T2)).alloc (.cells #[v3] T3)).heap.size = w.heap.size + 4 ∧
    Bx ((((w.alloc (.cells #[v0] T0)).alloc (.cells #[v1] T1)).alloc (.cells #[v2] T2)).alloc (.cells #[v3] T3)) w.heap.size T0 v0 ∧ Bx ((((w.alloc (.cells #[v0] T0)).alloc (.cells #[v1] T1)).alloc (.cells #[v2] T2)).alloc (.cells #[v3] T3)) (w.heap.size + 1) T1 v1 ∧ Bx ((((w.alloc (.cells #[v0] T0)).alloc (.cells #[v1] T1)).alloc (.cells #[v2] T2)).alloc (.cells #[v3] T3)) (w.heap.size + 2) T2 v2 ∧ Bx ((((w.alloc (.cells #[v0] T0)).alloc (.cells #[v1] T1)).alloc (.cells #[v2] T2)).alloc (.cells #[v3] T3)) (w.heap.size + 3) T3 v3 := by
  have s1 : (w.alloc (.cells #[v0] T0)).heap.size = w.heap.size + 1 := by simp
  have s2 : ((w.alloc (.cells #[v0] T0)).alloc (.cells #[v1] T1)).heap.size = w.heap.size + 2 := by simp
  have s3 : (((w.alloc (.cells #[v0] T0)).alloc (.cells #[v1] T1)).alloc (.cells #[v2] T2)).heap.size = w.heap.size + 3 := by simp
  refine ⟨(((((Below.refl _ _).alloc (Nat.le_refl _) _).alloc (by omega) _).alloc (by omega) _).alloc (by omega) _), by simp, (((Bx.new w T0 v0).alloc _).alloc _).alloc _, ?_, ?_, ?_⟩
  · have h := Bx.new (w.alloc (.cells #[v0] T0)) T1 v1
    rw [s1] at h
    exact (h.alloc _).alloc _
  · have h := Bx.new ((w.alloc (.cells #[v0] T0)).alloc (.cells #[v1] T1)) T2 v2
    rw [s2] at h
    exact h.alloc _
  · have h := Bx.new (((w.alloc (.cells #[v0] T0)).alloc (.cells #[v1] T1)).alloc (.cells #[v2] T2)) T3 v3
    rw [s3] at h
    exact h
end Go.Proofs.Ytniflkggcceagaa
