/- Plan: reads, edits, places and asks as they lie in memory. Contract: plan.May: its closures, and what goes over reads and edits with them. -/
import Derived.Test.YthcmcjoenepkbaaGreatDoorBut
import Derived.Test.YthcmcjoenepkbaaGreatDoorPath2
namespace Go.Proofs.YthcmcjoenepkbaaGreatDoor
open Go Go.RowKit

/-- v is a slice whose elements, of k cells each, read as the list l. -/
def IsL {α : Type} (k : Nat) (C : α → List Value) (z : α) (w : World) (v : Value) (l : List α) : Prop :=
  ∃ a cp, v = .slice a l.length cp ∧ (l = [] ∨ ∃ b off, a = some ⟨b, off, none⟩ ∧ b < w.heap.size ∧ ∀ i, i < l.length → ∀ j u, (C (l.getD i z))[j]? = some u → w.cell? ⟨b, off + i * k + j, none⟩ = some u)
theorem IsL.below {α : Type} {k : Nat} {C : α → List Value} {z : α} {w w' : World} {v : Value} {l : List α} {B : Nat} (h : IsL k C z w v l) (hb : Below B w w') (hB : w.heap.size ≤ B) : IsL k C z w' v l := by
  obtain ⟨a, cp, rfl, h⟩ := h
  refine ⟨a, cp, rfl, ?_⟩
  rcases h with h | ⟨b, off, rfl, hlt, hc⟩
  · exact Or.inl h
  · exact Or.inr ⟨b, off, rfl, by have := hb.size; omega, fun i hi j u hu => (hb.cell (p := ⟨b, off + i * k + j, none⟩) (by dsimp only; omega)).trans (hc i hi j u hu)⟩
theorem IsL.nil {α : Type} (k : Nat) (C : α → List Value) (z : α) (w : World) : IsL k C z w (.slice none 0 0) [] := ⟨none, 0, rfl, Or.inl rfl⟩
theorem IsL.len {α : Type} {k : Nat} {C : α → List Value} {z : α} {w : World} {a : Option Addr} {n cp : Nat} {l : List α} (h : IsL k C z w (.slice a n cp) l) : n = l.length := by
  obtain ⟨a', cp', h1, _⟩ := h
  cases h1; rfl
/-- The cells of a list, laid flat. -/
theorem flat_at {α : Type} {k : Nat} {C : α → List Value} (hC : ∀ x, (C x).length = k) (z : α) : ∀ (l : List α) (i : Nat), i < l.length → ∀ j u, (C (l.getD i z))[j]? = some u → (l.flatMap C)[i * k + j]? = some u
  | [], i, h, _, _, _ => by simp at h
  | x :: l, 0, _, j, u, hu => by
    have hj : j < (C x).length := (List.getElem?_eq_some_iff.1 hu).1
    rw [List.flatMap_cons, Nat.zero_mul, Nat.zero_add, List.getElem?_append_left hj]
    exact hu
  | x :: l, i + 1, h, j, u, hu => by
    rw [List.flatMap_cons, List.getElem?_append_right (by rw [hC]; rw [Nat.add_mul]; omega), hC, show (i + 1) * k + j - k = i * k + j by rw [Nat.add_mul]; omega]
    exact flat_at hC z l i (by simpa using h) j u hu
theorem flat_length {α : Type} {k : Nat} {C : α → List Value} (hC : ∀ x, (C x).length = k) (l : List α) : (l.flatMap C).length = l.length * k := by
  induction l with
  | nil => simp
  | cons x l ih => rw [List.flatMap_cons, List.length_append, ih, hC, List.length_cons, Nat.add_mul]; omega
theorem flat_snoc {α : Type} (C : α → List Value) (l : List α) (x : α) : (l ++ [x]).flatMap C = l.flatMap C ++ C x := by simp
theorem IsL.own {α : Type} {k : Nat} {C : α → List Value} (hC : ∀ x, (C x).length = k) (_hk : 0 < k) (z : α) {w : World} {B e : Nat} {v : Value} {l : List α} (h : w.ownsRow B e k v l.length (l.flatMap C)) : IsL k C z w v l := by
  rcases h.2 with ⟨hv, hl⟩ | ⟨g, cap, cur, hv, hB, hg, hn, hcap, hsz, htake⟩
  · have : l = [] := List.length_eq_zero_iff.1 hl
    subst this; exact ⟨none, 0, hv, Or.inl rfl⟩
  · subst hv
    refine ⟨_, cap, rfl, Or.inr ⟨g, 0, rfl, (Array.getElem?_eq_some_iff.1 hg).1, fun i hi j u hu => ?_⟩⟩
    have hj : j < k := by have := (List.getElem?_eq_some_iff.1 hu).1; rw [hC] at this; exact this
    have hlt : i * k + j < l.length * k := by
      have : (i + 1) * k ≤ l.length * k := Nat.mul_le_mul_right k hi
      rw [Nat.add_mul] at this; omega
    have c1 := World.ownsRow.cellAt h (i * k + j) hlt
    rw [Nat.zero_add, c1]
    exact flat_at hC z l i hi j u hu

/-- A read. -/
structure Rd where
  path : ByteArray
  n : Nat
def dRd : Rd := ⟨ByteArray.empty, 0⟩
def rdC (r : Rd) : List Value := [.string r.path, .int .u64 (r.n : Int)]
theorem rdC_len (r : Rd) : (rdC r).length = 2 := rfl
/-- An edit. -/
structure Ed where
  kind : Nat
  path : ByteArray
  any : Bool
  want : Nat
  n : Nat
  text : ByteArray
def dEd : Ed := ⟨0, ByteArray.empty, false, 0, 0, ByteArray.empty⟩
def edC (x : Ed) : List Value := [.int .u8 (x.kind : Int), .string x.path, .bool x.any, .int .u64 (x.want : Int), .int .u64 (x.n : Int), .string x.text]
theorem edC_len (x : Ed) : (edC x).length = 6 := rfl
def ixC (n : Nat) : List Value := [.int .i64 (n : Int)]
theorem ixC_len (n : Nat) : (ixC n).length = 1 := rfl
abbrev IsRds (w : World) (v : Value) (l : List Rd) : Prop := IsL 2 rdC dRd w v l
abbrev IsEds (w : World) (v : Value) (l : List Ed) : Prop := IsL 6 edC dEd w v l
abbrev IsIxs (w : World) (v : Value) (l : List Nat) : Prop := IsL 1 ixC 0 w v l
theorem rdC_ones (l : List Rd) : ∀ u ∈ l.flatMap rdC, u.oneCell' = true := by
  intro u hu
  obtain ⟨x, _, hx⟩ := List.mem_flatMap.1 hu
  simp only [rdC, List.mem_cons, List.mem_nil_iff, or_false] at hx
  rcases hx with rfl | rfl <;> rfl
theorem edC_ones (l : List Ed) : ∀ u ∈ l.flatMap edC, u.oneCell' = true := by
  intro u hu
  obtain ⟨x, _, hx⟩ := List.mem_flatMap.1 hu
  simp only [edC, List.mem_cons, List.mem_nil_iff, or_false] at hx
  rcases hx with rfl | rfl | rfl | rfl | rfl | rfl <;> rfl

/-- What a shard is asked. -/
structure Ask where
  shard : Nat
  reads : List Rd
  readAt : List Nat
  edits : List Ed
  editAt : List Nat
  list : Bool
  pre : ByteArray
  give : Bool
  take : Bool
  f : Nat
  t : Nat
def Ask.new (s : Nat) : Ask := ⟨s, [], [], [], [], false, ByteArray.empty, false, false, 0, 0⟩
def dAsk : Ask := Ask.new 0
abbrev askV (A : Ask) (v1 v2 v3 v4 : Value) : Array Value := #[.int .u32 (A.shard : Int), v1, v2, v3, v4, .bool A.list, .string A.pre, .bool A.give, .bool A.take, .int .u64 (A.f : Int), .int .u64 (A.t : Int)]
end Go.Proofs.YthcmcjoenepkbaaGreatDoor

namespace Go.Proofs.YthcmcjoenepkbaaGreatDoor
open Go Go.RowKit Pth

def IdxG (b : Bool) (w : World) (e : Ending) (w' : World) : Prop := ∃ z : Int, e = .returned (.int .i64 z) ∧ (0 ≤ z ↔ b = true) ∧ Below w.heap.size w w'
structure SmallRd (r : Rd) : Prop where
  path : r.path.size ≤ 140737488351232
structure SmallEd (x : Ed) : Prop where
  path : x.path.size ≤ 140737488351232
  text : x.text.size ≤ 140737488351232
  kind : x.kind < 256
def badR (r : Rd) : Bool := !mayL r.path.data.toList
def badE (x : Ed) : Bool := decide (x.kind < 1) || decide (3 < x.kind) || !mayL x.path.data.toList
def longE (x : Ed) : Bool := decide (4047 < x.text.size)

set_option maxHeartbeats 1000000 in
theorem clo_r (r : Rd) (h : SmallRd r) (w : World) (hm : MX w) : Calls Tryz.prog 33 #[.agg (rdC r).toArray] w fun e w' => e = .returned (.bool (badR r)) ∧ Below w.heap.size w w' := by
  unfold rdC badR
  have HP := Lib.hid (fun (W : World) (hW : Below w.heap.size w W) => path_may r.path h.path W (hm.below hW (Nat.le_refl _)))
  obtain ⟨b, hb⟩ : ∃ b, mayL r.path.data.toList = b := ⟨_, rfl⟩
  rw [hb] at HP ⊢
  clear hb h hm
  go_enter Tryz.func33, Tryz.ntmps33
  go_wp2_with fail
  have hb0 : Below w.heap.size w (w.alloc (.cells #[.string r.path, .int .u64 (r.n : Int)] 56)) := (Below.refl _ _).alloc (Nat.le_refl _) _
  refine (HP.out _ hb0).mono ?_
  rintro e w1 ⟨rfl, hb1⟩
  have HB := Lib.hid (hb0.trans (hb1.mono hb0.size)); clear hb1 hb0
  go_wp2_with fail
  go_ret
  exact ⟨rfl, HB.out⟩
set_option maxRecDepth 100000 in
set_option maxHeartbeats 2000000 in
theorem clo_e (r : Ed) (h : SmallEd r) (w : World) (hm : MX w) : Calls Tryz.prog 36 #[.agg (edC r).toArray] w fun e w' => e = .returned (.bool (badE r)) ∧ Below w.heap.size w w' := by
  unfold edC badE
  have HP := Lib.hid (fun (W : World) (hW : Below w.heap.size w W) => path_may r.path h.path W (hm.below hW (Nat.le_refl _)))
  obtain ⟨b, hb⟩ : ∃ b, mayL r.path.data.toList = b := ⟨_, rfl⟩
  rw [hb] at HP ⊢
  clear hb h hm
  have hb0 : Below w.heap.size w (w.alloc (.cells #[.int .u8 (r.kind : Int), .string r.path, .bool r.any, .int .u64 (r.want : Int), .int .u64 (r.n : Int), .string r.text] 63)) := (Below.refl _ _).alloc (Nat.le_refl _) _
  have HB0 := Lib.hid hb0; clear hb0
  by_cases h1 : r.kind < 1
  · have h1' : (r.kind : Int) < 1 := by omega
    rw [decide_eq_true h1]
    clear h1
    go_enter Tryz.func36, Tryz.ntmps36
    go_wp2_with fail
    go_ret
    exact ⟨rfl, HB0.out⟩
  · have h1' : ¬ (r.kind : Int) < 1 := by omega
    rw [decide_eq_false h1]
    by_cases h2 : 3 < r.kind
    · have h2' : (3 : Int) < (r.kind : Int) := by omega
      rw [decide_eq_true h2]
      clear h1 h2
      go_enter Tryz.func36, Tryz.ntmps36
      go_wp2_with fail
      go_ret
      exact ⟨rfl, HB0.out⟩
    · have h2' : ¬ (3 : Int) < (r.kind : Int) := by omega
      rw [decide_eq_false h2]
      clear h1 h2
      go_enter Tryz.func36, Tryz.ntmps36
      go_wp2_with fail
      refine (HP.out _ HB0.out).mono ?_
      rintro e w1 ⟨rfl, hb1⟩
      have HB := Lib.hid (HB0.out.trans (hb1.mono HB0.out.size)); clear hb1
      go_wp2_with fail
      go_ret
      exact ⟨rfl, HB.out⟩
set_option maxHeartbeats 1000000 in
theorem clo_l (r : Ed) (_h : SmallEd r) (w : World) (_hm : MX w) : Calls Tryz.prog 37 #[.agg (edC r).toArray] w fun e w' => e = .returned (.bool (longE r)) ∧ Below w.heap.size w w' := by
  unfold edC longE
  clear _hm _h
  by_cases h1 : 4047 < r.text.size
  · have h1' : (4047 : Int) < (r.text.size : Int) := by omega
    rw [decide_eq_true h1]
    clear h1
    go_enter Tryz.func37, Tryz.ntmps37
    go_wp2_with fail
    go_ret
    exact ⟨rfl, (Below.refl _ _).alloc (Nat.le_refl _) _⟩
  · have h1' : ¬ (4047 : Int) < (r.text.size : Int) := by omega
    rw [decide_eq_false h1]
    clear h1
    go_enter Tryz.func37, Tryz.ntmps37
    go_wp2_with fail
    go_ret
    exact ⟨rfl, (Below.refl _ _).alloc (Nat.le_refl _) _⟩

set_option maxRecDepth 100000 in
set_option maxHeartbeats 2000000 in
theorem idx_r (l : List Rd) (v : Value) (w : World) (hv : IsL 2 rdC dRd w v l) (hl : l.length ≤ 9223372036854775807) (hok : ∀ r ∈ l, SmallRd r) (hm : MX w) :
    Calls Tryz.prog 69 #[v, .func (.func 33) #[] #[]] w (IdxG (l.any badR) w) := by
  obtain ⟨a, cap, rfl, hc⟩ := hv
  have HC := Lib.hid hc; have HM := Lib.hid hm; have HOK := Lib.hid hok
  have HF := Lib.hid (fun (r : Rd) (h : SmallRd r) (W : World) (hW : Below w.heap.size w W) => clo_r r h W (hm.below hW (Nat.le_refl _)))
  clear hc hm hok
  go_enter Tryz.func69, Tryz.ntmps69
  go_wp2
  go_loopw [8] (fun i wr => ∃ k : Nat, k ≤ l.length ∧ i = .int .i64 k ∧ Hid ((l.take k).any badR = false) ∧ Hid (Below w.heap.size w wr)) (fun i _ => l.length - (intOf i).toNat)
  case atStart => exact ⟨0, Nat.zero_le _, rfl, Lib.hid rfl, Lib.hid (Below.refl _ _)⟩
  case round =>
    obtain ⟨k, hk, rfl, hmm, hbw⟩ := hrel
    by_cases hlt : k < l.length
    · rcases HC.out with hn | ⟨b, off, rfl, hblt, hcc⟩
      · subst hn; simp at hlt
      have hr : l.getD k dRd ∈ l := by rw [List.getD_eq_getElem?_getD, List.getElem?_eq_getElem hlt]; exact List.getElem_mem _
      have hf := HF.out _ (HOK.out _ hr) wr hbw.out
      have htk : (l.take (k + 1)).any badR = ((l.take k).any badR || badR (l.getD k dRd)) := by
        rw [List.take_succ_eq_append_getElem hlt, List.any_append, List.getD_eq_getElem?_getD, List.getElem?_eq_getElem hlt]; simp
      have hin : badR (l.getD k dRd) = true → l.any badR = true := fun h => List.any_eq_true.2 ⟨_, hr, h⟩
      have hc0 := hcc k hlt
      obtain ⟨r, hre⟩ : ∃ r, l.getD k dRd = r := ⟨_, rfl⟩
      rw [hre] at hf htk hc0 hin
      have x0 : wr.cell? ⟨b, off + k * 2, none⟩ = some (.string r.path) := (hbw.out.cell (p := ⟨b, off + k * 2 + 0, none⟩) hblt).trans (hc0 0 _ rfl)
      have x1 : wr.cell? ⟨b, off + k * 2 + 1, none⟩ = some (.int .u64 (r.n : Int)) := (hbw.out.cell (p := ⟨b, off + k * 2 + 1, none⟩) hblt).trans (hc0 1 _ rfl)
      have HR := Lib.hid hf; have HTK := Lib.hid htk; have HIN := Lib.hid hin
      unfold rdC at HR
      clear hre hr hf htk hc0 hin hcc
      cases hb : badR r with
      | true =>
        rw [hb] at HR
        have HI := Lib.hid (HIN.out hb)
        clear hb
        go_wp2_with fail
        refine HR.out.mono ?_
        rintro e w1 ⟨rfl, hb1⟩
        have HB := Lib.hid (hbw.out.trans (hb1.mono hbw.out.size)); clear hb1
        go_wp2_with fail
        go_ret
        exact ⟨(k : Int), rfl, ⟨fun _ => HI.out, fun _ => by omega⟩, HB.out⟩
      | false =>
        rw [hb] at HR
        have HN := Lib.hid (show (l.take (k + 1)).any badR = false by rw [HTK.out, hmm.out, hb]; rfl)
        clear hb
        go_wp2_with fail
        refine HR.out.mono ?_
        rintro e w1 ⟨rfl, hb1⟩
        have HB := Lib.hid (hbw.out.trans (hb1.mono hbw.out.size)); clear hb1
        go_wp2_with fail
        go_roundw
        case rel => exact ⟨k + 1, by omega, by go_num, HN, HB⟩
        case measure => simp [intOf]; omega
    · have hge : (l.length : Int) ≤ (k : Int) := by omega
      have HN := Lib.hid (show l.any badR = false by have := hmm.out; rw [List.take_of_length_le (by omega)] at this; exact this)
      go_wp2
      go_ret
      exact ⟨-1, rfl, ⟨fun h => absurd h (by decide), fun h => by rw [HN.out] at h; cases h⟩, hbw.out⟩
set_option maxRecDepth 100000 in
set_option maxHeartbeats 2000000 in
theorem has_r (l : List Rd) (v : Value) (w : World) (hv : IsL 2 rdC dRd w v l) (hl : l.length ≤ 9223372036854775807) (hok : ∀ r ∈ l, SmallRd r) (hm : MX w) :
    Calls Tryz.prog 32 #[v, .func (.func 33) #[] #[]] w fun e w' => e = .returned (.bool (l.any badR)) ∧ Below w.heap.size w w' := by
  have HI := Lib.hid (idx_r l v w hv hl hok hm)
  clear hv hl hok hm
  obtain ⟨b, hb⟩ : ∃ b, l.any badR = b := ⟨_, rfl⟩
  rw [hb] at HI ⊢
  clear hb
  go_enter Tryz.func32, Tryz.ntmps32
  go_wp2_with fail
  refine HI.out.mono ?_
  rintro e w1 ⟨z, rfl, hz, hb1⟩
  have HB := Lib.hid hb1; clear hb1
  cases b with
  | true =>
    have h0 : 0 ≤ z := hz.2 rfl
    clear hz
    go_wp2_with fail
    go_ret
    exact ⟨rfl, HB.out⟩
  | false =>
    have h0 : ¬ 0 ≤ z := fun h => by have := hz.1 h; cases this
    have hd : decide (0 ≤ z) = false := decide_eq_false h0
    clear hz
    go_wp2_with fail
    go_ret
    exact ⟨rfl, HB.out⟩

set_option maxRecDepth 100000 in
set_option maxHeartbeats 2000000 in
theorem idx_e (l : List Ed) (v : Value) (w : World) (hv : IsL 6 edC dEd w v l) (hl : l.length ≤ 9223372036854775807) (hok : ∀ r ∈ l, SmallEd r) (hm : MX w) :
    Calls Tryz.prog 71 #[v, .func (.func 36) #[] #[]] w (IdxG (l.any badE) w) := by
  obtain ⟨a, cap, rfl, hc⟩ := hv
  have HC := Lib.hid hc; have HM := Lib.hid hm; have HOK := Lib.hid hok
  have HF := Lib.hid (fun (r : Ed) (h : SmallEd r) (W : World) (hW : Below w.heap.size w W) => clo_e r h W (hm.below hW (Nat.le_refl _)))
  clear hc hm hok
  go_enter Tryz.func71, Tryz.ntmps71
  go_wp2
  go_loopw [8] (fun i wr => ∃ k : Nat, k ≤ l.length ∧ i = .int .i64 k ∧ Hid ((l.take k).any badE = false) ∧ Hid (Below w.heap.size w wr)) (fun i _ => l.length - (intOf i).toNat)
  case atStart => exact ⟨0, Nat.zero_le _, rfl, Lib.hid rfl, Lib.hid (Below.refl _ _)⟩
  case round =>
    obtain ⟨k, hk, rfl, hmm, hbw⟩ := hrel
    by_cases hlt : k < l.length
    · rcases HC.out with hn | ⟨b, off, rfl, hblt, hcc⟩
      · subst hn; simp at hlt
      have hr : l.getD k dEd ∈ l := by rw [List.getD_eq_getElem?_getD, List.getElem?_eq_getElem hlt]; exact List.getElem_mem _
      have hf := HF.out _ (HOK.out _ hr) wr hbw.out
      have htk : (l.take (k + 1)).any badE = ((l.take k).any badE || badE (l.getD k dEd)) := by
        rw [List.take_succ_eq_append_getElem hlt, List.any_append, List.getD_eq_getElem?_getD, List.getElem?_eq_getElem hlt]; simp
      have hin : badE (l.getD k dEd) = true → l.any badE = true := fun h => List.any_eq_true.2 ⟨_, hr, h⟩
      have hc0 := hcc k hlt
      obtain ⟨r, hre⟩ : ∃ r, l.getD k dEd = r := ⟨_, rfl⟩
      rw [hre] at hf htk hc0 hin
      have x0 : wr.cell? ⟨b, off + k * 6, none⟩ = some (.int .u8 (r.kind : Int)) := (hbw.out.cell (p := ⟨b, off + k * 6 + 0, none⟩) hblt).trans (hc0 0 _ rfl)
      have x1 : wr.cell? ⟨b, off + k * 6 + 1, none⟩ = some (.string r.path) := (hbw.out.cell (p := ⟨b, off + k * 6 + 1, none⟩) hblt).trans (hc0 1 _ rfl)
      have x2 : wr.cell? ⟨b, off + k * 6 + 2, none⟩ = some (.bool r.any) := (hbw.out.cell (p := ⟨b, off + k * 6 + 2, none⟩) hblt).trans (hc0 2 _ rfl)
      have x3 : wr.cell? ⟨b, off + k * 6 + 3, none⟩ = some (.int .u64 (r.want : Int)) := (hbw.out.cell (p := ⟨b, off + k * 6 + 3, none⟩) hblt).trans (hc0 3 _ rfl)
      have x4 : wr.cell? ⟨b, off + k * 6 + 4, none⟩ = some (.int .u64 (r.n : Int)) := (hbw.out.cell (p := ⟨b, off + k * 6 + 4, none⟩) hblt).trans (hc0 4 _ rfl)
      have x5 : wr.cell? ⟨b, off + k * 6 + 5, none⟩ = some (.string r.text) := (hbw.out.cell (p := ⟨b, off + k * 6 + 5, none⟩) hblt).trans (hc0 5 _ rfl)
      have HR := Lib.hid hf; have HTK := Lib.hid htk; have HIN := Lib.hid hin
      unfold edC at HR
      clear hre hr hf htk hc0 hin hcc
      cases hb : badE r with
      | true =>
        rw [hb] at HR
        have HI := Lib.hid (HIN.out hb)
        clear hb
        go_wp2_with fail
        refine HR.out.mono ?_
        rintro e w1 ⟨rfl, hb1⟩
        have HB := Lib.hid (hbw.out.trans (hb1.mono hbw.out.size)); clear hb1
        go_wp2_with fail
        go_ret
        exact ⟨(k : Int), rfl, ⟨fun _ => HI.out, fun _ => by omega⟩, HB.out⟩
      | false =>
        rw [hb] at HR
        have HN := Lib.hid (show (l.take (k + 1)).any badE = false by rw [HTK.out, hmm.out, hb]; rfl)
        clear hb
        go_wp2_with fail
        refine HR.out.mono ?_
        rintro e w1 ⟨rfl, hb1⟩
        have HB := Lib.hid (hbw.out.trans (hb1.mono hbw.out.size)); clear hb1
        go_wp2_with fail
        go_roundw
        case rel => exact ⟨k + 1, by omega, by go_num, HN, HB⟩
        case measure => simp [intOf]; omega
    · have hge : (l.length : Int) ≤ (k : Int) := by omega
      have HN := Lib.hid (show l.any badE = false by have := hmm.out; rw [List.take_of_length_le (by omega)] at this; exact this)
      go_wp2
      go_ret
      exact ⟨-1, rfl, ⟨fun h => absurd h (by decide), fun h => by rw [HN.out] at h; cases h⟩, hbw.out⟩
set_option maxRecDepth 100000 in
set_option maxHeartbeats 2000000 in
theorem has_e (l : List Ed) (v : Value) (w : World) (hv : IsL 6 edC dEd w v l) (hl : l.length ≤ 9223372036854775807) (hok : ∀ r ∈ l, SmallEd r) (hm : MX w) :
    Calls Tryz.prog 35 #[v, .func (.func 36) #[] #[]] w fun e w' => e = .returned (.bool (l.any badE)) ∧ Below w.heap.size w w' := by
  have HI := Lib.hid (idx_e l v w hv hl hok hm)
  clear hv hl hok hm
  obtain ⟨b, hb⟩ : ∃ b, l.any badE = b := ⟨_, rfl⟩
  rw [hb] at HI ⊢
  clear hb
  go_enter Tryz.func35, Tryz.ntmps35
  go_wp2_with fail
  refine HI.out.mono ?_
  rintro e w1 ⟨z, rfl, hz, hb1⟩
  have HB := Lib.hid hb1; clear hb1
  cases b with
  | true =>
    have h0 : 0 ≤ z := hz.2 rfl
    clear hz
    go_wp2_with fail
    go_ret
    exact ⟨rfl, HB.out⟩
  | false =>
    have h0 : ¬ 0 ≤ z := fun h => by have := hz.1 h; cases this
    have hd : decide (0 ≤ z) = false := decide_eq_false h0
    clear hz
    go_wp2_with fail
    go_ret
    exact ⟨rfl, HB.out⟩

set_option maxRecDepth 100000 in
set_option maxHeartbeats 2000000 in
theorem idx_l (l : List Ed) (v : Value) (w : World) (hv : IsL 6 edC dEd w v l) (hl : l.length ≤ 9223372036854775807) (hok : ∀ r ∈ l, SmallEd r) (hm : MX w) :
    Calls Tryz.prog 71 #[v, .func (.func 37) #[] #[]] w (IdxG (l.any longE) w) := by
  obtain ⟨a, cap, rfl, hc⟩ := hv
  have HC := Lib.hid hc; have HM := Lib.hid hm; have HOK := Lib.hid hok
  have HF := Lib.hid (fun (r : Ed) (h : SmallEd r) (W : World) (hW : Below w.heap.size w W) => clo_l r h W (hm.below hW (Nat.le_refl _)))
  clear hc hm hok
  go_enter Tryz.func71, Tryz.ntmps71
  go_wp2
  go_loopw [8] (fun i wr => ∃ k : Nat, k ≤ l.length ∧ i = .int .i64 k ∧ Hid ((l.take k).any longE = false) ∧ Hid (Below w.heap.size w wr)) (fun i _ => l.length - (intOf i).toNat)
  case atStart => exact ⟨0, Nat.zero_le _, rfl, Lib.hid rfl, Lib.hid (Below.refl _ _)⟩
  case round =>
    obtain ⟨k, hk, rfl, hmm, hbw⟩ := hrel
    by_cases hlt : k < l.length
    · rcases HC.out with hn | ⟨b, off, rfl, hblt, hcc⟩
      · subst hn; simp at hlt
      have hr : l.getD k dEd ∈ l := by rw [List.getD_eq_getElem?_getD, List.getElem?_eq_getElem hlt]; exact List.getElem_mem _
      have hf := HF.out _ (HOK.out _ hr) wr hbw.out
      have htk : (l.take (k + 1)).any longE = ((l.take k).any longE || longE (l.getD k dEd)) := by
        rw [List.take_succ_eq_append_getElem hlt, List.any_append, List.getD_eq_getElem?_getD, List.getElem?_eq_getElem hlt]; simp
      have hin : longE (l.getD k dEd) = true → l.any longE = true := fun h => List.any_eq_true.2 ⟨_, hr, h⟩
      have hc0 := hcc k hlt
      obtain ⟨r, hre⟩ : ∃ r, l.getD k dEd = r := ⟨_, rfl⟩
      rw [hre] at hf htk hc0 hin
      have x0 : wr.cell? ⟨b, off + k * 6, none⟩ = some (.int .u8 (r.kind : Int)) := (hbw.out.cell (p := ⟨b, off + k * 6 + 0, none⟩) hblt).trans (hc0 0 _ rfl)
      have x1 : wr.cell? ⟨b, off + k * 6 + 1, none⟩ = some (.string r.path) := (hbw.out.cell (p := ⟨b, off + k * 6 + 1, none⟩) hblt).trans (hc0 1 _ rfl)
      have x2 : wr.cell? ⟨b, off + k * 6 + 2, none⟩ = some (.bool r.any) := (hbw.out.cell (p := ⟨b, off + k * 6 + 2, none⟩) hblt).trans (hc0 2 _ rfl)
      have x3 : wr.cell? ⟨b, off + k * 6 + 3, none⟩ = some (.int .u64 (r.want : Int)) := (hbw.out.cell (p := ⟨b, off + k * 6 + 3, none⟩) hblt).trans (hc0 3 _ rfl)
      have x4 : wr.cell? ⟨b, off + k * 6 + 4, none⟩ = some (.int .u64 (r.n : Int)) := (hbw.out.cell (p := ⟨b, off + k * 6 + 4, none⟩) hblt).trans (hc0 4 _ rfl)
      have x5 : wr.cell? ⟨b, off + k * 6 + 5, none⟩ = some (.string r.text) := (hbw.out.cell (p := ⟨b, off + k * 6 + 5, none⟩) hblt).trans (hc0 5 _ rfl)
      have HR := Lib.hid hf; have HTK := Lib.hid htk; have HIN := Lib.hid hin
      unfold edC at HR
      clear hre hr hf htk hc0 hin hcc
      cases hb : longE r with
      | true =>
        rw [hb] at HR
        have HI := Lib.hid (HIN.out hb)
        clear hb
        go_wp2_with fail
        refine HR.out.mono ?_
        rintro e w1 ⟨rfl, hb1⟩
        have HB := Lib.hid (hbw.out.trans (hb1.mono hbw.out.size)); clear hb1
        go_wp2_with fail
        go_ret
        exact ⟨(k : Int), rfl, ⟨fun _ => HI.out, fun _ => by omega⟩, HB.out⟩
      | false =>
        rw [hb] at HR
        have HN := Lib.hid (show (l.take (k + 1)).any longE = false by rw [HTK.out, hmm.out, hb]; rfl)
        clear hb
        go_wp2_with fail
        refine HR.out.mono ?_
        rintro e w1 ⟨rfl, hb1⟩
        have HB := Lib.hid (hbw.out.trans (hb1.mono hbw.out.size)); clear hb1
        go_wp2_with fail
        go_roundw
        case rel => exact ⟨k + 1, by omega, by go_num, HN, HB⟩
        case measure => simp [intOf]; omega
    · have hge : (l.length : Int) ≤ (k : Int) := by omega
      have HN := Lib.hid (show l.any longE = false by have := hmm.out; rw [List.take_of_length_le (by omega)] at this; exact this)
      go_wp2
      go_ret
      exact ⟨-1, rfl, ⟨fun h => absurd h (by decide), fun h => by rw [HN.out] at h; cases h⟩, hbw.out⟩
set_option maxRecDepth 100000 in
set_option maxHeartbeats 2000000 in
theorem has_l (l : List Ed) (v : Value) (w : World) (hv : IsL 6 edC dEd w v l) (hl : l.length ≤ 9223372036854775807) (hok : ∀ r ∈ l, SmallEd r) (hm : MX w) :
    Calls Tryz.prog 35 #[v, .func (.func 37) #[] #[]] w fun e w' => e = .returned (.bool (l.any longE)) ∧ Below w.heap.size w w' := by
  have HI := Lib.hid (idx_l l v w hv hl hok hm)
  clear hv hl hok hm
  obtain ⟨b, hb⟩ : ∃ b, l.any longE = b := ⟨_, rfl⟩
  rw [hb] at HI ⊢
  clear hb
  go_enter Tryz.func35, Tryz.ntmps35
  go_wp2_with fail
  refine HI.out.mono ?_
  rintro e w1 ⟨z, rfl, hz, hb1⟩
  have HB := Lib.hid hb1; clear hb1
  cases b with
  | true =>
    have h0 : 0 ≤ z := hz.2 rfl
    clear hz
    go_wp2_with fail
    go_ret
    exact ⟨rfl, HB.out⟩
  | false =>
    have h0 : ¬ 0 ≤ z := fun h => by have := hz.1 h; cases this
    have hd : decide (0 ≤ z) = false := decide_eq_false h0
    clear hz
    go_wp2_with fail
    go_ret
    exact ⟨rfl, HB.out⟩
end Go.Proofs.YthcmcjoenepkbaaGreatDoor
