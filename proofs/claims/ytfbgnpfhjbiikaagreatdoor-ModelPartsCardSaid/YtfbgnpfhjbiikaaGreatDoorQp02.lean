/- Plain facts on cells and tables: what edits do. No program is named here. Contracts: table.weight, table.outcome, table.New, made. DERIVED. MADE BY PROGRAM (lay-iter.mjs) off ytfbgnpfhjbiikaagreatdoor.cut.gsa: THE SHELF's CONTRACTS ON 'slices.Sorted(maps.Keys(m))' LAID AT THIS DUMP: 2 map types. NO WALK OF THE LIBRARY's TEXT: each is one application of a contract over any P and ρ (Derived/Shelf/SlIter/, Derived/Shelf/SortM/). Contract for path.Names: the children, each once, sorted. What a table is in memory; contracts: made, New, Size. Small facts for the walk of table.tried: boxes, edits in memory, maps under a store. -/
import Derived.Test.YtfbgnpfhjbiikaaGreatDoorQp01
import Derived.Shelf.SlIter.Nil
import Derived.Shelf.SortM.Plain
import Derived.Shelf.SortM.SortNone
import Derived.Ground.GgzProg
import Derived.Ground.SlgmProg
import Derived.Maps.OwnOps
import Derived.Maps.Views
import Derived.Deep.QuietTactic
import Derived.Deep.Quiet
namespace Go.Proofs.YtfbgnpfhjbiikaaGreatDoor
open Go Go.RowKit
open Go.Maps (has size Canon CanonK Tidy IsMap KeysOf Keyed Merged)
open Pth
theorem okFrom_mono {a b y : Nat} {l : List Ver} (hl : l ≠ []) (h : okFrom a l = some y) (hb : b ≤ a) : okFrom b l = some y := by
  cases l with
  | nil => exact absurd rfl hl
  | cons v t =>
    unfold okFrom at h ⊢
    split at h
    · rename_i ho
      have : okVer b v = true := by
        unfold okVer at ho ⊢
        simp only [Bool.and_eq_true, decide_eq_true_eq] at ho ⊢
        exact ⟨⟨⟨by omega, ho.1.1.2⟩, ho.1.2⟩, ho.2⟩
      rw [if_pos this]; exact h
    · cases h
theorem okFrom_tail {a y : Nat} {v : Ver} {t : List Ver} (ht : t ≠ []) (h : okFrom a (v :: t) = some y) : okFrom a t = some y := by
  unfold okFrom at h
  split at h
  · rename_i ho
    unfold okVer at ho
    simp only [Bool.and_eq_true, decide_eq_true_eq] at ho
    exact okFrom_mono ht h (by omega)
  · cases h
theorem may_parts {c : Cel} (h : mayC c = true) : okFrom 0 c.l = some c.last ∧ c.l.length ≤ 8 := by
  unfold mayC at h
  split at h
  · cases h
  · rename_i x hx
    simp only [Bool.and_eq_true, decide_eq_true_eq] at h
    exact ⟨by rw [hx, h.2], h.1⟩
theorem may_of {c : Cel} (h : okFrom 0 c.l = some c.last) (h8 : c.l.length ≤ 8) : mayC c = true := by
  unfold mayC; rw [h]; simp [h8]
theorem okVer_sizes {a : Nat} {v : Ver} (h : okVer a v = true) : v.tx.size ≤ 4096 := by
  unfold okVer at h
  simp only [Bool.and_eq_true, Bool.or_eq_true, decide_eq_true_eq] at h
  rcases h.2 with h | h
  · exact h.2
  · have : v.tx.data.toList = [] := by simpa using h.2
    show v.tx.data.size ≤ 4096
    rw [← Array.length_toList, this]; simp
theorem okFrom_sizes {l : List Ver} : ∀ {a y : Nat}, okFrom a l = some y → ∀ v ∈ l, v.tx.size ≤ 4096 := by
  induction l with
  | nil => intro a y _ v hv; cases hv
  | cons x t ih =>
    intro a y h v hv
    unfold okFrom at h
    split at h
    · rename_i ho
      rcases List.mem_cons.1 hv with rfl | hv
      · exact okVer_sizes ho
      · exact ih h v hv
    · cases h
theorem sizeL_le {l : List Ver} (h : ∀ v ∈ l, v.tx.size ≤ 4096) : sizeL l ≤ l.length * 4096 := by
  induction l with
  | nil => simp [sizeL]
  | cons v t ih =>
    have h1 := h v (by simp)
    have h2 := ih (fun v hv => h v (by simp [hv]))
    simp only [sizeL, List.length_cons]; omega
theorem may_size {c : Cel} (h : mayC c = true) : sizeL c.l ≤ 32768 := by
  obtain ⟨h1, h2⟩ := may_parts h
  have := sizeL_le (okFrom_sizes h1)
  omega
theorem may_sizes {c : Cel} (h : mayC c = true) : ∀ i, i < c.l.length → (c.l.getD i dV).tx.size ≤ 140737488351232 := by
  intro i hi
  rw [List.getD_eq_getElem?_getD, List.getElem?_eq_getElem hi]
  have := okFrom_sizes (may_parts h).1 _ (List.getElem_mem hi)
  simp only [Option.getD_some]; omega
theorem may_putC {c : Cel} {x : Ver} (h : mayC c = true) (hx : okVer c.last ⟨c.last + 1, x.st, x.tx⟩ = true) : mayC (putC c x) = true ∧ (putC c x).l ≠ [] := by
  obtain ⟨h1, h2⟩ := may_parts h
  have h3 : okFrom 0 (c.l ++ [(⟨c.last + 1, x.st, x.tx⟩ : Ver)]) = some (c.last + 1) := by
    rw [okFrom_append, h1]
    show okFrom c.last [(⟨c.last + 1, x.st, x.tx⟩ : Ver)] = _
    unfold okFrom; rw [if_pos hx]; rfl
  by_cases h7 : c.l.length + 1 ≤ 8
  · have e : c.l.length + 1 - 8 = 0 := by omega
    refine ⟨may_of ?_ ?_, ?_⟩
    · unfold putC; simp only [e, List.drop_zero]; exact h3
    · unfold putC; simp only [e, List.drop_zero, List.length_append, List.length_singleton]; omega
    · unfold putC; simp [e]
  · have e : c.l.length + 1 - 8 = 1 := by omega
    refine ⟨may_of ?_ ?_, ?_⟩
    · unfold putC; simp only [e]
      cases hl : c.l with
      | nil => rw [hl] at h7; simp at h7
      | cons v t =>
        rw [hl] at h3
        simp only [List.cons_append, List.drop_succ_cons, List.drop_zero] at h3 ⊢
        exact okFrom_tail (by simp) h3
    · unfold putC; simp only [e, List.length_drop, List.length_append, List.length_singleton]; omega
    · unfold putC; simp only [e]
      intro hh
      have := congrArg List.length hh
      simp only [List.length_drop, List.length_append, List.length_singleton, List.length_nil] at this; omega
theorem okFrom_set {l : List Ver} {v : Ver} : ∀ {a : Nat} {i : Nat}, i < l.length → v.n = (l.getD i dV).n → v.st = 3 → v.tx = ByteArray.empty → okFrom a (l.set i v) = okFrom a l ∨ okFrom a l = none := by
  induction l with
  | nil => intro a i hi; simp at hi
  | cons x t ih =>
    intro a i hi hn hs ht
    cases i with
    | zero =>
      simp only [List.set_cons_zero, List.getD_cons_zero] at hn ⊢
      unfold okFrom
      by_cases ho : okVer a x = true
      · left
        have : okVer a v = true := by
          unfold okVer at ho ⊢
          simp only [Bool.and_eq_true, decide_eq_true_eq] at ho
          rw [hs, ht, hn]
          simp [ho.1.1.1]
        rw [if_pos ho, if_pos this, hn]
      · right; rw [if_neg ho]
    | succ i =>
      simp only [List.set_cons_succ, List.getD_cons_succ, List.length_cons] at hn hi ⊢
      unfold okFrom
      by_cases ho : okVer a x = true
      · rw [if_pos ho, if_pos ho]; exact ih (by omega) hn hs ht
      · right; rw [if_neg ho]

structure Edt where
  kind : Nat
  path : ByteArray
  any : Bool
  want : Nat
  n : Nat
  text : ByteArray
def edtVal (x : Edt) : Value := .agg #[.int .u8 x.kind, .string x.path, .bool x.any, .int .u64 x.want, .int .u64 x.n, .string x.text]

def outcomeE (c : Cel) (x : Edt) : Cel × Nat :=
  if x.kind = 1 then putE c x.any x.want x.text else if x.kind = 2 then deleteE c x.any x.want else destroyE c x.n
def weightE (p : ByteArray) (c : Cel) : Nat := if c.l.length = 0 then 0 else p.size + sizeL c.l

theorem comes_ok {c : Cel} {any : Bool} {want : Nat} {x : Ver} (h : mayC c = true) (hx : okVer c.last ⟨c.last + 1, x.st, x.tx⟩ = true) (he : (comesC c any want x).2 = 0) :
    mayC (comesC c any want x).1 = true ∧ (comesC c any want x).1.l ≠ [] ∧ (comesC c any want x).1.last < 18446744073709551616 ∨ 18446744073709551616 ≤ c.last := by
  unfold comesC at he ⊢
  split at he
  · simp at he
  · rename_i h1
    rw [if_neg h1]
    split at he
    · simp at he
    · rename_i h2
      rw [if_neg h2]
      obtain ⟨a, b⟩ := may_putC h hx
      by_cases h3 : c.last < 18446744073709551616
      · left; refine ⟨a, b, ?_⟩; show c.last + 1 < _; omega
      · right; omega
theorem outcome_ok {c : Cel} {x : Edt} (hm : mayC c = true) (hl : c.last < 18446744073709551616) (he : (outcomeE c x).2 = 0) : mayC (outcomeE c x).1 = true ∧ (outcomeE c x).1.l ≠ [] ∧ (outcomeE c x).1.last < 18446744073709551616 := by
  unfold outcomeE at he ⊢
  split at he
  · rename_i h1
    rw [if_pos h1]
    unfold putE at he ⊢
    rw [if_neg (by rw [hm]; simp)] at he ⊢
    split at he
    · simp at he
    · rename_i h2
      rw [if_neg h2]
      rcases comes_ok hm (by unfold okVer; simp; omega) he with h | h
      · exact h
      · omega
  · rename_i h1
    rw [if_neg h1]
    split at he
    · rename_i h2
      rw [if_pos h2]
      unfold deleteE at he ⊢
      rw [if_neg (by rw [hm]; simp)] at he ⊢
      split at he
      · simp at he
      · rename_i h3
        rw [if_neg h3]
        rcases comes_ok hm (by unfold okVer; simp) he with h | h
        · exact h
        · omega
    · rename_i h2
      rw [if_neg h2]
      unfold destroyE at he ⊢
      split at he
      · rename_i h3; exact absurd he h3
      · rename_i h3
        rw [if_neg h3]
        have h3' : (findE c x.n).2 = 0 := by omega
        have hlt := findE_lt h3'
        have hn := findE_n h3'
        obtain ⟨p1, p2⟩ := may_parts hm
        refine ⟨may_of ?_ ?_, ?_, hl⟩
        · rcases okFrom_set (a := 0) (l := c.l) (v := ⟨x.n, 3, ByteArray.empty⟩) hlt hn.symm rfl rfl with e | e
          · exact e.trans p1
          · rw [p1] at e; cases e
        · simpa using p2
        · intro hh
          have := congrArg List.length hh
          simp at this; rw [this] at hlt; simp at hlt
theorem weight_le {p : ByteArray} {c : Cel} (hm : mayC c = true) (hp : p.size ≤ 128) : weightE p c ≤ 33000 := by
  unfold weightE
  have := may_size hm
  split <;> omega

def cellAt (M : DataW Cel) (p : ByteArray) : Cel := match M.atKey (kS p) .nil with | .held c => c | _ => ⟨0, []⟩
def mayP (p : ByteArray) : Bool := mayL p.data.toList
def editE (N : DataW Cel) (x : Edt) : Cel × Nat := if x.kind < 1 ∨ 3 < x.kind ∨ mayP x.path = false then (cellAt N x.path, 2) else outcomeE (cellAt N x.path) x
def stepM (N : DataW Cel) (x : Edt) : DataW Cel := N.put (kS x.path) (.held (editE N x).1)
def runT (N : DataW Cel) (vs : List Nat) (B : Int) (i : Nat) : List Edt → (Nat × Nat) × DataW Cel × List Nat × Int
  | [] => ((0, 0), N, vs, B)
  | x :: t => if (editE N x).2 ≠ 0 then ((i, (editE N x).2), N, vs, B) else
      runT (stepM N x) (vs ++ [(editE N x).1.last]) (B + ((weightE x.path (editE N x).1 : Int) - (weightE x.path (cellAt N x.path) : Int))) (i + 1) t
def overT (r : DataW Cel × Int) (M : DataW Cel) (B q1 q2 : Int) : Bool := (decide (q1 < (size r.1 : Int)) && decide (size M < size r.1)) || (decide (q2 < r.2) && decide (B < r.2))
def triedT (M : DataW Cel) (B q1 q2 : Int) (l : List Edt) : (Nat × Nat) × DataW Cel × List Nat × Int :=
  let r := runT M [] B 0 l
  if r.1.2 ≠ 0 then r else if overT (r.2.1, r.2.2.2) M B q1 q2 then ((l.length, 180), r.2) else r

structure Good (P : Program) (ks : TypeId) (M : DataW Cel) : Prop where
  canon : CanonK (KeysOf P ks) M
  cells : ∀ k, has M k = true → ∃ p c, k = kS p ∧ M.atKey k .nil = .held c ∧ mayC c = true ∧ c.l ≠ [] ∧ c.last < 18446744073709551616 ∧ mayP p = true
theorem mayC_none : mayC ⟨0, []⟩ = true := by decide
theorem Good.cellAt {P : Program} {ks : TypeId} {M : DataW Cel} (h : Good P ks M) (p : ByteArray) : mayC (cellAt M p) = true ∧ (cellAt M p).last < 18446744073709551616 := by
  unfold Proofs.YtfbgnpfhjbiikaaGreatDoor.cellAt
  cases hh : has M (kS p) with
  | true =>
    obtain ⟨p', c, e, hc, h1, h2, h3, h4⟩ := h.cells _ hh
    rw [hc]; exact ⟨h1, h3⟩
  | false => rw [Maps.atKey_of_not_has hh]; exact ⟨mayC_none, by decide⟩
theorem mayP_size {p : ByteArray} (h : mayP p = true) : p.size ≤ 128 := by
  have := ((may_iff p.data.toList).1 h).1
  rw [Array.length_toList] at this; exact this
theorem edit_ok {P : Program} {ks : TypeId} {M : DataW Cel} (h : Good P ks M) {x : Edt} (he : (editE M x).2 = 0) : mayC (editE M x).1 = true ∧ (editE M x).1.l ≠ [] ∧ (editE M x).1.last < 18446744073709551616 ∧ mayP x.path = true := by
  unfold editE at he ⊢
  split at he
  · simp at he
  · rename_i h1
    rw [if_neg h1]
    obtain ⟨a, b⟩ := h.cellAt x.path
    obtain ⟨c, d, e⟩ := outcome_ok a b he
    refine ⟨c, d, e, ?_⟩
    cases hp : mayP x.path with
    | true => rfl
    | false => exact absurd (Or.inr (Or.inr hp)) h1
theorem Good.step {P : Program} {ks : TypeId} (hk : P.underlying ks = some .string) {M : DataW Cel} (h : Good P ks M) {x : Edt} (he : (editE M x).2 = 0) : Good P ks (stepM M x) := by
  obtain ⟨a, b, c, d⟩ := edit_ok h he
  have K : Keyed P ks := Go.Maps.string_keyed hk
  have hK : KeysOf P ks (kS x.path) := ⟨_, keyS hk (by have := mayP_size d; unfold maxLen; omega)⟩
  refine ⟨Maps.canonK_put K.one hK _ h.canon, fun k hk' => ?_⟩
  unfold stepM at hk' ⊢
  by_cases e : k = kS x.path
  · subst e
    exact ⟨_, _, rfl, Maps.atKey_put_same (canonK_isMap h.canon) (kS_key _) _ _, a, b, c, d⟩
  · rw [Maps.has_put_other e] at hk'
    rw [Maps.atKey_put_other e]; exact h.cells k hk'
end Go.Proofs.YtfbgnpfhjbiikaaGreatDoor

namespace Go.Proofs.YtfbgnpfhjbiikaaGreatDoor
open Go Go.RowKit
set_option maxRecDepth 100000 in
set_option maxHeartbeats 2000000 in
theorem tab_weight (p : ByteArray) (c : Cel) (v : Value) (w : World) (hv : IsVers w v c.l) (hl : c.l.length ≤ 65536) (hs : ∀ i, i < c.l.length → (c.l.getD i dV).tx.size ≤ 140737488351232) (hz : sizeL c.l ≤ 140737488351232) (hp : p.size ≤ 140737488351232) :
    Calls Tryz.prog 49 #[.string p, .agg #[.int .u64 c.last, v]] w fun e w' => e = .returned (.int .i64 (weightE p c)) ∧ Below w.heap.size w w' := by
  have Hr : Hid (weightE p c = if c.l.length = 0 then 0 else p.size + sizeL c.l) := Lib.hid rfl
  generalize weightE p c = r at Hr
  have Hsize := Lib.hid (fun (v : Value) (w : World) (h : IsVers w v c.l) => (cell_size c v w h hl hs))
  generalize sizeL c.l = z at Hr Hsize hz
  clear hs
  obtain ⟨cl, L⟩ := c
  simp only at hv hl Hsize Hr ⊢
  have hv2 := hv
  obtain ⟨a, cap, rfl, hc⟩ := hv2
  clear hc
  have Hv := Lib.hid hv; clear hv
  by_cases h0 : L.length = 0
  · have hB : ((L.length : Int) == 0) = true := by simp [h0]
    obtain rfl : r = 0 := by rw [Hr.out, if_pos h0]
    have H0 := Lib.hid h0; clear h0
    go_enter Tryz.func49, Tryz.ntmps49
    go_wp2_with fail
    go_ret
    exact ⟨rfl, (Below.refl _ _).alloc (Nat.le_refl _) _⟩
  · have hB : ((L.length : Int) == 0) = false := by rw [beq_eq_false_iff_ne]; omega
    obtain rfl : r = p.size + z := by rw [Hr.out, if_neg h0]
    have H0 := Lib.hid h0; clear h0
    have hi : (p.size : Int) + (z : Int) ≤ 9223372036854775807 := by omega
    have hi0 : -9223372036854775808 ≤ (p.size : Int) + (z : Int) := by omega
    go_enter Tryz.func49, Tryz.ntmps49
    go_wp2_with fail
    refine (Hsize.out _ _ ?_).mono ?_
    · exact Hv.out.below ((Below.refl _ _).alloc (Nat.le_refl _) _) (Nat.le_refl _)
    rintro e w1 ⟨rfl, hb1⟩
    have Hb1 := Lib.hid hb1; clear hb1
    go_wp2_with fail
    go_ret
    exact ⟨ret_int (by push_cast; rfl), ((Below.refl _ _).alloc (Nat.le_refl _) _).trans (Hb1.out.mono (by simp))⟩

set_option maxRecDepth 100000 in
set_option maxHeartbeats 2000000 in
theorem tab_outcome (c : Cel) (v : Value) (x : Edt) (w : World) (hv : IsVers w v c.l) (hl : c.l.length ≤ 65536) (hlast : c.last < 18446744073709551616) (htx : x.text.size ≤ 9223372036854775807) :
    Calls Tryz.prog 81 #[.agg #[.int .u64 c.last, v], edtVal x] w (CelErr (outcomeE c x) w) := by
  have Hr : Hid (outcomeE c x = if x.kind = 1 then putE c x.any x.want x.text else if x.kind = 2 then deleteE c x.any x.want else destroyE c x.n) := Lib.hid rfl
  generalize outcomeE c x = r at Hr
  have Hput := Lib.hid (fun (v : Value) (w : World) (h : IsVers w v c.l) => (cell_put c v x.any x.want x.text w h hl hlast htx))
  have Hdel := Lib.hid (fun (v : Value) (w : World) (h : IsVers w v c.l) => (cell_delete c v x.any x.want w h hl hlast))
  have Hdes := Lib.hid (fun (v : Value) (w : World) (h : IsVers w v c.l) => (cell_destroy c v x.n w h hl))
  generalize putE c x.any x.want x.text = r1 at Hr Hput
  generalize deleteE c x.any x.want = r2 at Hr Hdel
  generalize destroyE c x.n = r3 at Hr Hdes
  obtain ⟨cl, L⟩ := c
  obtain ⟨kd, pth, any, want, n, tx⟩ := x
  simp only at hv hl hlast htx Hput Hdel Hdes Hr ⊢
  have hv2 := hv
  obtain ⟨a, cap, rfl, hc⟩ := hv2
  clear hc
  have Hv := Lib.hid hv; clear hv
  unfold edtVal
  go_enter Tryz.func81, Tryz.ntmps81
  go_upto_region 1 with fail
  refine wp_abs (F := fun W => W.heap.size = w.heap.size + 3 ∧ (∀ j, W.cell? ⟨w.heap.size, j, none⟩ = (#[Value.int .u64 cl, .slice a L.length cap])[j]?) ∧ (∀ j, W.cell? ⟨w.heap.size + 1, j, none⟩ = (#[Value.int .u8 kd, .string pth, .bool any, .int .u64 want, .int .u64 n, .string tx])[j]?) ∧ (∀ j, W.cell? ⟨w.heap.size + 2, j, none⟩ = (#[Value.int .u64 0, .slice none 0 0])[j]?) ∧ (∀ j, W.frozen? ⟨w.heap.size + 1, j, none⟩ = false) ∧ (∀ j, W.frozen? ⟨w.heap.size + 2, j, none⟩ = false) ∧ Below w.heap.size w W) (threeNew w _ _ _ _ _ _ rfl) ?_
  rintro W ⟨hsz, n0, n1, n2, fr1, fr, hb⟩
  have q0 := n0 0
  have q1 := n0 1
  have k0 := n1 0
  have k2 := n1 2
  have k3 := n1 3
  have k4 := n1 4
  have k5 := n1 5
  simp at q0 q1 k0 k2 k3 k4 k5
  have HvW : Hid (IsVers W (.slice a L.length cap) L) := Lib.hid (Hv.out.below hb (Nat.le_refl _))
  have Hsz := Lib.hid hsz; have N2 := Lib.hid n2; have Fr := Lib.hid fr; have Hb := Lib.hid hb; clear hsz n0 n1 n2 fr1 fr hb
  have Hend : Hid (∀ (r : Cel × Nat) (w2 : World) (v1 : Value), IsVers w2 v1 r.1.l → (∀ k, v1.ownBlock = some k → W.heap.size ≤ k) → Below W.heap.size W w2 → ∀ u1 u2,
      IsVers ((w2.setCell ⟨w.heap.size + 1 + 1, 0, none⟩ u1).setCell ⟨w.heap.size + 1 + 1, 1, none⟩ u2) v1 r.1.l ∧ (∀ k, v1.ownBlock = some k → w.heap.size ≤ k) ∧ Below w.heap.size w ((w2.setCell ⟨w.heap.size + 1 + 1, 0, none⟩ u1).setCell ⟨w.heap.size + 1 + 1, 1, none⟩ u2)) := Lib.hid (by
    intro r w2 v1 hv1 hf hb2 u1 u2
    have hsz := Hsz.out
    refine ⟨(hv1.setFar ?_ _).setFar ?_ _, fun k hk => Nat.le_trans (by omega) (hf k hk), (((Hb.out.trans (hb2.mono (by omega))).setCell ?_ _).setCell ?_ _)⟩
    · intro k hk; have := hf k hk; dsimp only; omega
    · intro k hk; have := hf k hk; dsimp only; omega
    · dsimp only; omega
    · dsimp only; omega)
  by_cases h1 : kd = 1
  · have hB1 : ((kd : Int) == 1) = true := by simp [h1]
    obtain rfl : r = r1 := by rw [Hr.out, if_pos h1]
    clear h1
    go_wp2_with fail
    refine (Hput.out _ _ ?_).mono ?_
    · exact HvW.out
    rintro e w2 ⟨v1, rfl, hv1, hf1, hb2⟩
    have hv1' := hv1
    obtain ⟨a1, c1, rfl, hc1⟩ := hv1'
    clear hc1
    have hsz := Hsz.out
    have z0 : w2.cell? ⟨w.heap.size + 1 + 1, 0, none⟩ = some (.int .u64 0) := (hb2.cell (by dsimp only; omega)).trans (N2.out 0)
    have z1 : w2.cell? ⟨w.heap.size + 1 + 1, 1, none⟩ = some (.slice none 0 0) := (hb2.cell (by dsimp only; omega)).trans (N2.out 1)
    have g0 : w2.frozen? ⟨w.heap.size + 1 + 1, 0, none⟩ = false := (hb2.frozen (by dsimp only; omega)).trans (Fr.out 0)
    have g1 : w2.frozen? ⟨w.heap.size + 1 + 1, 1, none⟩ = false := (hb2.frozen (by dsimp only; omega)).trans (Fr.out 1)
    have Hv1 := Lib.hid hv1; have Hf1 := Lib.hid hf1; have Hb2 := Lib.hid hb2; clear hv1 hf1 hb2 hsz
    go_wp2_with fail
    refine bodyPost_ret (v := .tuple #[.agg #[.int .u64 r.1.last, .slice a1 r.1.l.length c1], .int .i64 r.2]) ?_ rfl ⟨_, rfl, ?_⟩
    · simp [results, Tryz.results81, go_sem, z0, z1]
    · exact Hend.out _ _ _ Hv1.out Hf1.out Hb2.out _ _
  · have hB1 : ((kd : Int) == 1) = false := by rw [beq_eq_false_iff_ne]; omega
    by_cases h2 : kd = 2
    · have hB2 : ((kd : Int) == 2) = true := by simp [h2]
      obtain rfl : r = r2 := by rw [Hr.out, if_neg h1, if_pos h2]
      clear h1 h2
      go_wp2_with fail
      refine (Hdel.out _ _ ?_).mono ?_
      · exact HvW.out
      rintro e w2 ⟨v1, rfl, hv1, hf1, hb2⟩
      have hv1' := hv1
      obtain ⟨a1, c1, rfl, hc1⟩ := hv1'
      clear hc1
      have hsz := Hsz.out
      have z0 : w2.cell? ⟨w.heap.size + 1 + 1, 0, none⟩ = some (.int .u64 0) := (hb2.cell (by dsimp only; omega)).trans (N2.out 0)
      have z1 : w2.cell? ⟨w.heap.size + 1 + 1, 1, none⟩ = some (.slice none 0 0) := (hb2.cell (by dsimp only; omega)).trans (N2.out 1)
      have g0 : w2.frozen? ⟨w.heap.size + 1 + 1, 0, none⟩ = false := (hb2.frozen (by dsimp only; omega)).trans (Fr.out 0)
      have g1 : w2.frozen? ⟨w.heap.size + 1 + 1, 1, none⟩ = false := (hb2.frozen (by dsimp only; omega)).trans (Fr.out 1)
      have Hv1 := Lib.hid hv1; have Hf1 := Lib.hid hf1; have Hb2 := Lib.hid hb2; clear hv1 hf1 hb2 hsz
      go_wp2_with fail
      refine bodyPost_ret (v := .tuple #[.agg #[.int .u64 r.1.last, .slice a1 r.1.l.length c1], .int .i64 r.2]) ?_ rfl ⟨_, rfl, ?_⟩
      · simp [results, Tryz.results81, go_sem, z0, z1]
      · exact Hend.out _ _ _ Hv1.out Hf1.out Hb2.out _ _
    · have hB2 : ((kd : Int) == 2) = false := by rw [beq_eq_false_iff_ne]; omega
      obtain rfl : r = r3 := by rw [Hr.out, if_neg h1, if_neg h2]
      clear h1 h2
      go_wp2_with fail
      refine (Hdes.out _ _ ?_).mono ?_
      · exact HvW.out
      rintro e w2 ⟨v1, rfl, hv1, hf1, hb2⟩
      have hv1' := hv1
      obtain ⟨a1, c1, rfl, hc1⟩ := hv1'
      clear hc1
      have hsz := Hsz.out
      have z0 : w2.cell? ⟨w.heap.size + 1 + 1, 0, none⟩ = some (.int .u64 0) := (hb2.cell (by dsimp only; omega)).trans (N2.out 0)
      have z1 : w2.cell? ⟨w.heap.size + 1 + 1, 1, none⟩ = some (.slice none 0 0) := (hb2.cell (by dsimp only; omega)).trans (N2.out 1)
      have g0 : w2.frozen? ⟨w.heap.size + 1 + 1, 0, none⟩ = false := (hb2.frozen (by dsimp only; omega)).trans (Fr.out 0)
      have g1 : w2.frozen? ⟨w.heap.size + 1 + 1, 1, none⟩ = false := (hb2.frozen (by dsimp only; omega)).trans (Fr.out 1)
      have Hv1 := Lib.hid hv1; have Hf1 := Lib.hid hf1; have Hb2 := Lib.hid hb2; clear hv1 hf1 hb2 hsz
      go_wp2_with fail
      refine bodyPost_ret (v := .tuple #[.agg #[.int .u64 r.1.last, .slice a1 r.1.l.length c1], .int .i64 r.2]) ?_ rfl ⟨_, rfl, ?_⟩
      · simp [results, Tryz.results81, go_sem, z0, z1]
      · exact Hend.out _ _ _ Hv1.out Hf1.out Hb2.out _ _
end Go.Proofs.YtfbgnpfhjbiikaaGreatDoor

namespace Go.Proofs
open Go.RowKit Go.Maps Go.Sort Go.Shelf
-- maps.Keys[map[string]scrinium/api.Cell,string,scrinium/api.Cell] (function 45; its iterator 77) · slices.Sorted[string] (44) · slices.Sort[[]string,string] (76) · the map's type 103, the keys' 9
theorem Tryz.sorts44 (m : Nat) : AnyZ.SortsIn Tryz.prog Tryz.sorted44_ren Fence.wide m :=
  ⟨fun blk off cap ss W hH hblk hsz => callsIn_wide.2 (AnyM.slices_Sort_string Tryz.sort76 blk off cap ss W hH hblk hsz),
   fun p cap W => callsIn_wide.2 (AnyM.slices_Sort_string_none Tryz.sort76 p cap W)⟩

theorem Tryz.maps_Keys_45 (mb : Option Nat) (W : World) : CallsIn Fence.wide 5 Tryz.prog 45 #[.map mb] W fun e w' => e = .returned (.func (.func 77) #[] #[.pointer (some ⟨W.heap.size, 0, none⟩)]) ∧ w' = W.alloc (.cells #[.map mb] 103) :=
  AnyZ.keys_in Tryz.keys45 Fence.wide 5 trivial rfl mb W

set_option maxHeartbeats 1000000 in
theorem Tryz.slices_Sorted_keys_44_45 {H : Type} (b nn : Nat) (D0 : DataW H) (R : Value → Option (DataW H × List MemPlace)) (w : World) (hown : w.ownsMap Tryz.prog 9 R b nn D0) (hmax : Maps.size D0 ≤ maxLen) (hbytes : Maps.size D0 * 16 ≤ 140737488355328) :
    CallsIn Fence.wide 5 Tryz.prog 44 #[.func (.func 77) #[] #[.pointer (some ⟨w.heap.size, 0, none⟩)]] (w.alloc (.cells #[.map (some b)] 103)) fun e w' => ∃ (v : Value) (ss : List (List UInt8)), e = .returned v ∧ ss.Perm (strKeys D0) ∧
      w'.ownsRow (w.alloc (.cells #[.map (some b)] 103)).heap.size 9 1 v ss.length ((ss.mergeSort (fun x y => decide (x ≤ y))).map encStr) ∧ (v = .slice none 0 0 ↔ ss = []) ∧ Below (w.alloc (.cells #[.map (some b)] 103)).heap.size (w.alloc (.cells #[.map (some b)] 103)) w' := by
  have hbl := hown.lt
  have hseq : SeqGives Fence.wide 2 Tryz.prog 77 #[.pointer (some ⟨w.heap.size, 0, none⟩)] encStr (fun ss => ss.Perm (strKeys D0)) (Maps.size D0) (w.alloc (.cells #[.map (some b)] 103)) :=
    AnyZ.keys_gives (ρ := Tryz.keys45_ren) { Tryz.keys45 with } Fence.wide _ trivial rfl (by omega) w.heap.size b nn D0 _ (by simp) (by simp) (by
      obtain ⟨es, clock, hb, Ft, hs, hD⟩ := hown
      exact ⟨es, clock, (Below.heap_alloc _ _ b hbl).trans hb, Ft, hs, hD⟩)
  exact AnyZ.sorted_in Tryz.sorted44 Fence.wide 5 trivial trivial trivial trivial rfl (by omega) (Tryz.sorts44 _) (enters_of Tryz.func76 (by kernel_rfl) rfl) 77 #[.pointer (some ⟨w.heap.size, 0, none⟩)] trivial (enters_of Tryz.func77 (by kernel_rfl) rfl) _ _ hmax hbytes _ hseq

theorem Tryz.maps_Keys_89 (mb : Option Nat) (W : World) : CallsIn Fence.wide 5 Tryz.prog 89 #[.map mb] W fun e w' => e = .returned (.func (.func 117) #[] #[.pointer (some ⟨W.heap.size, 0, none⟩)]) ∧ w' = W.alloc (.cells #[.map mb] 116) :=
  AnyZ.keys_in Tryz.keys89 Fence.wide 5 trivial rfl mb W

set_option maxHeartbeats 1000000 in
theorem Tryz.slices_Sorted_keys_44_89 {H : Type} (b nn : Nat) (D0 : DataW H) (R : Value → Option (DataW H × List MemPlace)) (w : World) (hown : w.ownsMap Tryz.prog 9 R b nn D0) (hmax : Maps.size D0 ≤ maxLen) (hbytes : Maps.size D0 * 16 ≤ 140737488355328) :
    CallsIn Fence.wide 5 Tryz.prog 44 #[.func (.func 117) #[] #[.pointer (some ⟨w.heap.size, 0, none⟩)]] (w.alloc (.cells #[.map (some b)] 116)) fun e w' => ∃ (v : Value) (ss : List (List UInt8)), e = .returned v ∧ ss.Perm (strKeys D0) ∧
      w'.ownsRow (w.alloc (.cells #[.map (some b)] 116)).heap.size 9 1 v ss.length ((ss.mergeSort (fun x y => decide (x ≤ y))).map encStr) ∧ (v = .slice none 0 0 ↔ ss = []) ∧ Below (w.alloc (.cells #[.map (some b)] 116)).heap.size (w.alloc (.cells #[.map (some b)] 116)) w' := by
  have hbl := hown.lt
  have hseq : SeqGives Fence.wide 2 Tryz.prog 117 #[.pointer (some ⟨w.heap.size, 0, none⟩)] encStr (fun ss => ss.Perm (strKeys D0)) (Maps.size D0) (w.alloc (.cells #[.map (some b)] 116)) :=
    AnyZ.keys_gives (ρ := Tryz.keys89_ren) { Tryz.keys89 with } Fence.wide _ trivial rfl (by omega) w.heap.size b nn D0 _ (by simp) (by simp) (by
      obtain ⟨es, clock, hb, Ft, hs, hD⟩ := hown
      exact ⟨es, clock, (Below.heap_alloc _ _ b hbl).trans hb, Ft, hs, hD⟩)
  exact AnyZ.sorted_in Tryz.sorted44 Fence.wide 5 trivial trivial trivial trivial rfl (by omega) (Tryz.sorts44 _) (enters_of Tryz.func76 (by kernel_rfl) rfl) 117 #[.pointer (some ⟨w.heap.size, 0, none⟩)] trivial (enters_of Tryz.func117 (by kernel_rfl) rfl) _ _ hmax hbytes _ hseq

end Go.Proofs

namespace Go.Proofs.YtfbgnpfhjbiikaaGreatDoor
open Go Go.RowKit Pth Go.Maps Go.Sort
def nub : List (List UInt8) → List (List UInt8)
  | [] => []
  | a :: t => if a ∈ nub t then nub t else a :: nub t
theorem mem_nub {x : List UInt8} {l : List (List UInt8)} : x ∈ nub l ↔ x ∈ l := by
  induction l with
  | nil => simp [nub]
  | cons a t ih =>
    unfold nub
    split
    · rename_i h
      rw [ih, List.mem_cons]
      constructor
      · exact Or.inr
      · rintro (rfl | h2)
        · exact ih.1 h
        · exact h2
    · rw [List.mem_cons, List.mem_cons, ih]
theorem nub_nodup (l : List (List UInt8)) : (nub l).Nodup := by
  induction l with
  | nil => simp [nub]
  | cons a t ih =>
    unfold nub
    split
    · exact ih
    · rename_i h; exact List.nodup_cons.2 ⟨h, ih⟩
def kidsL (p : List UInt8) (l : List (List UInt8)) : List (List UInt8) := (l.filter (underL p)).map (childL p)
def namesL (p : List UInt8) (l : List (List UInt8)) : List (List UInt8) := (nub (kidsL p l)).mergeSort (fun x y => decide (x ≤ y))

theorem isKey {x : List UInt8} : WideAt.IsKeyLit (.string x) := by simp [WideAt.IsKeyLit]
def NamesRel (p : List UInt8) (l : List ByteArray) (k : Nat) (D : DataW Unit) : Prop :=
  Tidy D ∧ ∀ x, Maps.has D (.string x) = true ↔ x ∈ kidsL p ((l.take k).map (·.data.toList))
theorem kids_snoc (p s : List UInt8) (l : List (List UInt8)) : kidsL p (l ++ [s]) = if underL p s then kidsL p l ++ [childL p s] else kidsL p l := by
  unfold kidsL
  rw [List.filter_append, List.map_append]
  cases h : underL p s <;> simp [h]
theorem take_map_snoc (l : List ByteArray) (k : Nat) (hk : k < l.length) : (l.take (k + 1)).map (·.data.toList) = (l.take k).map (·.data.toList) ++ [(l.getD k ByteArray.empty).data.toList] := by
  rw [List.take_succ_eq_append_getElem hk, List.map_append, List.getD_eq_getElem?_getD, List.getElem?_eq_getElem hk]; rfl
theorem NamesRel.start (p : List UInt8) (l : List ByteArray) : NamesRel p l 0 (.map []) := ⟨tidy_empty, fun x => by simp [kidsL, has]⟩
theorem NamesRel.skip {p : List UInt8} {l : List ByteArray} {k : Nat} {D : DataW Unit} (h : NamesRel p l k D) (hk : k < l.length) {s : ByteArray} (hs : s = l.getD k ByteArray.empty) (hu : underL p s.data.toList = false) : NamesRel p l (k + 1) D := by
  refine ⟨h.1, fun x => ?_⟩
  rw [take_map_snoc l k hk, kids_snoc, ← hs, hu]; exact h.2 x
theorem NamesRel.step {p : List UInt8} {l : List ByteArray} {k : Nat} {D : DataW Unit} (h : NamesRel p l k D) (hk : k < l.length) {s : ByteArray} (hs : s = l.getD k ByteArray.empty) (hu : underL p s.data.toList = true) (d : DataW Unit) : NamesRel p l (k + 1) (D.put (.string (childL p s.data.toList)) d) := by
  refine ⟨h.1.put isKey d, fun x => ?_⟩
  rw [take_map_snoc l k hk, kids_snoc, ← hs, hu, if_pos rfl, List.mem_append, List.mem_singleton]
  by_cases hx : x = childL p s.data.toList
  · subst hx; rw [has_put_same h.1.isMap isKey]; simp
  · rw [has_put_other (by simpa using hx), h.2 x]; simp [hx]
theorem strKeys_names {p : List UInt8} {l : List ByteArray} {D : DataW Unit} (h : NamesRel p l l.length D) (hk : ∀ es, D = .map es → ∀ q ∈ es, ∃ x, q.1 = .string x) : (nub (kidsL p (l.map (·.data.toList)))).Perm (strKeys D) := by
  obtain ⟨⟨es, rfl, hp⟩, h2⟩ := h
  refine perm_strKeys hp (hk es rfl) (nub_nodup _) fun x => ?_
  rw [mem_nub, h2 x, List.take_length]

theorem keyLaw : Keyed Tryz.prog 9 := string_keyed Tryz.underlying9
theorem zeroInt (w : World) : (zeroValue 3).run Tryz.prog w = .ok (.int .i64 0) w := by kernel_rfl

theorem head_le (r : List UInt8) : (headL r).length ≤ r.length := by
  unfold headL; split
  · rw [List.length_take]; omega
  · exact Nat.le_refl _
theorem rest_le (p s : List UInt8) : (restL p s).length ≤ s.length := by
  unfold restL; split
  · exact Nat.le_refl _
  · rw [List.length_drop]; omega
theorem child_le (p s : List UInt8) : (childL p s).length ≤ s.length := by
  unfold childL; split
  · exact Nat.le_trans (head_le _) (rest_le _ _)
  · exact Nat.zero_le _
theorem ownsMap_below {H : Type} {w w' : World} {P : Program} {k : TypeId} {R : Value → Option (DataW H × List MemPlace)} {b n : Nat} {D : DataW H} {B : Nat} (h : w.ownsMap P k R b n D) (hb : Below B w w') (hB : b < B) : w'.ownsMap P k R b n D := by
  obtain ⟨es, clock, h1, F, hs, hD⟩ := h
  exact ⟨es, clock, (hb.block b hB).trans h1, F, hs, hD⟩

def NamesGives (p : List UInt8) (l : List ByteArray) (w : World) (e : Ending) (w' : World) : Prop :=
  ∃ v, e = .returned v ∧ IsStrs w' v ((namesL p (l.map (·.data.toList))).map bs) ∧ Below w.heap.size w w'

theorem names_end {p : List UInt8} {l : List ByteArray} {w wr w' : World} {B e0 : Nat} {D : DataW Unit} {b n : Nat} {v : Value} {ss : List (List UInt8)} (h : NamesRel p l l.length D)
    (hown : wr.ownsMap Tryz.prog 9 (plainElem Tryz.prog 3) b n D) (hperm : ss.Perm (strKeys D)) (hrow : w'.ownsRow B e0 1 v ss.length ((ss.mergeSort (fun x y => decide (x ≤ y))).map encStr)) (hb : Below w.heap.size w w') :
    NamesGives p l w (.returned v) w' := by
  refine ⟨v, rfl, IsStrs.own (B := B) (e := e0) ?_, hb⟩
  obtain ⟨es0, he0, hk0⟩ := hown.keysOf
  have hp := strKeys_names h (fun es he q hq => by
    rw [he0] at he
    obtain rfl : es0 = es := by injection he
    obtain ⟨x, hx⟩ := hk0 q hq
    obtain ⟨y, _, hy, _⟩ := Maps.keyOf_str Tryz.underlying9 hx
    exact ⟨y, hy⟩)
  have e1 : namesL p (l.map (·.data.toList)) = ss.mergeSort (fun x y => decide (x ≤ y)) := mergeSort_of_perm (hp.trans hperm.symm)
  rw [e1, List.length_map, List.length_mergeSort, List.map_map]
  exact hrow

set_option maxHeartbeats 2000000 in
theorem path_names (p : ByteArray) (l : List ByteArray) (v : Value) (w : World) (hp : p.size ≤ 140737488351232) (hl : l.length * 16 ≤ 140737488351232) (hls : ∀ i, i < l.length → (l.getD i ByteArray.empty).size ≤ 140737488351232)
    (hv : IsStrs w v l) (hm : MX w) :
    Calls Tryz.prog 60 #[.string p, v] w (NamesGives p.data.toList l w) := by
  obtain ⟨a, cap, rfl, hcells⟩ := hv
  have hcells := Lib.hid hcells
  have hls := Lib.hid hls
  have hm := Lib.hid hm
  have hmm := @run_makeMap Tryz.prog
  go_enter Tryz.func60, Tryz.ntmps60
  go_wp2
  go_loopw [13] (fun i wr => ∃ (k : Nat) (D : DataW Unit), k ≤ l.length ∧ i = .int .i64 k ∧ wr.ownsMap Tryz.prog 9 (plainElem Tryz.prog 3) w.heap.size k D ∧ Hid (NamesRel p.data.toList l k D) ∧ Below w.heap.size w wr) (fun i _ => l.length - (intOf i).toNat)
  case atStart => exact ⟨0, _, Nat.zero_le _, rfl, World.ownsMap_made _ _ _ _, Lib.hid (NamesRel.start _ _), (Below.refl _ _).alloc (Nat.le_refl _) _⟩
  case round =>
    obtain ⟨k, D, hk, rfl, hown, hrl, hbw⟩ := hrel
    by_cases hlt : k < l.length
    · rcases hcells.out with hn | ⟨b, off, rfl, hblt, hc⟩
      · subst hn; simp at hlt
      have hcell : wr.cell? ⟨b, off + k, none⟩ = some (.string (l.getD k ByteArray.empty)) := (hbw.cell (p := ⟨b, off + k, none⟩) hblt).trans (hc k hlt)
      have hsz := hls.out k hlt
      obtain ⟨s, hs⟩ : ∃ s, s = l.getD k ByteArray.empty := ⟨_, rfl⟩
      rw [← hs] at hcell hsz
      have Hs := Lib.hid hs; clear hs hc
      have hc2 := path_child p s hp hsz wr (hm.out.below hbw (Nat.le_refl _))
      cases hu : underL p.data.toList s.data.toList with
      | false =>
        rw [hu] at hc2
        have HC := Lib.hid hc2; clear hc2
        have HU := Lib.hid hu; clear hu
        have hown := Lib.hid hown
        go_wp2_with (go_at_call 88; refine (HC.out).mono ?_; rintro e w' ⟨rfl, hb⟩; have Hb := Lib.hid hb; clear hb)
        go_roundw
        case rel => exact ⟨k + 1, D, by omega, by go_num, (ownsMap_below hown.out Hb.out (by exact hown.out.lt)).mono (by omega), Lib.hid (hrl.out.skip hlt Hs.out HU.out), hbw.trans (Hb.out.mono hbw.size)⟩
        case measure => simp [intOf]; omega
      | true =>
        rw [hu] at hc2
        have HC := Lib.hid hc2; clear hc2
        have HU := Lib.hid hu; clear hu
        have hcs := child_le p.data.toList s.data.toList
        have e0 : s.data.toList.length = s.size := rfl
        obtain ⟨c, hcc⟩ : ∃ c, c = childL p.data.toList s.data.toList := ⟨_, rfl⟩
        rw [← hcc] at HC hcs
        have Hcc := Lib.hid hcc; clear hcc
        have hkey : keyOf Tryz.prog 9 (.string (bs c)) = some (.string c) := Go.WideMaps.keyOf_string_mk Tryz.underlying9 (s := bs c) (by rw [bs_size]; unfold maxLen; omega)
        clear e0 hcs
        have hkl : l.length < maxLen := by unfold maxLen; omega
        go_wp2_with (first
          | (go_at_call 88; refine (HC.out).mono ?_; rintro e w' ⟨rfl, hb⟩; have hown1 := ownsMap_below hown hb (by exact hown.lt); have Hb := Lib.hid hb; clear hb)
          | (at_lookup; refine wpList_lookup_own_int _ rfl _ _ 116 rfl 9 3 .i64 keyLaw Tryz.underlying116 Tryz.underlying3 (zeroInt _) w.heap.size k _ rfl hown1 _ _ rfl hkey ?_; intro cc hat hwc; have Hat := Lib.hid hat; have Hwc := Lib.hid hwc; clear hat hwc)
          | (at_mapUpdate; refine wpList_mapUpdate_own _ rfl _ _ _ 116 rfl 9 3 keyLaw Tryz.underlying116 _ w.heap.size k _ rfl hown1 (by omega) _ _ _ rfl rfl hkey _ [] (plainElem_int Tryz.underlying3 (wrap64_wf _)) ?_; intro w2 hown2 hgrow2))
        go_roundw
        case rel => exact ⟨k + 1, _, by omega, by go_num, hown2, Lib.hid (by rw [Hcc.out]; exact hrl.out.step hlt Hs.out HU.out _), (hbw.trans (Hb.out.mono hbw.size)).grown hgrow2 (by have := hbw.size; have := Hb.out.size; omega) (fun j hj => by cases hj; exact Nat.le_refl _)⟩
        case measure => simp [intOf]; omega
    · have hown := Lib.hid hown
      obtain rfl : k = l.length := by omega
      have hsz : Maps.size D ≤ l.length := by
        obtain ⟨es, clock, h1, F, hs, rfl⟩ := hown.out
        rw [size_eq, length_sorted]; simpa using hs
      have hK := callsIn_wide.1 (Tryz.maps_Keys_89 (some w.heap.size) wr)
      have hS := callsIn_wide.1 (Tryz.slices_Sorted_keys_44_89 w.heap.size l.length D _ wr hown.out (by unfold maxLen; omega) (by omega))
      have HK := Lib.hid hK; clear hK
      have HS := Lib.hid hS; clear hS
      go_wp2_with fail
      refine (HK.out).mono ?_
      rintro e w' ⟨rfl, rfl⟩
      go_wp2_with fail
      refine (HS.out).mono ?_
      rintro e w' ⟨v, ss, rfl, hperm, hrow, hnil, hb⟩
      go_wp2
      go_ret
      exact names_end hrl.out hown.out hperm hrow (hbw.trans (((Below.refl _ wr).alloc (Nat.le_refl _) _).trans (hb.mono (by simp)) |>.mono hbw.size))
end Go.Proofs.YtfbgnpfhjbiikaaGreatDoor

namespace Go.Proofs.YtfbgnpfhjbiikaaGreatDoor
open Go Go.RowKit
open Go.Maps (has size Canon CanonK Tidy IsMap KeysOf Keyed Merged)
abbrev CelMap (w : World) (b : Nat) (M : DataW Cel) : Prop := HoldsMap Tryz.prog 9 (IsCel w) w b M
theorem CelMap.below {w w' : World} {b : Nat} {M : DataW Cel} (h : CelMap w b M) (hb : Below w.heap.size w w') : CelMap w' b M :=
  h.move (hb.block b h.lt) (fun _ _ g => g.below hb (Nat.le_refl _))

structure TabAt (w : World) (t b : Nat) (q1 q2 : Int) (M : DataW Cel) (B : Int) : Prop where
  c0 : w.cell? ⟨t, 0, none⟩ = some (.int .i64 q1)
  c1 : w.cell? ⟨t, 1, none⟩ = some (.int .i64 q2)
  c2 : w.cell? ⟨t, 2, none⟩ = some (.map (some b))
  c3 : w.cell? ⟨t, 3, none⟩ = some (.int .i64 B)
  c4 : ∀ j, w.cell? ⟨t, j + 4, none⟩ = none
  f3 : w.frozen? ⟨t, 3, none⟩ = false
  m : CelMap w b M
theorem TabAt.lt {w : World} {t b : Nat} {q1 q2 B : Int} {M : DataW Cel} (h : TabAt w t b q1 q2 M B) : t < w.heap.size := cell_lt h.c0
theorem TabAt.below {w w' : World} {t b : Nat} {q1 q2 B : Int} {M : DataW Cel} (h : TabAt w t b q1 q2 M B) (hb : Below w.heap.size w w') : TabAt w' t b q1 q2 M B := by
  have hl := h.lt
  exact ⟨(hb.cell hl).trans h.c0, (hb.cell hl).trans h.c1, (hb.cell hl).trans h.c2, (hb.cell hl).trans h.c3, fun j => (hb.cell hl).trans (h.c4 j), (hb.frozen hl).trans h.f3, h.m.below hb⟩
theorem TabAt.ne {w : World} {t b : Nat} {q1 q2 B : Int} {M : DataW Cel} (h : TabAt w t b q1 q2 M B) : t ≠ b := by
  intro e
  subst e
  obtain ⟨D, ⟨es, clock, hh, _⟩, _⟩ := h.m
  have := h.c0
  unfold World.cell? at this
  rw [hh] at this
  cases this

set_option maxRecDepth 100000 in
theorem tab_made (w : World) {t b : Nat} {q1 q2 B : Int} {M : DataW Cel} (h : TabAt w t b q1 q2 M B) :
    Calls Tryz.prog 43 #[.pointer (some ⟨t, 0, none⟩)] w fun e w' => e = .returned (.bool true) ∧ Below w.heap.size w w' := by
  have c2 := h.c2
  clear h
  have hne := fun (w : World) (m : Option Nat) => run_neq_map_nil (P := Tryz.prog) w 103 9 46 m Tryz.underlying103
  go_enter Tryz.func43, Tryz.ntmps43
  go_wp2_with fail
  go_ret
  exact ⟨rfl, Below.refl _ _⟩
theorem zeroCel (w : World) : (zeroValue 46).run Tryz.prog w = .ok (.agg #[.int .u64 0, .slice none 0 0]) w := by kernel_rfl
theorem strKeyed : Keyed Tryz.prog 9 := Go.Maps.string_keyed Tryz.underlying9

set_option maxRecDepth 100000 in
set_option maxHeartbeats 1000000 in
theorem tab_new (q1 q2 : Int) (w : World) :
    Calls Tryz.prog 10 #[.agg #[.int .i64 q1, .int .i64 q2]] w fun e w' => ∃ t b, e = .returned (.pointer (some ⟨t, 0, none⟩)) ∧ w.heap.size ≤ t ∧ w.heap.size ≤ b ∧ TabAt w' t b q1 q2 (.map []) 0 ∧ Below w.heap.size w w' := by
  have hmm := @run_makeMap Tryz.prog
  go_enter Tryz.func10, Tryz.ntmps10
  go_wp2_with fail
  go_ret
  refine ⟨w.heap.size + 1 + 1, w.heap.size + 1, rfl, by omega, by omega, ?_, ?_⟩
  · obtain ⟨W1, hW1⟩ : ∃ W1, W1 = w.alloc (.cells #[.int .i64 q1, .int .i64 q2] 31) := ⟨_, rfl⟩
    rw [← hW1]
    have h1 : W1.heap.size = w.heap.size + 1 := by rw [hW1]; simp
    obtain ⟨W2, hW2⟩ : ∃ W2, W2 = W1.alloc (.map #[] 0) := ⟨_, rfl⟩
    have h2 : W2.heap.size = w.heap.size + 1 + 1 := by rw [hW2]; simp [h1]
    have hm := HoldsMap.made W1 Tryz.prog 9 (IsCel (W2.alloc (.cells #[.int .i64 q1, .int .i64 q2, .map (some (w.heap.size + 1)), .int .i64 0] 105)))
    rw [← hW2, h1] at hm
    rw [← hW2]
    have hh := (MapKept.heap_alloc W2 (.cells #[.int .i64 q1, .int .i64 q2, .map (some (w.heap.size + 1)), .int .i64 0] 105)).1
    rw [h2] at hh
    refine ⟨?_, ?_, ?_, ?_, fun j => ?_, ?_, hm.move (Below.heap_alloc _ _ _ (by omega)) (fun _ _ g => g)⟩
    all_goals first | (unfold World.cell?; rw [hh]; rfl) | (unfold World.cell?; rw [hh]; simp; done) | (unfold World.frozen?; rw [hh]; simp)
  · exact (((Below.refl _ _).alloc (Nat.le_refl _) _).alloc (by simp) _).alloc (by simp; omega) _

end Go.Proofs.YtfbgnpfhjbiikaaGreatDoor

namespace Go.Proofs.YtfbgnpfhjbiikaaGreatDoor
open Go Go.RowKit
open Go.Maps (has size Canon CanonK Tidy IsMap KeysOf Keyed Merged)
structure One (n : Nat) (C : Array Value) (W : World) : Prop where
  lt : n < W.heap.size
  c : ∀ j, W.cell? ⟨n, j, none⟩ = C[j]?
  f : ∀ j, W.frozen? ⟨n, j, none⟩ = false
theorem One.step {n : Nat} {C : Array Value} {W W' : World} (h : One n C W) (hb : Below W.heap.size W W') : One n C W' :=
  ⟨by have := hb.size; have := h.lt; omega, fun j => (hb.cell h.lt).trans (h.c j), fun j => (hb.frozen h.lt).trans (h.f j)⟩
theorem One.of (w : World) (C : Array Value) (t : TypeId) : One w.heap.size C (w.alloc (.cells C t)) := by
  have hh := (MapKept.heap_alloc w (.cells C t)).1
  refine ⟨by simp, fun j => ?_, fun j => ?_⟩
  · unfold World.cell?; rw [hh]; rfl
  · unfold World.frozen?; rw [hh]; simp
theorem One.far {n : Nat} {C : Array Value} {W : World} (h : One n C W) {p : Addr} (hp : p.block ≠ n) (u : Value) : One n C (W.setCell p u) := by
  refine ⟨by simpa using h.lt, fun j => ?_, fun j => ?_⟩
  · rw [World.cell?_setCell_far _ _ _ _ hp]; exact h.c j
  · rw [World.frozen?_setCell]; exact h.f j
theorem One.set {n : Nat} {C : Array Value} {W : World} (h : One n C W) {i : Nat} (hi : i < C.size) (u : Value) : One n (C.set i u hi) (W.setCell ⟨n, i, none⟩ u) := by
  refine ⟨by simpa using h.lt, fun j => ?_, fun j => ?_⟩
  · by_cases e : i = j
    · subst e
      rw [World.cell?_setCell_same' _ _ _ (by rw [h.c i]; simp [hi])]; simp
    · rw [World.cell?_setCell_other _ _ _ _ (by intro x; injection x with _ x; exact e x), h.c j]
      simp [e]
  · rw [World.frozen?_setCell]; exact h.f j
theorem One.grown {n : Nat} {C : Array Value} {W W' : World} {b : Nat} (h : One n C W) (hg : W.grownBy W' (some b)) (hb : n ≠ b) : One n C W' :=
  ⟨by have := hg.size; have := h.lt; omega, fun j => (hg.cell_far ⟨n, j, none⟩ h.lt (by simpa using hb)).trans (h.c j), fun j => (hg.frozen_far ⟨n, j, none⟩ h.lt (by simpa using hb)).trans (h.f j)⟩

def dE : Edt := ⟨0, ByteArray.empty, false, 0, 0, ByteArray.empty⟩
def IsEdts (w : World) (v : Value) (l : List Edt) : Prop :=
  ∃ a cap, v = .slice a l.length cap ∧ (l = [] ∨ ∃ b off, a = some ⟨b, off, none⟩ ∧ b < w.heap.size ∧ ∀ i, i < l.length →
    w.cell? ⟨b, off + i * 6, none⟩ = some (.int .u8 (l.getD i dE).kind) ∧ w.cell? ⟨b, off + i * 6 + 1, none⟩ = some (.string (l.getD i dE).path) ∧ w.cell? ⟨b, off + i * 6 + 2, none⟩ = some (.bool (l.getD i dE).any) ∧
    w.cell? ⟨b, off + i * 6 + 3, none⟩ = some (.int .u64 (l.getD i dE).want) ∧ w.cell? ⟨b, off + i * 6 + 4, none⟩ = some (.int .u64 (l.getD i dE).n) ∧ w.cell? ⟨b, off + i * 6 + 5, none⟩ = some (.string (l.getD i dE).text))
theorem IsEdts.below {w w' : World} {v : Value} {l : List Edt} {B : Nat} (h : IsEdts w v l) (hb : Below B w w') (hB : w.heap.size ≤ B) : IsEdts w' v l := by
  obtain ⟨a, cap, hv, h⟩ := h
  refine ⟨a, cap, hv, ?_⟩
  rcases h with h | ⟨b, off, ha, hlt, hc⟩
  · exact Or.inl h
  · refine Or.inr ⟨b, off, ha, by have := hb.size; omega, fun i hi => ?_⟩
    obtain ⟨h0, h1, h2, h3, h4, h5⟩ := hc i hi
    exact ⟨(hb.cell (by dsimp only; omega)).trans h0, (hb.cell (by dsimp only; omega)).trans h1, (hb.cell (by dsimp only; omega)).trans h2, (hb.cell (by dsimp only; omega)).trans h3, (hb.cell (by dsimp only; omega)).trans h4, (hb.cell (by dsimp only; omega)).trans h5⟩

theorem IsVers.grown {w w' : World} {v : Value} {l : List Ver} {b : Nat} (h : IsVers w v l) (hg : w.grownBy w' (some b)) (hm : ∀ j, w.cell? ⟨b, j, none⟩ = none) : IsVers w' v l := by
  obtain ⟨a, cap, hv, h⟩ := h
  refine ⟨a, cap, hv, ?_⟩
  rcases h with h | ⟨b2, off, ha, hlt, hc⟩
  · exact Or.inl h
  · refine Or.inr ⟨b2, off, ha, by have := hg.size; omega, fun i hi => ?_⟩
    obtain ⟨h1, h2, h3⟩ := hc i hi
    have hne : b2 ≠ b := by intro e; subst e; rw [hm] at h1; cases h1
    exact ⟨(hg.cell_far _ hlt (by simpa using hne)).trans h1, (hg.cell_far _ hlt (by simpa using hne)).trans h2, (hg.cell_far _ hlt (by simpa using hne)).trans h3⟩
theorem ownsMap_none {P : Program} {ks : TypeId} {w : World} {b n : Nat} {D : DataW Value} (h : w.ownsMap P ks heldR b n D) : ∀ j, w.cell? ⟨b, j, none⟩ = none := by
  obtain ⟨es, clock, hh, _⟩ := h
  intro j; unfold World.cell?; rw [hh]
theorem IsCel.grown {w w' : World} {v : Value} {c : Cel} {b : Nat} (h : IsCel w v c) (hg : w.grownBy w' (some b)) (hm : ∀ j, w.cell? ⟨b, j, none⟩ = none) : IsCel w' v c := by
  obtain ⟨s, hv, h⟩ := h; exact ⟨s, hv, h.grown hg hm⟩
theorem merged_none {C : Type} (M : DataW C) : Merged M M (.map []) (fun _ => false) := by
  refine ⟨fun k => ?_, fun k z => ?_⟩
  · show has M k = (has M k || (false && _)); simp
  · rfl
theorem merged_put {C : Type} {N M F : DataW C} (h : Merged N M F (fun _ => false)) (hN : IsMap N) (hF : IsMap F) {k : Lit} (hk : WideAt.IsKeyLit k) (d : DataW C) : Merged (N.put k d) M (F.put k d) (fun _ => false) := by
  refine ⟨fun k' => ?_, fun k' z => ?_⟩
  · by_cases e : k' = k
    · subst e; rw [Maps.has_put_same hN hk, Maps.has_put_same hF hk]; simp
    · rw [Maps.has_put_other e, Maps.has_put_other e]; exact h.1 k'
  · by_cases e : k' = k
    · subst e; rw [Maps.atKey_put_same hN hk, Maps.has_put_same hF hk, Maps.atKey_put_same hF hk]; simp
    · rw [Maps.atKey_put_other e, Maps.has_put_other e, Maps.atKey_put_other e]; exact h.2 k' z
theorem merged_cellAt {N M F : DataW Cel} (h : Merged N M F (fun _ => false)) (p : ByteArray) : cellAt N p = if has F (kS p) = true then cellAt F p else cellAt M p := by
  unfold cellAt
  rw [h.2 (kS p) .nil]
  cases has F (kS p) <;> simp
theorem cellAt_of {M : DataW Cel} {p : ByteArray} {c : Cel} (h : M.atKey (kS p) .nil = .held c) : cellAt M p = c := by unfold cellAt; rw [h]
theorem cellAt_none {M : DataW Cel} {p : ByteArray} (h : has M (kS p) = false) : cellAt M p = ⟨0, []⟩ := by unfold cellAt; rw [Maps.atKey_of_not_has h]
theorem runT_stop {N : DataW Cel} {vv : List Nat} {B : Int} {k : Nat} {x : Edt} {l : List Edt} (he : (editE N x).2 ≠ 0) : runT N vv B k (x :: l) = ((k, (editE N x).2), N, vv, B) := by rw [runT, if_pos he]
theorem runT_go {N : DataW Cel} {vv : List Nat} {B : Int} {k : Nat} {x : Edt} {l : List Edt} (he : (editE N x).2 = 0) : runT N vv B k (x :: l) =
    runT (stepM N x) (vv ++ [(editE N x).1.last]) (B + ((weightE x.path (editE N x).1 : Int) - (weightE x.path (cellAt N x.path) : Int))) (k + 1) l := by rw [runT, if_neg (by simp [he])]
theorem edit_bad {N : DataW Cel} {x : Edt} (h : x.kind < 1 ∨ 3 < x.kind ∨ mayP x.path = false) : editE N x = (cellAt N x.path, 2) := by unfold editE; rw [if_pos h]
theorem edit_fit {N : DataW Cel} {x : Edt} (h1 : 1 ≤ x.kind) (h2 : x.kind ≤ 3) (h3 : mayP x.path = true) : editE N x = outcomeE (cellAt N x.path) x := by
  unfold editE; rw [if_neg (by rintro (h | h | h); (· omega); (· omega); (· rw [h3] at h; cases h))]
theorem CelMap.look2 {w : World} {b : Nat} {M : DataW Cel} (h : CelMap w b M) (p : ByteArray) (hp : p.size ≤ maxLen) : ∃ s is, is = has M (kS p) ∧ IsVers w s (cellAt M p).l ∧
    (Instr.lookup 103 (.map (some b)) (.string p) true).run Tryz.prog w = .ok (.tuple #[.agg #[.int .u64 (cellAt M p).last, s], .bool is]) w ∧
    (Instr.lookup 103 (.map (some b)) (.string p) false).run Tryz.prog w = .ok (.agg #[.int .u64 (cellAt M p).last, s]) w := by
  rcases HoldsMap.look h strKeyed (t := 103) (e := 46) Tryz.underlying103 (zeroCel w) (keyS Tryz.underlying9 hp) with ⟨hh, vc, c, hat, ⟨s, rfl, hs⟩, hl1, hl2⟩ | ⟨hh, hl1, hl2⟩
  · rw [cellAt_of hat]; exact ⟨s, true, hh.symm, hs, hl1, hl2⟩
  · rw [cellAt_none hh]; exact ⟨.slice none 0 0, false, hh.symm, IsVers.nil w, hl1, hl2⟩
def OffMap (w : World) (fb : Nat) (F : DataW Cel) (o : Option Nat) : Prop :=
  HoldsMap Tryz.prog 9 (fun v c => ∃ s, v = .agg #[.int .u64 c.last, s] ∧ IsVers w s c.l ∧ (c.l ≠ [] → ∀ kb, s.ownBlock = some kb → o ≠ some kb)) w fb F
theorem OffMap.map {w : World} {fb : Nat} {F : DataW Cel} {o : Option Nat} (h : OffMap w fb F o) : CelMap w fb F := h.move rfl (fun _ _ ⟨s, e, hs, _⟩ => ⟨s, e, hs⟩)
theorem OffMap.below {w w' : World} {fb : Nat} {F : DataW Cel} {o : Option Nat} (h : OffMap w fb F o) (hb : Below w.heap.size w w') : OffMap w' fb F o :=
  HoldsMap.move h (hb.block fb (HoldsMap.lt h)) (fun _ _ ⟨s, e, hs, ho⟩ => ⟨s, e, hs.below hb (Nat.le_refl _), ho⟩)
theorem IsVers.row {w w' : World} {v : Value} {l : List Ver} {o : Option Nat} (h : IsVers w v l) (hg : w.grownBy w' o) (ho : l ≠ [] → ∀ kb, v.ownBlock = some kb → o ≠ some kb) : IsVers w' v l := by
  obtain ⟨a, cap, hv, h⟩ := h
  refine ⟨a, cap, hv, ?_⟩
  rcases h with h | ⟨b2, off, ha, hlt, hc⟩
  · exact Or.inl h
  · by_cases hl : l = []
    · exact Or.inl hl
    have hne : some b2 ≠ o := fun e => ho hl b2 (by rw [hv, ha]; rfl) e.symm
    refine Or.inr ⟨b2, off, ha, by have := hg.size; omega, fun i hi => ?_⟩
    obtain ⟨h1, h2, h3⟩ := hc i hi
    exact ⟨(hg.cell_far _ hlt hne).trans h1, (hg.cell_far _ hlt hne).trans h2, (hg.cell_far _ hlt hne).trans h3⟩
theorem IsVers.own_lt {w : World} {v : Value} {l : List Ver} (h : IsVers w v l) (hl : l ≠ []) {kb : Nat} (hk : v.ownBlock = some kb) : kb < w.heap.size := by
  obtain ⟨a, cap, hv, h⟩ := h
  rcases h with h | ⟨b2, off, ha, hlt, hc⟩
  · exact absurd h hl
  · rw [hv, ha] at hk; cases hk; exact hlt
theorem OffMap.row {w w' : World} {fb : Nat} {F : DataW Cel} {o o' : Option Nat} (h : OffMap w fb F o) (hg : w.grownBy w' o) (hf : some fb ≠ o) (ho : o' = o ∨ o' = some w.heap.size) : OffMap w' fb F o' := by
  refine HoldsMap.move h (hg.block fb (HoldsMap.lt h) hf) (fun _ c ⟨s, e, hs, hoff⟩ => ⟨s, e, hs.row hg hoff, fun hl kb hk => ?_⟩)
  rcases ho with rfl | rfl
  · exact hoff hl kb hk
  · intro e'
    have := hs.own_lt hl hk
    cases e'; omega
theorem OffMap.put {w : World} {fb : Nat} {F : DataW Cel} {o : Option Nat} (h : OffMap w fb F o) : ∃ D, w.ownsMap Tryz.prog 9 heldR fb (size F) D ∧
    ∀ (w' : World) (n : Nat) (p : ByteArray) (c : Cel) (s : Value), p.size ≤ maxLen → IsVers w s c.l → (c.l ≠ [] → ∀ kb, s.ownBlock = some kb → o ≠ some kb) →
      w'.ownsMap Tryz.prog 9 heldR fb n (D.put (kS p) (.held (.agg #[.int .u64 c.last, s]))) → w.grownBy w' (some fb) → OffMap w' fb (F.put (kS p) (.held c)) o := by
  obtain ⟨D, ho, ha⟩ := h
  refine ⟨D, ho, fun w' n p c s hp hs hso ho' hg => ?_⟩
  have hnone := ownsMap_none ho
  exact HoldsMap.of ho' ((ha.mono (fun v c ⟨s, e, hs, hoff⟩ => ⟨s, e, hs.grown hg hnone, hoff⟩)).put strKeyed (ho.tidy strKeyed) ⟨_, keyS Tryz.underlying9 hp⟩ ⟨s, rfl, hs.grown hg hnone, hso⟩)
theorem ownGrown {w w' : World} {B e n k b : Nat} {v : Value} {xs : List Value} (h : w.ownsRow B e k v n xs) (hg : w.grownBy w' (some b)) (hb : b < B) : w'.ownsRow B e k v n xs := by
  refine ⟨h.1, ?_⟩
  rcases h.2 with hn | ⟨g, cap, cur, hv, hBg, hh, rest⟩
  · exact Or.inl hn
  · exact Or.inr ⟨g, cap, cur, hv, hBg, (hg.block g (lt_of_block hh) (by intro e; injection e with e; omega)).trans hh, rest⟩
theorem IsVers.notOne {W : World} {s : Value} {l : List Ver} {n : Nat} {x : Int} {a : Option Addr} {m c : Nat} (h : IsVers W s l) (h1 : One n #[.int .u64 x, .slice a m c] W) {p : Addr} (hp : p.block = n) (u : Value) : IsVers (W.setCell p u) s l := by
  obtain ⟨a, cap, hv, h⟩ := h
  refine ⟨a, cap, hv, ?_⟩
  rcases h with h | ⟨b2, off, ha, hlt, hc⟩
  · exact Or.inl h
  · by_cases hl : l = []
    · exact Or.inl hl
    have hne : b2 ≠ n := by
      intro e
      subst e
      obtain ⟨_, h2, h3⟩ := hc 0 (List.length_pos_iff.2 hl)
      rw [Nat.zero_mul, Nat.add_zero] at h2 h3
      rw [h1.c] at h2 h3
      rcases Nat.lt_or_ge off 1 with ho | ho
      · obtain rfl : off = 0 := by omega
        simp at h2
      · have : (#[Value.int .u64 x, .slice a m c] : Array Value)[off + 1]? = none := Array.getElem?_eq_none (by simp; omega)
        rw [Array.getElem?_eq_none (by simp; omega)] at h2; cases h2
    refine Or.inr ⟨b2, off, ha, by simpa using hlt, fun i hi => ?_⟩
    obtain ⟨h1, h2, h3⟩ := hc i hi
    exact ⟨(World.cell?_setCell_far _ _ _ _ (by rw [hp]; exact fun e => hne e.symm)).trans h1, (World.cell?_setCell_far _ _ _ _ (by rw [hp]; exact fun e => hne e.symm)).trans h2, (World.cell?_setCell_far _ _ _ _ (by rw [hp]; exact fun e => hne e.symm)).trans h3⟩
theorem quiet_plain {P : Program} {ops : Array Oper} {C : World → Prop} {Q : Act → Prop} {a : Act} {o : Oper} {rest : List Oper} (hg : o.guard = none) (v : Value)
    (h : ∀ w, C w → (execOp a.eval o).run P w = .ok (.value v) w) (k : wpQuiet P ops C Q rest (a.put o.dst v)) : wpQuiet P ops C Q (o :: rest) a := by
  refine wpQuiet_step (fun K hK => ?_)
  have hw : Region.wanted o (yielded ops a.tmps) = true := by simp [Region.wanted, hg]
  rw [if_pos hw]
  refine ⟨v, fun w hw => ?_, hK _ k⟩
  unfold Oper.quietAt
  rw [h w hw]
  exact ⟨rfl, rfl⟩
theorem quiet_call {P : Program} {ops : Array Oper} {C : World → Prop} {Q : Act → Prop} {a : Act} {o : Oper} {rest : List Oper} (hg : o.guard = none) (v : Value) (f : FuncId) (args : Array Value)
    (h : ∀ w, C w → (execOp a.eval o).run P w = .ok (.enter f args) w ∧ Calls P f args w (fun e w'' => e = .returned v ∧ C w'')) (k : wpQuiet P ops C Q rest (a.put o.dst v)) : wpQuiet P ops C Q (o :: rest) a := by
  refine wpQuiet_step (fun K hK => ?_)
  have hw : Region.wanted o (yielded ops a.tmps) = true := by simp [Region.wanted, hg]
  rw [if_pos hw]
  refine ⟨v, fun w hw => ?_, hK _ k⟩
  unfold Oper.quietAt
  rw [(h w hw).1]
  exact ⟨rfl, (h w hw).2⟩
theorem merged_same {N X M F : DataW Cel} {left : Lit → Bool} (hN : Merged N M F (fun _ => false)) (hX : Merged X M F left) (hl : ∀ k, left k = false) (cN : CanonK (KeysOf Tryz.prog 9) N) (cX : CanonK (KeysOf Tryz.prog 9) X) : X = N := by
  refine Maps.ext (cX.canon strKeyed.one) (cN.canon strKeyed.one) (fun k => ?_) (fun k z _ => ?_)
  · rw [hX.1 k, hN.1 k, hl k]
  · rw [hX.2 k z, hN.2 k z, hl k]
theorem keyS_of {x : ByteArray} {kl : Lit} (h : keyOf Tryz.prog 9 (.string x) = some kl) : kl = kS x ∧ x.size ≤ maxLen := by
  obtain ⟨s, e, hk, hs⟩ := keyS_inv Tryz.underlying9 h
  cases e; exact ⟨hk, hs⟩
theorem merged_next {X M F : DataW Cel} {D : DataW Value} {G : Value → Cel → Prop} {left : Lit → Bool} (hX : Merged X M F left) (cX : CanonK (KeysOf Tryz.prog 9) X) (ha : Alike Tryz.prog 9 G D F) {x : ByteArray} (hxs : x.size ≤ maxLen) (hl : left (kS x) = true) {y : DataW Value} (hat : ∀ zd, D.atKey (kS x) zd = y) :
    ∃ X', Merged X' M F (fun z => left z && !z.sameKey (kS x)) ∧ CanonK (KeysOf Tryz.prog 9) X' ∧ size X' = (if has M (kS x) then size X else size X + 1) := by
  have hF : has F (kS x) = true := by rw [← ha.keys]; exact Maps.has_true_of_atKey hat
  obtain ⟨v, c, _, hc, _⟩ := ha.vals _ hF
  have hat2 : ∀ zd, F.atKey (kS x) zd = .held c := fun zd => by rw [Maps.atKey_indep hF zd .nil]; exact hc
  refine ⟨X.put (kS x) (.held c), Maps.merged_step hX (canonK_isMap cX) (kS_key _) hat2, Maps.canonK_put strKeyed.one ⟨_, keyS Tryz.underlying9 hxs⟩ _ cX, ?_⟩
  rw [Maps.size_put (canonK_tidy cX), hX.1 (kS x), hl]
  simp
theorem infoU64 : (Tryz.prog.info? 43).map (fun i => (i.zero, i.size, i.bytes)) = some (some (.int .u64 0), 1, 8) := by kernel_rfl
end Go.Proofs.YtfbgnpfhjbiikaaGreatDoor
