/- Plain facts on cells and tables: what edits do. No program is named here. -/
import Derived.Test.YtbmmabpglkojkaaDoorCell9
import Derived.Test.YtbmmabpglkojkaaDoorMaps
import Derived.Test.YtbmmabpglkojkaaDoorPath2
namespace Go.Proofs.YtbmmabpglkojkaaDoor
open Go Go.RowKit
open Go.Maps (has size Canon CanonK Tidy IsMap KeysOf Keyed Merged)
open Pth

theorem okFrom_mono {a b y : Nat} {l : List Ver} (hl : l ≠ []) (h : okFrom a l = some y) (hb : b ≤ a) : okFrom b l = some y := by
  cases l with
  | nil => exact absurd rfl hl
  | cons v t =>
    unfold okFrom at h ⊢
    split at h
    · rename_i ho
      have : okVer b v = true := by
        unfold okVer at ho ⊢
        simp only [Bool.and_eq_true, decide_eq_true_eq] at ho ⊢
        exact ⟨⟨⟨by omega, ho.1.1.2⟩, ho.1.2⟩, ho.2⟩
      rw [if_pos this]; exact h
    · cases h
theorem okFrom_tail {a y : Nat} {v : Ver} {t : List Ver} (ht : t ≠ []) (h : okFrom a (v :: t) = some y) : okFrom a t = some y := by
  unfold okFrom at h
  split at h
  · rename_i ho
    unfold okVer at ho
    simp only [Bool.and_eq_true, decide_eq_true_eq] at ho
    exact okFrom_mono ht h (by omega)
  · cases h
theorem may_parts {c : Cel} (h : mayC c = true) : okFrom 0 c.l = some c.last ∧ c.l.length ≤ 8 := by
  unfold mayC at h
  split at h
  · cases h
  · rename_i x hx
    simp only [Bool.and_eq_true, decide_eq_true_eq] at h
    exact ⟨by rw [hx, h.2], h.1⟩
theorem may_of {c : Cel} (h : okFrom 0 c.l = some c.last) (h8 : c.l.length ≤ 8) : mayC c = true := by
  unfold mayC; rw [h]; simp [h8]
theorem okVer_sizes {a : Nat} {v : Ver} (h : okVer a v = true) : v.tx.size ≤ 4096 := by
  unfold okVer at h
  simp only [Bool.and_eq_true, Bool.or_eq_true, decide_eq_true_eq] at h
  rcases h.2 with h | h
  · exact h.2
  · have : v.tx.data.toList = [] := by simpa using h.2
    show v.tx.data.size ≤ 4096
    rw [← Array.length_toList, this]; simp
theorem okFrom_sizes {l : List Ver} : ∀ {a y : Nat}, okFrom a l = some y → ∀ v ∈ l, v.tx.size ≤ 4096 := by
  induction l with
  | nil => intro a y _ v hv; cases hv
  | cons x t ih =>
    intro a y h v hv
    unfold okFrom at h
    split at h
    · rename_i ho
      rcases List.mem_cons.1 hv with rfl | hv
      · exact okVer_sizes ho
      · exact ih h v hv
    · cases h
theorem sizeL_le {l : List Ver} (h : ∀ v ∈ l, v.tx.size ≤ 4096) : sizeL l ≤ l.length * 4096 := by
  induction l with
  | nil => simp [sizeL]
  | cons v t ih =>
    have h1 := h v (by simp)
    have h2 := ih (fun v hv => h v (by simp [hv]))
    simp only [sizeL, List.length_cons]; omega
theorem may_size {c : Cel} (h : mayC c = true) : sizeL c.l ≤ 32768 := by
  obtain ⟨h1, h2⟩ := may_parts h
  have := sizeL_le (okFrom_sizes h1)
  omega
theorem may_sizes {c : Cel} (h : mayC c = true) : ∀ i, i < c.l.length → (c.l.getD i dV).tx.size ≤ 140737488351232 := by
  intro i hi
  rw [List.getD_eq_getElem?_getD, List.getElem?_eq_getElem hi]
  have := okFrom_sizes (may_parts h).1 _ (List.getElem_mem hi)
  simp only [Option.getD_some]; omega
theorem may_putC {c : Cel} {x : Ver} (h : mayC c = true) (hx : okVer c.last ⟨c.last + 1, x.st, x.tx⟩ = true) : mayC (putC c x) = true ∧ (putC c x).l ≠ [] := by
  obtain ⟨h1, h2⟩ := may_parts h
  have h3 : okFrom 0 (c.l ++ [(⟨c.last + 1, x.st, x.tx⟩ : Ver)]) = some (c.last + 1) := by
    rw [okFrom_append, h1]
    show okFrom c.last [(⟨c.last + 1, x.st, x.tx⟩ : Ver)] = _
    unfold okFrom; rw [if_pos hx]; rfl
  by_cases h7 : c.l.length + 1 ≤ 8
  · have e : c.l.length + 1 - 8 = 0 := by omega
    refine ⟨may_of ?_ ?_, ?_⟩
    · unfold putC; simp only [e, List.drop_zero]; exact h3
    · unfold putC; simp only [e, List.drop_zero, List.length_append, List.length_singleton]; omega
    · unfold putC; simp [e]
  · have e : c.l.length + 1 - 8 = 1 := by omega
    refine ⟨may_of ?_ ?_, ?_⟩
    · unfold putC; simp only [e]
      cases hl : c.l with
      | nil => rw [hl] at h7; simp at h7
      | cons v t =>
        rw [hl] at h3
        simp only [List.cons_append, List.drop_succ_cons, List.drop_zero] at h3 ⊢
        exact okFrom_tail (by simp) h3
    · unfold putC; simp only [e, List.length_drop, List.length_append, List.length_singleton]; omega
    · unfold putC; simp only [e]
      intro hh
      have := congrArg List.length hh
      simp only [List.length_drop, List.length_append, List.length_singleton, List.length_nil] at this; omega
theorem okFrom_set {l : List Ver} {v : Ver} : ∀ {a : Nat} {i : Nat}, i < l.length → v.n = (l.getD i dV).n → v.st = 3 → v.tx = ByteArray.empty → okFrom a (l.set i v) = okFrom a l ∨ okFrom a l = none := by
  induction l with
  | nil => intro a i hi; simp at hi
  | cons x t ih =>
    intro a i hi hn hs ht
    cases i with
    | zero =>
      simp only [List.set_cons_zero, List.getD_cons_zero] at hn ⊢
      unfold okFrom
      by_cases ho : okVer a x = true
      · left
        have : okVer a v = true := by
          unfold okVer at ho ⊢
          simp only [Bool.and_eq_true, decide_eq_true_eq] at ho
          rw [hs, ht, hn]
          simp [ho.1.1.1]
        rw [if_pos ho, if_pos this, hn]
      · right; rw [if_neg ho]
    | succ i =>
      simp only [List.set_cons_succ, List.getD_cons_succ, List.length_cons] at hn hi ⊢
      unfold okFrom
      by_cases ho : okVer a x = true
      · rw [if_pos ho, if_pos ho]; exact ih (by omega) hn hs ht
      · right; rw [if_neg ho]

structure Edt where
  kind : Nat
  path : ByteArray
  any : Bool
  want : Nat
  n : Nat
  text : ByteArray
def edtVal (x : Edt) : Value := .agg #[.int .u8 x.kind, .string x.path, .bool x.any, .int .u64 x.want, .int .u64 x.n, .string x.text]

def outcomeE (c : Cel) (x : Edt) : Cel × Nat :=
  if x.kind = 1 then putE c x.any x.want x.text else if x.kind = 2 then deleteE c x.any x.want else destroyE c x.n
def weightE (p : ByteArray) (c : Cel) : Nat := if c.l.length = 0 then 0 else p.size + sizeL c.l

theorem comes_ok {c : Cel} {any : Bool} {want : Nat} {x : Ver} (h : mayC c = true) (hx : okVer c.last ⟨c.last + 1, x.st, x.tx⟩ = true) (he : (comesC c any want x).2 = 0) :
    mayC (comesC c any want x).1 = true ∧ (comesC c any want x).1.l ≠ [] ∧ (comesC c any want x).1.last < 18446744073709551616 ∨ 18446744073709551616 ≤ c.last := by
  unfold comesC at he ⊢
  split at he
  · simp at he
  · rename_i h1
    rw [if_neg h1]
    split at he
    · simp at he
    · rename_i h2
      rw [if_neg h2]
      obtain ⟨a, b⟩ := may_putC h hx
      by_cases h3 : c.last < 18446744073709551616
      · left; refine ⟨a, b, ?_⟩; show c.last + 1 < _; omega
      · right; omega
theorem outcome_ok {c : Cel} {x : Edt} (hm : mayC c = true) (hl : c.last < 18446744073709551616) (he : (outcomeE c x).2 = 0) : mayC (outcomeE c x).1 = true ∧ (outcomeE c x).1.l ≠ [] ∧ (outcomeE c x).1.last < 18446744073709551616 := by
  unfold outcomeE at he ⊢
  split at he
  · rename_i h1
    rw [if_pos h1]
    unfold putE at he ⊢
    rw [if_neg (by rw [hm]; simp)] at he ⊢
    split at he
    · simp at he
    · rename_i h2
      rw [if_neg h2]
      rcases comes_ok hm (by unfold okVer; simp; omega) he with h | h
      · exact h
      · omega
  · rename_i h1
    rw [if_neg h1]
    split at he
    · rename_i h2
      rw [if_pos h2]
      unfold deleteE at he ⊢
      rw [if_neg (by rw [hm]; simp)] at he ⊢
      split at he
      · simp at he
      · rename_i h3
        rw [if_neg h3]
        rcases comes_ok hm (by unfold okVer; simp) he with h | h
        · exact h
        · omega
    · rename_i h2
      rw [if_neg h2]
      unfold destroyE at he ⊢
      split at he
      · rename_i h3; exact absurd he h3
      · rename_i h3
        rw [if_neg h3]
        have h3' : (findE c x.n).2 = 0 := by omega
        have hlt := findE_lt h3'
        have hn := findE_n h3'
        obtain ⟨p1, p2⟩ := may_parts hm
        refine ⟨may_of ?_ ?_, ?_, hl⟩
        · rcases okFrom_set (a := 0) (l := c.l) (v := ⟨x.n, 3, ByteArray.empty⟩) hlt hn.symm rfl rfl with e | e
          · exact e.trans p1
          · rw [p1] at e; cases e
        · simpa using p2
        · intro hh
          have := congrArg List.length hh
          simp at this; rw [this] at hlt; simp at hlt
theorem weight_le {p : ByteArray} {c : Cel} (hm : mayC c = true) (hp : p.size ≤ 128) : weightE p c ≤ 33000 := by
  unfold weightE
  have := may_size hm
  split <;> omega

/-- The cell at a path; none there: that of no versions. -/
def cellAt (M : DataW Cel) (p : ByteArray) : Cel := match M.atKey (kS p) .nil with | .held c => c | _ => ⟨0, []⟩
def mayP (p : ByteArray) : Bool := mayL p.data.toList
/-- An edit on what is there: the cell behind it, and the error. -/
def editE (N : DataW Cel) (x : Edt) : Cel × Nat := if x.kind < 1 ∨ 3 < x.kind ∨ mayP x.path = false then (cellAt N x.path, 2) else outcomeE (cellAt N x.path) x
def stepM (N : DataW Cel) (x : Edt) : DataW Cel := N.put (kS x.path) (.held (editE N x).1)
def runT (N : DataW Cel) (vs : List Nat) (B : Int) (i : Nat) : List Edt → (Nat × Nat) × DataW Cel × List Nat × Int
  | [] => ((0, 0), N, vs, B)
  | x :: t => if (editE N x).2 ≠ 0 then ((i, (editE N x).2), N, vs, B) else
      runT (stepM N x) (vs ++ [(editE N x).1.last]) (B + ((weightE x.path (editE N x).1 : Int) - (weightE x.path (cellAt N x.path) : Int))) (i + 1) t
def overT (r : DataW Cel × Int) (M : DataW Cel) (B q1 q2 : Int) : Bool := (decide (q1 < (size r.1 : Int)) && decide (size M < size r.1)) || (decide (q2 < r.2) && decide (B < r.2))
def triedT (M : DataW Cel) (B q1 q2 : Int) (l : List Edt) : (Nat × Nat) × DataW Cel × List Nat × Int :=
  let r := runT M [] B 0 l
  if r.1.2 ≠ 0 then r else if overT (r.2.1, r.2.2.2) M B q1 q2 then ((l.length, 180), r.2) else r

/-- What all tables' rows are. -/
structure Good (P : Program) (ks : TypeId) (M : DataW Cel) : Prop where
  canon : CanonK (KeysOf P ks) M
  cells : ∀ k, has M k = true → ∃ p c, k = kS p ∧ M.atKey k .nil = .held c ∧ mayC c = true ∧ c.l ≠ [] ∧ c.last < 18446744073709551616 ∧ mayP p = true
theorem mayC_none : mayC ⟨0, []⟩ = true := by decide
theorem Good.cellAt {P : Program} {ks : TypeId} {M : DataW Cel} (h : Good P ks M) (p : ByteArray) : mayC (cellAt M p) = true ∧ (cellAt M p).last < 18446744073709551616 := by
  unfold Proofs.YtbmmabpglkojkaaDoor.cellAt
  cases hh : has M (kS p) with
  | true =>
    obtain ⟨p', c, e, hc, h1, h2, h3, h4⟩ := h.cells _ hh
    rw [hc]; exact ⟨h1, h3⟩
  | false => rw [Maps.atKey_of_not_has hh]; exact ⟨mayC_none, by decide⟩
theorem mayP_size {p : ByteArray} (h : mayP p = true) : p.size ≤ 128 := by
  have := ((may_iff p.data.toList).1 h).1
  rw [Array.length_toList] at this; exact this
theorem edit_ok {P : Program} {ks : TypeId} {M : DataW Cel} (h : Good P ks M) {x : Edt} (he : (editE M x).2 = 0) : mayC (editE M x).1 = true ∧ (editE M x).1.l ≠ [] ∧ (editE M x).1.last < 18446744073709551616 ∧ mayP x.path = true := by
  unfold editE at he ⊢
  split at he
  · simp at he
  · rename_i h1
    rw [if_neg h1]
    obtain ⟨a, b⟩ := h.cellAt x.path
    obtain ⟨c, d, e⟩ := outcome_ok a b he
    refine ⟨c, d, e, ?_⟩
    cases hp : mayP x.path with
    | true => rfl
    | false => exact absurd (Or.inr (Or.inr hp)) h1
theorem Good.step {P : Program} {ks : TypeId} (hk : P.underlying ks = some .string) {M : DataW Cel} (h : Good P ks M) {x : Edt} (he : (editE M x).2 = 0) : Good P ks (stepM M x) := by
  obtain ⟨a, b, c, d⟩ := edit_ok h he
  have K : Keyed P ks := Go.Maps.string_keyed hk
  have hK : KeysOf P ks (kS x.path) := ⟨_, keyS hk (by have := mayP_size d; unfold maxLen; omega)⟩
  refine ⟨Maps.canonK_put K.one hK _ h.canon, fun k hk' => ?_⟩
  unfold stepM at hk' ⊢
  by_cases e : k = kS x.path
  · subst e
    exact ⟨_, _, rfl, Maps.atKey_put_same (canonK_isMap h.canon) (kS_key _) _ _, a, b, c, d⟩
  · rw [Maps.has_put_other e] at hk'
    rw [Maps.atKey_put_other e]; exact h.cells k hk'
end Go.Proofs.YtbmmabpglkojkaaDoor
