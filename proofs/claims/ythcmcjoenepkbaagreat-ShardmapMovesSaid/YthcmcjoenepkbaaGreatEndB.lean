/- What the ends of a law of this seat share: a call that answers true and makes new memory alone meets a law's row, whatever its arguments are; slices of numbers, opened. -/
import Derived.Test.YthcmcjoenepkbaaGreatNum
import Derived.Test.YthcmcjoenepkbaaGreatRows
import Derived.WalkKit
import Derived.ProofKit
import Derived.OpenShut
import Derived.ChangeSlices
import Derived.Deep.DeepHandedRow
import Derived.Shelf.Vars
import Derived.LaidLaws
namespace Go.Proofs.YthcmcjoenepkbaaGreat
open Go Go.ChangeShapes Go.WideShapes Go.ChangeAt Go.RowKit

section
variable {H : Type} {enc : TypeId × Value → H} {P : Program}
theorem trodAll_below (hl : laidOutB P = true) {W W' : World} (hb : Below W.heap.size W W') : ∀ (ts : List TypeId) (vs : List Value) (ds : List (DataW H)) (ps : List MemPlace),
    (∀ t ∈ ts, P.readableRec t = true ∧ t < P.types.size) → (∀ x ∈ ps, x.block < W.heap.size) → DataW.TrodAll enc P W 0 (fun _ => true) true ts vs ds ps → DataW.TrodAll enc P W' 0 (fun b => decide (b < W.heap.size)) true ts vs ds ps
  | [], [], [], _, _, _, h => h
  | [], [], _ :: _, _, _, _, h => h.elim
  | [], _ :: _, _, _, _, _, h => h.elim
  | _ :: _, [], _, _, _, _, h => h.elim
  | _ :: _, _ :: _, [], _, _, _, h => h.elim
  | t :: ts, v :: vs, d :: ds, ps, hr, hlt, h => by
    obtain ⟨p, q, h1, h2, rfl⟩ := h
    have ht := hr t (List.mem_cons_self)
    exact ⟨p, q, Below.trod hl ht.1 ht.2 h1 hb (fun x hx => hlt x (List.mem_append_left _ hx)), trodAll_below hl hb ts vs ds q (fun t' h' => hr t' (List.mem_cons_of_mem _ h')) (fun x hx => hlt x (List.mem_append_right _ hx)) h2, rfl⟩
theorem law_post {f : Func} {s : ChangeSpec} {tb : TypeId} (hl : laidOutB P = true) (hts : ∀ t ∈ f.params.toList, P.readableRec t = true ∧ t < P.types.size) (hrt : f.resultTypes.toList = [tb]) (htb : P.underlying tb = some .bool)
    (hv : s.vars = []) {W W' : World} {args : Array Value} {ds gs : List (DataW H)} {before : List MemPlace} (hW : DataW.Whole enc P f.params.toList s.vars false W args.toList ds gs before)
    (hfn : s.fn H ds = { results := [.lit (.bool true)], args := ds }) (hb : Below W.heap.size W W') : s.post enc P f false true false false W args (.bool true) W' := by
  have hW2 := hW
  obtain ⟨p, q, hA, hV, hpq, _, _⟩ := hW
  rw [hv] at hV
  have hg : gs = [] ∧ q = [] := by
    cases gs with
    | nil => exact ⟨rfl, hV⟩
    | cons a t => exact hV.elim
  obtain ⟨rfl, rfl⟩ := hg
  have hfn2 : s.fn H (ds ++ []) = { results := [.lit (.bool true)], args := ds } := by rw [List.append_nil]; exact hfn
  have hlt : ∀ x ∈ p, x.block < W.heap.size := fun x hx => hW2.lt x (by rw [hpq]; simpa using hx)
  refine ⟨ds, [], before, [], p, [], hW2, ?_, ?_, ?_, ?_, fun h => by cases h⟩
  · have hsz : f.resultTypes.size = 1 := by have := congrArg List.length hrt; simpa using this
    rw [hrt, hsz, hfn2]
    exact ⟨[], [], shut_bool htb true, rfl, rfl⟩
  · rw [hfn2]; exact trodAll_below hl hb _ _ _ _ hts hlt hA
  · rw [hfn2, hv]; rfl
  · exact hb.frame _
end

theorem ownNone : ownKnob Tryz.prog.godebug = none := by kernel_rfl
theorem laidOut : laidOutB Tryz.prog = true := by kernel_rfl

noncomputable def plainWorld (os : Os) : World := World.holding Tryz.prog os ⟨#[], #[], []⟩
theorem spot_none {w : World} {a : Addr} {v : Value} (h : w.cell? a = some v) : a = ⟨a.block, a.off, none⟩ := by
  obtain ⟨b, o, sp⟩ := a
  cases sp with
  | none => rfl
  | some x =>
    unfold World.cell? at h
    split at h
    · simp at h
    · cases h

theorem wf_u8 {n : Int} (h : (Lit.int .u8 n).wf = true) : 0 ≤ n ∧ n < 256 := by
  simp [Lit.wf, IntKind.min, IntKind.max, IntKind.signed, IntKind.bits] at h; omega
theorem wf_u32 {n : Int} (h : (Lit.int .u32 n).wf = true) : 0 ≤ n ∧ n < 4294967296 := by
  simp [Lit.wf, IntKind.min, IntKind.max, IntKind.signed, IntKind.bits] at h; omega
theorem wf_u64 {n : Int} (h : (Lit.int .u64 n).wf = true) : 0 ≤ n ∧ n < 18446744073709551616 := by
  simp [Lit.wf, IntKind.min, IntKind.max, IntKind.signed, IntKind.bits] at h; omega
theorem open_nums {H : Type} {enc : TypeId × Value → H} {P : Program} {w : World} {t e : TypeId} {k : IntKind} {v : Value} {d : DataW H} {ps : List MemPlace} {base : Nat} {r : Reach} {sp : Nat → Bool} {b0 : Nat} {held : Bool} (M : Nat) (hM : ∀ n : Int, (Lit.int k n).wf = true → 0 ≤ n ∧ n < (M : Int)) (ht : P.underlying t = some (.slice e)) (he : P.underlying e = some (.int k)) (hc : P.cellsOf e = 1)
    (hval : Value.okWide P w r base t v) (h : DataW.Trod enc P w b0 sp held t v d ps) :
    ∃ l : List Nat, NumV k v l w ∧ ∀ z ∈ l, z < M := by
  obtain ⟨a0, len0, cap0, rfl⟩ := okWide_slice ht hval
  obtain ⟨fuel, hf⟩ := h
  rcases open_ints ht he hc hf with ⟨hcs, hx⟩ | ⟨a, len, cap, zs, hcs, _, hl, _, hss, hx, hcell, hwf⟩
  · have hv : Value.slice a0 len0 cap0 = .slice none 0 0 := by simpa [Value.cells] using hcs
    rw [hv]
    exact ⟨[], Or.inl ⟨none, 0, rfl, fun _ => rfl, rfl⟩, by simp⟩
  · have hv : Value.slice a0 len0 cap0 = .slice (some a) len cap := by simpa [Value.cells] using hcs
    rw [hv]
    have hle : len ≤ zs.length := by rw [hss]; split <;> omega
    have hb : ∀ z ∈ zs, 0 ≤ z ∧ z < (M : Int) := fun z hz => hM z (hwf z hz)
    refine ⟨(zs.take len).map Int.toNat, ?_, fun z hz => ?_⟩
    · have e1 : ((zs.take len).map Int.toNat).length = len := by rw [List.length_map, List.length_take]; omega
      by_cases h0 : len = 0
      · subst h0
        refine Or.inl ⟨some a, cap, rfl, fun h => (nomatch h), ?_⟩
        rw [List.take_zero]; rfl
      · have h00 := hcell 0 (by omega)
        have ha : a.add 0 = a := by unfold Addr.add; simp
        rw [ha] at h00
        have hs := spot_none h00
        refine Or.inr ⟨a.block, a.off, cap, by rw [e1, ← hs], block_lt_of_cell h00, fun i hi => ?_⟩
        rw [e1] at hi
        have h2 := hcell i (by omega)
        rw [hs] at h2
        have h3 : (⟨a.block, a.off, none⟩ : Addr).add i = ⟨a.block, a.off + i, none⟩ := by
          unfold Addr.add; split
          · rename_i h; subst h; rfl
          · rfl
        rw [h3] at h2
        rw [h2]
        have hz := hb (zs.getD i 0) (by rw [List.getD_eq_getElem?_getD, List.getElem?_eq_getElem (by omega)]; exact List.getElem_mem _)
        have hg : ((zs.take len).map Int.toNat).getD i 0 = (zs.getD i 0).toNat := by
          rw [List.getD_eq_getElem?_getD, List.getElem?_map, List.getElem?_take_of_lt hi, List.getD_eq_getElem?_getD, List.getElem?_eq_getElem (by omega)]; rfl
        rw [hg, Int.toNat_of_nonneg hz.1]
    · obtain ⟨y, hy, rfl⟩ := List.mem_map.1 hz
      have := hb y (List.mem_of_mem_take hy)
      omega
theorem nat_of {n : Int} {M : Nat} (h : 0 ≤ n ∧ n < (M : Int)) : ∃ k : Nat, n = (k : Int) ∧ k < M := ⟨n.toNat, by omega, by omega⟩
end Go.Proofs.YthcmcjoenepkbaaGreat
