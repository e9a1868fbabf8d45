/- Edits that came in, opened. -/
import Derived.Test.YtbmmabpglkojkaaDoorTab9
import Derived.Test.YtbmmabpglkojkaaDoorOpen
import Derived.Lib.SmallJoins
namespace Go.Proofs.YtbmmabpglkojkaaDoor
open Go Go.ChangeShapes Go.WideShapes Go.ChangeAt Go.RowKit

theorem list6 {α : Type} {l : List α} (h : l.length = 6) : ∃ c0 c1 c2 c3 c4 c5, l = [c0, c1, c2, c3, c4, c5] := by
  match l, h with
  | [c0, c1, c2, c3, c4, c5], _ => exact ⟨c0, c1, c2, c3, c4, c5, rfl⟩
def edtData {H : Type} (e : Edt) : DataW H := .agg [.lit (.int .u8 e.kind), .lit (.string e.path.data.toList), .lit (.bool e.any), .lit (.int .u64 e.want), .lit (.int .u64 e.n), .lit (.string e.text.data.toList)]
def edtCells (e : Edt) : List Value := [.int .u8 e.kind, .string e.path, .bool e.any, .int .u64 e.want, .int .u64 e.n, .string e.text]
theorem cU8 : Tryd.prog.cellsOf 5 = 1 := by kernel_rfl
theorem cStr : Tryd.prog.cellsOf 9 = 1 := by kernel_rfl
theorem cBool : Tryd.prog.cellsOf 4 = 1 := by kernel_rfl
theorem cU64 : Tryd.prog.cellsOf 38 = 1 := by kernel_rfl
theorem cEdt : Tryd.prog.cellsOf 40 = 6 := by kernel_rfl
theorem wfNat8 {z : Int} (h : (Lit.int .u8 z).wf = true) : ∃ n : Nat, z = n := by
  refine ⟨z.toNat, ?_⟩
  simp only [Lit.wf, Bool.and_eq_true, decide_eq_true_eq] at h
  have h1 := h.1
  rw [show IntKind.min .u8 = 0 from rfl] at h1
  omega
theorem wfNat64 {z : Int} (h : (Lit.int .u64 z).wf = true) : ∃ n : Nat, z = n := by
  refine ⟨z.toNat, ?_⟩
  simp only [Lit.wf, Bool.and_eq_true, decide_eq_true_eq] at h
  have h1 := h.1
  rw [show IntKind.min .u64 = 0 from rfl] at h1
  omega
section
variable {H : Type} {enc : TypeId × Value → H} {w : World} {base : Nat} {sp : Nat → Bool} {held : Bool}
theorem trod_edt {fuel : Nat} {cs : List Value} {x : DataW H × List MemPlace} (h : DataW.trod enc Tryd.prog w base sp held fuel 40 cs = some x) : ∃ e : Edt, cs = edtCells e ∧ x = (edtData e, []) := by
  obtain ⟨xs, n, _, rfl, hl, hlen, hf⟩ := DataW.trod_struct Tryd.underlying40 h
  rw [cEdt] at hl
  obtain ⟨c0, c1, c2, c3, c4, c5, rfl⟩ := list6 hl
  obtain ⟨y0, y1, y2, y3, y4, y5, rfl⟩ := list6 hlen
  have h0 : DataW.trod enc Tryd.prog w base sp held n 5 [c0] = some y0 := by simpa [cU8] using hf 0 _ rfl
  have h1 : DataW.trod enc Tryd.prog w base sp held n 9 [c1] = some y1 := by simpa [cStr] using hf 1 _ rfl
  have h2 : DataW.trod enc Tryd.prog w base sp held n 4 [c2] = some y2 := by simpa [cBool] using hf 2 _ rfl
  have h3 : DataW.trod enc Tryd.prog w base sp held n 38 [c3] = some y3 := by simpa [cU64] using hf 3 _ rfl
  have h4 : DataW.trod enc Tryd.prog w base sp held n 38 [c4] = some y4 := by simpa [cU64] using hf 4 _ rfl
  have h5 : DataW.trod enc Tryd.prog w base sp held n 9 [c5] = some y5 := by simpa [cStr] using hf 5 _ rfl
  obtain ⟨z0, e0, rfl, w0⟩ := DataW.trod_int Tryd.underlying5 h0
  obtain ⟨s1, e1, rfl, _⟩ := DataW.trod_string Tryd.underlying9 h1
  obtain ⟨b2, e2, rfl⟩ := DataW.trod_bool Tryd.underlying4 h2
  obtain ⟨z3, e3, rfl, w3⟩ := DataW.trod_int Tryd.underlying38 h3
  obtain ⟨z4, e4, rfl, w4⟩ := DataW.trod_int Tryd.underlying38 h4
  obtain ⟨s5, e5, rfl, _⟩ := DataW.trod_string Tryd.underlying9 h5
  obtain ⟨n0, rfl⟩ := wfNat8 w0
  obtain ⟨n3, rfl⟩ := wfNat64 w3
  obtain ⟨n4, rfl⟩ := wfNat64 w4
  refine ⟨⟨n0, s1, b2, n3, n4, s5⟩, ?_, ?_⟩
  · simp only [List.cons.injEq, and_true] at e0 e1 e2 e3 e4 e5
    rw [e0, e1, e2, e3, e4, e5]; rfl
  · first | rfl | simp [edtData]
set_option maxRecDepth 100000 in
theorem open_edt {r : Reach} {b0 : Nat} {v : Value} {d : DataW H} {ps : List MemPlace} (hval : Value.okWide Tryd.prog w r b0 40 v) (hd : DataW.Trod enc Tryd.prog w base sp held 40 v d ps) :
    ∃ e : Edt, v = edtVal e ∧ d = edtData e ∧ ps = [] := by
  obtain ⟨cs, rfl, hsz⟩ := okWide_struct Tryd.underlying40 hval
  obtain ⟨fuel, hf⟩ := hd
  obtain ⟨e, hc, hx⟩ := trod_edt hf
  simp only [Prod.mk.injEq] at hx
  refine ⟨e, ?_, hx.1, hx.2⟩
  have : cs.toList = edtCells e := by simpa [Value.cells] using hc
  unfold edtVal
  congr 1
  rw [← Array.toList_inj, this]; rfl
end
theorem weights_edt {H : Type} (e : Edt) : e.path.size ∈ DataW.weights (H := H) Tryd.prog 40 (edtData e) ∧ e.text.size ∈ DataW.weights (H := H) Tryd.prog 40 (edtData e) := by
  unfold edtData
  simp only [DataW.weights, Tryd.underlying40, List.map_cons, List.map_nil, DataW.weightsEach, List.mem_append]
  constructor
  · right; left; show _ ∈ [e.path.data.toList.length]; simp
  · right; right; right; right; right; left; show _ ∈ [e.text.data.toList.length]; simp
theorem sized_edt {H : Type} {ts : List TypeId} {ds : List (DataW H)} (h : (DataW.weightsEach Tryd.prog ts ds).all (· ≤ reachBytes) = true) {j : Nat} {e : Edt} (hj : ts[j]? = some 40) (hd : ds[j]? = some (edtData e)) :
    e.path.size ≤ 140737488351232 ∧ e.text.size ≤ 140737488351232 := by
  have h1 := List.all_eq_true.1 h _ (DataW.weights_mem_each hj hd _ (weights_edt e).1)
  have h2 := List.all_eq_true.1 h _ (DataW.weights_mem_each hj hd _ (weights_edt e).2)
  exact ⟨of_decide_eq_true h1, of_decide_eq_true h2⟩
theorem bytesEdt : Tryd.prog.bytesOf 40 = 64 := by kernel_rfl
theorem addrSix {a : Addr} (h : a = ⟨a.block, a.off, none⟩) (i j : Nat) : (a.add i).add j = ⟨a.block, a.off + i + j, none⟩ := by
  rw [h]
  rw [addrAdd, addrAdd]
section
variable {H : Type} {enc : TypeId × Value → H} {w : World} {base : Nat} {sp : Nat → Bool} {held : Bool}
set_option maxRecDepth 100000 in
theorem open_edts {r : Reach} {b0 : Nat} {v : Value} {d : DataW H} {ps : List MemPlace} (hval : Value.okWide Tryd.prog w r b0 22 v) (hd : DataW.Trod enc Tryd.prog w base sp held 22 v d ps) :
    ∃ (l : List Edt) (sr : List (DataW H)), IsEdts w v l ∧ (d = .nil ∧ l = [] ∨ d = .slice (l.map edtData) sr) := by
  obtain ⟨a0, len0, cap0, rfl⟩ := okWide_slice Tryd.underlying22 hval
  obtain ⟨fuel, hf⟩ := hd
  rcases Go.Deep.open_slice Tryd.underlying22 hf with ⟨hcs, hx⟩ | ⟨a, len, cap, m, n, D, Pl, hcs, _, hl, _, hm, hx, hel⟩
  · have hv : Value.slice a0 len0 cap0 = .slice none 0 0 := by simpa [Value.cells] using hcs
    rw [hv]
    simp only [Prod.mk.injEq] at hx
    exact ⟨[], [], ⟨none, 0, rfl, Or.inl rfl⟩, Or.inl ⟨hx.1, rfl⟩⟩
  · have hv : Value.slice a0 len0 cap0 = .slice (some a) len cap := by simpa [Value.cells] using hcs
    rw [hv]
    simp only [Prod.mk.injEq] at hx
    have hlm : len ≤ m := by rw [hm]; split <;> omega
    have hE : ∀ i, ∃ e : Edt, i < len → (∀ j, j < 6 → w.cell? ((a.add (i * 6)).add j) = (edtCells e)[j]?) ∧ D i = edtData e := by
      intro i
      by_cases hi : i < len
      · obtain ⟨cs', h1, h2⟩ := hel i (by omega)
        rw [cEdt] at h1
        obtain ⟨e, rfl, he⟩ := trod_edt h2
        simp only [Prod.mk.injEq] at he
        exact ⟨e, fun _ => ⟨(World.cells?_some h1).2.2, he.1⟩⟩
      · exact ⟨dE, fun h => absurd h hi⟩
    obtain ⟨E, hE⟩ := Classical.axiomOfChoice hE
    refine ⟨(List.range len).map E, (List.range (m - len)).map fun j => D (len + j), ?_, Or.inr ?_⟩
    rotate_left
    · rw [hx.1, List.map_map]
      congr 1
      refine List.map_congr_left fun i hi => ?_
      exact (hE i (List.mem_range.1 hi)).2
    · refine ⟨some a, cap, by simp, ?_⟩
      by_cases h0 : len = 0
      · left; subst h0; rfl
      · right
        have h00 := (hE 0 (by omega)).1 0 (by omega)
        have ha0 : (a.add (0 * 6)).add 0 = a := by unfold Addr.add; simp
        rw [ha0] at h00
        have hs : a = ⟨a.block, a.off, none⟩ := spot_none (v := .int .u8 (E 0).kind) h00
        refine ⟨a.block, a.off, by rw [← hs], block_lt_of_cell (v := .int .u8 (E 0).kind) h00, fun i hi => ?_⟩
        have hi' : i < len := by simpa using hi
        have hg : ((List.range len).map E).getD i dE = E i := by simp [List.getD_eq_getElem?_getD, hi']
        rw [hg]
        have hc := (hE i hi').1
        have k0 := hc 0 (by omega); have k1 := hc 1 (by omega); have k2 := hc 2 (by omega); have k3 := hc 3 (by omega); have k4 := hc 4 (by omega); have k5 := hc 5 (by omega)
        rw [addrSix hs] at k0 k1 k2 k3 k4 k5
        exact ⟨k0, k1, k2, k3, k4, k5⟩
end
theorem sized_edts {H : Type} {ts : List TypeId} {ds : List (DataW H)} (h : (DataW.weightsEach Tryd.prog ts ds).all (· ≤ reachBytes) = true) {j : Nat} {l : List Edt} {sr : List (DataW H)} {d : DataW H} (hj : ts[j]? = some 22) (hd : ds[j]? = some d) (hd2 : d = .nil ∧ l = [] ∨ d = .slice (l.map edtData) sr) :
    l.length * 64 ≤ 140737488351232 ∧ ∀ i, i < l.length → (l.getD i dE).path.size ≤ 140737488351232 ∧ (l.getD i dE).text.size ≤ 140737488351232 := by
  rcases hd2 with ⟨_, rfl⟩ | rfl
  · exact ⟨by simp, fun i hi => by simp at hi⟩
  · have h1 := sized_slice h hj hd Tryd.underlying22
    rw [bytesEdt, List.length_map] at h1
    refine ⟨Nat.le_trans (Nat.mul_le_mul_right _ (Nat.le_add_right _ _)) h1, fun i hi => ?_⟩
    have hmem : ∀ (m : List Edt) (x : Edt), x ∈ m → ∀ n ∈ DataW.weights (H := H) Tryd.prog 40 (edtData x), n ∈ DataW.weightsAll (H := H) Tryd.prog 40 (m.map edtData) := by
      intro m x hx n hn
      induction m with
      | nil => simp at hx
      | cons a r ih =>
        rw [List.map_cons, DataW.weightsAll, List.mem_append]
        rcases List.mem_cons.1 hx with rfl | hx
        · left; exact hn
        · right; exact ih hx
    have hx : (l.getD i dE) ∈ l := by rw [List.getD_eq_getElem?_getD, List.getElem?_eq_getElem hi]; exact List.getElem_mem hi
    have key : ∀ n ∈ DataW.weights (H := H) Tryd.prog 40 (edtData (l.getD i dE)), n ≤ 140737488351232 := by
      intro n hn
      have := List.all_eq_true.1 h _ (DataW.weights_mem_each hj hd n (by
        simp only [DataW.weights, Tryd.underlying22, List.mem_cons, List.mem_append]
        exact Or.inr (Or.inl (hmem l _ hx n hn))))
      exact of_decide_eq_true this
    exact ⟨key _ (weights_edt _).1, key _ (weights_edt _).2⟩
end Go.Proofs.YtbmmabpglkojkaaDoor
