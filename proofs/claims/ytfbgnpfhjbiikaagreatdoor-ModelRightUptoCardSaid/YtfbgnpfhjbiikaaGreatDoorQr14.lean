/- Calls that came in, opened, and what the bound on an input's bulk gives of each; truth values. -/
import Derived.Test.YtfbgnpfhjbiikaaGreatDoorQr11
import Derived.Test.YtfbgnpfhjbiikaaGreatDoorQr13
namespace Go.Proofs.YtfbgnpfhjbiikaaGreatDoor
open Go Go.ChangeShapes Go.WideShapes Go.ChangeAt Go.RowKit
theorem list7 {α : Type} {l : List α} (h : l.length = 7) : ∃ c0 c1 c2 c3 c4 c5 c6, l = [c0, c1, c2, c3, c4, c5, c6] := by
  match l, h with
  | [c0, c1, c2, c3, c4, c5, c6], _ => exact ⟨c0, c1, c2, c3, c4, c5, c6, rfl⟩
theorem cRdS : Tryz.prog.cellsOf 133 = 2 := by kernel_rfl
theorem cCallS : Tryz.prog.cellsOf 80 = 7 := by kernel_rfl
theorem cRdsS : Tryz.prog.cellsOf 75 = 1 := by kernel_rfl
theorem cEdsS : Tryz.prog.cellsOf 23 = 1 := by kernel_rfl
theorem cRgS : Tryz.prog.cellsOf 77 = 2 := by kernel_rfl
theorem cU32S : Tryz.prog.cellsOf 78 = 1 := by kernel_rfl
theorem wf_u8S {n : Int} (h : (Lit.int .u8 n).wf = true) : 0 ≤ n ∧ n < 256 := by
  simp [Lit.wf, IntKind.min, IntKind.max, IntKind.signed, IntKind.bits] at h; omega
theorem wf_u32S {n : Int} (h : (Lit.int .u32 n).wf = true) : 0 ≤ n ∧ n < 4294967296 := by
  simp [Lit.wf, IntKind.min, IntKind.max, IntKind.signed, IntKind.bits] at h; omega
def rdDataS {H : Type} (r : Rd) : DataW H := .agg [.lit (.string r.path.data.toList), .lit (.int .u64 (r.n : Int))]
def rdCellsS (r : Rd) : List Value := [.string r.path, .int .u64 r.n]
def CalD {H : Type} (c : Cal) (d : DataW H) : Prop :=
  ∃ dR dE : DataW H, d = .agg [.lit (.int .u8 (c.kind : Int)), dR, dE, .lit (.string c.pre.data.toList), .agg [.lit (.int .u64 (c.f : Int)), .lit (.int .u64 (c.t : Int))], .lit (.int .u32 (c.dst : Int))] ∧
    (dR = .nil ∧ c.rds = [] ∨ ∃ sr, dR = .slice (c.rds.map rdDataS) sr) ∧ (dE = .nil ∧ c.eds = [] ∨ ∃ sr, dE = .slice (c.eds.map edtData) sr)
section
variable {H : Type} {enc : TypeId × Value → H} {w : World} {base : Nat} {sp : Nat → Bool} {held : Bool}
set_option maxRecDepth 100000 in
theorem trod_relD {α : Type} {k : Nat} {t e : TypeId} (z : α) (R : List Value → α → DataW H → Prop) (ht : Tryz.prog.underlying t = some (.slice e)) (hc : Tryz.prog.cellsOf e = k) (hk : 0 < k) (hlen : ∀ cs a n, R cs a n → cs.length = k)
    (hel : ∀ {fuel : Nat} {cs : List Value} {x : DataW H × List MemPlace}, DataW.trod enc Tryz.prog w base sp held fuel e cs = some x → ∃ a : α, R cs a x.1)
    {fuel : Nat} {cs : List Value} {x : DataW H × List MemPlace} (h : DataW.trod enc Tryz.prog w base sp held fuel t cs = some x) :
    ∃ (a0 : Option Addr) (cap : Nat) (l : List α) (Df : Nat → DataW H), cs = [.slice a0 l.length cap] ∧ l.length ≤ cap ∧ (x.1 = .nil ∧ l = [] ∨ ∃ sr, x.1 = .slice ((List.range l.length).map Df) sr) ∧ (l = [] ∨ ∃ b off, a0 = some ⟨b, off, none⟩ ∧ b < w.heap.size ∧ ∀ i, i < l.length →
      ∃ cs', (∀ j u, cs'[j]? = some u → w.cell? ⟨b, off + i * k + j, none⟩ = some u) ∧ R cs' (l.getD i z) (Df i)) := by
  rcases Go.Deep.open_slice ht h with ⟨hcs, hx⟩ | ⟨a, len, cap, m, n, Df, Pl, hcs, _, hl, _, hm, hx, he⟩
  · exact ⟨none, 0, [], fun _ => .nil, hcs, Nat.le_refl _, Or.inl ⟨by rw [hx], rfl⟩, Or.inl rfl⟩
  · have hlm : len ≤ m := by rw [hm]; split <;> omega
    have hE : ∀ i, ∃ y : α × List Value, i < len → R y.2 y.1 (Df i) ∧ (∀ j, j < k → w.cell? ((a.add (i * k)).add j) = y.2[j]?) := by
      intro i
      by_cases hi : i < len
      · obtain ⟨cs', h1, h2⟩ := he i (by omega)
        rw [hc] at h1
        obtain ⟨y, hy⟩ := hel h2
        exact ⟨(y, cs'), fun _ => ⟨hy, (World.cells?_some h1).2.2⟩⟩
      · exact ⟨(z, []), fun h => absurd h hi⟩
    obtain ⟨E, hE⟩ := Classical.axiomOfChoice hE
    refine ⟨some a, cap, (List.range len).map (fun i => (E i).1), Df, by simpa using hcs, by simpa using hl, Or.inr ⟨(List.range (m - len)).map fun j => Df (len + j), by rw [hx]; simp⟩, ?_⟩
    by_cases h0 : len = 0
    · left; subst h0; rfl
    · right
      obtain ⟨r0, c0⟩ := hE 0 (by omega)
      have h00 := c0 0 hk
      have ha0 : (a.add (0 * k)).add 0 = a := by unfold Addr.add; simp
      rw [ha0, List.getElem?_eq_getElem (by rw [hlen _ _ _ r0]; exact hk)] at h00
      have hs := spot_none h00
      refine ⟨a.block, a.off, by rw [← hs], block_lt_of_cell h00, fun i hi => ?_⟩
      have hi' : i < len := by simpa using hi
      have hg : ((List.range len).map (fun i => (E i).1)).getD i z = (E i).1 := by simp [List.getD_eq_getElem?_getD, hi']
      rw [hg]
      obtain ⟨r1, c1⟩ := hE i hi'
      refine ⟨(E i).2, fun j u hu => ?_, r1⟩
      have hj : j < k := by have := (List.getElem?_eq_some_iff.1 hu).1; rwa [hlen _ _ _ r1] at this
      have hc2 := c1 j hj
      rw [addrThree hs] at hc2
      exact hc2.trans hu
theorem map_of_at {α β : Type} (z : α) (D : α → β) (Df : Nat → β) (l : List α) (h : ∀ i, i < l.length → Df i = D (l.getD i z)) : (List.range l.length).map Df = l.map D := by
  apply List.ext_getElem (by simp)
  intro i h1 h2
  have hi : i < l.length := by simpa using h1
  simp only [List.getElem_map, List.getElem_range, h i hi]
  rw [List.getD_eq_getElem?_getD, List.getElem?_eq_getElem hi]; rfl
set_option maxRecDepth 100000 in
theorem trod_rdS {fuel : Nat} {cs : List Value} {x : DataW H × List MemPlace} (h : DataW.trod enc Tryz.prog w base sp held fuel 133 cs = some x) : ∃ r : Rd, cs = rdCellsS r ∧ x.1 = rdDataS r := by
  obtain ⟨xs, n, _, rfl, hl, hlen, hf⟩ := DataW.trod_struct Tryz.underlying133 h
  rw [cRdS] at hl
  obtain ⟨c0, c1, rfl⟩ : ∃ c0 c1, cs = [c0, c1] := by
    match cs, hl with
    | [a, b], _ => exact ⟨a, b, rfl⟩
  obtain ⟨y0, y1, rfl⟩ : ∃ c0 c1, xs = [c0, c1] := by
    match xs, hlen with
    | [a, b], _ => exact ⟨a, b, rfl⟩
  have h0 : DataW.trod enc Tryz.prog w base sp held n 9 [c0] = some y0 := by simpa [cStr] using hf 0 _ rfl
  have h1 : DataW.trod enc Tryz.prog w base sp held n 43 [c1] = some y1 := by simpa [cU64] using hf 1 _ rfl
  obtain ⟨s0, e0, rfl, _⟩ := DataW.trod_string Tryz.underlying9 h0
  obtain ⟨a1, e1, rfl, w1⟩ := DataW.trod_int Tryz.underlying43 h1
  obtain ⟨n1, rfl⟩ := wfNat64 w1
  refine ⟨⟨s0, n1⟩, ?_, ?_⟩
  · simp only [List.cons.injEq, and_true] at e0 e1
    rw [e0, e1]; rfl
  · first | rfl | simp [rdDataS]
set_option maxRecDepth 100000 in
theorem trod_rdsS {fuel : Nat} {cs : List Value} {x : DataW H × List MemPlace} (h : DataW.trod enc Tryz.prog w base sp held fuel 75 cs = some x) :
    ∃ (v : Value) (l : List Rd), cs = [v] ∧ IsRds w v l ∧ (x.1 = .nil ∧ l = [] ∨ ∃ sr, x.1 = .slice (l.map rdDataS) sr) := by
  obtain ⟨a0, cap, l, Df, rfl, _, hx, hh⟩ := trod_relD dRd (fun cs (r : Rd) d => cs = rdCellsS r ∧ d = rdDataS r) Tryz.underlying75 cRdS (by decide) (fun cs a n h => by rw [h.1]; rfl) trod_rdS h
  refine ⟨_, l, rfl, ⟨a0, cap, rfl, ?_⟩, ?_⟩
  · rcases hh with h | ⟨b, off, ha, hb, hc⟩
    · exact Or.inl h
    · refine Or.inr ⟨b, off, ha, hb, fun i hi => ?_⟩
      obtain ⟨cs', h1, rfl, _⟩ := hc i hi
      exact ⟨h1 0 _ rfl, h1 1 _ rfl⟩
  · rcases hx with hx | ⟨sr, hx⟩
    · exact Or.inl hx
    · refine Or.inr ⟨sr, ?_⟩
      rw [hx, map_of_at dRd rdDataS Df l (fun i hi => ?_)]
      rcases hh with h | ⟨b, off, ha, hb, hc⟩
      · subst h; simp at hi
      · obtain ⟨_, _, _, h2⟩ := hc i hi; exact h2
set_option maxRecDepth 100000 in
theorem trod_edtsS {fuel : Nat} {cs : List Value} {x : DataW H × List MemPlace} (h : DataW.trod enc Tryz.prog w base sp held fuel 23 cs = some x) :
    ∃ (v : Value) (l : List Edt), cs = [v] ∧ IsEdts w v l ∧ (x.1 = .nil ∧ l = [] ∨ ∃ sr, x.1 = .slice (l.map edtData) sr) := by
  obtain ⟨a0, cap, l, Df, rfl, _, hx, hh⟩ := trod_relD dE (fun cs (r : Edt) d => cs = edtCells r ∧ d = edtData r) Tryz.underlying23 cEdt (by decide) (fun cs a n h => by rw [h.1]; rfl) (fun h => by
    obtain ⟨e, rfl, rfl⟩ := trod_edt h
    exact ⟨e, rfl, rfl⟩) h
  refine ⟨_, l, rfl, ⟨a0, cap, rfl, ?_⟩, ?_⟩
  · rcases hh with h | ⟨b, off, ha, hb, hc⟩
    · exact Or.inl h
    · refine Or.inr ⟨b, off, ha, hb, fun i hi => ?_⟩
      obtain ⟨cs', h1, rfl, _⟩ := hc i hi
      exact ⟨h1 0 _ rfl, h1 1 _ rfl, h1 2 _ rfl, h1 3 _ rfl, h1 4 _ rfl, h1 5 _ rfl⟩
  · rcases hx with hx | ⟨sr, hx⟩
    · exact Or.inl hx
    · refine Or.inr ⟨sr, ?_⟩
      rw [hx, map_of_at dE edtData Df l (fun i hi => ?_)]
      rcases hh with h | ⟨b, off, ha, hb, hc⟩
      · subst h; simp at hi
      · obtain ⟨_, _, _, h2⟩ := hc i hi; exact h2
set_option maxRecDepth 100000 in
theorem trod_calS {fuel : Nat} {cs : List Value} {x : DataW H × List MemPlace} (h : DataW.trod enc Tryz.prog w base sp held fuel 80 cs = some x) :
    ∃ c : Cal, ∃ vR vE, cs = calCells vR vE c ∧ CalIs w vR vE c ∧ c.kind < 256 ∧ CalD c x.1 := by
  obtain ⟨xs, n, _, hx, hl, hlen, hf⟩ := DataW.trod_struct Tryz.underlying80 h
  rw [cCallS] at hl
  obtain ⟨c0, c1, c2, c3, c4, c5, c6, rfl⟩ := list7 hl
  obtain ⟨y0, y1, y2, y3, y4, y5, rfl⟩ := list6 hlen
  have h0 : DataW.trod enc Tryz.prog w base sp held n 5 [c0] = some y0 := by simpa [cU8] using hf 0 _ rfl
  have h1 : DataW.trod enc Tryz.prog w base sp held n 75 [c1] = some y1 := by simpa [cRdsS] using hf 1 _ rfl
  have h2 : DataW.trod enc Tryz.prog w base sp held n 23 [c2] = some y2 := by simpa [cEdsS] using hf 2 _ rfl
  have h3 : DataW.trod enc Tryz.prog w base sp held n 9 [c3] = some y3 := by simpa [cStr] using hf 3 _ rfl
  have h4 : DataW.trod enc Tryz.prog w base sp held n 77 [c4, c5] = some y4 := by simpa [cRgS] using hf 4 _ rfl
  have h5 : DataW.trod enc Tryz.prog w base sp held n 78 [c6] = some y5 := by simpa [cU32S] using hf 5 _ rfl
  obtain ⟨a0, e0, rfl, w0⟩ := DataW.trod_int Tryz.underlying5 h0
  obtain ⟨v1, l1, e1, i1, q1⟩ := trod_rdsS h1
  obtain ⟨v2, l2, e2, i2, q2⟩ := trod_edtsS h2
  obtain ⟨s3, e3, rfl, _⟩ := DataW.trod_string Tryz.underlying9 h3
  obtain ⟨zs, n4, _, hx4, hl4, hlen4, hf4⟩ := DataW.trod_struct Tryz.underlying77 h4
  obtain ⟨z0, z1, rfl⟩ : ∃ c0 c1, zs = [c0, c1] := by
    match zs, hlen4 with
    | [a, b], _ => exact ⟨a, b, rfl⟩
  have h40 : DataW.trod enc Tryz.prog w base sp held n4 43 [c4] = some z0 := by simpa [cU64] using hf4 0 _ rfl
  have h41 : DataW.trod enc Tryz.prog w base sp held n4 43 [c5] = some z1 := by simpa [cU64] using hf4 1 _ rfl
  obtain ⟨a40, e40, rfl, w40⟩ := DataW.trod_int Tryz.underlying43 h40
  obtain ⟨a41, e41, rfl, w41⟩ := DataW.trod_int Tryz.underlying43 h41
  obtain ⟨a5, e5, rfl, w5⟩ := DataW.trod_int Tryz.underlying78 h5
  have w0' := wf_u8S w0
  have w5' := wf_u32S w5
  obtain ⟨n0, rfl⟩ : ∃ d : Nat, a0 = d := ⟨a0.toNat, by omega⟩
  obtain ⟨n5, rfl⟩ : ∃ d : Nat, a5 = d := ⟨a5.toNat, by omega⟩
  obtain ⟨f, rfl⟩ := wfNat64 w40
  obtain ⟨t, rfl⟩ := wfNat64 w41
  simp only [List.cons.injEq, and_true] at e0 e1 e2 e3 e40 e41 e5
  subst hx
  refine ⟨⟨n0, l1, l2, s3, f, t, n5⟩, v1, v2, ?_, ⟨i1, i2⟩, by show n0 < 256; omega, y1.1, y2.1, ?_, q1, q2⟩
  · rw [e0, e1, e2, e3, e40, e41, e5]; rfl
  · subst hx4; rfl
end
structure CalB (c : Cal) (n : Nat) : Prop where
  k : c.kind < 256
  r : c.rds.length ≤ n
  rs : ∀ i, i < c.rds.length → (c.rds.getD i dRd).path.size ≤ n
  e : 7 * c.eds.length ≤ n
  es : ∀ i, i < c.eds.length → (c.eds.getD i dE).path.size ≤ n ∧ (c.eds.getD i dE).text.size ≤ n
  p : c.pre.size ≤ n
theorem bulk_mul {H α : Type} (D : α → DataW H) (m : Nat) (h : ∀ x, m ≤ Rows.uptoBulk (D x)) : ∀ l : List α, m * l.length ≤ Rows.uptoBulkAll (l.map D)
  | [] => by simp [Rows.uptoBulkAll]
  | x :: r => by
    have h1 := h x; have h2 := bulk_mul D m h r
    simp only [List.map_cons, Rows.uptoBulkAll, List.length_cons, Nat.mul_succ]; omega
theorem calD_bulk {H : Type} {c : Cal} {d : DataW H} (hk : c.kind < 256) (h : CalD c d) : CalB c (Rows.uptoBulk d) := by
  obtain ⟨dR, dE', rfl, hR, hE⟩ := h
  have h3 : Rows.uptoBulk (DataW.agg [.lit (.int .u8 (c.kind : Int)), dR, dE', .lit (.string c.pre.data.toList), .agg [.lit (.int .u64 (c.f : Int)), .lit (.int .u64 (c.t : Int))], .lit (.int .u32 (c.dst : Int))]) ≥ Rows.uptoBulk dR + Rows.uptoBulk dE' + c.pre.data.toList.length := by
    simp [Rows.uptoBulk, Rows.uptoBulkAll]; omega
  have h5 : c.pre.data.toList.length = c.pre.size := by rw [Array.length_toList]; rfl
  refine ⟨hk, ?_, fun i hi => ?_, ?_, fun i hi => ?_, by omega⟩
  · rcases hR with ⟨_, e⟩ | ⟨sr, rfl⟩
    · rw [e]; simp
    · have h1 := bulks.slice_elems (c.rds.map (rdDataS (H := H))) sr
      have h2 := bulks.length_le (c.rds.map (rdDataS (H := H)))
      rw [List.length_map] at h2; omega
  · rcases hR with ⟨_, e⟩ | ⟨sr, rfl⟩
    · rw [e] at hi; simp at hi
    · have h1 := bulks.slice_elems (c.rds.map (rdDataS (H := H))) sr
      have hm : c.rds.getD i dRd ∈ c.rds := by rw [List.getD_eq_getElem?_getD, List.getElem?_eq_getElem hi]; exact List.getElem_mem hi
      have h2 := bulks.part_le (d := rdDataS (H := H) (c.rds.getD i dRd)) (List.mem_map.2 ⟨_, hm, rfl⟩)
      have h4 : Rows.uptoBulk (rdDataS (H := H) (c.rds.getD i dRd)) ≥ (c.rds.getD i dRd).path.data.toList.length := by simp [rdDataS, Rows.uptoBulk, Rows.uptoBulkAll]; omega
      have h6 : (c.rds.getD i dRd).path.data.toList.length = (c.rds.getD i dRd).path.size := by rw [Array.length_toList]; rfl
      omega
  · rcases hE with ⟨_, e⟩ | ⟨sr, rfl⟩
    · rw [e]; simp
    · have h1 := bulks.slice_elems (c.eds.map (edtData (H := H))) sr
      have h2 := bulk_mul (edtData (H := H)) 7 (fun x => by simp [edtData, Rows.uptoBulk, Rows.uptoBulkAll]; omega) c.eds
      omega
  · rcases hE with ⟨_, e⟩ | ⟨sr, rfl⟩
    · rw [e] at hi; simp at hi
    · have h1 := bulks.slice_elems (c.eds.map (edtData (H := H))) sr
      have hm : c.eds.getD i dE ∈ c.eds := by rw [List.getD_eq_getElem?_getD, List.getElem?_eq_getElem hi]; exact List.getElem_mem hi
      have h2 := bulks.part_le (d := edtData (H := H) (c.eds.getD i dE)) (List.mem_map.2 ⟨_, hm, rfl⟩)
      have h4 := edt_bulk (H := H) (c.eds.getD i dE)
      omega
theorem CalB.sz {c : Cal} {n : Nat} (h : CalB c n) (hn : n ≤ 1048576) : CalSz c := by
  have := h.r; have := h.e; have := h.p
  exact ⟨h.k, by omega, fun i hi => by have := h.rs i hi; omega, by omega, fun i hi => by have := h.es i hi; omega, by omega⟩
set_option maxRecDepth 100000 in
theorem open_calsB {H : Type} {enc : TypeId × Value → H} {w : World} {base : Nat} {sp : Nat → Bool} {held : Bool} {r : Reach} {b0 : Nat} {v : Value} {d : DataW H} {ps : List MemPlace} (hval : Value.okWide Tryz.prog w r b0 66 v) (hd : DataW.Trod enc Tryz.prog w base sp held 66 v d ps) :
    ∃ l : List Cal, IsCals w v l ∧ 7 * edN l l.length ≤ Rows.uptoBulk d ∧ ∀ i, i < l.length → CalB (l.getD i dCal) (Rows.uptoBulk d) := by
  obtain ⟨a0, len0, cap0, rfl⟩ := okWide_slice Tryz.underlying66 hval
  obtain ⟨fuel, hf⟩ := hd
  obtain ⟨a1, cap, l, Df, hcs, hcap, hx, hh⟩ := trod_relD dCal (fun cs (c : Cal) d => ∃ vR vE, cs = calCells vR vE c ∧ CalIs w vR vE c ∧ c.kind < 256 ∧ CalD c d) Tryz.underlying66 cCallS (by decide) (fun cs a n h => by obtain ⟨_, _, rfl, _⟩ := h; rfl) trod_calS hf
  have hv : Value.slice a0 len0 cap0 = .slice a1 l.length cap := by simpa [Value.cells] using hcs
  rw [hv]
  dsimp only at hx
  have hB : ∀ i, i < l.length → CalB (l.getD i dCal) (Rows.uptoBulk (Df i)) := fun i hi => by
    rcases hh with h | ⟨b, off, ha, hb, hc⟩
    · subst h; simp at hi
    · obtain ⟨cs', _, vR, vE, _, _, h1, h2⟩ := hc i hi
      exact calD_bulk h1 h2
  refine ⟨l, ⟨a1, cap, rfl, ?_⟩, ?_, fun i hi => ?_⟩
  · rcases hh with h | ⟨b, off, ha, hb, hc⟩
    · exact Or.inl h
    · refine Or.inr ⟨b, off, ha, hb, fun i hi => ?_⟩
      obtain ⟨cs', h1, vR, vE, rfl, h2, _⟩ := hc i hi
      exact ⟨vR, vE, h2, h1⟩
  · rcases hx with ⟨_, e⟩ | ⟨sr, hx⟩
    · rw [e]; simp [edN]
    · have h1 := bulks.slice_elems ((List.range l.length).map Df) sr
      rw [← hx] at h1
      have h2 : ∀ k, k ≤ l.length → 7 * edN l k ≤ Rows.uptoBulkAll ((List.range k).map Df) := by
        intro k
        induction k with
        | zero => intro _; simp [edN]
        | succ k ih =>
          intro hk
          rw [List.range_succ, List.map_append, bulks.append]
          have h3 := ih (by omega)
          have h4 := (hB k (by omega)).e
          simp only [edN, List.map_cons, List.map_nil, Rows.uptoBulkAll]
          omega
      have := h2 l.length (Nat.le_refl _)
      omega
  · rcases hx with ⟨_, e⟩ | ⟨sr, hx⟩
    · rw [e] at hi; simp at hi
    · have h1 := bulks.slice_elems ((List.range l.length).map Df) sr
      rw [← hx] at h1
      have h2 := bulks.part_le (d := Df i) (l := (List.range l.length).map Df) (List.mem_map.2 ⟨i, List.mem_range.2 hi, rfl⟩)
      have h := hB i hi
      exact ⟨h.k, by have := h.r; omega, fun j hj => by have := h.rs j hj; omega, by have := h.e; omega, fun j hj => by have := h.es j hj; omega, by have := h.p; omega⟩
set_option maxRecDepth 100000 in
theorem open_boolsB {H : Type} {enc : TypeId × Value → H} {w : World} {base : Nat} {sp : Nat → Bool} {held : Bool} {r : Reach} {b0 : Nat} {v : Value} {d : DataW H} {ps : List MemPlace} (hval : Value.okWide Tryz.prog w r b0 67 v) (hd : DataW.Trod enc Tryz.prog w base sp held 67 v d ps) :
    ∃ l : List Bool, IsBools w v l ∧ l.length ≤ Rows.uptoBulk d := by
  obtain ⟨a0, len0, cap0, rfl⟩ := okWide_slice Tryz.underlying67 hval
  obtain ⟨fuel, hf⟩ := hd
  obtain ⟨a1, cap, l, Df, hcs, hcap, hx, hh⟩ := trod_relD false (fun cs (c : Bool) (_ : DataW H) => cs = [.bool c]) Tryz.underlying67 cBool (by decide) (fun cs a n h => by rw [h]; rfl) (fun h => by
    obtain ⟨b2, e2, _⟩ := DataW.trod_bool Tryz.underlying4 h
    exact ⟨b2, e2⟩) hf
  have hv : Value.slice a0 len0 cap0 = .slice a1 l.length cap := by simpa [Value.cells] using hcs
  rw [hv]
  dsimp only at hx
  refine ⟨l, ⟨a1, cap, rfl, ?_⟩, ?_⟩
  · rcases hh with h | ⟨b, off, ha, hb, hc⟩
    · exact Or.inl h
    · refine Or.inr ⟨b, off, ha, hb, fun i hi => ?_⟩
      obtain ⟨cs', h1, rfl⟩ := hc i hi
      have := h1 0 _ rfl
      rwa [Nat.mul_one] at this
  · rcases hx with ⟨_, e⟩ | ⟨sr, hx⟩
    · rw [e]; simp
    · have h1 := bulks.slice_elems ((List.range l.length).map Df) sr
      have h2 := bulks.length_le ((List.range l.length).map Df)
      rw [← hx] at h1
      rw [List.length_map, List.length_range] at h2
      omega
end Go.Proofs.YtfbgnpfhjbiikaaGreatDoor
