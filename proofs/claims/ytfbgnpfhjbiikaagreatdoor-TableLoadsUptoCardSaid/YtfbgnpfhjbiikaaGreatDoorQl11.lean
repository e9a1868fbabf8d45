/- Acts that came in, opened; what an input's bound on its bulk gives of each. Edits and texts that came in, opened, each by the input's bulk. -/
import Derived.Test.YtfbgnpfhjbiikaaGreatDoorQl10
namespace Go.Proofs.YtfbgnpfhjbiikaaGreatDoor
open Go Go.ChangeShapes Go.WideShapes Go.ChangeAt Go.RowKit
theorem list4 {α : Type} {l : List α} (h : l.length = 4) : ∃ c0 c1 c2 c3, l = [c0, c1, c2, c3] := by
  rcases l with _ | ⟨a, _ | ⟨b, _ | ⟨c, _ | ⟨d, _ | ⟨e, r⟩⟩⟩⟩⟩ <;> first | exact ⟨_, _, _, _, rfl⟩ | simp at h
theorem cAct : Tryz.prog.cellsOf 28 = 4 := by kernel_rfl
theorem cEdtsA : Tryz.prog.cellsOf 23 = 1 := by kernel_rfl
theorem cRowsA : Tryz.prog.cellsOf 26 = 1 := by kernel_rfl
theorem cStrsA : Tryz.prog.cellsOf 24 = 1 := by kernel_rfl
theorem wf_u8 {n : Int} (h : (Lit.int .u8 n).wf = true) : 0 ≤ n ∧ n < 256 := by
  simp [Lit.wf, IntKind.min, IntKind.max, IntKind.signed, IntKind.bits] at h; omega
theorem versD_bulk {H : Type} {l : List Ver} {d : DataW H} (h : VersD l d) : l.length ≤ Rows.uptoBulk d ∧ ∀ x ∈ l, x.tx.size ≤ Rows.uptoBulk d := by
  rcases h with ⟨_, rfl⟩ | ⟨sr, rfl⟩
  · exact ⟨by simp, fun x hx => by cases hx⟩
  · have h1 := bulks.slice_elems (l.map (verData (H := H))) sr
    have h2 := bulks.length_le (l.map (verData (H := H)))
    rw [List.length_map] at h2
    refine ⟨by omega, fun x hx => ?_⟩
    have h3 := bulks.part_le (d := verData (H := H) x) (List.mem_map.2 ⟨x, hx, rfl⟩)
    have h4 : Rows.uptoBulk (verData (H := H) x) = x.tx.data.toList.length + 4 := by simp [verData, Rows.uptoBulk, Rows.uptoBulkAll]; omega
    have h5 : x.tx.data.toList.length = x.tx.size := by rw [Array.length_toList]; rfl
    omega
theorem rowD_bulk {H : Type} {r : ByteArray × Cel} {d : DataW H} (h : RowD r d) : r.1.size ≤ Rows.uptoBulk d ∧ r.2.l.length ≤ Rows.uptoBulk d ∧ ∀ x ∈ r.2.l, x.tx.size ≤ Rows.uptoBulk d := by
  obtain ⟨vd, rfl, hv⟩ := h
  obtain ⟨h1, h2⟩ := versD_bulk hv
  have h3 : Rows.uptoBulk (DataW.agg [.lit (.string r.1.data.toList), .agg [.lit (.int .u64 r.2.last), vd]]) = r.1.data.toList.length + Rows.uptoBulk vd + 4 := by
    simp [Rows.uptoBulk, Rows.uptoBulkAll]; omega
  have h5 : r.1.data.toList.length = r.1.size := by rw [Array.length_toList]; rfl
  exact ⟨by omega, by omega, fun x hx => by have := h2 x hx; omega⟩
theorem edt_bulk {H : Type} (e : Edt) : e.path.size ≤ Rows.uptoBulk (edtData (H := H) e) ∧ e.text.size ≤ Rows.uptoBulk (edtData (H := H) e) := by
  have h3 : Rows.uptoBulk (edtData (H := H) e) = e.path.data.toList.length + e.text.data.toList.length + 7 := by
    simp [edtData, Rows.uptoBulk, Rows.uptoBulkAll]; omega
  have h4 : e.path.data.toList.length = e.path.size := by rw [Array.length_toList]; rfl
  have h5 : e.text.data.toList.length = e.text.size := by rw [Array.length_toList]; rfl
  omega
section
variable {H : Type} {enc : TypeId × Value → H} {w : World} {base : Nat} {sp : Nat → Bool} {held : Bool}
set_option maxRecDepth 100000 in
theorem trod_rel {α : Type} {k : Nat} {t e : TypeId} (z : α) (R : List Value → α → Nat → Prop) (ht : Tryz.prog.underlying t = some (.slice e)) (hc : Tryz.prog.cellsOf e = k) (hk : 0 < k) (hlen : ∀ cs a n, R cs a n → cs.length = k)
    (hel : ∀ {fuel : Nat} {cs : List Value} {x : DataW H × List MemPlace}, DataW.trod enc Tryz.prog w base sp held fuel e cs = some x → ∃ a : α, R cs a (Rows.uptoBulk x.1))
    {fuel : Nat} {cs : List Value} {x : DataW H × List MemPlace} (h : DataW.trod enc Tryz.prog w base sp held fuel t cs = some x) :
    ∃ (a0 : Option Addr) (cap : Nat) (l : List α), cs = [.slice a0 l.length cap] ∧ l.length ≤ cap ∧ l.length ≤ Rows.uptoBulk x.1 ∧ (l = [] ∨ ∃ b off, a0 = some ⟨b, off, none⟩ ∧ b < w.heap.size ∧ ∀ i, i < l.length →
      ∃ cs', (∀ j u, cs'[j]? = some u → w.cell? ⟨b, off + i * k + j, none⟩ = some u) ∧ ∃ n, R cs' (l.getD i z) n ∧ n ≤ Rows.uptoBulk x.1) := by
  rcases Go.Deep.open_slice ht h with ⟨hcs, hx⟩ | ⟨a, len, cap, m, n, Df, Pl, hcs, _, hl, _, hm, hx, he⟩
  · exact ⟨none, 0, [], hcs, Nat.le_refl _, Nat.zero_le _, Or.inl rfl⟩
  · have hlm : len ≤ m := by rw [hm]; split <;> omega
    have hE : ∀ i, ∃ y : α × List Value, i < len → R y.2 y.1 (Rows.uptoBulk (Df i)) ∧ (∀ j, j < k → w.cell? ((a.add (i * k)).add j) = y.2[j]?) := by
      intro i
      by_cases hi : i < len
      · obtain ⟨cs', h1, h2⟩ := he i (by omega)
        rw [hc] at h1
        obtain ⟨y, hy⟩ := hel h2
        exact ⟨(y, cs'), fun _ => ⟨hy, (World.cells?_some h1).2.2⟩⟩
      · exact ⟨(z, []), fun h => absurd h hi⟩
    obtain ⟨E, hE⟩ := Classical.axiomOfChoice hE
    have hx1 : x.1 = .slice ((List.range len).map Df) ((List.range (m - len)).map fun j => Df (len + j)) := by rw [hx]
    have hb := bulks.slice_elems ((List.range len).map Df) ((List.range (m - len)).map fun j => Df (len + j))
    rw [← hx1] at hb
    have hb2 := bulks.length_le ((List.range len).map Df)
    rw [List.length_map, List.length_range] at hb2
    refine ⟨some a, cap, (List.range len).map (fun i => (E i).1), by simpa using hcs, by simpa using hl, by simp; omega, ?_⟩
    by_cases h0 : len = 0
    · left; subst h0; rfl
    · right
      obtain ⟨r0, c0⟩ := hE 0 (by omega)
      have h00 := c0 0 hk
      have ha0 : (a.add (0 * k)).add 0 = a := by unfold Addr.add; simp
      rw [ha0, List.getElem?_eq_getElem (by rw [hlen _ _ _ r0]; exact hk)] at h00
      have hs := spot_none h00
      refine ⟨a.block, a.off, by rw [← hs], block_lt_of_cell h00, fun i hi => ?_⟩
      have hi' : i < len := by simpa using hi
      have hg : ((List.range len).map (fun i => (E i).1)).getD i z = (E i).1 := by simp [List.getD_eq_getElem?_getD, hi']
      rw [hg]
      obtain ⟨r1, c1⟩ := hE i hi'
      refine ⟨(E i).2, fun j u hu => ?_, _, r1, ?_⟩
      · have hj : j < k := by have := (List.getElem?_eq_some_iff.1 hu).1; rwa [hlen _ _ _ r1] at this
        have hc2 := c1 j hj
        rw [addrThree hs] at hc2
        exact hc2.trans hu
      · have := bulks.part_le (d := Df i) (l := (List.range len).map Df) (List.mem_map.2 ⟨i, List.mem_range.2 hi', rfl⟩)
        omega

theorem trod_edtsB {fuel : Nat} {cs : List Value} {x : DataW H × List MemPlace} (h : DataW.trod enc Tryz.prog w base sp held fuel 23 cs = some x) :
    ∃ (v : Value) (l : List Edt), cs = [v] ∧ IsEdts w v l ∧ l.length ≤ Rows.uptoBulk x.1 ∧ ∀ i, i < l.length → (l.getD i dE).path.size ≤ Rows.uptoBulk x.1 ∧ (l.getD i dE).text.size ≤ Rows.uptoBulk x.1 := by
  obtain ⟨a0, cap, l, rfl, _, hl, hh⟩ := trod_rel dE (fun cs (e : Edt) n => cs = edtCells e ∧ e.path.size ≤ n ∧ e.text.size ≤ n) Tryz.underlying23 cEdt (by decide) (fun cs a n h => by rw [h.1]; rfl) (fun h => by
    obtain ⟨e, rfl, rfl⟩ := trod_edt h
    exact ⟨e, rfl, edt_bulk e⟩) h
  refine ⟨_, l, rfl, ⟨a0, cap, rfl, ?_⟩, hl, fun i hi => ?_⟩
  · rcases hh with h | ⟨b, off, ha, hb, hc⟩
    · exact Or.inl h
    · refine Or.inr ⟨b, off, ha, hb, fun i hi => ?_⟩
      obtain ⟨cs', h1, n, ⟨rfl, _⟩, _⟩ := hc i hi
      exact ⟨h1 0 _ rfl, h1 1 _ rfl, h1 2 _ rfl, h1 3 _ rfl, h1 4 _ rfl, h1 5 _ rfl⟩
  · rcases hh with h | ⟨b, off, ha, hb, hc⟩
    · subst h; simp at hi
    · obtain ⟨cs', _, n, ⟨_, h2, h3⟩, h4⟩ := hc i hi
      exact ⟨by omega, by omega⟩
theorem trod_rowsB {fuel : Nat} {cs : List Value} {x : DataW H × List MemPlace} (h : DataW.trod enc Tryz.prog w base sp held fuel 26 cs = some x) :
    ∃ (v : Value) (l : List Rw), cs = [v] ∧ (∃ a c, v = .slice a l.length c ∧ l.length ≤ c ∧ IsRows w v l) ∧ RowsWf l ∧ l.length ≤ Rows.uptoBulk x.1 ∧
      ∀ i, i < l.length → (l.getD i dR).1.size ≤ Rows.uptoBulk x.1 ∧ (l.getD i dR).2.l.length ≤ Rows.uptoBulk x.1 ∧ ∀ y ∈ (l.getD i dR).2.l, y.tx.size ≤ Rows.uptoBulk x.1 := by
  obtain ⟨a0, cap, l, rfl, hcap, hl, hh⟩ := trod_rel dR (fun cs (r : Rw) n => ∃ s, cs = [.string r.1, .int .u64 r.2.last, s] ∧ IsVers w s r.2.l ∧ r.2.last < 18446744073709551616 ∧ r.1.size ≤ n ∧ r.2.l.length ≤ n ∧ ∀ y ∈ r.2.l, y.tx.size ≤ n)
    Tryz.underlying26 cRow (by decide) (fun cs a n h => by obtain ⟨s, rfl, _⟩ := h; rfl) (fun h => by
    obtain ⟨r, v, rfl, hv, hd, hlt⟩ := trod_row h
    exact ⟨r, v, rfl, hv, hlt, rowD_bulk hd⟩) h
  refine ⟨_, l, rfl, ⟨a0, cap, rfl, hcap, ⟨a0, cap, rfl, ?_⟩⟩, fun i hi => ?_, hl, fun i hi => ?_⟩
  · rcases hh with h | ⟨b, off, ha, hb, hc⟩
    · exact Or.inl h
    · refine Or.inr ⟨b, off, ha, hb, fun i hi => ?_⟩
      obtain ⟨cs', h1, n, ⟨s, rfl, hs, _⟩, _⟩ := hc i hi
      exact ⟨h1 0 _ rfl, h1 1 _ rfl, s, h1 2 _ rfl, hs⟩
  · rcases hh with h | ⟨b, off, ha, hb, hc⟩
    · subst h; simp at hi
    · obtain ⟨cs', _, n, ⟨s, _, _, h2, _⟩, _⟩ := hc i hi
      exact h2
  · rcases hh with h | ⟨b, off, ha, hb, hc⟩
    · subst h; simp at hi
    · obtain ⟨cs', _, n, ⟨s, _, _, _, h2, h3, h4⟩, h5⟩ := hc i hi
      exact ⟨by omega, by omega, fun y hy => Nat.le_trans (h4 y hy) h5⟩
theorem trod_strsB {fuel : Nat} {cs : List Value} {x : DataW H × List MemPlace} (h : DataW.trod enc Tryz.prog w base sp held fuel 24 cs = some x) :
    ∃ (v : Value) (l : List ByteArray), cs = [v] ∧ IsStrs w v l ∧ l.length ≤ Rows.uptoBulk x.1 ∧ ∀ i, i < l.length → (l.getD i ByteArray.empty).size ≤ Rows.uptoBulk x.1 := by
  obtain ⟨a0, cap, l, rfl, hcap, hl, hh⟩ := trod_rel ByteArray.empty (fun cs (s : ByteArray) n => cs = [.string s] ∧ s.size ≤ n) Tryz.underlying24 cStr (by decide) (fun cs a n h => by rw [h.1]; rfl) (fun h => by
    obtain ⟨s, rfl, rfl, _⟩ := DataW.trod_string Tryz.underlying9 h
    refine ⟨s, rfl, ?_⟩
    rw [bulks.string_eq, Array.length_toList]
    exact Nat.le_succ _) h
  refine ⟨_, l, rfl, ⟨a0, cap, rfl, ?_⟩, hl, fun i hi => ?_⟩
  · rcases hh with h | ⟨b, off, ha, hb, hc⟩
    · exact Or.inl h
    · refine Or.inr ⟨b, off, ha, hb, fun i hi => ?_⟩
      obtain ⟨cs', h1, n, ⟨rfl, _⟩, _⟩ := hc i hi
      have := h1 0 _ rfl
      rwa [Nat.mul_one] at this
  · rcases hh with h | ⟨b, off, ha, hb, hc⟩
    · subst h; simp at hi
    · obtain ⟨cs', _, n, ⟨_, h2⟩, h4⟩ := hc i hi
      omega
structure ActB (x : ActX) (n : Nat) : Prop where
  d : x.dd < 256
  wf : RowsWf x.rs
  e : x.es.length ≤ n
  es : ∀ i, i < x.es.length → (x.es.getD i dE).path.size ≤ n ∧ (x.es.getD i dE).text.size ≤ n
  r : x.rs.length ≤ n
  rs : ∀ i, i < x.rs.length → (x.rs.getD i dR).1.size ≤ n ∧ (x.rs.getD i dR).2.l.length ≤ n ∧ ∀ y ∈ (x.rs.getD i dR).2.l, y.tx.size ≤ n
  p : x.pp.length ≤ n
  ps : ∀ i, i < x.pp.length → (x.pp.getD i ByteArray.empty).size ≤ n
theorem ActB.fit {x : ActX} {n : Nat} (h : ActB x n) (hn : n ≤ 1048576) : ActFit x := by
  have he := h.e; have hr := h.r; have hp := h.p
  refine ⟨h.d, h.wf, ⟨Nat.le_trans he hn, Nat.le_trans hr hn, Nat.le_trans hp hn, fun i hi => ?_, fun i hi => ?_⟩, fun i hi => ?_, fun i hi => ?_⟩
  · obtain ⟨a, b⟩ := h.es i hi; exact ⟨Nat.le_trans a hn, Nat.le_trans b hn⟩
  · obtain ⟨_, b, c⟩ := h.rs i hi; exact ⟨Nat.le_trans b hn, fun j hj => Nat.le_trans (c _ (getD_mem hj)) hn⟩
  · exact Nat.le_trans (h.rs i hi).1 hn
  · exact Nat.le_trans (h.ps i hi) hn
set_option maxRecDepth 100000 in
theorem trod_act {fuel : Nat} {cs : List Value} {x : DataW H × List MemPlace} (h : DataW.trod enc Tryz.prog w base sp held fuel 28 cs = some x) :
    ∃ y : ActX, ∃ ve vr vp, cs = [.int .u8 y.dd, ve, vr, vp] ∧ ActIs w ve vr vp y ∧ ActB y (Rows.uptoBulk x.1) := by
  obtain ⟨xs, n, _, rfl, hl, hlen, hf⟩ := DataW.trod_struct Tryz.underlying28 h
  rw [cAct] at hl
  obtain ⟨c0, c1, c2, c3, rfl⟩ := list4 hl
  obtain ⟨y0, y1, y2, y3, rfl⟩ := list4 hlen
  have h0 : DataW.trod enc Tryz.prog w base sp held n 5 [c0] = some y0 := by simpa [cU8] using hf 0 _ rfl
  have h1 : DataW.trod enc Tryz.prog w base sp held n 23 [c1] = some y1 := by simpa [cEdtsA] using hf 1 _ rfl
  have h2 : DataW.trod enc Tryz.prog w base sp held n 26 [c2] = some y2 := by simpa [cRowsA] using hf 2 _ rfl
  have h3 : DataW.trod enc Tryz.prog w base sp held n 24 [c3] = some y3 := by simpa [cStrsA] using hf 3 _ rfl
  obtain ⟨a0, e0, rfl, w0⟩ := DataW.trod_int Tryz.underlying5 h0
  have w0' : 0 ≤ a0 ∧ a0 < 256 := wf_u8 w0
  obtain ⟨d, rfl⟩ : ∃ d : Nat, a0 = d := ⟨a0.toNat, by omega⟩
  obtain ⟨ve, es, e1, i1, b1, s1⟩ := trod_edtsB h1
  obtain ⟨vr, rs, e2, i2, f2, b2, s2⟩ := trod_rowsB h2
  obtain ⟨vp, pp, e3, i3, b3, s3⟩ := trod_strsB h3
  simp only [List.cons.injEq, and_true] at e0 e1 e2 e3
  subst e0; subst e1; subst e2; subst e3
  have hB : ∀ z ∈ [y1.1, y2.1, y3.1], Rows.uptoBulk z ≤ Rows.uptoBulk (DataW.agg ([(DataW.lit (.int .u8 (d : Int)), ([] : List MemPlace)), y1, y2, y3].map (·.1))) := by
    intro z hz
    simp only [List.map_cons, List.map_nil, Rows.uptoBulk, Rows.uptoBulkAll]
    simp only [List.mem_cons, List.mem_nil_iff, or_false] at hz
    rcases hz with rfl | rfl | rfl <;> omega
  have g1 := hB _ (by simp : y1.1 ∈ [y1.1, y2.1, y3.1])
  have g2 := hB _ (by simp : y2.1 ∈ [y1.1, y2.1, y3.1])
  have g3 := hB _ (by simp : y3.1 ∈ [y1.1, y2.1, y3.1])
  refine ⟨⟨d, es, rs, pp⟩, _, _, _, rfl, ⟨i1, i2, i3⟩, ?_⟩
  have hd : d < 256 := by omega
  exact ⟨hd, f2, Nat.le_trans b1 g1, fun i hi => ⟨Nat.le_trans (s1 i hi).1 g1, Nat.le_trans (s1 i hi).2 g1⟩, Nat.le_trans b2 g2, fun i hi => ⟨Nat.le_trans (s2 i hi).1 g2, Nat.le_trans (s2 i hi).2.1 g2, fun y hy => Nat.le_trans ((s2 i hi).2.2 y hy) g2⟩, Nat.le_trans b3 g3, fun i hi => Nat.le_trans (s3 i hi) g3⟩
set_option maxRecDepth 100000 in
theorem open_acts {r : Reach} {b0 : Nat} {v : Value} {d : DataW H} {ps : List MemPlace} (hval : Value.okWide Tryz.prog w r b0 22 v) (hd : DataW.Trod enc Tryz.prog w base sp held 22 v d ps) :
    ∃ l : List ActX, IsActsX w v l ∧ l.length ≤ Rows.uptoBulk d ∧ ∀ i, i < l.length → ActB (l.getD i dX) (Rows.uptoBulk d) := by
  obtain ⟨a0, len0, cap0, rfl⟩ := okWide_slice Tryz.underlying22 hval
  obtain ⟨fuel, hf⟩ := hd
  obtain ⟨a1, cap, l, hcs, hcap, hl, hh⟩ := trod_rel dX (fun cs (y : ActX) n => ∃ ve vr vp, cs = [.int .u8 y.dd, ve, vr, vp] ∧ ActIs w ve vr vp y ∧ ActB y n) Tryz.underlying22 cAct (by decide) (fun cs a n h => by obtain ⟨_, _, _, rfl, _⟩ := h; rfl) trod_act hf
  have hv : Value.slice a0 len0 cap0 = .slice a1 l.length cap := by simpa [Value.cells] using hcs
  rw [hv]
  refine ⟨l, ⟨a1, cap, rfl, ?_⟩, hl, fun i hi => ?_⟩
  · rcases hh with h | ⟨b, off, ha, hb, hc⟩
    · exact Or.inl h
    · refine Or.inr ⟨b, off, ha, hb, fun i hi => ?_⟩
      obtain ⟨cs', h1, n, ⟨ve, vr, vp, rfl, h2, _⟩, _⟩ := hc i hi
      exact ⟨ve, vr, vp, h1 0 _ rfl, h1 1 _ rfl, h1 2 _ rfl, h1 3 _ rfl, h2⟩
  · rcases hh with h | ⟨b, off, ha, hb, hc⟩
    · subst h; simp at hi
    · obtain ⟨cs', _, n, ⟨ve, vr, vp, _, _, h2⟩, h4⟩ := hc i hi
      refine ⟨h2.d, h2.wf, Nat.le_trans h2.e h4, fun j hj => ⟨Nat.le_trans (h2.es j hj).1 h4, Nat.le_trans (h2.es j hj).2 h4⟩, Nat.le_trans h2.r h4, fun j hj => ⟨Nat.le_trans (h2.rs j hj).1 h4, Nat.le_trans (h2.rs j hj).2.1 h4, fun y hy => Nat.le_trans ((h2.rs j hj).2.2 y hy) h4⟩, Nat.le_trans h2.p h4, fun j hj => Nat.le_trans (h2.ps j hj) h4⟩
end
end Go.Proofs.YtfbgnpfhjbiikaaGreatDoor

namespace Go.Proofs.YtfbgnpfhjbiikaaGreatDoor
open Go Go.ChangeShapes Go.WideShapes Go.ChangeAt Go.RowKit
section
variable {H : Type} {enc : TypeId × Value → H} {w : World} {base : Nat} {sp : Nat → Bool} {held : Bool}
set_option maxRecDepth 100000 in
theorem open_edtsB {r : Reach} {b0 : Nat} {v : Value} {d : DataW H} {ps : List MemPlace} (hval : Value.okWide Tryz.prog w r b0 23 v) (hd : DataW.Trod enc Tryz.prog w base sp held 23 v d ps) :
    ∃ l : List Edt, IsEdts w v l ∧ l.length ≤ Rows.uptoBulk d ∧ ∀ i, i < l.length → (l.getD i dE).path.size ≤ Rows.uptoBulk d ∧ (l.getD i dE).text.size ≤ Rows.uptoBulk d := by
  obtain ⟨a0, len0, cap0, rfl⟩ := okWide_slice Tryz.underlying23 hval
  obtain ⟨fuel, hf⟩ := hd
  obtain ⟨v, l, hcs, h1, h2, h3⟩ := trod_edtsB hf
  have hv : Value.slice a0 len0 cap0 = v := by simpa [Value.cells] using hcs
  rw [hv]
  exact ⟨l, h1, h2, h3⟩
set_option maxRecDepth 100000 in
theorem open_strsB {r : Reach} {b0 : Nat} {v : Value} {d : DataW H} {ps : List MemPlace} (hval : Value.okWide Tryz.prog w r b0 24 v) (hd : DataW.Trod enc Tryz.prog w base sp held 24 v d ps) :
    ∃ l : List ByteArray, IsStrs w v l ∧ l.length ≤ Rows.uptoBulk d ∧ ∀ i, i < l.length → (l.getD i ByteArray.empty).size ≤ Rows.uptoBulk d := by
  obtain ⟨a0, len0, cap0, rfl⟩ := okWide_slice Tryz.underlying24 hval
  obtain ⟨fuel, hf⟩ := hd
  obtain ⟨v, l, hcs, h1, h2, h3⟩ := trod_strsB hf
  have hv : Value.slice a0 len0 cap0 = v := by simpa [Value.cells] using hcs
  rw [hv]
  exact ⟨l, h1, h2, h3⟩
end
end Go.Proofs.YtfbgnpfhjbiikaaGreatDoor
