/- Rows that came in, opened. -/
import Derived.Test.YtbmmabpglkojkaaDoorTabK
namespace Go.Proofs.YtbmmabpglkojkaaDoor
open Go Go.ChangeShapes Go.WideShapes Go.ChangeAt Go.RowKit

theorem getD_mem {α : Type} {l : List α} {k : Nat} {d : α} (h : k < l.length) : l.getD k d ∈ l := by
  rw [List.getD_eq_getElem?_getD, List.getElem?_eq_getElem h]; exact List.getElem_mem h
theorem list3 {α : Type} {l : List α} (h : l.length = 3) : ∃ c0 c1 c2, l = [c0, c1, c2] := by
  match l, h with
  | [c0, c1, c2], _ => exact ⟨c0, c1, c2, rfl⟩
theorem list2 {α : Type} {l : List α} (h : l.length = 2) : ∃ c0 c1, l = [c0, c1] := by
  match l, h with
  | [c0, c1], _ => exact ⟨c0, c1, rfl⟩
def verData {H : Type} (v : Ver) : DataW H := .agg [.lit (.int .u64 v.n), .lit (.int .u8 v.st), .lit (.string v.tx.data.toList)]
theorem cVer : Tryd.prog.cellsOf 53 = 3 := by kernel_rfl
theorem cVers : Tryd.prog.cellsOf 60 = 1 := by kernel_rfl
theorem cCell : Tryd.prog.cellsOf 62 = 2 := by kernel_rfl
theorem cRow : Tryd.prog.cellsOf 64 = 3 := by kernel_rfl
theorem wfLt64 {n : Nat} (h : (Lit.int .u64 (n : Int)).wf = true) : n < 18446744073709551616 := by
  simp only [Lit.wf, Bool.and_eq_true, decide_eq_true_eq] at h
  have h1 := h.2
  rw [show IntKind.max .u64 = 18446744073709551615 from rfl] at h1
  omega
theorem addrThree {a : Addr} (h : a = ⟨a.block, a.off, none⟩) (i j : Nat) : (a.add i).add j = ⟨a.block, a.off + i + j, none⟩ := by
  rw [h, addrAdd, addrAdd]
/-- What versions read as. -/
def VersD {H : Type} (l : List Ver) (d : DataW H) : Prop := d = .nil ∧ l = [] ∨ ∃ sr, d = .slice (l.map verData) sr
def RowD {H : Type} (r : ByteArray × Cel) (d : DataW H) : Prop := ∃ vd, d = .agg [.lit (.string r.1.data.toList), .agg [.lit (.int .u64 r.2.last), vd]] ∧ VersD r.2.l vd
section
variable {H : Type} {enc : TypeId × Value → H} {w : World} {base : Nat} {sp : Nat → Bool} {held : Bool}
theorem trod_ver {fuel : Nat} {cs : List Value} {x : DataW H × List MemPlace} (h : DataW.trod enc Tryd.prog w base sp held fuel 53 cs = some x) : ∃ v : Ver, cs = [.int .u64 v.n, .int .u8 v.st, .string v.tx] ∧ x.1 = verData v ∧ v.n < 18446744073709551616 := by
  obtain ⟨xs, n, _, rfl, hl, hlen, hf⟩ := DataW.trod_struct Tryd.underlying53 h
  rw [cVer] at hl
  obtain ⟨c0, c1, c2, rfl⟩ := list3 hl
  obtain ⟨y0, y1, y2, rfl⟩ := list3 hlen
  have h0 : DataW.trod enc Tryd.prog w base sp held n 38 [c0] = some y0 := by simpa [cU64] using hf 0 _ rfl
  have h1 : DataW.trod enc Tryd.prog w base sp held n 5 [c1] = some y1 := by simpa [cU8] using hf 1 _ rfl
  have h2 : DataW.trod enc Tryd.prog w base sp held n 9 [c2] = some y2 := by simpa [cStr] using hf 2 _ rfl
  obtain ⟨z0, e0, rfl, w0⟩ := DataW.trod_int Tryd.underlying38 h0
  obtain ⟨z1, e1, rfl, w1⟩ := DataW.trod_int Tryd.underlying5 h1
  obtain ⟨s2, e2, rfl, _⟩ := DataW.trod_string Tryd.underlying9 h2
  obtain ⟨n0, rfl⟩ := wfNat64 w0
  obtain ⟨n1, rfl⟩ := wfNat8 w1
  refine ⟨⟨n0, n1, s2⟩, ?_, rfl, wfLt64 w0⟩
  simp only [List.cons.injEq, and_true] at e0 e1 e2
  rw [e0, e1, e2]
theorem trod_vers {fuel : Nat} {cs : List Value} {x : DataW H × List MemPlace} (h : DataW.trod enc Tryd.prog w base sp held fuel 60 cs = some x) : ∃ (v : Value) (l : List Ver), cs = [v] ∧ IsVers w v l ∧ VersD l x.1 := by
  rcases Go.Deep.open_slice Tryd.underlying60 h with ⟨hcs, hx⟩ | ⟨a, len, cap, m, n, D, Pl, hcs, _, hl, _, hm, hx, hel⟩
  · exact ⟨_, [], hcs, IsVers.nil w, Or.inl ⟨by rw [hx], rfl⟩⟩
  · have hlm : len ≤ m := by rw [hm]; split <;> omega
    have hE : ∀ i, ∃ e : Ver, i < len → (∀ j, j < 3 → w.cell? ((a.add (i * 3)).add j) = [Value.int .u64 e.n, .int .u8 e.st, .string e.tx][j]?) ∧ D i = verData e := by
      intro i
      by_cases hi : i < len
      · obtain ⟨cs', h1, h2⟩ := hel i (by omega)
        rw [cVer] at h1
        obtain ⟨e, rfl, he, _⟩ := trod_ver h2
        exact ⟨e, fun _ => ⟨(World.cells?_some h1).2.2, he⟩⟩
      · exact ⟨dV, fun h => absurd h hi⟩
    obtain ⟨E, hE⟩ := Classical.axiomOfChoice hE
    refine ⟨_, (List.range len).map E, hcs, ?_, Or.inr ⟨(List.range (m - len)).map fun j => D (len + j), ?_⟩⟩
    · refine ⟨some a, cap, by simp, ?_⟩
      by_cases h0 : len = 0
      · left; subst h0; rfl
      · right
        have h00 := (hE 0 (by omega)).1 0 (by omega)
        have ha0 : (a.add (0 * 3)).add 0 = a := by unfold Addr.add; simp
        rw [ha0] at h00
        have hs : a = ⟨a.block, a.off, none⟩ := spot_none (v := .int .u64 (E 0).n) h00
        refine ⟨a.block, a.off, by rw [← hs], block_lt_of_cell (v := .int .u64 (E 0).n) h00, fun i hi => ?_⟩
        have hi' : i < len := by simpa using hi
        have hg : ((List.range len).map E).getD i dV = E i := by simp [List.getD_eq_getElem?_getD, hi']
        rw [hg]
        have hc := (hE i hi').1
        have k0 := hc 0 (by omega); have k1 := hc 1 (by omega); have k2 := hc 2 (by omega)
        rw [addrThree hs] at k0 k1 k2
        exact ⟨k0, k1, k2⟩
    · rw [hx, List.map_map]
      show DataW.slice _ _ = _
      congr 1
      refine List.map_congr_left fun i hi => ?_
      exact (hE i (List.mem_range.1 hi)).2
theorem trod_row {fuel : Nat} {cs : List Value} {x : DataW H × List MemPlace} (h : DataW.trod enc Tryd.prog w base sp held fuel 64 cs = some x) : ∃ (r : ByteArray × Cel) (v : Value), cs = [.string r.1, .int .u64 r.2.last, v] ∧ IsVers w v r.2.l ∧ RowD r x.1 ∧ r.2.last < 18446744073709551616 := by
  obtain ⟨xs, n, _, rfl, hl, hlen, hf⟩ := DataW.trod_struct Tryd.underlying64 h
  rw [cRow] at hl
  obtain ⟨c0, c1, c2, rfl⟩ := list3 hl
  obtain ⟨y0, y1, rfl⟩ := list2 hlen
  have h0 : DataW.trod enc Tryd.prog w base sp held n 9 [c0] = some y0 := by simpa [cStr] using hf 0 _ rfl
  have h1 : DataW.trod enc Tryd.prog w base sp held n 62 [c1, c2] = some y1 := by simpa [cCell] using hf 1 _ rfl
  obtain ⟨s0, e0, rfl, _⟩ := DataW.trod_string Tryd.underlying9 h0
  obtain ⟨xs2, n2, _, rfl, hl2, hlen2, hf2⟩ := DataW.trod_struct Tryd.underlying62 h1
  obtain ⟨u0, u1, rfl⟩ := list2 hlen2
  have g0 : DataW.trod enc Tryd.prog w base sp held n2 38 [c1] = some u0 := by simpa [cU64] using hf2 0 _ rfl
  have g1 : DataW.trod enc Tryd.prog w base sp held n2 60 [c2] = some u1 := by simpa [cVers] using hf2 1 _ rfl
  obtain ⟨z1, e1, rfl, w1⟩ := DataW.trod_int Tryd.underlying38 g0
  obtain ⟨n1, rfl⟩ := wfNat64 w1
  obtain ⟨v, l, e2, hv, hd⟩ := trod_vers g1
  refine ⟨(s0, ⟨n1, l⟩), v, ?_, hv, ⟨u1.1, rfl, hd⟩, wfLt64 w1⟩
  simp only [List.cons.injEq, and_true] at e0 e1 e2
  rw [e0, e1, e2]
def RowsWf (l : List (ByteArray × Cel)) : Prop := ∀ i, i < l.length → (l.getD i dR).2.last < 18446744073709551616
def RowsD {H : Type} (l : List (ByteArray × Cel)) (ds : List (DataW H)) (d : DataW H) : Prop := d = .nil ∧ l = [] ∨ (ds.length = l.length ∧ (∀ i, i < l.length → RowD (l.getD i dR) (ds.getD i .nil)) ∧ ∃ sr, d = .slice ds sr)
set_option maxRecDepth 100000 in
theorem open_rows {r : Reach} {b0 : Nat} {v : Value} {d : DataW H} {ps : List MemPlace} (hval : Value.okWide Tryd.prog w r b0 24 v) (hd : DataW.Trod enc Tryd.prog w base sp held 24 v d ps) :
    ∃ (l : List (ByteArray × Cel)) (ds : List (DataW H)), (IsRows w v l ∧ RowsWf l) ∧ RowsD l ds d := by
  obtain ⟨a0, len0, cap0, rfl⟩ := okWide_slice Tryd.underlying24 hval
  obtain ⟨fuel, hf⟩ := hd
  rcases Go.Deep.open_slice Tryd.underlying24 hf with ⟨hcs, hx⟩ | ⟨a, len, cap, m, n, D, Pl, hcs, _, hl, _, hm, hx, hel⟩
  · have hv : Value.slice a0 len0 cap0 = .slice none 0 0 := by simpa [Value.cells] using hcs
    rw [hv]
    simp only [Prod.mk.injEq] at hx
    exact ⟨[], [], ⟨⟨none, 0, rfl, Or.inl rfl⟩, fun i hi => by simp at hi⟩, Or.inl ⟨hx.1, rfl⟩⟩
  · have hv : Value.slice a0 len0 cap0 = .slice (some a) len cap := by simpa [Value.cells] using hcs
    rw [hv]
    simp only [Prod.mk.injEq] at hx
    have hlm : len ≤ m := by rw [hm]; split <;> omega
    have hE : ∀ i, ∃ e : (ByteArray × Cel), i < len → (∃ s, (∀ j, j < 3 → w.cell? ((a.add (i * 3)).add j) = [Value.string e.1, .int .u64 e.2.last, s][j]?) ∧ IsVers w s e.2.l) ∧ RowD e (D i) ∧ e.2.last < 18446744073709551616 := by
      intro i
      by_cases hi : i < len
      · obtain ⟨cs', h1, h2⟩ := hel i (by omega)
        rw [cRow] at h1
        obtain ⟨e, s, rfl, hs, he, hlt⟩ := trod_row h2
        exact ⟨e, fun _ => ⟨⟨s, (World.cells?_some h1).2.2, hs⟩, he, hlt⟩⟩
      · exact ⟨dR, fun h => absurd h hi⟩
    obtain ⟨E, hE⟩ := Classical.axiomOfChoice hE
    have hg : ∀ i, i < len → ((List.range len).map E).getD i dR = E i := fun i hi => by simp [List.getD_eq_getElem?_getD, hi]
    refine ⟨(List.range len).map E, (List.range len).map D, ⟨?_, fun i hi => ?_⟩, Or.inr ⟨by simp, fun i hi => ?_, (List.range (m - len)).map fun j => D (len + j), hx.1⟩⟩
    · refine ⟨some a, cap, by simp, ?_⟩
      by_cases h0 : len = 0
      · left; subst h0; rfl
      · right
        obtain ⟨s0, h00, _⟩ := (hE 0 (by omega)).1
        have h00 := h00 0 (by omega)
        have ha0 : (a.add (0 * 3)).add 0 = a := by unfold Addr.add; simp
        rw [ha0] at h00
        have hs : a = ⟨a.block, a.off, none⟩ := spot_none (v := .string (E 0).1) h00
        refine ⟨a.block, a.off, by rw [← hs], block_lt_of_cell (v := .string (E 0).1) h00, fun i hi => ?_⟩
        have hi' : i < len := by simpa using hi
        rw [hg i hi']
        obtain ⟨s, hc, hsv⟩ := (hE i hi').1
        have k0 := hc 0 (by omega); have k1 := hc 1 (by omega); have k2 := hc 2 (by omega)
        rw [addrThree hs] at k0 k1 k2
        exact ⟨k0, k1, s, k2, hsv⟩
    · have hi' : i < len := by simpa using hi
      rw [hg i hi']; exact (hE i hi').2.2
    · have hi' : i < len := by simpa using hi
      rw [hg i hi']
      have : ((List.range len).map D).getD i .nil = D i := by simp [List.getD_eq_getElem?_getD, hi']
      rw [this]; exact (hE i hi').2.1
end
theorem bytesRow : Tryd.prog.bytesOf 64 = 48 := by kernel_rfl
theorem bytesVer : Tryd.prog.bytesOf 53 = 32 := by kernel_rfl
theorem mem_weightsAll {H : Type} {P : Program} {e : TypeId} {n : Nat} : ∀ {ds : List (DataW H)} {d : DataW H}, d ∈ ds → n ∈ d.weights P e → n ∈ DataW.weightsAll P e ds
  | [], _, h, _ => by cases h
  | a :: r, d, h, hn => by
    rw [DataW.weightsAll, List.mem_append]
    rcases List.mem_cons.1 h with rfl | h
    · left; exact hn
    · right; exact mem_weightsAll h hn
theorem sized_rows {H : Type} {ts : List TypeId} {ds0 : List (DataW H)} (h : (DataW.weightsEach Tryd.prog ts ds0).all (· ≤ reachBytes) = true) {j : Nat} {l : List (ByteArray × Cel)} {ds : List (DataW H)} {d : DataW H} (hj : ts[j]? = some 24) (hd : ds0[j]? = some d) (hd2 : RowsD l ds d) :
    l.length * 48 ≤ 140737488351232 ∧ ∀ i, i < l.length → (l.getD i dR).1.size ≤ 140737488351232 ∧ (l.getD i dR).2.l.length * 32 ≤ 140737488351232 ∧ ∀ k, k < (l.getD i dR).2.l.length → ((l.getD i dR).2.l.getD k dV).tx.size ≤ 140737488351232 := by
  rcases hd2 with ⟨_, rfl⟩ | ⟨hlen, hr, sr, rfl⟩
  · exact ⟨by simp, fun i hi => by simp at hi⟩
  · have h1 := sized_slice h hj hd Tryd.underlying24
    rw [bytesRow, hlen] at h1
    refine ⟨Nat.le_trans (Nat.mul_le_mul_right _ (Nat.le_add_right _ _)) h1, fun i hi => ?_⟩
    have hm : ds.getD i .nil ∈ ds := by rw [List.getD_eq_getElem?_getD, List.getElem?_eq_getElem (by omega)]; exact List.getElem_mem _
    obtain ⟨vd, e, hvd⟩ := hr i hi
    have key : ∀ n ∈ DataW.weights Tryd.prog 64 (ds.getD i .nil), n ≤ 140737488351232 := by
      intro n hn
      have := List.all_eq_true.1 h _ (DataW.weights_mem_each hj hd n (by
        simp only [DataW.weights, Tryd.underlying24, List.mem_cons, List.mem_append]
        exact Or.inr (Or.inl (mem_weightsAll hm hn))))
      exact of_decide_eq_true this
    rw [e] at key
    simp only [DataW.weights, Tryd.underlying64, Tryd.underlying62, List.map_cons, List.map_nil, DataW.weightsEach, List.mem_append] at key
    refine ⟨?_, ?_, fun k hk => ?_⟩
    · exact key _ (Or.inl (by show _ ∈ [(l.getD i dR).1.data.toList.length]; simp))
    · rcases hvd with ⟨_, he⟩ | ⟨sr2, rfl⟩
      · rw [he]; simp
      · have := key (((l.getD i dR).2.l.length + sr2.length) * 32) (by
          right; left; right; left
          simp only [DataW.weights, Tryd.underlying60, List.mem_cons, List.length_map, bytesVer]; left; trivial)
        exact Nat.le_trans (Nat.mul_le_mul_right _ (Nat.le_add_right _ _)) this
    · rcases hvd with ⟨_, he⟩ | ⟨sr2, rfl⟩
      · rw [he] at hk; simp at hk
      · refine key _ ?_
        right; left; right; left
        simp only [DataW.weights, Tryd.underlying60, List.mem_cons, List.mem_append]
        refine Or.inr (Or.inl (mem_weightsAll (d := verData ((l.getD i dR).2.l.getD k dV)) (List.mem_map.2 ⟨_, ?_, rfl⟩) ?_))
        · exact getD_mem hk
        · unfold verData
          simp only [DataW.weights, Tryd.underlying53, List.map_cons, List.map_nil, DataW.weightsEach, List.mem_append]
          right; right; left; show _ ∈ [_]; simp
end Go.Proofs.YtbmmabpglkojkaaDoor
