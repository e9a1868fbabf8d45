/- Stories that came in, opened, and what the reach of an input gives of each. -/
import Derived.Test.YtfbgnpfhjbiikaaGreatDoorQp08
import Derived.Test.YtfbgnpfhjbiikaaGreatDoorQp09
import Derived.Test.YtfbgnpfhjbiikaaGreatDoorQp10
namespace Go.Proofs.YtfbgnpfhjbiikaaGreatDoor
open Go Go.ChangeShapes Go.WideShapes Go.ChangeAt Go.RowKit
theorem list9 {α : Type} {l : List α} (h : l.length = 9) : ∃ c0 c1 c2 c3 c4 c5 c6 c7 c8, l = [c0, c1, c2, c3, c4, c5, c6, c7, c8] := by
  match l, h with
  | [c0, c1, c2, c3, c4, c5, c6, c7, c8], _ => exact ⟨c0, c1, c2, c3, c4, c5, c6, c7, c8, rfl⟩
theorem list18 {α : Type} {l : List α} (h : l.length = 18) : ∃ c0 c1 c2 c3 c4 c5 c6 c7 c8 c9 c10 c11 c12 c13 c14 c15 c16 c17, l = [c0, c1, c2, c3, c4, c5, c6, c7, c8, c9, c10, c11, c12, c13, c14, c15, c16, c17] := by
  match l, h with
  | [c0, c1, c2, c3, c4, c5, c6, c7, c8, c9, c10, c11, c12, c13, c14, c15, c16, c17], _ => exact ⟨c0, c1, c2, c3, c4, c5, c6, c7, c8, c9, c10, c11, c12, c13, c14, c15, c16, c17, rfl⟩
theorem list4T {α : Type} {l : List α} (h : l.length = 4) : ∃ c0 c1 c2 c3, l = [c0, c1, c2, c3] := by
  match l, h with
  | [c0, c1, c2, c3], _ => exact ⟨c0, c1, c2, c3, rfl⟩
theorem cStoT : Tryz.prog.cellsOf 87 = 18 := by kernel_rfl
theorem cTxT : Tryz.prog.cellsOf 82 = 2 := by kernel_rfl
theorem cIntT : Tryz.prog.cellsOf 3 = 1 := by kernel_rfl
theorem cErrT : Tryz.prog.cellsOf 39 = 1 := by kernel_rfl
theorem cRepT : Tryz.prog.cellsOf 85 = 3 := by kernel_rfl
theorem cGotT : Tryz.prog.cellsOf 97 = 4 := by kernel_rfl
theorem cGotsT : Tryz.prog.cellsOf 83 = 1 := by kernel_rfl
theorem cNumsT : Tryz.prog.cellsOf 51 = 1 := by kernel_rfl
theorem cStrsT : Tryz.prog.cellsOf 24 = 1 := by kernel_rfl
theorem bytesRdT : Tryz.prog.bytesOf 133 = 24 := by kernel_rfl
theorem bytesEdT : Tryz.prog.bytesOf 55 = 64 := by kernel_rfl
theorem bytesGotT : Tryz.prog.bytesOf 97 = 40 := by kernel_rfl
theorem bytesNumT : Tryz.prog.bytesOf 43 = 8 := by kernel_rfl
theorem bytesStrT : Tryz.prog.bytesOf 9 = 16 := by kernel_rfl
theorem bytesStoT : Tryz.prog.bytesOf 87 = 232 := by kernel_rfl
def gotData {H : Type} (g : GotR) : DataW H := .agg [verData g.ver, .lit (.int .i64 g.err)]
def numData {H : Type} (n : Nat) : DataW H := .lit (.int .u64 (n : Int))
def strData {H : Type} (s : ByteArray) : DataW H := .lit (.string s.data.toList)
def LstD {H α : Type} (D : α → DataW H) (l : List α) (d : DataW H) : Prop := d = .nil ∧ l = [] ∨ ∃ sr, d = .slice (l.map D) sr
def StoD {H : Type} (s : Sto) (d : DataW H) : Prop :=
  ∃ dC dG dN dM : DataW H, d = .agg [.lit (.int .i64 s.client), dC, .lit (.int .i64 s.frm), .lit (.int .i64 s.til), .lit (.bool s.lost), .agg [.lit (.int .u64 (s.life : Int)), .lit (.int .u64 (s.txn : Int))], .lit (.int .i64 s.com), .lit (.int .i64 s.err), .agg [dG, dN, dM]] ∧
    CalD s.call dC ∧ LstD gotData s.got dG ∧ LstD numData s.nums dN ∧ LstD strData s.names dM
section
variable {H : Type} {enc : TypeId × Value → H} {w : World} {base : Nat} {sp : Nat → Bool} {held : Bool}
set_option maxRecDepth 100000 in
theorem trod_gotsT {fuel : Nat} {cs : List Value} {x : DataW H × List MemPlace} (h : DataW.trod enc Tryz.prog w base sp held fuel 83 cs = some x) :
    ∃ (v : Value) (l : List GotR), cs = [v] ∧ IsGots w v l ∧ LstD gotData l x.1 := by
  obtain ⟨a0, cap, l, Df, rfl, _, hx, hh⟩ := trod_relD dG (fun cs (g : GotR) d => cs = gotCells g ∧ d = gotData g) Tryz.underlying83 cGotT (by decide) (fun cs a n h => by rw [h.1]; rfl) (fun h => by
    obtain ⟨xs, n, _, rfl, hl, hlen, hf⟩ := DataW.trod_struct Tryz.underlying97 h
    rw [cGotT] at hl
    obtain ⟨c0, c1, c2, c3, rfl⟩ := list4T hl
    obtain ⟨y0, y1, rfl⟩ := list2 hlen
    have h0 : DataW.trod enc Tryz.prog w base sp held n 50 [c0, c1, c2] = some y0 := by simpa [cVer] using hf 0 _ rfl
    have h1 : DataW.trod enc Tryz.prog w base sp held n 39 [c3] = some y1 := by simpa [cErrT] using hf 1 _ rfl
    obtain ⟨v, e0, e1, _⟩ := trod_ver h0
    obtain ⟨a3, e3, rfl, _⟩ := DataW.trod_int Tryz.underlying39 h1
    simp only [List.cons.injEq, and_true] at e0 e3
    refine ⟨⟨v, a3⟩, ?_, ?_⟩
    · rw [e0.1, e0.2.1, e0.2.2, e3]; rfl
    · simp only [gotData, List.map_cons, List.map_nil, e1]) h
  refine ⟨_, l, rfl, ⟨a0, cap, rfl, ?_⟩, ?_⟩
  · rcases hh with h | ⟨b, off, ha, hb, hc⟩
    · exact Or.inl h
    · refine Or.inr ⟨b, off, ha, hb, fun i hi => ?_⟩
      obtain ⟨cs', h1, rfl, _⟩ := hc i hi
      exact ⟨h1 0 _ rfl, h1 1 _ rfl, h1 2 _ rfl, h1 3 _ rfl⟩
  · rcases hx with hx | ⟨sr, hx⟩
    · exact Or.inl hx
    · refine Or.inr ⟨sr, ?_⟩
      rw [hx, map_of_at dG gotData Df l (fun i hi => ?_)]
      rcases hh with h | ⟨b, off, ha, hb, hc⟩
      · subst h; simp at hi
      · obtain ⟨_, _, _, h2⟩ := hc i hi; exact h2
set_option maxRecDepth 100000 in
theorem trod_numsT {fuel : Nat} {cs : List Value} {x : DataW H × List MemPlace} (h : DataW.trod enc Tryz.prog w base sp held fuel 51 cs = some x) :
    ∃ (v : Value) (l : List Nat), cs = [v] ∧ IsNums w v l ∧ LstD numData l x.1 := by
  obtain ⟨a0, cap, l, Df, rfl, _, hx, hh⟩ := trod_relD 0 (fun cs (n : Nat) d => cs = [.int .u64 (n : Int)] ∧ d = numData n) Tryz.underlying51 cU64 (by decide) (fun cs a n h => by rw [h.1]; rfl) (fun h => by
    obtain ⟨a1, e1, rfl, w1⟩ := DataW.trod_int Tryz.underlying43 h
    obtain ⟨n1, rfl⟩ := wfNat64 w1
    exact ⟨n1, e1, rfl⟩) h
  refine ⟨_, l, rfl, ⟨a0, cap, rfl, ?_⟩, ?_⟩
  · rcases hh with h | ⟨b, off, ha, hb, hc⟩
    · exact Or.inl h
    · refine Or.inr ⟨b, off, ha, hb, fun i hi => ?_⟩
      obtain ⟨cs', h1, rfl, _⟩ := hc i hi
      have := h1 0 _ rfl
      rwa [Nat.mul_one] at this
  · rcases hx with hx | ⟨sr, hx⟩
    · exact Or.inl hx
    · refine Or.inr ⟨sr, ?_⟩
      rw [hx, map_of_at 0 numData Df l (fun i hi => ?_)]
      rcases hh with h | ⟨b, off, ha, hb, hc⟩
      · subst h; simp at hi
      · obtain ⟨_, _, _, h2⟩ := hc i hi; exact h2
set_option maxRecDepth 100000 in
theorem trod_strsT {fuel : Nat} {cs : List Value} {x : DataW H × List MemPlace} (h : DataW.trod enc Tryz.prog w base sp held fuel 24 cs = some x) :
    ∃ (v : Value) (l : List ByteArray), cs = [v] ∧ IsStrs w v l ∧ LstD strData l x.1 := by
  obtain ⟨a0, cap, l, Df, rfl, _, hx, hh⟩ := trod_relD ByteArray.empty (fun cs (s : ByteArray) d => cs = [.string s] ∧ d = strData s) Tryz.underlying24 cStr (by decide) (fun cs a n h => by rw [h.1]; rfl) (fun h => by
    obtain ⟨s, e, rfl, _⟩ := DataW.trod_string Tryz.underlying9 h
    exact ⟨s, e, rfl⟩) h
  refine ⟨_, l, rfl, ⟨a0, cap, rfl, ?_⟩, ?_⟩
  · rcases hh with h | ⟨b, off, ha, hb, hc⟩
    · exact Or.inl h
    · refine Or.inr ⟨b, off, ha, hb, fun i hi => ?_⟩
      obtain ⟨cs', h1, rfl, _⟩ := hc i hi
      have := h1 0 _ rfl
      rwa [Nat.mul_one] at this
  · rcases hx with hx | ⟨sr, hx⟩
    · exact Or.inl hx
    · refine Or.inr ⟨sr, ?_⟩
      rw [hx, map_of_at ByteArray.empty strData Df l (fun i hi => ?_)]
      rcases hh with h | ⟨b, off, ha, hb, hc⟩
      · subst h; simp at hi
      · obtain ⟨_, _, _, h2⟩ := hc i hi; exact h2
set_option maxRecDepth 100000 in
theorem trod_stoT {fuel : Nat} {cs : List Value} {x : DataW H × List MemPlace} (h : DataW.trod enc Tryz.prog w base sp held fuel 87 cs = some x) :
    ∃ (s : Sto) (f : Five), cs = stoCells f s ∧ StoIs w f s ∧ s.call.kind < 256 ∧ TxOk (txOf s) ∧ StoD s x.1 := by
  obtain ⟨xs, n, _, hx, hl, hlen, hf⟩ := DataW.trod_struct Tryz.underlying87 h
  rw [cStoT] at hl
  obtain ⟨c0, c1, c2, c3, c4, c5, c6, c7, c8, c9, c10, c11, c12, c13, c14, c15, c16, c17, rfl⟩ := list18 hl
  obtain ⟨y0, y1, y2, y3, y4, y5, y6, y7, y8, rfl⟩ := list9 hlen
  have h0 : DataW.trod enc Tryz.prog w base sp held n 3 [c0] = some y0 := by simpa [cIntT] using hf 0 _ rfl
  have h1 : DataW.trod enc Tryz.prog w base sp held n 80 [c1, c2, c3, c4, c5, c6, c7] = some y1 := by simpa [cIntT, cCallS] using hf 1 _ rfl
  have h2 : DataW.trod enc Tryz.prog w base sp held n 3 [c8] = some y2 := by simpa [cIntT, cCallS] using hf 2 _ rfl
  have h3 : DataW.trod enc Tryz.prog w base sp held n 3 [c9] = some y3 := by simpa [cIntT, cCallS] using hf 3 _ rfl
  have h4 : DataW.trod enc Tryz.prog w base sp held n 4 [c10] = some y4 := by simpa [cIntT, cCallS, cBool] using hf 4 _ rfl
  have h5 : DataW.trod enc Tryz.prog w base sp held n 82 [c11, c12] = some y5 := by simpa [cIntT, cCallS, cBool, cTxT] using hf 5 _ rfl
  have h6 : DataW.trod enc Tryz.prog w base sp held n 3 [c13] = some y6 := by simpa [cIntT, cCallS, cBool, cTxT] using hf 6 _ rfl
  have h7 : DataW.trod enc Tryz.prog w base sp held n 39 [c14] = some y7 := by simpa [cIntT, cCallS, cBool, cTxT, cErrT] using hf 7 _ rfl
  have h8 : DataW.trod enc Tryz.prog w base sp held n 85 [c15, c16, c17] = some y8 := by simpa [cIntT, cCallS, cBool, cTxT, cErrT, cRepT] using hf 8 _ rfl
  obtain ⟨a0, e0, rfl, _⟩ := DataW.trod_int Tryz.underlying3 h0
  obtain ⟨c, vR, vE, e1, hci, hck, hcd⟩ := trod_calS h1
  obtain ⟨a2, e2, rfl, _⟩ := DataW.trod_int Tryz.underlying3 h2
  obtain ⟨a3, e3, rfl, _⟩ := DataW.trod_int Tryz.underlying3 h3
  obtain ⟨b4, e4, rfl⟩ := DataW.trod_bool Tryz.underlying4 h4
  obtain ⟨zs, n5, _, hx5, hl5, hlen5, hf5⟩ := DataW.trod_struct Tryz.underlying82 h5
  obtain ⟨z0, z1, rfl⟩ := list2 hlen5
  have h50 : DataW.trod enc Tryz.prog w base sp held n5 43 [c11] = some z0 := by simpa [cU64] using hf5 0 _ rfl
  have h51 : DataW.trod enc Tryz.prog w base sp held n5 43 [c12] = some z1 := by simpa [cU64] using hf5 1 _ rfl
  obtain ⟨a50, e50, rfl, w50⟩ := DataW.trod_int Tryz.underlying43 h50
  obtain ⟨a51, e51, rfl, w51⟩ := DataW.trod_int Tryz.underlying43 h51
  obtain ⟨a6, e6, rfl, _⟩ := DataW.trod_int Tryz.underlying3 h6
  obtain ⟨a7, e7, rfl, _⟩ := DataW.trod_int Tryz.underlying39 h7
  obtain ⟨us, n8, _, hx8, hl8, hlen8, hf8⟩ := DataW.trod_struct Tryz.underlying85 h8
  obtain ⟨u0, u1, u2, rfl⟩ := list3 hlen8
  have h80 : DataW.trod enc Tryz.prog w base sp held n8 83 [c15] = some u0 := by simpa [cGotsT] using hf8 0 _ rfl
  have h81 : DataW.trod enc Tryz.prog w base sp held n8 51 [c16] = some u1 := by simpa [cGotsT, cNumsT] using hf8 1 _ rfl
  have h82 : DataW.trod enc Tryz.prog w base sp held n8 24 [c17] = some u2 := by simpa [cGotsT, cNumsT, cStrsT] using hf8 2 _ rfl
  obtain ⟨vG, lG, eG, iG, dGg⟩ := trod_gotsT h80
  obtain ⟨vN, lN, eN, iN, dNn⟩ := trod_numsT h81
  obtain ⟨vM, lM, eM, iM, dMm⟩ := trod_strsT h82
  have hw0 := w50; have hw1 := w51
  obtain ⟨n50, rfl⟩ := wfNat64 w50
  obtain ⟨n51, rfl⟩ := wfNat64 w51
  subst hx
  simp only [calCells, List.cons.injEq, and_true] at e0 e1 e2 e3 e4 e50 e51 e6 e7 eG eN eM
  refine ⟨⟨a0, c, a2, a3, b4, n50, n51, a6, a7, lG, lN, lM⟩, ⟨vR, vE, vG, vN, vM⟩, ?_, ⟨hci, iG, iN, iM⟩, hck, ⟨wfLt64 hw0, wfLt64 hw1⟩, y1.1, u0.1, u1.1, u2.1, ?_, hcd, dGg, dNn, dMm⟩
  · rw [e0, e2, e3, e4, e50, e51, e6, e7, eG, eN, eM, e1.1, e1.2.1, e1.2.2.1, e1.2.2.2.1, e1.2.2.2.2.1, e1.2.2.2.2.2.1, e1.2.2.2.2.2.2]; rfl
  · subst hx5; subst hx8; rfl
end
theorem lst_w {H α : Type} {D : α → DataW H} {t e : TypeId} {by' B : Nat} (ht : Tryz.prog.underlying t = some (.slice e)) (hb : Tryz.prog.bytesOf e = by') (h1 : 1 ≤ by') {l : List α} {d : DataW H} (hd : LstD D l d) (key : ∀ n ∈ DataW.weights Tryz.prog t d, n ≤ B) : l.length ≤ B ∧ ∀ x ∈ l, ∀ n ∈ DataW.weights Tryz.prog e (D x), n ≤ B := by
  rcases hd with ⟨_, rfl⟩ | ⟨sr, rfl⟩
  · exact ⟨by simp, fun x hx => by simp at hx⟩
  · simp only [DataW.weights, ht, List.mem_cons, List.mem_append] at key
    constructor
    · have := key (((l.map D).length + sr.length) * Tryz.prog.bytesOf e) (Or.inl rfl)
      rw [List.length_map, hb] at this
      have h2 : (l.length + sr.length) * 1 ≤ (l.length + sr.length) * by' := Nat.mul_le_mul_left _ h1
      omega
    · intro x hx n hn
      exact key n (Or.inr (Or.inl (mem_weightsAll (List.mem_map.2 ⟨x, hx, rfl⟩) hn)))
theorem cal_w {H : Type} {c : Cal} {d : DataW H} (hd : CalD c d) (key : ∀ n ∈ DataW.weights Tryz.prog 80 d, n ≤ 140737488351232) :
    c.rds.length ≤ 140737488351232 ∧ c.eds.length ≤ 140737488351232 ∧ c.pre.size ≤ 140737488351232 ∧ (∀ i, i < c.rds.length → (c.rds.getD i dRd).path.size ≤ 140737488351232) ∧ ∀ i, i < c.eds.length → (c.eds.getD i dE).path.size ≤ 140737488351232 ∧ (c.eds.getD i dE).text.size ≤ 140737488351232 := by
  obtain ⟨dR, dE', rfl, hR, hE⟩ := hd
  simp only [DataW.weights, Tryz.underlying80, List.map_cons, List.map_nil, DataW.weightsEach, List.mem_append] at key
  obtain ⟨r1, r2⟩ := lst_w (D := rdDataS) (by' := 24) (B := 140737488351232) Tryz.underlying75 bytesRdT (by decide) hR (fun n hn => key n (Or.inr (Or.inl hn)))
  obtain ⟨e1, e2⟩ := lst_w (D := edtData) (by' := 64) (B := 140737488351232) Tryz.underlying23 bytesEdT (by decide) hE (fun n hn => key n (Or.inr (Or.inr (Or.inl hn))))
  refine ⟨r1, e1, key _ (Or.inr (Or.inr (Or.inr (Or.inl (by show _ ∈ [c.pre.data.toList.length]; simp))))), fun i hi => ?_, fun i hi => ?_⟩
  · refine r2 (c.rds.getD i dRd) (getD_mem (d := dRd) hi) _ ?_
    unfold rdDataS
    simp only [DataW.weights, Tryz.underlying133, List.map_cons, List.map_nil, DataW.weightsEach, List.mem_append]
    left; show _ ∈ [_]; simp
  · have h := e2 _ (getD_mem (d := dE) hi)
    unfold edtData at h
    simp only [DataW.weights, Tryz.underlying55, List.map_cons, List.map_nil, DataW.weightsEach, List.mem_append] at h
    exact ⟨h _ (Or.inr (Or.inl (by show _ ∈ [_]; simp))), h _ (Or.inr (Or.inr (Or.inr (Or.inr (Or.inr (Or.inl (by show _ ∈ [_]; simp)))))))⟩
theorem sto_w {H : Type} {s : Sto} {d : DataW H} (hd : StoD s d) (key : ∀ n ∈ DataW.weights Tryz.prog 87 d, n ≤ 140737488351232) : HevSz s := by
  obtain ⟨dC, dG', dN, dM, rfl, hC, hG, hN, hM⟩ := hd
  simp only [DataW.weights, Tryz.underlying87, Tryz.underlying85, List.map_cons, List.map_nil, DataW.weightsEach, List.mem_append] at key
  obtain ⟨c1, c2, c3, c4, c5⟩ := cal_w hC (fun n hn => key n (Or.inr (Or.inl hn)))
  obtain ⟨g1, _⟩ := lst_w (D := gotData) (by' := 40) (B := 140737488351232) Tryz.underlying83 bytesGotT (by decide) hG (fun n hn => key n (by simp only [hn]; simp))
  obtain ⟨n1, _⟩ := lst_w (D := numData) (by' := 8) (B := 140737488351232) Tryz.underlying51 bytesNumT (by decide) hN (fun n hn => key n (by simp only [hn]; simp))
  obtain ⟨m1, _⟩ := lst_w (D := strData) (by' := 16) (B := 140737488351232) Tryz.underlying24 bytesStrT (by decide) hM (fun n hn => key n (by simp only [hn]; simp))
  exact ⟨by omega, by omega, by omega, by omega, by omega, fun i hi => by have := c4 i hi; omega, fun i hi => by have := c5 i hi; constructor <;> omega, by omega⟩
set_option maxRecDepth 100000 in
theorem open_stos {H : Type} {enc : TypeId × Value → H} {w : World} {base : Nat} {sp : Nat → Bool} {held : Bool} {r : Reach} {b0 : Nat} {v : Value} {d : DataW H} {ps : List MemPlace} {ts : List TypeId} {ds0 : List (DataW H)} (hsz : (DataW.weightsEach Tryz.prog ts ds0).all (· ≤ reachBytes) = true) {j : Nat} (hj : ts[j]? = some 68) (hdj : ds0[j]? = some d)
    (hval : Value.okWide Tryz.prog w r b0 68 v) (hd : DataW.Trod enc Tryz.prog w base sp held 68 v d ps) :
    ∃ l : List Sto, IsStos w v l ∧ l.length ≤ 140737488351232 ∧ ∀ i, i < l.length → HevSz (l.getD i dS) ∧ (l.getD i dS).call.kind < 256 ∧ TxOk (txOf (l.getD i dS)) := by
  obtain ⟨a0, len0, cap0, rfl⟩ := okWide_slice Tryz.underlying68 hval
  obtain ⟨fuel, hf⟩ := hd
  obtain ⟨a1, cap, l, Df, hcs, hcap, hx, hh⟩ := trod_relD dS (fun cs (s : Sto) d => ∃ f, cs = stoCells f s ∧ StoIs w f s ∧ s.call.kind < 256 ∧ TxOk (txOf s) ∧ StoD s d) Tryz.underlying68 cStoT (by decide) (fun cs a n h => by obtain ⟨_, rfl, _⟩ := h; rfl) trod_stoT hf
  have hv : Value.slice a0 len0 cap0 = .slice a1 l.length cap := by simpa [Value.cells] using hcs
  rw [hv]
  dsimp only at hx
  have key : ∀ n ∈ DataW.weights Tryz.prog 68 d, n ≤ 140737488351232 := fun n hn => of_decide_eq_true (List.all_eq_true.1 hsz _ (DataW.weights_mem_each hj hdj n hn))
  have hw : ∀ i, i < l.length → ∀ n ∈ DataW.weights Tryz.prog 87 (Df i), n ≤ 140737488351232 := fun i hi n hn => by
    rcases hx with ⟨_, e⟩ | ⟨sr, rfl⟩
    · rw [e] at hi; simp at hi
    · refine key n ?_
      simp only [DataW.weights, Tryz.underlying68, List.mem_cons, List.mem_append]
      exact Or.inr (Or.inl (mem_weightsAll (List.mem_map.2 ⟨i, List.mem_range.2 hi, rfl⟩) hn))
  refine ⟨l, ⟨a1, cap, rfl, hcap, ?_⟩, ?_, fun i hi => ?_⟩
  · rcases hh with h | ⟨b, off, ha, hb, hc⟩
    · exact Or.inl h
    · refine Or.inr ⟨b, off, ha, hb, fun i hi => ?_⟩
      obtain ⟨cs', h1, f, rfl, h2, _⟩ := hc i hi
      exact ⟨f, h2, h1⟩
  · rcases hx with ⟨_, e⟩ | ⟨sr, rfl⟩
    · rw [e]; simp
    · simp only [DataW.weights, Tryz.underlying68, List.mem_cons, List.mem_append] at key
      have := key ((((List.range l.length).map Df).length + sr.length) * Tryz.prog.bytesOf 87) (Or.inl rfl)
      rw [List.length_map, List.length_range, bytesStoT] at this
      omega
  · rcases hh with h | ⟨b, off, ha, hb, hc⟩
    · subst h; simp at hi
    · obtain ⟨cs', _, f, _, _, h1, h2, h3⟩ := hc i hi
      exact ⟨sto_w h3 (hw i hi), h1, h2⟩
end Go.Proofs.YtfbgnpfhjbiikaaGreatDoor
