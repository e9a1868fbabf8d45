/- Moves that came in, opened. -/
import Derived.Test.YthcmcjoenepkbaaGreatL27b
import Derived.Test.YthcmcjoenepkbaaGreatEndB
import Derived.Lib.SmallJoins
namespace Go.Proofs.YthcmcjoenepkbaaGreat
open Go Go.ChangeShapes Go.WideShapes Go.ChangeAt Go.RowKit

theorem list6 {α : Type} {l : List α} (h : l.length = 6) : ∃ c0 c1 c2 c3 c4 c5, l = [c0, c1, c2, c3, c4, c5] := by
  match l, h with
  | [c0, c1, c2, c3, c4, c5], _ => exact ⟨c0, c1, c2, c3, c4, c5, rfl⟩
theorem list7 {α : Type} {l : List α} (h : l.length = 7) : ∃ c0 c1 c2 c3 c4 c5 c6, l = [c0, c1, c2, c3, c4, c5, c6] := by
  match l, h with
  | [c0, c1, c2, c3, c4, c5, c6], _ => exact ⟨c0, c1, c2, c3, c4, c5, c6, rfl⟩
theorem list2 {α : Type} {l : List α} (h : l.length = 2) : ∃ c0 c1, l = [c0, c1] := by
  match l, h with
  | [c0, c1], _ => exact ⟨c0, c1, rfl⟩
def mvData {H : Type} (v : Mv) : DataW H := .agg [.agg [.lit (.int .u64 (v.f : Int)), .lit (.int .u64 (v.t : Int))], .lit (.int .u32 (v.tw : Int)), .lit (.bool v.i), .lit (.int .u8 (v.at_ : Int)), .lit (.int .u64 (v.off : Int)), .lit (.int .u64 (v.len : Int))]
theorem cU8 : Tryz.prog.cellsOf 5 = 1 := by kernel_rfl
theorem cU32 : Tryz.prog.cellsOf 25 = 1 := by kernel_rfl
theorem cBool : Tryz.prog.cellsOf 4 = 1 := by kernel_rfl
theorem cU64 : Tryz.prog.cellsOf 22 = 1 := by kernel_rfl
theorem cRg : Tryz.prog.cellsOf 24 = 2 := by kernel_rfl
theorem cMv : Tryz.prog.cellsOf 27 = 7 := by kernel_rfl
section
variable {H : Type} {enc : TypeId × Value → H} {w : World} {base : Nat} {sp : Nat → Bool} {held : Bool}
set_option maxRecDepth 100000 in
theorem trod_mv {fuel : Nat} {cs : List Value} {x : DataW H × List MemPlace} (h : DataW.trod enc Tryz.prog w base sp held fuel 27 cs = some x) : ∃ v : Mv, v.Ok ∧ cs = (mvC v).toList ∧ x = (mvData v, []) := by
  obtain ⟨xs, n, _, rfl, hl, hlen, hf⟩ := DataW.trod_struct Tryz.underlying27 h
  rw [cMv] at hl
  obtain ⟨c0, c1, c2, c3, c4, c5, c6, rfl⟩ := list7 hl
  obtain ⟨y0, y1, y2, y3, y4, y5, rfl⟩ := list6 hlen
  have h0 : DataW.trod enc Tryz.prog w base sp held n 24 [c0, c1] = some y0 := by simpa [cRg] using hf 0 _ rfl
  have h1 : DataW.trod enc Tryz.prog w base sp held n 25 [c2] = some y1 := by simpa [cU32] using hf 1 _ rfl
  have h2 : DataW.trod enc Tryz.prog w base sp held n 4 [c3] = some y2 := by simpa [cBool] using hf 2 _ rfl
  have h3 : DataW.trod enc Tryz.prog w base sp held n 5 [c4] = some y3 := by simpa [cU8] using hf 3 _ rfl
  have h4 : DataW.trod enc Tryz.prog w base sp held n 22 [c5] = some y4 := by simpa [cU64] using hf 4 _ rfl
  have h5 : DataW.trod enc Tryz.prog w base sp held n 22 [c6] = some y5 := by simpa [cU64] using hf 5 _ rfl
  obtain ⟨zs, n', _, rfl, _, hlen2, hf2⟩ := DataW.trod_struct Tryz.underlying24 h0
  obtain ⟨z0, z1, rfl⟩ := list2 hlen2
  have k0 : DataW.trod enc Tryz.prog w base sp held n' 22 [c0] = some z0 := by simpa [cU64] using hf2 0 _ rfl
  have k1 : DataW.trod enc Tryz.prog w base sp held n' 22 [c1] = some z1 := by simpa [cU64] using hf2 1 _ rfl
  obtain ⟨a0, e0, rfl, w0⟩ := DataW.trod_int Tryz.underlying22 k0
  obtain ⟨a1, e1, rfl, w1⟩ := DataW.trod_int Tryz.underlying22 k1
  obtain ⟨a2, e2, rfl, w2⟩ := DataW.trod_int Tryz.underlying25 h1
  obtain ⟨b3, e3, rfl⟩ := DataW.trod_bool Tryz.underlying4 h2
  obtain ⟨a4, e4, rfl, w4⟩ := DataW.trod_int Tryz.underlying5 h3
  obtain ⟨a5, e5, rfl, w5⟩ := DataW.trod_int Tryz.underlying22 h4
  obtain ⟨a6, e6, rfl, w6⟩ := DataW.trod_int Tryz.underlying22 h5
  obtain ⟨n0, rfl, o0⟩ := nat_of (M := 18446744073709551616) (wf_u64 w0)
  obtain ⟨n1, rfl, o1⟩ := nat_of (M := 18446744073709551616) (wf_u64 w1)
  obtain ⟨n2, rfl, o2⟩ := nat_of (M := 4294967296) (wf_u32 w2)
  obtain ⟨n4, rfl, o4⟩ := nat_of (M := 256) (wf_u8 w4)
  obtain ⟨n5, rfl, o5⟩ := nat_of (M := 18446744073709551616) (wf_u64 w5)
  obtain ⟨n6, rfl, o6⟩ := nat_of (M := 18446744073709551616) (wf_u64 w6)
  refine ⟨⟨n0, n1, n2, b3, n4, n5, n6⟩, ⟨o0, o1, o2, o4, o5, o6⟩, ?_, ?_⟩
  · simp only [List.cons.injEq, and_true] at e0 e1 e2 e3 e4 e5 e6
    rw [e0, e1, e2, e3, e4, e5, e6]
  · first | rfl | simp [mvData]
set_option maxRecDepth 100000 in
theorem open_mv {r : Reach} {b0 : Nat} {v : Value} {d : DataW H} {ps : List MemPlace} (hval : Value.okWide Tryz.prog w r b0 27 v) (hd : DataW.Trod enc Tryz.prog w base sp held 27 v d ps) :
    ∃ e : Mv, e.Ok ∧ v = .agg (mvC e) ∧ d = mvData e ∧ ps = [] := by
  obtain ⟨cs, rfl, hsz⟩ := okWide_struct Tryz.underlying27 hval
  obtain ⟨fuel, hf⟩ := hd
  obtain ⟨e, ho, hc, hx⟩ := trod_mv hf
  simp only [Prod.mk.injEq] at hx
  refine ⟨e, ho, ?_, hx.1, hx.2⟩
  have : cs.toList = (mvC e).toList := by simpa [Value.cells] using hc
  rw [Array.toList_inj.1 this]
theorem addrSeven {a : Addr} (h : a = ⟨a.block, a.off, none⟩) (i j : Nat) : (a.add i).add j = ⟨a.block, a.off + i + j, none⟩ := by
  rw [h]
  unfold Addr.add
  by_cases e : i = 0
  · subst e
    simp only [if_true, Nat.add_zero]
    by_cases e2 : j = 0
    · subst e2; simp
    · simp [e2]
  · simp only [e, if_false]
    by_cases e2 : j = 0
    · subst e2; simp
    · simp [e2]
def mv0 : Mv := ⟨0, 0, 0, false, 0, 0, 0⟩
/-- A slice of moves. -/
def IsMvs (w : World) (v : Value) (l : List Mv) : Prop := ∃ a cp, v = .slice a l.length cp ∧ (l = [] ∨ ∃ b off, a = some ⟨b, off, none⟩ ∧ b < w.heap.size ∧ ∀ i, i < l.length → ∀ j, j < 7 → w.cell? ⟨b, off + i * 7 + j, none⟩ = (mvC (l.getD i mv0)).toList[j]?)
set_option maxRecDepth 100000 in
theorem open_mvs {r : Reach} {b0 : Nat} {v : Value} {d : DataW H} {ps : List MemPlace} (hval : Value.okWide Tryz.prog w r b0 45 v) (hd : DataW.Trod enc Tryz.prog w base sp held 45 v d ps) :
    ∃ l : List Mv, IsMvs w v l ∧ ∀ x ∈ l, x.Ok := by
  obtain ⟨a0, len0, cap0, rfl⟩ := okWide_slice Tryz.underlying45 hval
  obtain ⟨fuel, hf⟩ := hd
  rcases Go.Deep.open_slice Tryz.underlying45 hf with ⟨hcs, hx⟩ | ⟨a, len, cap, m, n, D, Pl, hcs, _, hl, _, hm, hx, hel⟩
  · have hv : Value.slice a0 len0 cap0 = .slice none 0 0 := by simpa [Value.cells] using hcs
    rw [hv]
    exact ⟨[], ⟨none, 0, rfl, Or.inl rfl⟩, by simp⟩
  · have hv : Value.slice a0 len0 cap0 = .slice (some a) len cap := by simpa [Value.cells] using hcs
    rw [hv]
    have hlm : len ≤ m := by rw [hm]; split <;> omega
    have hE : ∀ i, ∃ e : Mv, i < len → e.Ok ∧ ∀ j, j < 7 → w.cell? ((a.add (i * 7)).add j) = (mvC e).toList[j]? := by
      intro i
      by_cases hi : i < len
      · obtain ⟨cs', h1, h2⟩ := hel i (by omega)
        rw [cMv] at h1
        obtain ⟨e, ho, rfl, he⟩ := trod_mv h2
        exact ⟨e, fun _ => ⟨ho, (World.cells?_some h1).2.2⟩⟩
      · exact ⟨mv0, fun h => absurd h hi⟩
    obtain ⟨E, hE⟩ := Classical.axiomOfChoice hE
    refine ⟨(List.range len).map E, ⟨some a, cap, by simp, ?_⟩, fun x hx => ?_⟩
    · by_cases h0 : len = 0
      · left; subst h0; rfl
      · right
        have h00 := (hE 0 (by omega)).2 0 (by omega)
        have ha0 : (a.add (0 * 7)).add 0 = a := by unfold Addr.add; simp
        rw [ha0] at h00
        have hs : a = ⟨a.block, a.off, none⟩ := spot_none (v := .int .u64 ((E 0).f : Int)) h00
        refine ⟨a.block, a.off, by rw [← hs], block_lt_of_cell (v := .int .u64 ((E 0).f : Int)) h00, fun i hi j hj => ?_⟩
        have hi' : i < len := by simpa using hi
        have hg : ((List.range len).map E).getD i mv0 = E i := by simp [List.getD_eq_getElem?_getD, hi']
        rw [hg]
        have hc := (hE i hi').2 j hj
        rw [addrSeven hs] at hc
        exact hc
    · obtain ⟨i, hi, rfl⟩ := List.mem_map.1 hx
      exact (hE i (List.mem_range.1 hi)).1
end
theorem law27_back_in (p s : Int) (va vb : Mv) (W : World) (hp : (Lit.int .u8 p).wf = true) (hs : (Lit.int .u8 s).wf = true) (ha : va.Ok) (hb : vb.Ok) :
    Calls Tryz.prog 3 #[.int .u8 p, .int .u8 s, .agg (mvC va), .agg (mvC vb)] W fun e w' => e = .returned (.bool true) ∧ Below W.heap.size W w' := by
  obtain ⟨p, rfl, hp'⟩ := nat_of (M := 256) (wf_u8 hp)
  obtain ⟨s, rfl, hs'⟩ := nat_of (M := 256) (wf_u8 hs)
  exact law27_back p s va vb hp' hs' ha hb W
end Go.Proofs.YthcmcjoenepkbaaGreat
