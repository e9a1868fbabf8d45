/- A range, and a slice of strings that came in, opened for this seat's walks. -/
import Derived.Test.YthcmcjoenepkbaaGreatDoorEndPath
import Derived.Test.YthcmcjoenepkbaaGreatDoorPlW
import Derived.Lib.SmallJoins
namespace Go.Proofs.YthcmcjoenepkbaaGreatDoor
open Go Go.ChangeShapes Go.WideShapes Go.ChangeAt Go.RowKit

theorem wf_u8 {n : Int} (h : (Lit.int .u8 n).wf = true) : 0 ≤ n ∧ n < 256 := by
  simp [Lit.wf, IntKind.min, IntKind.max, IntKind.signed, IntKind.bits] at h; omega
theorem wf_u32 {n : Int} (h : (Lit.int .u32 n).wf = true) : 0 ≤ n ∧ n < 4294967296 := by
  simp [Lit.wf, IntKind.min, IntKind.max, IntKind.signed, IntKind.bits] at h; omega
theorem wf_u64 {n : Int} (h : (Lit.int .u64 n).wf = true) : 0 ≤ n ∧ n < 18446744073709551616 := by
  simp [Lit.wf, IntKind.min, IntKind.max, IntKind.signed, IntKind.bits] at h; omega
theorem nat_of {n : Int} {M : Nat} (h : 0 ≤ n ∧ n < (M : Int)) : ∃ k : Nat, n = (k : Int) ∧ k < M := ⟨n.toNat, by omega, by omega⟩
theorem list2 {α : Type} {l : List α} (h : l.length = 2) : ∃ c0 c1, l = [c0, c1] := by
  match l, h with
  | [c0, c1], _ => exact ⟨c0, c1, rfl⟩
theorem cU64 : Tryz.prog.cellsOf 25 = 1 := by kernel_rfl
theorem cRg : Tryz.prog.cellsOf 27 = 2 := by kernel_rfl
def rgData {H : Type} (f t : Nat) : DataW H := .agg [.lit (.int .u64 (f : Int)), .lit (.int .u64 (t : Int))]
section
variable {H : Type} {enc : TypeId × Value → H} {w : World} {base : Nat} {sp : Nat → Bool} {held : Bool}
set_option maxRecDepth 100000 in
theorem trod_rg {fuel : Nat} {cs : List Value} {x : DataW H × List MemPlace} (h : DataW.trod enc Tryz.prog w base sp held fuel 27 cs = some x) : ∃ f t : Nat, f < 18446744073709551616 ∧ t < 18446744073709551616 ∧ cs = [.int .u64 (f : Int), .int .u64 (t : Int)] ∧ x = (rgData f t, []) := by
  obtain ⟨xs, n, _, rfl, hl, hlen, hf⟩ := DataW.trod_struct Tryz.underlying27 h
  rw [cRg] at hl
  obtain ⟨c0, c1, rfl⟩ := list2 hl
  obtain ⟨y0, y1, rfl⟩ := list2 hlen
  have h0 : DataW.trod enc Tryz.prog w base sp held n 25 [c0] = some y0 := by simpa [cU64] using hf 0 _ rfl
  have h1 : DataW.trod enc Tryz.prog w base sp held n 25 [c1] = some y1 := by simpa [cU64] using hf 1 _ rfl
  obtain ⟨a0, e0, rfl, w0⟩ := DataW.trod_int Tryz.underlying25 h0
  obtain ⟨a1, e1, rfl, w1⟩ := DataW.trod_int Tryz.underlying25 h1
  obtain ⟨n0, rfl, o0⟩ := nat_of (M := 18446744073709551616) (wf_u64 w0)
  obtain ⟨n1, rfl, o1⟩ := nat_of (M := 18446744073709551616) (wf_u64 w1)
  refine ⟨n0, n1, o0, o1, ?_, ?_⟩
  · simp only [List.cons.injEq, and_true] at e0 e1
    rw [e0, e1]
  · first | rfl | simp [rgData]
set_option maxRecDepth 100000 in
theorem open_rg {r : Reach} {b0 : Nat} {v : Value} {d : DataW H} {ps : List MemPlace} (hval : Value.okWide Tryz.prog w r b0 27 v) (hd : DataW.Trod enc Tryz.prog w base sp held 27 v d ps) :
    ∃ f t : Nat, v = .agg #[.int .u64 (f : Int), .int .u64 (t : Int)] ∧ d = rgData f t ∧ ps = [] ∧ f < 18446744073709551616 ∧ t < 18446744073709551616 := by
  obtain ⟨cs, rfl, hsz⟩ := okWide_struct Tryz.underlying27 hval
  obtain ⟨fuel, hf⟩ := hd
  obtain ⟨f, t, o1, o2, hc, hx⟩ := trod_rg hf
  simp only [Prod.mk.injEq] at hx
  refine ⟨f, t, ?_, hx.1, hx.2, o1, o2⟩
  have : cs.toList = (#[.int .u64 (f : Int), .int .u64 (t : Int)] : Array Value).toList := by simpa [Value.cells] using hc
  rw [Array.toList_inj.1 this]
end
theorem isNas_of {w : World} {v : Value} {l : List ByteArray} (h : IsStrs w v l) : IsNas w v l := by
  obtain ⟨a, cap, rfl, h⟩ := h
  refine ⟨a, cap, rfl, ?_⟩
  rcases h with h | ⟨b, off, ha, hb, hc⟩
  · exact Or.inl h
  · refine Or.inr ⟨b, off, ha, hb, fun i hi j u hu => ?_⟩
    obtain rfl : j = 0 := by have := (List.getElem?_eq_some_iff.1 hu).1; rw [naC_len] at this; omega
    rw [Nat.mul_one, Nat.add_zero]
    exact (hc i hi).trans hu
end Go.Proofs.YthcmcjoenepkbaaGreatDoor
