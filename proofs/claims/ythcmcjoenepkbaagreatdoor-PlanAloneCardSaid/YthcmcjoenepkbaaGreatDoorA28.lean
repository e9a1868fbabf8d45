/- Moves that came in, opened for this seat's walks. PlanAlone's walk, for the arguments as they come in. -/
import Derived.Test.YthcmcjoenepkbaaGreatDoorOpenP
import Derived.Test.YthcmcjoenepkbaaGreatDoorWdM
import Derived.Test.YthcmcjoenepkbaaGreatDoorL28a
namespace Go.Proofs.YthcmcjoenepkbaaGreatDoor
open Go Go.ChangeShapes Go.WideShapes Go.ChangeAt Go.RowKit

theorem list3 {α : Type} {l : List α} (h : l.length = 3) : ∃ c0 c1 c2, l = [c0, c1, c2] := by
  match l, h with
  | [c0, c1, c2], _ => exact ⟨c0, c1, c2, rfl⟩
def pmData {H : Type} (x : Pmv) : DataW H := .agg [rgData x.f x.t, .lit (.int .u32 (x.tw : Int))]
theorem cU32 : Tryz.prog.cellsOf 28 = 1 := by kernel_rfl
theorem cPm : Tryz.prog.cellsOf 92 = 3 := by kernel_rfl
theorem addrThree {a : Addr} (h : a = ⟨a.block, a.off, none⟩) (i j : Nat) : (a.add i).add j = ⟨a.block, a.off + i + j, none⟩ := by
  rw [h]
  unfold Addr.add
  by_cases e : i = 0
  · subst e
    simp only [if_true, Nat.add_zero]
    by_cases e2 : j = 0
    · subst e2; simp
    · simp [e2]
  · simp only [e, if_false]
    by_cases e2 : j = 0
    · subst e2; simp
    · simp [e2]
section
variable {H : Type} {enc : TypeId × Value → H} {w : World} {base : Nat} {sp : Nat → Bool} {held : Bool}
set_option maxRecDepth 100000 in
theorem trod_pm {fuel : Nat} {cs : List Value} {x : DataW H × List MemPlace} (h : DataW.trod enc Tryz.prog w base sp held fuel 92 cs = some x) : ∃ v : Pmv, v.Ok ∧ cs = pmC v ∧ x = (pmData v, []) := by
  obtain ⟨xs, n, _, rfl, hl, hlen, hf⟩ := DataW.trod_struct Tryz.underlying92 h
  rw [cPm] at hl
  obtain ⟨c0, c1, c2, rfl⟩ := list3 hl
  obtain ⟨y0, y1, rfl⟩ := list2 hlen
  have h0 : DataW.trod enc Tryz.prog w base sp held n 27 [c0, c1] = some y0 := by simpa [cRg] using hf 0 _ rfl
  have h1 : DataW.trod enc Tryz.prog w base sp held n 28 [c2] = some y1 := by simpa [cU32] using hf 1 _ rfl
  obtain ⟨f, t, o1, o2, e0, rfl⟩ := trod_rg h0
  obtain ⟨a2, e2, rfl, w2⟩ := DataW.trod_int Tryz.underlying28 h1
  obtain ⟨n2, rfl, o3⟩ := nat_of (M := 4294967296) (wf_u32 w2)
  refine ⟨⟨f, t, n2⟩, ⟨o1, o2, o3⟩, ?_, ?_⟩
  · simp only [List.cons.injEq, and_true] at e0 e2
    rw [e0.1, e0.2, e2]; rfl
  · first | rfl | simp [pmData]
set_option maxRecDepth 100000 in
theorem open_pms {r : Reach} {b0 : Nat} {v : Value} {d : DataW H} {ps : List MemPlace} (hval : Value.okWide Tryz.prog w r b0 22 v) (hd : DataW.Trod enc Tryz.prog w base sp held 22 v d ps) :
    ∃ l : List Pmv, IsPms w v l ∧ ∀ x ∈ l, x.Ok := by
  obtain ⟨a0, len0, cap0, rfl⟩ := okWide_slice Tryz.underlying22 hval
  obtain ⟨fuel, hf⟩ := hd
  rcases Go.Deep.open_slice Tryz.underlying22 hf with ⟨hcs, hx⟩ | ⟨a, len, cap, m, n, D, Pl, hcs, _, hl, _, hm, hx, hel⟩
  · have hv : Value.slice a0 len0 cap0 = .slice none 0 0 := by simpa [Value.cells] using hcs
    rw [hv]
    exact ⟨[], IsL.nil _ _ _ _, by simp⟩
  · have hv : Value.slice a0 len0 cap0 = .slice (some a) len cap := by simpa [Value.cells] using hcs
    rw [hv]
    have hlm : len ≤ m := by rw [hm]; split <;> omega
    have hE : ∀ i, ∃ e : Pmv, i < len → e.Ok ∧ ∀ j, j < 3 → w.cell? ((a.add (i * 3)).add j) = (pmC e)[j]? := by
      intro i
      by_cases hi : i < len
      · obtain ⟨cs', h1, h2⟩ := hel i (by omega)
        rw [cPm] at h1
        obtain ⟨e, ho, rfl, he⟩ := trod_pm h2
        exact ⟨e, fun _ => ⟨ho, (World.cells?_some h1).2.2⟩⟩
      · exact ⟨dPm, fun h => absurd h hi⟩
    obtain ⟨E, hE⟩ := Classical.axiomOfChoice hE
    refine ⟨(List.range len).map E, ⟨some a, cap, by simp, ?_⟩, fun x hx => ?_⟩
    · by_cases h0 : len = 0
      · left; subst h0; rfl
      · right
        have h00 := (hE 0 (by omega)).2 0 (by omega)
        have ha0 : (a.add (0 * 3)).add 0 = a := by unfold Addr.add; simp
        rw [ha0] at h00
        have hs : a = ⟨a.block, a.off, none⟩ := spot_none (v := .int .u64 ((E 0).f : Int)) h00
        refine ⟨a.block, a.off, by rw [← hs], block_lt_of_cell (v := .int .u64 ((E 0).f : Int)) h00, fun i hi j u hu => ?_⟩
        have hi' : i < len := by simpa using hi
        have hg : ((List.range len).map E).getD i dPm = E i := by simp [List.getD_eq_getElem?_getD, hi']
        rw [hg] at hu
        have hj : j < 3 := by have := (List.getElem?_eq_some_iff.1 hu).1; simpa [pmC] using this
        have hc := (hE i hi').2 j hj
        rw [addrThree hs] at hc
        exact hc.trans hu
    · obtain ⟨i, hi, rfl⟩ := List.mem_map.1 hx
      exact (hE i (List.mem_range.1 hi)).1
end
end Go.Proofs.YthcmcjoenepkbaaGreatDoor

namespace Go.Proofs.YthcmcjoenepkbaaGreatDoor
open Go Go.RowKit

theorem law28_alone_in (p q : Int) (l : List Pmv) (v : Value) (x : ByteArray) (rd ed : Int) (W : World) (hp : (Lit.int .u8 p).wf = true) (hq : (Lit.int .u8 q).wf = true) (hl : IsPms W v l) (hok : ∀ y ∈ l, y.Ok) (hx : x.size ≤ 140737488351232) (hrd : (Lit.int .u8 rd).wf = true) (hed : (Lit.int .u8 ed).wf = true) (hm : MX W) :
    Calls Tryz.prog 5 #[.int .u8 p, .int .u8 q, v, .string x, .int .u8 rd, .int .u8 ed] W fun e W' => e = .returned (.bool true) ∧ Below W.heap.size W W' := by
  obtain ⟨p, rfl, hp'⟩ := nat_of (M := 256) (wf_u8 hp)
  obtain ⟨q, rfl, hq'⟩ := nat_of (M := 256) (wf_u8 hq)
  obtain ⟨rd, rfl, hrd'⟩ := nat_of (M := 256) (wf_u8 hrd)
  obtain ⟨ed, rfl, hed'⟩ := nat_of (M := 256) (wf_u8 hed)
  obtain ⟨a, cp, rfl, hr⟩ := id hl
  exact law28_alone p q rd ed hp' hq' hrd' hed' a l.length cp l x hx W hl rfl hok hm
end Go.Proofs.YthcmcjoenepkbaaGreatDoor
