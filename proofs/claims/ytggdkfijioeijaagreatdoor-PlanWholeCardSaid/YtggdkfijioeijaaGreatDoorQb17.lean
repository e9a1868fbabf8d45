/- A call that came in, opened. Contract: plan.May, of any call. Contract: plan.Asks of no map, and of a call that may not be. plan.Asks: an ask in which more is said. Contract: shardmap.Map's Ranges. DERIVED: THE SHELF's CONTRACTS AT THIS DUMP, IN PLAIN WORDS (tools/lay-plain.mjs out of 'TryzShelf.lean', which tools/lay-shelf.mjs wrote): THE SAME DECLARATIONS UNDER THE SAME NAMES: 'import', 'namespace', 'open', 'def', 'theorem' AND NOTHING ELSE: no command of the shelf's: FOR A HAND-IN. Each laying: the table of numbers ('.._ren') and one theorem, a field a fact of the dump's own or the kernel's comparison; each contract: ONE APPLICATION. Contract: shardmap.Map's Shards: its shards, each once, rising. Contract: plan.Asks of a list. plan.Asks' inner function, told once more: what was there stays where it was. -/
import Derived.Test.YtggdkfijioeijaaGreatDoorQb03
import Derived.Test.YtggdkfijioeijaaGreatDoorQb09
import Derived.Test.YtggdkfijioeijaaGreatDoorQb12
import Derived.Test.YtggdkfijioeijaaGreatDoorQb13
import Derived.Test.YtggdkfijioeijaaGreatDoorQb14
import Derived.Test.YtggdkfijioeijaaGreatDoorQb15
import Derived.Test.YtggdkfijioeijaaGreatDoorQb16
import Derived.Maps.OwnIn
import Derived.Ground.SlgnProg
import Derived.Shelf.SlicesE.Compact
import Derived.Test.YtggdkfijioeijaaGreatDoorProg
import Derived.Deep.RegionLaw
namespace Go.Proofs.YtggdkfijioeijaaGreatDoor
open Go Go.ChangeShapes Go.WideShapes Go.ChangeAt Go.RowKit
theorem list6 {α : Type} {l : List α} (h : l.length = 6) : ∃ c0 c1 c2 c3 c4 c5, l = [c0, c1, c2, c3, c4, c5] := by
 match l, h with
 | [c0, c1, c2, c3, c4, c5], _ => exact ⟨c0, c1, c2, c3, c4, c5, rfl⟩
theorem list7 {α : Type} {l : List α} (h : l.length = 7) : ∃ c0 c1 c2 c3 c4 c5 c6, l = [c0, c1, c2, c3, c4, c5, c6] := by
 match l, h with
 | [c0, c1, c2, c3, c4, c5, c6], _ => exact ⟨c0, c1, c2, c3, c4, c5, c6, rfl⟩
theorem cU8 : Tryz.prog.cellsOf 5 = 1 := by kernel_rfl
theorem cBool : Tryz.prog.cellsOf 4 = 1 := by kernel_rfl
theorem cRd : Tryz.prog.cellsOf 56 = 2 := by kernel_rfl
theorem cEd : Tryz.prog.cellsOf 63 = 6 := by kernel_rfl
theorem cCall : Tryz.prog.cellsOf 30 = 7 := by kernel_rfl
theorem cRds : Tryz.prog.cellsOf 23 = 1 := by kernel_rfl
theorem cEds : Tryz.prog.cellsOf 24 = 1 := by kernel_rfl
def rdData {H : Type} (r : Rd) : DataW H := .agg [.lit (.string r.path.data.toList), .lit (.int .u64 (r.n : Int))]
def edData {H : Type} (x : Ed) : DataW H := .agg [.lit (.int .u8 (x.kind : Int)), .lit (.string x.path.data.toList), .lit (.bool x.any), .lit (.int .u64 (x.want : Int)), .lit (.int .u64 (x.n : Int)), .lit (.string x.text.data.toList)]
section
variable {H : Type} {enc : TypeId × Value → H} {w : World} {base : Nat} {sp : Nat → Bool} {held : Bool}
set_option maxRecDepth 100000 in
theorem trod_rd {fuel : Nat} {cs : List Value} {x : DataW H × List MemPlace} (h : DataW.trod enc Tryz.prog w base sp held fuel 56 cs = some x) : ∃ r : Rd, True ∧ cs = rdC r ∧ x = (rdData r, []) := by
 obtain ⟨xs, n, _, rfl, hl, hlen, hf⟩ := DataW.trod_struct Tryz.underlying56 h
 rw [cRd] at hl
 obtain ⟨c0, c1, rfl⟩ := list2 hl
 obtain ⟨y0, y1, rfl⟩ := list2 hlen
 have h0 : DataW.trod enc Tryz.prog w base sp held n 9 [c0] = some y0 := by simpa [cellsStr] using hf 0 _ rfl
 have h1 : DataW.trod enc Tryz.prog w base sp held n 25 [c1] = some y1 := by simpa [cU64] using hf 1 _ rfl
 obtain ⟨s0, e0, rfl, _⟩ := DataW.trod_string Tryz.underlying9 h0
 obtain ⟨a1, e1, rfl, w1⟩ := DataW.trod_int Tryz.underlying25 h1
 obtain ⟨n1, rfl, _⟩ := nat_of (M := 18446744073709551616) (wf_u64 w1)
 refine ⟨⟨s0, n1⟩, trivial, ?_, ?_⟩
 ·simp only [List.cons.injEq, and_true] at e0 e1
  rw [e0, e1]; rfl
 ·first | rfl | simp [rdData]
set_option maxRecDepth 100000 in
theorem trod_ed {fuel : Nat} {cs : List Value} {x : DataW H × List MemPlace} (h : DataW.trod enc Tryz.prog w base sp held fuel 63 cs = some x) : ∃ r : Ed, r.kind < 256 ∧ cs = edC r ∧ x = (edData r, []) := by
 obtain ⟨xs, n, _, rfl, hl, hlen, hf⟩ := DataW.trod_struct Tryz.underlying63 h
 rw [cEd] at hl
 obtain ⟨c0, c1, c2, c3, c4, c5, rfl⟩ := list6 hl
 obtain ⟨y0, y1, y2, y3, y4, y5, rfl⟩ := list6 hlen
 have h0 : DataW.trod enc Tryz.prog w base sp held n 5 [c0] = some y0 := by simpa [cU8] using hf 0 _ rfl
 have h1 : DataW.trod enc Tryz.prog w base sp held n 9 [c1] = some y1 := by simpa [cellsStr] using hf 1 _ rfl
 have h2 : DataW.trod enc Tryz.prog w base sp held n 4 [c2] = some y2 := by simpa [cBool] using hf 2 _ rfl
 have h3 : DataW.trod enc Tryz.prog w base sp held n 25 [c3] = some y3 := by simpa [cU64] using hf 3 _ rfl
 have h4 : DataW.trod enc Tryz.prog w base sp held n 25 [c4] = some y4 := by simpa [cU64] using hf 4 _ rfl
 have h5 : DataW.trod enc Tryz.prog w base sp held n 9 [c5] = some y5 := by simpa [cellsStr] using hf 5 _ rfl
 obtain ⟨a0, e0, rfl, w0⟩ := DataW.trod_int Tryz.underlying5 h0
 obtain ⟨s1, e1, rfl, _⟩ := DataW.trod_string Tryz.underlying9 h1
 obtain ⟨b2, e2, rfl⟩ := DataW.trod_bool Tryz.underlying4 h2
 obtain ⟨a3, e3, rfl, w3⟩ := DataW.trod_int Tryz.underlying25 h3
 obtain ⟨a4, e4, rfl, w4⟩ := DataW.trod_int Tryz.underlying25 h4
 obtain ⟨s5, e5, rfl, _⟩ := DataW.trod_string Tryz.underlying9 h5
 obtain ⟨n0, rfl, o0⟩ := nat_of (M := 256) (wf_u8 w0)
 obtain ⟨n3, rfl, _⟩ := nat_of (M := 18446744073709551616) (wf_u64 w3)
 obtain ⟨n4, rfl, _⟩ := nat_of (M := 18446744073709551616) (wf_u64 w4)
 refine ⟨⟨n0, s1, b2, n3, n4, s5⟩, o0, ?_, ?_⟩
 ·simp only [List.cons.injEq, and_true] at e0 e1 e2 e3 e4 e5
  rw [e0, e1, e2, e3, e4, e5]; rfl
 ·first | rfl | simp [edData]
set_option maxRecDepth 100000 in
theorem trod_list {α : Type} {C : α → List Value} {D : α → DataW H} {Q : α → Prop} {k : Nat} {t e : TypeId} (z : α) (ht : Tryz.prog.underlying t = some (.slice e)) (hc : Tryz.prog.cellsOf e = k) (hk : 0 < k) (hC : ∀ x, (C x).length = k)
  (hel : ∀ {fuel : Nat} {cs : List Value} {x : DataW H × List MemPlace}, DataW.trod enc Tryz.prog w base sp held fuel e cs = some x → ∃ a : α, Q a ∧ cs = C a ∧ x = (D a, []))
  {fuel : Nat} {cs : List Value} {x : DataW H × List MemPlace} (h : DataW.trod enc Tryz.prog w base sp held fuel t cs = some x) :
  ∃ (v : Value) (l : List α), cs = [v] ∧ IsL k C z w v l ∧ NilOk v ∧ (∀ a ∈ l, Q a) ∧ (x.1 = .nil ∧ l = [] ∨ ∃ sr, x.1 = .slice (l.map D) sr) := by
 rcases Go.Deep.open_slice ht h with ⟨hcs, hx⟩ | ⟨a, len, cap, m, n, Df, Pl, hcs, _, hl, _, hm, hx, he⟩
 ·exact ⟨_, [], hcs, IsL.nil _ _ _ _, (fun n c h => by cases h; exact ⟨rfl, rfl⟩), by simp, Or.inl ⟨by rw [hx], rfl⟩⟩
 ·have hlm : len ≤ m := by rw [hm]; split <;> omega
  have hE : ∀ i, ∃ e : α, i < len → Q e ∧ (∀ j, j < k → w.cell? ((a.add (i * k)).add j) = (C e)[j]?) ∧ Df i = D e := by
   intro i
   by_cases hi : i < len
   ·obtain ⟨cs', h1, h2⟩ := he i (by omega)
    rw [hc] at h1
    obtain ⟨e, ho, rfl, hd⟩ := hel h2
    simp only [Prod.mk.injEq] at hd
    exact ⟨e, fun _ => ⟨ho, (World.cells?_some h1).2.2, hd.1⟩⟩
   ·exact ⟨z, fun h => absurd h hi⟩
  obtain ⟨E, hE⟩ := Classical.axiomOfChoice hE
  refine ⟨_, (List.range len).map E, hcs, ⟨some a, cap, by simp, ?_⟩, (fun n c h => by cases h), fun x hx => ?_, Or.inr ⟨(List.range (m - len)).map fun j => Df (len + j), ?_⟩⟩
  ·by_cases h0 : len = 0
   ·left; subst h0; rfl
   ·right
    have h00 := (hE 0 (by omega)).2.1 0 hk
    have ha0 : (a.add (0 * k)).add 0 = a := by unfold Addr.add; simp
    rw [ha0, List.getElem?_eq_getElem (by rw [hC]; exact hk)] at h00
    have hs := spot_none h00
    refine ⟨a.block, a.off, by rw [← hs], block_lt_of_cell h00, fun i hi j u hu => ?_⟩
    have hi' : i < len := by simpa using hi
    have hg : ((List.range len).map E).getD i z = E i := by simp [List.getD_eq_getElem?_getD, hi']
    rw [hg] at hu
    have hj : j < k := by have := (List.getElem?_eq_some_iff.1 hu).1; rwa [hC] at this
    have hc2 := (hE i hi').2.1 j hj
    rw [addrThree hs] at hc2
    exact hc2.trans hu
  ·obtain ⟨i, hi, rfl⟩ := List.mem_map.1 hx
   exact (hE i (List.mem_range.1 hi)).1
  ·rw [hx, List.map_map]
   show DataW.slice _ _ = DataW.slice _ _
   congr 1
   refine List.map_congr_left fun i hi => ?_
   exact (hE i (List.mem_range.1 hi)).2.2
set_option maxRecDepth 100000 in
theorem open_call {r : Reach} {b0 : Nat} {v : Value} {d : DataW H} {ps : List MemPlace} (hval : Value.okWide Tryz.prog w r b0 30 v) (hd : DataW.Trod enc Tryz.prog w base sp held 30 v d ps) :
  ∃ (kind : Nat) (vR vE : Value) (rds : List Rd) (eds : List Ed) (pre : ByteArray) (f t tw : Nat) (dR dE : DataW H), v = .agg (callC kind vR vE pre f t tw) ∧ kind < 256 ∧ f < 18446744073709551616 ∧ t < 18446744073709551616 ∧ tw < 4294967296 ∧
   IsRds w vR rds ∧ IsEds w vE eds ∧ NilOk vR ∧ NilOk vE ∧ (∀ x ∈ eds, x.kind < 256) ∧ d = .agg [.lit (.int .u8 (kind : Int)), dR, dE, .lit (.string pre.data.toList), rgData f t, .lit (.int .u32 (tw : Int))] ∧
   (dR = .nil ∧ rds = [] ∨ ∃ sr, dR = .slice (rds.map rdData) sr) ∧ (dE = .nil ∧ eds = [] ∨ ∃ sr, dE = .slice (eds.map edData) sr) := by
 obtain ⟨cs, rfl, hsz⟩ := okWide_struct Tryz.underlying30 hval
 obtain ⟨fuel, hf0⟩ := hd
 obtain ⟨xs, n, _, hx, hl, hlen, hf⟩ := DataW.trod_struct Tryz.underlying30 hf0
 rw [cCall] at hl
 obtain ⟨cl, hcl⟩ : ∃ cl, (Value.agg cs).cells.toList = cl := ⟨_, rfl⟩
 rw [hcl] at hl hf
 obtain ⟨c0, c1, c2, c3, c4, c5, c6, rfl⟩ := list7 hl
 obtain ⟨y0, y1, y2, y3, y4, y5, rfl⟩ := list6 hlen
 have h0 : DataW.trod enc Tryz.prog w base sp held n 5 [c0] = some y0 := by simpa [cU8] using hf 0 _ rfl
 have h1 : DataW.trod enc Tryz.prog w base sp held n 23 [c1] = some y1 := by simpa [cRds] using hf 1 _ rfl
 have h2 : DataW.trod enc Tryz.prog w base sp held n 24 [c2] = some y2 := by simpa [cEds] using hf 2 _ rfl
 have h3 : DataW.trod enc Tryz.prog w base sp held n 9 [c3] = some y3 := by simpa [cellsStr] using hf 3 _ rfl
 have h4 : DataW.trod enc Tryz.prog w base sp held n 27 [c4, c5] = some y4 := by simpa [cRg] using hf 4 _ rfl
 have h5 : DataW.trod enc Tryz.prog w base sp held n 28 [c6] = some y5 := by simpa [cU32] using hf 5 _ rfl
 obtain ⟨a0, e0, rfl, w0⟩ := DataW.trod_int Tryz.underlying5 h0
 obtain ⟨v1, l1, e1, i1, k1, _, q1⟩ := trod_list dRd Tryz.underlying23 cRd (by decide) rdC_len trod_rd h1
 obtain ⟨v2, l2, e2, i2, k2, o2, q2⟩ := trod_list dEd Tryz.underlying24 cEd (by decide) edC_len trod_ed h2
 obtain ⟨s3, e3, rfl, _⟩ := DataW.trod_string Tryz.underlying9 h3
 obtain ⟨f, t, of, ot, e4, rfl⟩ := trod_rg h4
 obtain ⟨a5, e5, rfl, w5⟩ := DataW.trod_int Tryz.underlying28 h5
 obtain ⟨n0, rfl, o0⟩ := nat_of (M := 256) (wf_u8 w0)
 obtain ⟨n5, rfl, o5⟩ := nat_of (M := 4294967296) (wf_u32 w5)
 simp only [List.cons.injEq, and_true] at e0 e1 e2 e3 e4 e5
 simp only [Prod.mk.injEq] at hx
 refine ⟨n0, v1, v2, l1, l2, s3, f, t, n5, y1.1, y2.1, ?_, o0, of, ot, o5, i1, i2, k1, k2, o2, ?_, q1, q2⟩
 ·have h : cs.toList = (callC n0 v1 v2 s3 f t n5).toList := by
   have h := hcl
   simp only [Value.cells] at h
   rw [h, e0, e1, e2, e3, e4.1, e4.2, e5]
  rw [Array.toList_inj.1 h]
 ·rw [hx.1]; rfl
end
theorem weights_rd {H : Type} (r : Rd) : r.path.size ∈ DataW.weights (H := H) Tryz.prog 56 (rdData r) := by
 unfold rdData
 simp only [DataW.weights, Tryz.underlying56, List.map_cons, List.map_nil, DataW.weightsEach, List.mem_append]
 left; show _ ∈ [r.path.data.toList.length]; simp
theorem weights_ed {H : Type} (e : Ed) : e.path.size ∈ DataW.weights (H := H) Tryz.prog 63 (edData e) ∧ e.text.size ∈ DataW.weights (H := H) Tryz.prog 63 (edData e) := by
 unfold edData
 simp only [DataW.weights, Tryz.underlying63, List.map_cons, List.map_nil, DataW.weightsEach, List.mem_append]
 constructor
 ·right; left; show _ ∈ [e.path.data.toList.length]; simp
 ·right; right; right; right; right; left; show _ ∈ [e.text.data.toList.length]; simp
theorem weights_all {H α : Type} {D : α → DataW H} {e : TypeId} {l : List α} {x : α} (hx : x ∈ l) {n : Nat} (hn : n ∈ DataW.weights Tryz.prog e (D x)) : n ∈ DataW.weightsAll Tryz.prog e (l.map D) := by
 induction l with
 | nil => simp at hx
 | cons a r ih =>
  rw [List.map_cons, DataW.weightsAll, List.mem_append]
  rcases List.mem_cons.1 hx with rfl | hx
  ·exact Or.inl hn
  ·exact Or.inr (ih hx)
theorem weights_slice {H α : Type} {D : α → DataW H} {t e : TypeId} (ht : Tryz.prog.underlying t = some (.slice e)) {l : List α} {sr : List (DataW H)} {x : α} (hx : x ∈ l) {n : Nat} (hn : n ∈ DataW.weights Tryz.prog e (D x)) : n ∈ DataW.weights Tryz.prog t (.slice (l.map D) sr) := by
 simp only [DataW.weights, ht, List.mem_cons, List.mem_append]
 exact Or.inr (Or.inl (weights_all hx hn))
theorem sized_call {H : Type} {ts : List TypeId} {ds : List (DataW H)} (h : (DataW.weightsEach Tryz.prog ts ds).all (· ≤ reachBytes) = true) {j kind f t tw : Nat} {pre : ByteArray} {rds : List Rd} {eds : List Ed} {dR dE d : DataW H} (hj : ts[j]? = some 30) (hd : ds[j]? = some d)
  (e : d = .agg [.lit (.int .u8 (kind : Int)), dR, dE, .lit (.string pre.data.toList), rgData f t, .lit (.int .u32 (tw : Int))]) (q1 : dR = .nil ∧ rds = [] ∨ ∃ sr, dR = .slice (rds.map rdData) sr) (q2 : dE = .nil ∧ eds = [] ∨ ∃ sr, dE = .slice (eds.map edData) sr) :
  pre.size ≤ 140737488351232 ∧ (∀ r ∈ rds, r.path.size ≤ 140737488351232) ∧ ∀ x ∈ eds, x.path.size ≤ 140737488351232 ∧ x.text.size ≤ 140737488351232 := by
 subst e
 have hm : ∀ n, n ∈ DataW.weights Tryz.prog 30 (.agg [.lit (.int .u8 (kind : Int)), dR, dE, .lit (.string pre.data.toList), rgData f t, .lit (.int .u32 (tw : Int))]) → n ≤ 140737488351232 := fun n hn => by
  have := List.all_eq_true.1 h _ (DataW.weights_mem_each hj hd _ hn)
  exact of_decide_eq_true this
 have hparts : ∀ n, (n ∈ DataW.weights Tryz.prog 23 dR ∨ n ∈ DataW.weights Tryz.prog 24 dE ∨ n ∈ DataW.weights (H := H) Tryz.prog 9 (.lit (.string pre.data.toList))) → n ∈ DataW.weights Tryz.prog 30 (.agg [.lit (.int .u8 (kind : Int)), dR, dE, .lit (.string pre.data.toList), rgData f t, .lit (.int .u32 (tw : Int))]) := fun n hn => by
  rw [DataW.weights, Tryz.underlying30]
  simp only [List.map_cons, List.map_nil, DataW.weightsEach, List.mem_append]
  rcases hn with hn | hn | hn
  ·exact Or.inr (Or.inl hn)
  ·exact Or.inr (Or.inr (Or.inl hn))
  ·exact Or.inr (Or.inr (Or.inr (Or.inl hn)))
 refine ⟨hm _ (hparts _ (Or.inr (Or.inr (by show _ ∈ [pre.data.toList.length]; simp)))), fun r hr => ?_, fun x hx => ?_⟩
 ·rcases q1 with ⟨_, rfl⟩ | ⟨sr, rfl⟩
  ·simp at hr
  ·exact hm _ (hparts _ (Or.inl (weights_slice Tryz.underlying23 hr (weights_rd r))))
 ·rcases q2 with ⟨_, rfl⟩ | ⟨sr, rfl⟩
  ·simp at hx
  ·exact ⟨hm _ (hparts _ (Or.inr (Or.inl (weights_slice Tryz.underlying24 hx (weights_ed x).1)))), hm _ (hparts _ (Or.inr (Or.inl (weights_slice Tryz.underlying24 hx (weights_ed x).2))))⟩
end Go.Proofs.YtggdkfijioeijaaGreatDoor
namespace Go.Proofs.YtggdkfijioeijaaGreatDoor
open Go Go.RowKit Pth
def mayZ (kind : Nat) (rds : List Rd) (eds : List Ed) (pre : ByteArray) (f t tw : Nat) : Int :=
 if kind = 1 then
  (if (1 ≤ rds.length + eds.length ∧ rds.length + eds.length ≤ 16) ∧ rds.any badR = false ∧ eds.any badE = false then (if eds.any longE = true then 5 else 0) else 2)
 else if kind = 2 then (if prefL pre.data.toList = true then 0 else 2)
 else if kind = 3 then (if f ≤ t ∧ 0 < tw then 0 else 2)
 else 2
set_option maxRecDepth 100000 in
set_option maxHeartbeats 2000000 in
theorem may_one (rds : List Rd) (eds : List Ed) (vR vE : Value) (pre : ByteArray) (f t tw : Nat) (w : World) (hR : IsRds w vR rds) (hE : IsEds w vE eds) (hm : MX w) (hsr : ∀ r ∈ rds, SmallRd r) (hse : ∀ x ∈ eds, SmallEd x) (hlr : rds.length ≤ 1000) (hle : eds.length ≤ 1000) :
  Calls Tryz.prog 13 #[.agg (callC 1 vR vE pre f t tw)] w fun e w' => e = .returned (.int .i64 (mayZ 1 rds eds pre f t tw)) ∧ Below w.heap.size w w' := by
 obtain ⟨aR, cR, rfl⟩ := isl_shape hR
 obtain ⟨aE, cE, rfl⟩ := isl_shape hE
 have K1 := Lib.hid (fun (W : World) (hW : Below w.heap.size w W) => has_r rds _ W (hR.below hW (Nat.le_refl _)) (by omega) hsr (hm.below hW (Nat.le_refl _)))
 have K2 := Lib.hid (fun (W : World) (hW : Below w.heap.size w W) => has_e eds _ W (hE.below hW (Nat.le_refl _)) (by omega) hse (hm.below hW (Nat.le_refl _)))
 have K3 := Lib.hid (fun (W : World) (hW : Below w.heap.size w W) => has_l eds _ W (hE.below hW (Nat.le_refl _)) (by omega) hse (hm.below hW (Nat.le_refl _)))
 have hz : mayZ 1 rds eds pre f t tw = (if (1 ≤ rds.length + eds.length ∧ rds.length + eds.length ≤ 16) ∧ rds.any badR = false ∧ eds.any badE = false then (if eds.any longE = true then 5 else 0) else 2) := if_pos rfl
 obtain ⟨z, hzz⟩ : ∃ z, mayZ 1 rds eds pre f t tw = z := ⟨_, rfl⟩
 rw [hzz] at hz ⊢
 obtain ⟨b1, hb1⟩ : ∃ b, rds.any badR = b := ⟨_, rfl⟩
 obtain ⟨b2, hb2⟩ : ∃ b, eds.any badE = b := ⟨_, rfl⟩
 obtain ⟨b3, hb3⟩ : ∃ b, eds.any longE = b := ⟨_, rfl⟩
 obtain ⟨nr, hnr⟩ : ∃ nr, rds.length = nr := ⟨_, rfl⟩
 obtain ⟨ne, hne⟩ : ∃ ne, eds.length = ne := ⟨_, rfl⟩
 rw [hb1] at K1
 rw [hb2] at K2
 rw [hb3] at K3
 rw [hb1, hb2, hb3, hnr, hne] at hz
 rw [hnr] at K1 hlr ⊢
 rw [hne] at K2 K3 hle ⊢
 have HZ := Lib.hid hz
 clear hR hE hm hsr hse hb1 hb2 hb3 hnr hne hz hzz
 obtain ⟨W0, hW0⟩ : ∃ W0, w.alloc (.cells (callC 1 (.slice aR nr cR) (.slice aE ne cE) pre f t tw) 30) = W0 := ⟨_, rfl⟩
 obtain ⟨hz0, hblk, hB0⟩ := alloc_keep hW0
 have hlt0 : w.heap.size < W0.heap.size := by omega
 have KP := Lib.hid (fun (W : World) (h : Below W0.heap.size W0 W) => show W.cell? ⟨w.heap.size, 0, none⟩ = some (.int .u8 ((1 : Nat) : Int)) ∧ W.cell? ⟨w.heap.size, 1, none⟩ = some (.slice aR nr cR) ∧ W.cell? ⟨w.heap.size, 2, none⟩ = some (.slice aE ne cE) by
  have hb := (h.block _ hlt0).trans hblk
  exact ⟨cell_of hb 0, cell_of hb 1, cell_of hb 2⟩)
 obtain ⟨x0, x1, x2⟩ := KP.out W0 (Below.refl _ _)
 have HB0 := Lib.hid hB0
 clear hB0 hblk hlt0 hz0
 go_enter Tryz.func13, Tryz.ntmps13
 go_upto_region 1 with fail
 clear hW0
 by_cases h1 : 1 ≤ nr + ne
 rotate_left
 ·have g1 : ¬ (1 : Int) ≤ (nr : Int) + (ne : Int) := by omega
  have HR : Hid (z = 2) := Lib.hid (HZ.out.trans (if_neg (fun h => h1 h.1.1)))
  go_wp2_with fail
  go_ret
  exact ⟨by rw [HR.out]; rfl, HB0.out⟩
 by_cases h2 : nr + ne ≤ 16
 rotate_left
 ·have g1 : (1 : Int) ≤ (nr : Int) + (ne : Int) := by omega
  have g2 : ¬ (nr : Int) + (ne : Int) ≤ 16 := by omega
  have HR : Hid (z = 2) := Lib.hid (HZ.out.trans (if_neg (fun h => h2 h.1.2)))
  go_wp2_with fail
  go_ret
  exact ⟨by rw [HR.out]; rfl, HB0.out⟩
 have g1 : (1 : Int) ≤ (nr : Int) + (ne : Int) := by omega
 have g2 : (nr : Int) + (ne : Int) ≤ 16 := by omega
 have HN := Lib.hid (And.intro h1 h2)
 clear h1 h2
 go_wp2_with fail
 refine (K1.out W0 HB0.out).mono ?_
 rintro e w1 ⟨rfl, hb1⟩
 have HB1 := Lib.hid hb1
 have HB2 := Lib.hid (HB0.out.trans (hb1.mono HB0.out.size))
 obtain ⟨y0, y1, y2⟩ := KP.out w1 hb1
 clear hb1 x0 x1 x2 K1
 cases b1 with
 | true =>
  have HR : Hid (z = 2) := Lib.hid (HZ.out.trans (if_neg (fun h => by cases h.2.1)))
  go_wp2_with fail
  go_ret
  exact ⟨by rw [HR.out]; rfl, HB2.out⟩
 | false =>
  go_wp2_with fail
  refine (K2.out w1 HB2.out).mono ?_
  rintro e w2 ⟨rfl, hb2⟩
  have HB3 := Lib.hid (HB1.out.trans (hb2.mono HB1.out.size))
  have HB4 := Lib.hid (HB0.out.trans (HB3.out.mono HB0.out.size))
  obtain ⟨z0, z1, z2⟩ := KP.out w2 HB3.out
  clear hb2 y0 y1 y2 K2
  cases b2 with
  | true =>
   have HR : Hid (z = 2) := Lib.hid (HZ.out.trans (if_neg (fun h => by cases h.2.2)))
   go_wp2_with fail
   go_ret
   exact ⟨by rw [HR.out]; rfl, HB4.out⟩
  | false =>
   have HR : Hid (z = if b3 = true then 5 else 0) := Lib.hid (HZ.out.trans (if_pos ⟨HN.out, (by first | rfl | trivial), (by first | rfl | trivial)⟩))
   go_wp2_with fail
   refine (K3.out w2 HB4.out).mono ?_
   rintro e w3 ⟨rfl, hb3⟩
   have HB5 := Lib.hid (HB4.out.trans (hb3.mono HB4.out.size))
   clear hb3 z0 z1 z2
   cases b3 with
   | true =>
    go_wp2_with fail
    go_ret
    exact ⟨by rw [HR.out]; rfl, HB5.out⟩
   | false =>
    go_wp2_with fail
    go_ret
    exact ⟨by rw [HR.out]; rfl, HB5.out⟩
set_option maxRecDepth 100000 in
set_option maxHeartbeats 2000000 in
theorem may_rest (kind : Nat) (hk1 : kind ≠ 1) (hk2 : kind ≠ 2) (_hk : kind < 256) (vR vE : Value) (pre : ByteArray) (f t tw : Nat) (z : Int) (hz : z = if kind = 3 ∧ f ≤ t ∧ 0 < tw then 0 else 2) (_hR : vR.oneCell' = true) (_hE : vE.oneCell' = true) (w : World) :
  Calls Tryz.prog 13 #[.agg (callC kind vR vE pre f t tw)] w fun e w' => e = .returned (.int .i64 z) ∧ Below w.heap.size w w' := by
 have HZ := Lib.hid hz
 obtain ⟨W0, hW0⟩ : ∃ W0, w.alloc (.cells (callC kind vR vE pre f t tw) 30) = W0 := ⟨_, rfl⟩
 obtain ⟨hz0, hblk, hB0⟩ := alloc_keep hW0
 have x0 : W0.cell? ⟨w.heap.size, 0, none⟩ = some (.int .u8 (kind : Int)) := cell_of hblk 0
 have x4 : W0.cell? ⟨w.heap.size, 4, none⟩ = some (.int .u64 (f : Int)) := cell_of hblk 4
 have x5 : W0.cell? ⟨w.heap.size, 5, none⟩ = some (.int .u64 (t : Int)) := cell_of hblk 5
 have x6 : W0.cell? ⟨w.heap.size, 6, none⟩ = some (.int .u32 (tw : Int)) := cell_of hblk 6
 have HB0 := Lib.hid hB0
 have n1 : ((kind : Int) == 1) = false := by simp; omega
 have n2 : ((kind : Int) == 2) = false := by simp; omega
 clear hB0 hblk hz0 hz
 go_enter Tryz.func13, Tryz.ntmps13
 go_upto_region 1 with fail
 clear hW0
 by_cases h3 : kind = 3
 ·have n3 : ((kind : Int) == 3) = true := by simp; omega
  by_cases hft : f ≤ t
  ·have hfi : (f : Int) ≤ (t : Int) := by omega
   by_cases htw : 0 < tw
   ·have hti : (0 : Int) < (tw : Int) := by omega
    have HR : Hid (z = 0) := Lib.hid (HZ.out.trans (if_pos ⟨h3, hft, htw⟩))
    clear h3
    go_wp2_with fail
    go_ret
    exact ⟨by rw [HR.out]; rfl, HB0.out⟩
   ·have hti : ¬ (0 : Int) < (tw : Int) := by omega
    have HR : Hid (z = 2) := Lib.hid (HZ.out.trans (if_neg (fun h => htw h.2.2)))
    clear h3
    go_wp2_with fail
    go_ret
    exact ⟨by rw [HR.out]; rfl, HB0.out⟩
  ·have hfi : ¬ (f : Int) ≤ (t : Int) := by omega
   have HR : Hid (z = 2) := Lib.hid (HZ.out.trans (if_neg (fun h => hft h.2.1)))
   clear h3
   go_wp2_with fail
   go_ret
   exact ⟨by rw [HR.out]; rfl, HB0.out⟩
 ·have n3 : ((kind : Int) == 3) = false := by simp; omega
  have HR : Hid (z = 2) := Lib.hid (HZ.out.trans (if_neg (fun h => h3 h.1)))
  clear h3
  go_wp2_with fail
  go_ret
  exact ⟨by rw [HR.out]; rfl, HB0.out⟩
theorem may_any (kind : Nat) (rds : List Rd) (eds : List Ed) (vR vE : Value) (pre : ByteArray) (f t tw : Nat) (w : World) (hk : kind < 256) (hR : IsRds w vR rds) (hE : IsEds w vE eds) (hm : MX w) (hsr : ∀ r ∈ rds, SmallRd r) (hse : ∀ x ∈ eds, SmallEd x) (hlr : rds.length ≤ 1000) (hle : eds.length ≤ 1000) (hp : pre.size ≤ 140737488351232) :
  Calls Tryz.prog 13 #[.agg (callC kind vR vE pre f t tw)] w fun e w' => e = .returned (.int .i64 (mayZ kind rds eds pre f t tw)) ∧ Below w.heap.size w w' := by
 obtain ⟨aR, cR, hvR⟩ := isl_shape hR
 obtain ⟨aE, cE, hvE⟩ := isl_shape hE
 by_cases h1 : kind = 1
 ·subst h1; exact may_one rds eds vR vE pre f t tw w hR hE hm hsr hse hlr hle
 ·by_cases h2 : kind = 2
  ·subst h2
   have := may_list vR vE pre f t tw w hm hp (by rw [hvR]; rfl) (by rw [hvE]; rfl)
   unfold mayZ
   rw [if_neg (by decide), if_pos rfl]
   exact this
  ·refine may_rest kind h1 h2 hk vR vE pre f t tw _ ?_ (by rw [hvR]; rfl) (by rw [hvE]; rfl) w
   unfold mayZ
   rw [if_neg h1, if_neg h2]
   by_cases h3 : kind = 3
   ·rw [if_pos h3]
    by_cases h4 : f ≤ t ∧ 0 < tw
    ·rw [if_pos h4, if_pos ⟨h3, h4⟩]
    ·rw [if_neg h4, if_neg (fun h => h4 h.2)]
   ·rw [if_neg h3, if_neg (fun h => h3 h.1)]
end Go.Proofs.YtggdkfijioeijaaGreatDoor
namespace Go.Proofs.YtggdkfijioeijaaGreatDoor
open Go Go.RowKit Pth
set_option maxRecDepth 100000 in
set_option maxHeartbeats 2000000 in
theorem asks_no (m kind : Nat) (rds : List Rd) (eds : List Ed) (vR vE : Value) (pre : ByteArray) (f t tw : Nat) (w : World) (hk : kind < 256) (hR : IsRds w vR rds) (hE : IsEds w vE eds) (hm : MX w) (hsr : ∀ r ∈ rds, SmallRd r) (hse : ∀ x ∈ eds, SmallEd x) (hlr : rds.length ≤ 1000) (hle : eds.length ≤ 1000) (hp : pre.size ≤ 140737488351232)
  (hno : mayZ kind rds eds pre f t tw ≠ 0) :
  Calls Tryz.prog 10 #[.pointer (some ⟨m, 0, none⟩), .agg (callC kind vR vE pre f t tw)] w fun e w' => e = .returned (.tuple #[.slice none 0 0, .int .i64 (mayZ kind rds eds pre f t tw)]) ∧ Below w.heap.size w w' := by
 have HMAY := Lib.hid (fun (W : World) (hW : Below w.heap.size w W) => may_any kind rds eds vR vE pre f t tw W hk (hR.below hW (Nat.le_refl _)) (hE.below hW (Nat.le_refl _)) (hm.below hW (Nat.le_refl _)) hsr hse hlr hle hp)
 obtain ⟨z, hz⟩ : ∃ z, mayZ kind rds eds pre f t tw = z := ⟨_, rfl⟩
 rw [hz] at HMAY hno ⊢
 have hzb : (z != 0) = true := by simpa using hno
 obtain ⟨aR, cR, rfl⟩ := isl_shape hR
 obtain ⟨aE, cE, rfl⟩ := isl_shape hE
 obtain ⟨nr, hnr⟩ : ∃ nr, rds.length = nr := ⟨_, rfl⟩
 obtain ⟨ne, hne⟩ : ∃ ne, eds.length = ne := ⟨_, rfl⟩
 rw [hnr, hne] at HMAY ⊢
 clear hR hE hm hsr hse hlr hle hp hno hz hnr hne
 obtain ⟨W0, hW0⟩ : ∃ W0, w.alloc (.cells (callC kind (.slice aR nr cR) (.slice aE ne cE) pre f t tw) 30) = W0 := ⟨_, rfl⟩
 obtain ⟨hz0, hblk, hB0⟩ := alloc_keep hW0
 have c0 : W0.cell? ⟨w.heap.size, 0, none⟩ = some (.int .u8 (kind : Int)) := cell_of hblk 0
 have c1 : W0.cell? ⟨w.heap.size, 1, none⟩ = some (.slice aR nr cR) := cell_of hblk 1
 have c2 : W0.cell? ⟨w.heap.size, 2, none⟩ = some (.slice aE ne cE) := cell_of hblk 2
 have c3 : W0.cell? ⟨w.heap.size, 3, none⟩ = some (.string pre) := cell_of hblk 3
 have c4 : W0.cell? ⟨w.heap.size, 4, none⟩ = some (.int .u64 (f : Int)) := cell_of hblk 4
 have c5 : W0.cell? ⟨w.heap.size, 5, none⟩ = some (.int .u64 (t : Int)) := cell_of hblk 5
 have c6 : W0.cell? ⟨w.heap.size, 6, none⟩ = some (.int .u32 (tw : Int)) := cell_of hblk 6
 have HB0 := Lib.hid hB0
 clear hz0 hblk hB0
 go_enter Tryz.func10, Tryz.ntmps10
 go_upto_region 3 with fail
 clear hW0
 go_wp2_with fail
 refine (HMAY.out W0 HB0.out).mono ?_
 rintro en w1 ⟨rfl, hb1⟩
 have HB1 := Lib.hid (HB0.out.trans (hb1.mono HB0.out.size))
 clear hb1 c0 c1 c2 c3 c4 c5 c6 HMAY
 go_wp2_with fail
 go_ret2
 exact ⟨rfl, HB1.out⟩
end Go.Proofs.YtggdkfijioeijaaGreatDoor
namespace Go.Proofs.YtggdkfijioeijaaGreatDoor
open Go Go.RowKit
theorem AsksAt.turn {N B bm : Nat} {W W' : World} {S : Nat → Prop} {P : Nat → Nat} {V : Nat → Nat → Value} {A : Nat → Ask} (h : AsksAt N B bm W S P V A) {s : Nat} (hs : S s) (A1 : Ask) (e1 : A1.reads = (A s).reads) (e2 : A1.readAt = (A s).readAt) (e3 : A1.edits = (A s).edits) (e4 : A1.editAt = (A s).editAt)
    (hb : ButS (fun j => j = P s) W W') (hblk : W'.heap[P s]? = some (.cells (askV A1 (V s 0) (V s 1) (V s 2) (V s 3)) 47 (0, 0))) :
    AsksAt N B bm W' S P V (fun x => if x = s then A1 else A x) := by
  have hV : (fun x => if x = s then Vn (V s) 0 1 (V s 0) (V s 1) else V x) = V := by
    funext x i
    by_cases e : x = s
    · subst e; simp only [if_pos]; unfold Vn
      by_cases i0 : i = 0
      · subst i0; simp
      · by_cases i1 : i = 1
        · subst i1; simp
        · simp [i0, i1]
    · simp only [if_neg e]
  have hbut : ButS (fun j => j = P s ∨ (V s 0).ownBlock = some j ∨ (V s 1).ownBlock = some j) W W' := hb.mono (fun k hk => Or.inl hk)
  have hrs := h.rows s hs
  have hX : ∀ i, i < 4 → ∀ g, (V s i).ownBlock = some g → ¬ (fun j => j = P s) g := fun i hi g hg => (h.own_ne hs hi hg).2 s hs
  have := h.more hs (i1 := 0) (i2 := 1) (by decide) (by decide) (u1 := V s 0) (u2 := V s 1) (A1 := A1) hbut hblk
    ⟨by show W'.ownsRow B 56 2 (V s 0) A1.reads.length (A1.reads.flatMap rdC); rw [e1]; exact row_but hrs.r0 hb (hX 0 (by decide)),
     by show W'.ownsRow B 3 1 (V s 1) A1.readAt.length (A1.readAt.flatMap ixC); rw [e2]; exact row_but hrs.r1 hb (hX 1 (by decide)),
     by show W'.ownsRow B 63 6 (V s 2) A1.edits.length (A1.edits.flatMap edC); rw [e3]; exact row_but hrs.r2 hb (hX 2 (by decide)),
     by show W'.ownsRow B 3 1 (V s 3) A1.editAt.length (A1.editAt.flatMap ixC); rw [e4]; exact row_but hrs.r3 hb (hX 3 (by decide))⟩
    (fun g hg => Or.inl hg) (fun g hg => Or.inl hg) (fun g hg hg2 => h.off s s hs hs 0 1 (by decide) (by decide) (Or.inr (by decide)) g hg hg2)
  rw [hV] at this
  exact this
end Go.Proofs.YtggdkfijioeijaaGreatDoor
namespace Go.Proofs.YtggdkfijioeijaaGreatDoor
open Go Go.RowKit Go.Maps
def LSt (nb base : Nat) (Tl Te : TypeId) (k n : Nat) (xs : List Value) (W : World) : Prop := ∃ a cp, W.heap[nb]? = some (.cells #[.slice a n cp] Tl (0, 0)) ∧ W.ownsRow base Te k (.slice a n cp) n xs
theorem LSt.grown {nb base k n : Nat} {Tl Te : TypeId} {xs : List Value} {W W' : World} {row : Option Nat} (h : LSt nb base Tl Te k n xs W) (hg : W.grownBy W' row) (hr : ∀ r, row = some r → ∃ o : Obj, W.heap[r]? = some o ∧ o.isCells = false) : LSt nb base Tl Te k n xs W' := by
 obtain ⟨a, cp, h1, h2⟩ := h
 have hne : ∀ j, (∃ C T F, W.heap[j]? = some (.cells C T F)) → some j ≠ row := fun j ⟨C, T, F, hj⟩ e => by
  obtain ⟨o, ho, hc⟩ := hr j e.symm
  rw [hj] at ho; cases ho; cases hc
 refine ⟨a, cp, (hg.block nb (lt_of_block h1) (hne nb ⟨_, _, _, h1⟩)).trans h1, h2.kept hg ?_⟩
 cases e : (Value.slice a n cp).ownBlock with
 | none => exact Or.inl rfl
 | some j => exact Or.inr (hne j (own_cells h2 j e))
theorem LSt.below {nb base k n : Nat} {Tl Te : TypeId} {xs : List Value} {W W' : World} (h : LSt nb base Tl Te k n xs W) (hb : Below W.heap.size W W') : LSt nb base Tl Te k n xs W' := h.grown (below_grown hb) (fun r e => by cases e)
theorem own_slice {w : World} {base k n cp : Nat} {Te : TypeId} {a : Option Addr} {xs : List Value} (h : w.ownsRow base Te k (.slice a n cp) n xs) : a = none ∨ ∃ g0, a = some ⟨g0, 0, none⟩ := by
 rcases h.2 with ⟨h', _⟩ | ⟨g', cap', cur, h', _⟩
 ·simp only [Value.slice.injEq] at h'; exact Or.inl h'.1
 ·simp only [Value.slice.injEq] at h'; exact Or.inr ⟨g', h'.1⟩
theorem LSt.fresh {nb base k n : Nat} {Tl Te : TypeId} {xs : List Value} {W : World} (h : LSt nb base Tl Te k n xs W) {C : Array Value} {T : TypeId} : Fr nb 0 (W.alloc (.cells C T)) W.heap.size := by
 obtain ⟨a, cp, h1, h2⟩ := h
 have hl := lt_of_block h1
 refine ⟨by omega, ⟨_, _, _, (MapKept.heap_alloc _ _).1⟩, fun g o n' c hc => ?_⟩
 rw [World.cell?_alloc_past _ _ _ hl, cell_of h1 0] at hc
 simp only [List.getElem?_toArray, List.getElem?_cons_zero, Option.some.injEq, Value.slice.injEq] at hc
 obtain ⟨rfl, _⟩ := hc
 obtain ⟨g', hg'⟩ : ∃ g0, some (⟨g, o, none⟩ : Addr) = some ⟨g0, 0, none⟩ := (own_slice h2).resolve_left (by simp)
 cases hg'
 obtain ⟨C', T', F', h3⟩ := own_cells h2 g rfl
 have := lt_of_block h3
 omega
structure LStep (nb base : Nat) (w w' : World) : Prop where
 kx : KX nb base w w'
 kr : KR nb 0 w w'
 kf : KeepsFrom base w w'
theorem lst_of {w w8 : World} {nb base k n cp : Nat} {Tl Te : TypeId} {a : Option Addr} {o : Obj} {v' : Value} {xs xs' : List Value} (hnb : nb < base) (hbw : base ≤ w.heap.size) (hB : w.heap[nb]? = some (.cells #[.slice a n cp] Tl (0, 0))) (hrow : w.ownsRow base Te k (.slice a n cp) n xs)
  (hg : (w.alloc o).grownBy w8 (Value.slice a n cp).ownBlock) (hat : v'.ownBlock = (Value.slice a n cp).ownBlock ∨ v'.ownBlock = some (w.alloc o).heap.size) (hown : w8.ownsRow base Te k v' (n + 1) xs') :
  LSt nb base Tl Te k (n + 1) xs' (w8.setCell ⟨nb, 0, none⟩ v') ∧ LStep nb base w (w8.setCell ⟨nb, 0, none⟩ v') ∧ w8.heap[nb]? = w.heap[nb]? := by
 obtain ⟨g8, cp8, rfl⟩ := ownsRow_succ hown
 have hbA : Below w.heap.size w (w.alloc o) := (Below.refl _ _).alloc (Nat.le_refl _) _
 have hA := hbA.size
 have hab := own_above2 hrow
 have ha := own_slice hrow
 have hcl := own_cells hrow
 have hb8 : w8.heap[nb]? = w.heap[nb]? := (hg.block nb (by omega) (fun e => by have := hab nb e.symm; omega)).trans (hbA.block nb (by omega))
 have c2 : w.cell? ⟨nb, 0, none⟩ = some (.slice a n cp) := cell_of hB 0
 have c8 := (World.cell?_of_block (w := w) (a := ⟨nb, 0, none⟩) hb8).trans c2
 have hs8 : w.heap.size ≤ (w8.setCell ⟨nb, 0, none⟩ (.slice (some ⟨g8, 0, none⟩) (n + 1) cp8)).heap.size := by
  rw [setCell_size]; have := hg.size; omega
 have hcn : (w8.setCell ⟨nb, 0, none⟩ (.slice (some ⟨g8, 0, none⟩) (n + 1) cp8)).cell? ⟨nb, 0, none⟩ = some (.slice (some ⟨g8, 0, none⟩) (n + 1) cp8) := World.cell?_setCell_same' _ _ _ (by rw [c8]; rfl)
 refine ⟨⟨_, _, setCell_block (hb8.trans hB) _, ownsRow_setCell_below hown (by dsimp only; omega) _⟩, ⟨?_, ⟨hs8, fun k hk => ?_, fun g o' m c' hc => ?_⟩, hs8, fun k o1 _ hk hc => ?_⟩, hb8⟩
 ·exact ((KX.of (hbA.mono hbw)).trans (KX.row hg (fun j h => hab j h) (by omega))).trans (KX.set base w8 ⟨nb, 0, none⟩ _)
 ·have h1 : (w8.setCell ⟨nb, 0, none⟩ (.slice (some ⟨g8, 0, none⟩) (n + 1) cp8)).heap[k]? = w8.heap[k]? := Below.heap_setCell w8 _ _ k hk.1
  refine h1.trans ((hg.block k (by have := hk.lt; omega) (fun e => ?_)).trans (hbA.block k hk.lt))
  rcases ha with rfl | ⟨g0, rfl⟩
  ·cases e
  ·cases e
   exact hk.2.2 g0 0 n cp c2 rfl
 ·rw [hcn] at hc
  simp only [Option.some.injEq, Value.slice.injEq, Addr.mk.injEq] at hc
  obtain ⟨⟨rfl, _⟩, _⟩ := hc
  rcases hat with h | h
  ·rcases ha with rfl | ⟨g0, rfl⟩
   ·cases h
   ·cases h
    exact Or.inr ⟨0, n, cp, c2⟩
  ·cases h
   exact Or.inl hA
 ·have hkn : k ≠ nb := fun e => by subst e; rw [hB] at hk; cases hk; cases hc
  have hkl := (Array.getElem?_eq_some_iff.1 hk).1
  refine (Below.heap_setCell w8 _ _ k hkn).trans ((hg.block k (by omega) (fun e => ?_)).trans ((hbA.block k hkl).trans hk))
  obtain ⟨C, T, F, h⟩ := hcl k e.symm
  rw [h] at hk; cases hk; cases hc
end Go.Proofs.YtggdkfijioeijaaGreatDoor
namespace Go.Proofs
open Go.Shelf
def Tryz.laysSlE043_f45_ren : Go.Shelf.Ren := ⟨fun | 43 => 45 | n => n, fun | 22 => 64 | 23 => 28 | 3 => 3 | 4 => 4 | 0 => 0 | n => n, fun | n => n⟩
theorem Tryz.laysSlE043_f45 : Go.Proofs.SlLaysE.n43 Tryz.prog Tryz.laysSlE043_f45_ren := {
 mixed := by kernel_rfl
 f43 := ⟨Tryz.f45.name, by decide, Tryz.func45.trans (congrArg some (by kernel_rfl))⟩
 t0 := Tryz.underlying0
 a0 := Tryz.isAgg0
 z0 := Tryz.sizeOf0
 v0 := Tryz.zeroValue0
 t3 := Tryz.underlying3
 a3 := Tryz.isAgg3
 z3 := Tryz.sizeOf3
 v3 := Tryz.zeroValue3
 t4 := Tryz.underlying4
 a4 := Tryz.isAgg4
 z4 := Tryz.sizeOf4
 v4 := Tryz.zeroValue4
 t22 := Tryz.underlying64
 a22 := Tryz.isAgg64
 z22 := Tryz.sizeOf64
 v22 := Tryz.zeroValue64
 a23 := Tryz.isAgg28
 z23 := Tryz.sizeOf28 }
open Go.RowKit Go.Lib in
theorem Tryz.slices_Compact_u32 (blk off cap : Nat) (d : Array Int) (w : World) (hH : Go.Sort.Holds (Value.int .u32) w blk off d) (hsz : d.size ≤ 9223372036854775807) (hcap : d.size ≤ cap) :
  Calls Tryz.prog 45 #[.slice (some ⟨blk, off, none⟩) d.size cap] w fun e w' => e = .returned (.slice (some ⟨blk, off, none⟩) (compactUpTo d d.size).length cap) ∧ ∃ q, w' = Go.Sort.putRow (Value.int .u32) (Sort.ahead w q) blk off (compactUpTo d d.size ++ List.replicate (d.size - (compactUpTo d d.size).length) 0).toArray := AnyE.slices_Compact Tryz.laysSlE043_f45 (Value.int .u32) (fun _ => rfl) (EqlAt.intD _ _ .u32) (NeqAt.intD _ _ .u32) 0 Tryz.zeroValue28 blk off cap d w hH hsz hcap
end Go.Proofs
namespace Go.Proofs.YtggdkfijioeijaaGreatDoor
open Go Go.RowKit Go.Maps
theorem compact_rise (d : Array Int) (h : d.toList.Pairwise (· ≤ ·)) : ∀ m, m ≤ d.size → (Go.Lib.compactUpTo d m).Pairwise (· < ·) ∧ (∀ x ∈ Go.Lib.compactUpTo d m, (∃ j, j < m ∧ d[j]! = x) ∧ (0 < m → x ≤ d[m - 1]!)) ∧ (∀ j, j < m → d[j]! ∈ Go.Lib.compactUpTo d m) := by
 have hle : ∀ i j, i ≤ j → j < d.size → d[i]! ≤ d[j]! := fun i j hij hj => by
  by_cases e : i = j
  ·subst e; exact Int.le_refl _
  ·have := List.pairwise_iff_getElem.1 h i j (by simpa using (by omega : i < d.size)) (by simpa using hj) (by omega)
   rw [getElem!_pos d i (by omega), getElem!_pos d j hj]
   simpa using this
 intro m
 induction m with
 | zero => intro _; exact ⟨by simp [Go.Lib.compactUpTo], fun x hx => by simp [Go.Lib.compactUpTo] at hx, fun j hj => by omega⟩
 | succ m ih =>
  intro hm
  obtain ⟨h1, h2, h3⟩ := ih (by omega)
  rw [Go.Lib.compactUpTo_succ]
  by_cases hk : Go.Lib.keeps d m = true
  ·rw [if_pos hk]
   have hlt : ∀ x ∈ Go.Lib.compactUpTo d m, x < d[m]! := fun x hx => by
    obtain ⟨⟨j, hj, _⟩, hx2⟩ := h2 x hx
    have hx3 := hx2 (by omega)
    have hne : d[m]! ≠ d[m - 1]! := by
     unfold Go.Lib.keeps at hk
     rcases of_decide_eq_true hk with h0 | h0
     ·omega
     ·exact h0
    have := hle (m - 1) m (by omega) (by omega)
    omega
   refine ⟨List.pairwise_append.2 ⟨h1, List.pairwise_singleton _ _, fun a ha b hb => ?_⟩, fun x hx => ?_, fun j hj => ?_⟩
   ·obtain rfl : b = d[m]! := by simpa using hb
    exact hlt a ha
   ·rcases List.mem_append.1 hx with hx | hx
    ·obtain ⟨⟨j, hj, e⟩, _⟩ := h2 x hx
     exact ⟨⟨j, by omega, e⟩, fun _ => by rw [Nat.add_sub_cancel]; exact Int.le_of_lt (hlt x hx)⟩
    ·obtain rfl : x = d[m]! := by simpa using hx
     exact ⟨⟨m, by omega, rfl⟩, fun _ => by rw [Nat.add_sub_cancel]; exact Int.le_refl _⟩
   ·by_cases e : j = m
    ·subst e; exact List.mem_append_right _ (by simp)
    ·exact List.mem_append_left _ (h3 j (by omega))
  ·rw [if_neg hk, List.append_nil]
   have hkk : m ≠ 0 ∧ d[m]! = d[m - 1]! := by
    have hf : ¬ (m = 0 ∨ d[m]! ≠ d[m - 1]!) := fun h => hk (by unfold Go.Lib.keeps; exact decide_eq_true h)
    exact ⟨fun h => hf (Or.inl h), Classical.byContradiction fun h => hf (Or.inr h)⟩
   refine ⟨h1, fun x hx => ?_, fun j hj => ?_⟩
   ·obtain ⟨⟨j, hj, e⟩, hx2⟩ := h2 x hx
    exact ⟨⟨j, by omega, e⟩, fun _ => by rw [Nat.add_sub_cancel, hkk.2]; exact hx2 (by omega)⟩
   ·by_cases e : j = m
    ·subst e; rw [hkk.2]; exact h3 (j - 1) (by omega)
    ·exact h3 j (by omega)
theorem below_putRow {w : World} {B g off : Nat} (enc : Int → Value) (d : Array Int) (hB : B ≤ g) : Below B w (Go.Sort.putRow enc w g off d) :=
 ⟨rfl, rfl, rfl, by rw [Go.Sort.size_putRow]; exact Nat.le_refl _, fun j hj => by
  show (w.heap.modify g _)[j]? = _
  rw [Array.getElem?_modify, if_neg (by omega)]⟩
theorem below_ahead {w : World} (B n : Nat) : Below B w (Go.Sort.ahead w n) := ⟨rfl, rfl, rfl, Nat.le_refl _, fun _ _ => rfl⟩
def ShardsG (sp : List (Nat × Nat)) (w : World) (e : Ending) (w' : World) : Prop := ∃ g cp, ∃ S : List Nat, e = .returned (.slice (some ⟨g, 0, none⟩) S.length cp) ∧ w.heap.size ≤ g ∧ g < w'.heap.size ∧ (∀ i, i < S.length → w'.cell? ⟨g, i, none⟩ = some (.int .u32 ((S.getD i 0 : Nat) : Int))) ∧
 S.Pairwise (· < ·) ∧ (∀ s, s ∈ S ↔ ∃ k, k < sp.length ∧ (sp.getD k d0).2 = s) ∧ S.length ≤ sp.length ∧ Below w.heap.size w w'
theorem ints_nats {C : List Int} {sh : List Nat} (h : ∀ x ∈ C, ∃ s ∈ sh, x = (s : Int)) : C = (C.map Int.toNat).map (fun s : Nat => (s : Int)) := by
 rw [List.map_map]
 conv => lhs; rw [← List.map_id C]
 refine List.map_congr_left fun x hx => ?_
 obtain ⟨s, _, rfl⟩ := h x hx
 simp
attribute [local go_sem] Oper.semAt_some
set_option maxRecDepth 100000 in
set_option maxHeartbeats 4000000 in
theorem map_Shards (m e : Nat) (sp : List (Nat × Nat)) (w : World) (hM : MapAt w m e sp) (hl : sp.length ≤ 100000) (O : Nat → Nat) (hS : SpI O sp M64) :
  Calls Tryz.prog 17 #[.pointer (some ⟨m, 0, none⟩)] w (ShardsG sp w) := by
 have hl1 : 1 ≤ sp.length := List.length_pos_iff.2 hS.ne
 obtain ⟨i0, hi, hz0i, hz1i, hz2i⟩ := info_parts infoW32
 refine (callsIn_wide (n := 14)).1 ?_
 refine callsIn_of_wp_marks Tryz.func17 rfl trivial ?_ rfl
 simp only [Tryz.ntmps17, List.size_toArray, List.length_cons, List.length_nil, Nat.reduceAdd, Nat.reduceSub, Array.replicate_succ, Array.replicate_zero, List.push_toArray, List.append_toArray, List.nil_append, List.cons_append]
 gi_wp2_with fail
 obtain ⟨W0, hW0⟩ : ∃ W0, w.alloc (.cells #[.slice none 0 0] 64) = W0 := ⟨_, rfl⟩
 obtain ⟨hz0', hc2, hB0⟩ := alloc_keep hW0
 have hz0 := Lib.hid hz0'
 rw [hW0]
 clear hW0
 refine ⟨trivial, (callsIn_wide.2 (map_ranges m W0)).mono ?_⟩
 rintro en w1 ⟨rfl, hw1⟩
 have hb1 : Below W0.heap.size W0 w1 := by rw [hw1]; exact (Below.refl _ _).alloc (Nat.le_refl _) _
 have hs1 : w1.heap.size = w.heap.size + 2 := by rw [hw1]; simp [hz0.out]
 have hbm : w1.cell? ⟨W0.heap.size, 0, none⟩ = some (.pointer (some ⟨m, 0, none⟩)) := by rw [hw1]; exact cell_of (MapKept.heap_alloc _ _).1 0
 have hB1 : Below w.heap.size w w1 := hB0.trans (hb1.mono hB0.size)
 have hc2' := (hb1.block w.heap.size (by have := hz0.out; omega)).trans hc2
 have hseq := ranges_stops 13 (by decide) W0.heap.size m e sp w.heap.size 0 w1 hl1 hl hS.rise hS.lt (hM.below hB1) hbm (by omega) (fun g o n c hc => by rw [cell_of hc2' 0] at hc; cases hc)
 have hL0 : LSt w.heap.size (w.heap.size + 2) 64 28 1 0 [] w1 := ⟨none, 0, hc2', World.ownsRow_nil _ _ _ _⟩
 have HSEQ := Lib.hid hseq; have HB1 := Lib.hid hB1; have HS1 := Lib.hid hs1; have HL0 := Lib.hid hL0
 clear hseq hB1 hs1 hc2' hw1 hb1 hbm hc2 hB0 hL0 hM hS hz0'
 gi_wp2_with fail
 apply wpIn_rangeFunc_ownH rfl (by decide) (gf := 74) (lb := #[.pointer (some ⟨W0.heap.size, 0, none⟩)]) rfl trivial (enters_of Tryz.func74 (by kernel_rfl) rfl)
  HSEQ.out (fun h h' => h.trans h') (fun W l o o' hl h1 h2 h3 => ?hkb) (Below.refl _ _) (fun _ => rfl)
  (fun pre W => LSt w.heap.size (w.heap.size + 2) 64 28 1 pre.length ((pre.map (fun x : Rg => (x.2.2 : Int))).map (Value.int .u32)) W ∧ KX w.heap.size (w.heap.size + 2) w1 W)
  (fun c pre W => False)
  (Ax := fun x a' W => a' = { tmps := #[.pointer (some ⟨m, 0, none⟩), undef, .pointer (some ⟨w.heap.size, 0, none⟩), undef, .int .u32 (x.2.2 : Int), .pointer (some ⟨m, 0, none⟩), .func (.func 74) #[] #[.pointer (some ⟨W0.heap.size, 0, none⟩)], .agg #[.int .u64 (x.1 : Int), .int .u64 (x.2.1 : Int)], .int .u32 (x.2.2 : Int), undef, undef, undef, undef, undef, undef, undef, undef], defers := [] })
 case hkb => exact KR.putObj o' h1 h2 (by have := HS1.out; omega)
 case hI =>
  rintro s A C row ⟨h1, h2⟩ hg hr
  exact ⟨h1.grown hg (fun r e => (hr r e).2), h2.trans (KX.row hg (fun j e => by have := (hr j e).1; have := HS1.out; omega) (by have := h2.size; have := HS1.out; omega))⟩
 case hIx => rintro c s A C row h; exact h.elim
 case h0 => exact ⟨HL0.out, KX.refl _ _ _⟩
 case hAx => rintro x a' s A C row h1 hg hr; exact h1
 case hassign =>
  rintro l pre x W K ⟨h1, h2⟩ hK
  obtain ⟨a0, cp0, hbk, hrw⟩ := id h1
  have hkk := hK { tmps := #[.pointer (some ⟨m, 0, none⟩), undef, .pointer (some ⟨w.heap.size, 0, none⟩), undef, .int .u32 (x.2.2 : Int), .pointer (some ⟨m, 0, none⟩), .func (.func 74) #[] #[.pointer (some ⟨W0.heap.size, 0, none⟩)], .agg #[.int .u64 (x.1 : Int), .int .u64 (x.2.1 : Int)], .int .u32 (x.2.2 : Int), undef, undef, undef, undef, undef, undef, undef, undef], defers := [] } W (KeepsFrom.refl _ _) (KR.below (Below.refl _ _) (lt_of_block hbk)) ⟨h1, h2⟩ rfl
  clear hrw hbk h1
  gi_wp2
  exact hkk
 case hbody =>
  rintro l pre x a' W hl hrec ⟨hL, hK⟩ rfl hpre
  have hwz : w.heap.size + 2 ≤ W.heap.size := by have := hK.size; have := HS1.out; omega
  obtain ⟨a, cp, hBb, hrow⟩ := hL
  obtain ⟨n, hn⟩ : ∃ n, pre.length = n := ⟨_, rfl⟩
  rw [hn] at hBb hrow hpre
  have r0 : W.cell? ⟨w.heap.size, 0, none⟩ = some (.slice a n cp) := cell_of hBb 0
  have q0 : W.frozen? ⟨w.heap.size, 0, none⟩ = false := frozen_of hBb 0
  obtain ⟨s1, hs1⟩ : ∃ z, x.2.2 = z := ⟨_, rfl⟩
  obtain ⟨xs, hxs⟩ : ∃ xs, (pre.map (fun x : Rg => (x.2.2 : Int))).map (Value.int .u32) = xs := ⟨_, rfl⟩
  rw [hxs] at hrow
  have HX := Lib.hid (show ((pre ++ [x]).map (fun x : Rg => (x.2.2 : Int))).map (Value.int .u32) = xs ++ [.int .u32 (s1 : Int)] by rw [← hxs, List.map_append, List.map_append, ← hs1]; rfl)
  rw [hs1]
  have HBB := Lib.hid hBb; have HROW := Lib.hid hrow; have HK := Lib.hid hK; have HN := Lib.hid hn
  clear hBb hrow hK hn hs1 hxs hrec
  gi_wp2_with (gi_at_builtin; refine wpListIn_append_own_at _ rfl _ _ 64 rfl (w.heap.size + 2) 28 i0 (.int .u32 0) 1 4 Tryz.underlying64 hi hz0i hz1i hz2i rfl (by decide) _ n xs rfl (HROW.out.alloc _) ⟨W.heap.size, 0, none⟩ 1 1 [.int .u32 (s1 : Int)] rfl rfl (cell_one_new32 _ _ _) (few_one _) (by unfold maxLen; omega) (by omega) (by simp; omega) ?_; intro v8 w8 hown8 hg8 _h8 hat8; obtain ⟨g8, cp8, rfl⟩ := ownsRow_succ hown8; obtain ⟨hl8, hst8, hb8⟩ := lst_of (by omega) hwz HBB.out HROW.out hg8 hat8 hown8; have hr8 : w8.cell? ⟨w.heap.size, 0, none⟩ = some (.slice a n cp) := (World.cell?_of_block (w := W) (a := ⟨w.heap.size, 0, none⟩) hb8).trans r0; have hq8 : w8.frozen? ⟨w.heap.size, 0, none⟩ = false := (World.frozen?_of_block (w := W) (a := ⟨w.heap.size, 0, none⟩) hb8).trans q0; have HL8 := Lib.hid hl8; have HST8 := Lib.hid hst8; clear hown8 hg8 _h8 hat8 hl8 hst8 hb8)
  refine ⟨keepsFrom_up HST8.out.kf (by have := HS1.out; omega), HST8.out.kr, ?_, HK.out.trans HST8.out.kx⟩
  rw [List.length_append, HN.out, HX.out]; exact HL8.out
 case hdone =>
  rintro D xs W hD rfl ⟨hL, hK⟩ hdef
  obtain ⟨sh, hsh⟩ : ∃ sh : List Int, (upto (nthRg sp) sp.length).map (fun x : Rg => (x.2.2 : Int)) = sh := ⟨_, rfl⟩
  have hshm : ∀ x : Int, x ∈ sh ↔ ∃ k, k < sp.length ∧ x = (((sp.getD k d0).2 : Nat) : Int) := fun x => by
   rw [← hsh]
   constructor
   ·intro h
    obtain ⟨y, hy, rfl⟩ := List.mem_map.1 h
    obtain ⟨k, hk, rfl⟩ := List.mem_map.1 hy
    exact ⟨k, List.mem_range.1 hk, rfl⟩
   ·rintro ⟨k, hk, rfl⟩
    exact List.mem_map.2 ⟨nthRg sp k, List.mem_map.2 ⟨k, List.mem_range.2 hk, rfl⟩, rfl⟩
  have hshl : sh.length = sp.length := by rw [← hsh, List.length_map, upto_length]
  rw [upto_length, hsh] at hL
  obtain ⟨n, hn⟩ : ∃ n, sp.length = n := ⟨_, rfl⟩
  rw [hn] at hL hshl hl1 hl
  obtain ⟨a, cp, hBb, hrow⟩ := hL
  obtain ⟨g, rfl, hbg, hcap, hgb⟩ : ∃ g, a = some ⟨g, 0, none⟩ ∧ w.heap.size + 2 ≤ g ∧ n ≤ cp ∧ ∃ C, W.heap[g]? = some (.cells C 28 (0, 0)) := by
   rcases hrow.2 with ⟨_, h⟩ | ⟨g', cap', cur, h', hB, hg, hc, _⟩
   ·omega
   ·simp only [Value.slice.injEq] at h'
    obtain ⟨h1, _, h3⟩ := h'
    exact ⟨g', h1, hB, by omega, cur, hg⟩
  obtain ⟨Cg, hgb⟩ := hgb
  have hsr := own_SR (g := g) (cap := cp) (l := sh) (K := .u32) (B := w.heap.size + 2) (e := 28) (w := W) (by rw [hshl]; exact hrow)
  have hgl := lt_of_block hgb
  have hDg : D ≠ g := fun e => by rw [e, hgb] at hdef; cases hdef
  have r0 : W.cell? ⟨w.heap.size, 0, none⟩ = some (.slice (some ⟨g, 0, none⟩) n cp) := cell_of hBb 0
  have HSORT := Lib.hid (uint32_Sort (S := fun k => k = g) (cap := cp) (N := n) rfl hgl hsr (by simpa using hshl) (by omega))
  have HSH := Lib.hid hshm; have HBB := Lib.hid hBb; have HK := Lib.hid hK; have HDEF := Lib.hid hdef; have HNN := Lib.hid hn; have HDG := Lib.hid hDg; have HGL := Lib.hid hgl
  clear hsh hshm hshl hn hBb hrow hK hdef hgb hsr hDg hgl
  gi_wp2_with fail
  refine ⟨trivial, (callsIn_wide.2 HSORT.out).mono ?_⟩
  rintro en W2 ⟨rfl, d', g1, g2, g3, g4⟩
  have hB2 : Below (w.heap.size + 2) W W2 := g4.but.below (fun k hk => by rw [hk]; exact hbg) (by have := HGL.out; omega)
  have hBb2 := (hB2.block w.heap.size (by omega)).trans HBB.out
  have r2 : W2.cell? ⟨w.heap.size, 0, none⟩ = some (.slice (some ⟨g, 0, none⟩) n cp) := cell_of hBb2 0
  have hcmp := Tryz.slices_Compact_u32 g 0 cp d' W2 g4.holds (by omega) (by omega)
  rw [g1] at hcmp
  have hdef2 : W2.heap[D]? = some (.deferred (some [])) := (g4.but.block D ((Array.getElem?_eq_some_iff.1 HDEF.out).1) HDG.out).trans HDEF.out
  have hgl2 : g < W2.heap.size := Nat.lt_of_lt_of_le HGL.out g4.but.size
  have hrise := compact_rise d' g3 n (by omega)
  have hmem : ∀ x : Int, x ∈ Go.Lib.compactUpTo d' n ↔ ∃ k, k < sp.length ∧ x = (((sp.getD k d0).2 : Nat) : Int) := fun x => by
   rw [← HSH.out x, ← g2.mem_iff]
   constructor
   ·intro h
    obtain ⟨⟨j, hj, rfl⟩, _⟩ := hrise.2.1 x h
    rw [getElem!_pos d' j (by omega)]; simp
   ·intro h
    obtain ⟨j, hj, rfl⟩ := List.mem_iff_getElem.1 h
    have hj' : j < d'.size := by simpa using hj
    have := hrise.2.2 j (by omega)
    rw [getElem!_pos d' j hj'] at this
    simpa using this
  have hclen : (Go.Lib.compactUpTo d' n).length ≤ n := by
   unfold Go.Lib.compactUpTo
   rw [List.length_map]
   exact Nat.le_trans (List.length_filter_le _ _) (by simp)
  obtain ⟨C, hC⟩ : ∃ C, Go.Lib.compactUpTo d' n = C := ⟨_, rfl⟩
  rw [hC] at hcmp hrise hmem hclen
  obtain ⟨cl, hcl⟩ : ∃ cl, C.length = cl := ⟨_, rfl⟩
  rw [hcl] at hcmp hclen
  have HCMP := Lib.hid hcmp; have HB2 := Lib.hid hB2; have HBB2 := Lib.hid hBb2; have HDEF2 := Lib.hid hdef2; have HRISE := Lib.hid hrise.1; have HMEM := Lib.hid hmem; have HG4 := Lib.hid g4.holds; have HG1 := Lib.hid g1; have HCL := Lib.hid hcl; have HGL2 := Lib.hid hgl2
  clear g1 g2 g3 g4 hB2 hBb2 hcmp hdef2 hrise hmem hC hcl hgl2 HSORT r0
  gi_wp2_with fail
  refine ⟨trivial, (callsIn_wide.2 HCMP.out).mono ?_⟩
  rintro en W3 ⟨rfl, nq, hW3⟩
  have hsz : (C ++ List.replicate (n - cl) 0).toArray.size = d'.size := by simp [HCL.out, HG1.out]; omega
  have hh3 := Go.Sort.holds_putRow (Value.int .u32) (Go.Sort.ahead W2 nq) g 0 d' (C ++ List.replicate (n - cl) 0).toArray HG4.out hsz
  rw [← hW3] at hh3
  have hB3 : Below (w.heap.size + 2) W2 W3 := by rw [hW3]; exact (below_ahead _ _).trans (below_putRow _ _ hbg)
  have hW3D : W3.heap[D]? = some (.deferred (some [])) := by
   rw [hW3]
   show (W2.heap.modify g _)[D]? = _
   rw [Array.getElem?_modify, if_neg (fun e => HDG.out e.symm)]
   exact HDEF2.out
  have hBb3 := (hB3.block w.heap.size (by omega)).trans HBB2.out
  have hgl3 : g < W3.heap.size := Nat.lt_of_lt_of_le HGL2.out hB3.size
  have hcell3 : ∀ i, i < cl → W3.cell? ⟨g, i, none⟩ = some (.int .u32 (C.getD i 0)) := fun i hi => by
   have h1 := (hh3 i (by simp [HCL.out]; omega)).1
   rw [Nat.zero_add] at h1
   rw [h1]
   have hi' : i < C.length := by rw [HCL.out]; exact hi
   rw [getElem!_pos _ i (by simp [HCL.out]; omega)]
   simp [List.getElem_append_left, hi', List.getD_eq_getElem?_getD]
  have r3 : W3.cell? ⟨w.heap.size, 0, none⟩ = some (.slice (some ⟨g, 0, none⟩) n cp) := cell_of hBb3 0
  have q3 : W3.frozen? ⟨w.heap.size, 0, none⟩ = false := frozen_of hBb3 0
  have HB3 := Lib.hid hB3; have HC3 := Lib.hid hcell3; have HD3 := Lib.hid hW3D; have HGL3 := Lib.hid hgl3
  clear hsz hh3 hB3 hW3D hBb3 hcell3 hW3 hgl3 r2
  gi_wp2_with fail
  obtain ⟨W4, hW4⟩ : ∃ W4, W3.setCell ⟨w.heap.size, 0, none⟩ (.slice (some ⟨g, 0, none⟩) cl cp) = W4 := ⟨_, rfl⟩
  rw [hW4]
  have hk4 : ∀ k, k ≠ w.heap.size → W4.heap[k]? = W3.heap[k]? := fun k h => by rw [← hW4]; exact Below.heap_setCell W3 ⟨w.heap.size, 0, none⟩ _ k h
  have hc4 : W4.cell? ⟨w.heap.size, 0, none⟩ = some (.slice (some ⟨g, 0, none⟩) cl cp) := by rw [← hW4]; exact World.cell?_setCell_same' _ _ _ (by rw [r3]; rfl)
  have hb4 : Below w.heap.size W3 W4 := by rw [← hW4]; exact below_set _ _ (Nat.le_refl _)
  have hdef4 : W4.heap[D]? = some (.deferred (some [])) := (hk4 D (by have := HS1.out; omega)).trans HD3.out
  have hpb : Below (w.heap.size + 2) W4 (W4.putObj D (.deferred none)) := belowK_b (w := w1) (by have := HS1.out; omega) W4 D _ _ hD hdef4 rfl rfl
  have hfin : Below w.heap.size w (W4.putObj D (.deferred none)) := (((HB1.out.trans (HK.out.below (by omega) (Nat.le_refl _))).trans ((HB2.out.mono (by omega)).trans (HB3.out.mono (by omega)))).trans hb4).trans (hpb.mono (by omega))
  have hgD : (W4.putObj D (.deferred none)).heap[g]? = W3.heap[g]? := ((grownBy_putObj' W4 D (.deferred none)).block g (by have := hb4.size; have := HGL3.out; omega) (fun e => by cases e; exact HDG.out rfl)).trans (hk4 g (by omega))
  have hnat := ints_nats (C := C) (sh := sp.map (·.2)) (fun x hx => by
   obtain ⟨k, hk, rfl⟩ := (HMEM.out x).1 hx
   refine ⟨_, List.mem_map.2 ⟨sp.getD k d0, ?_, rfl⟩, rfl⟩
   rw [List.getD_eq_getElem?_getD, List.getElem?_eq_getElem hk]; exact List.getElem_mem _)
  refine ⟨by simp, .inl ⟨_, _, rfl, run_takeDeferred hdef4, ?_⟩⟩
  have hlS : (C.map Int.toNat).length = cl := by rw [List.length_map, HCL.out]
  refine ⟨_, results_cell_one rfl _ _ w.heap.size _ rfl Tryz.underlying64 ((hpb.cell (p := ⟨w.heap.size, 0, none⟩) (by dsimp only; omega)).trans hc4), g, cp, C.map Int.toNat, by rw [hlS], by omega, by have := hpb.size; have := hb4.size; have := HGL3.out; omega, fun i hi => ?_, ?_, fun s => ?_, by rw [hlS, HNN.out]; exact hclen, hfin⟩
  ·rw [hlS] at hi
   refine (World.cell?_of_block (w := W3) (a := ⟨g, i, none⟩) hgD).trans ((HC3.out i hi).trans ?_)
   have hi' : i < C.length := by rw [HCL.out]; exact hi
   obtain ⟨k, hk, hx⟩ := (HMEM.out C[i]).1 (List.getElem_mem _)
   simp only [List.getD_eq_getElem?_getD, List.getElem?_map, List.getElem?_eq_getElem hi', Option.getD_some, Option.map_some]
   rw [hx]; simp
  ·have h1 := HRISE.out
   rw [hnat, List.pairwise_map] at h1
   exact h1.imp (fun h => by omega)
  ·constructor
   ·intro h
    obtain ⟨x, hx, rfl⟩ := List.mem_map.1 h
    obtain ⟨k, hk, rfl⟩ := (HMEM.out x).1 hx
    exact ⟨k, hk, by simp⟩
   ·rintro ⟨k, hk, rfl⟩
    exact List.mem_map.2 ⟨_, (HMEM.out _).2 ⟨k, hk, rfl⟩, by simp⟩
 case hstop =>
  rintro D c pre W _ _ h _
  exact h.elim
end Go.Proofs.YtggdkfijioeijaaGreatDoor
namespace Go.Proofs.YtggdkfijioeijaaGreatDoor
open Go Go.RowKit Pth
def lstA (pre : ByteArray) (s : Nat) : Ask := { Ask.new s with list := true, pre := pre }
def lstTo (pre : ByteArray) (SH : List Nat) (k s : Nat) : Ask := if s ∈ SH.take k then lstA pre s else Ask.new s
theorem nat_snoc {l : List Nat} {i : Nat} (h : i < l.length) : l.take (i + 1) = l.take i ++ [l.getD i 0] := by
 rw [List.take_succ_eq_append_getElem h, List.getD_eq_getElem?_getD, List.getElem?_eq_getElem h]; rfl
theorem mem_snoc {l : List Nat} {i : Nat} (h : i < l.length) (x : Nat) : x ∈ l.take (i + 1) ↔ x ∈ l.take i ∨ x = l.getD i 0 := by
 rw [nat_snoc h, List.mem_append, List.mem_singleton]
theorem list_step {N B bm : Nat} {w5 : World} {S : Nat → Prop} {P : Nat → Nat} {V : Nat → Nat → Value} {A : Nat → Ask} (h : AsksAt N B bm w5 S P V A) {s p : Nat} (hs : S s) (hp : P s = p) (pre : ByteArray) (hA : A s = Ask.new s) (X : World)
  (hX : X = (w5.drew.setCell ⟨p, 5, none⟩ (.bool true)).setCell ⟨p, 6, none⟩ (.string pre) ∨ X = (w5.drew.setCell ⟨p, 6, none⟩ (.string pre)).setCell ⟨p, 5, none⟩ (.bool true)) :
  AsksAt N B bm X S P V (fun x => if x = s then lstA pre s else A x) ∧ ButS (fun j => j = p) w5 X := by
 subst hp
 have hb := (h.blk s hs).2
 rw [hA] at hb
 have hd : w5.drew.heap[P s]? = some (.cells (askV (Ask.new s) (V s 0) (V s 1) (V s 2) (V s 3)) 47 (0, 0)) := hb
 have hbd : ButS (fun j => j = P s) w5 w5.drew := ButS.of (Below.drew (Below.refl _ _))
 have hbX : ButS (fun j => j = P s) w5 X := by
  rcases hX with rfl | rfl
  ·exact (hbd.trans (ButS.set (S := fun j => j = P s) _ rfl _)).trans (ButS.set (S := fun j => j = P s) _ rfl _)
  ·exact (hbd.trans (ButS.set (S := fun j => j = P s) _ rfl _)).trans (ButS.set (S := fun j => j = P s) _ rfl _)
 refine ⟨h.turn hs (lstA pre s) (by rw [hA]; rfl) (by rw [hA]; rfl) (by rw [hA]; rfl) (by rw [hA]; rfl) hbX ?_, hbX⟩
 rcases hX with rfl | rfl
 ·exact setCell_block (setCell_block hd _) _
 ·exact setCell_block (setCell_block hd _) _
def AsksLG (pre : ByteArray) (sp : List (Nat × Nat)) (w : World) (e : Ending) (w' : World) : Prop :=
 ∃ (v : Value) (SH : List Nat), e = .returned (.tuple #[v, .int .i64 0]) ∧ SH.Pairwise (· < ·) ∧ (∀ s, s ∈ SH ↔ ∃ k, k < sp.length ∧ (sp.getD k d0).2 = s) ∧ IsAsks w' v (SH.map (lstA pre)) ∧ Below w.heap.size w w'
theorem rise_eq : ∀ {a b : List Nat}, a.Pairwise (· < ·) → b.Pairwise (· < ·) → (∀ x, x ∈ a ↔ x ∈ b) → a = b
 | [], [], _, _, _ => rfl
 | [], y :: b, _, _, h => absurd ((h y).2 (by simp)) (by simp)
 | x :: a, [], _, _, h => absurd ((h x).1 (by simp)) (by simp)
 | x :: a, y :: b, ha, hb, h => by
  rw [List.pairwise_cons] at ha hb
  have hxy : x = y := by
   rcases List.mem_cons.1 ((h x).1 (by simp)) with e | e
   ·exact e
   ·rcases List.mem_cons.1 ((h y).2 (by simp)) with e2 | e2
    ·exact e2.symm
    ·have := ha.1 y e2; have := hb.1 x e; omega
  subst hxy
  rw [rise_eq ha.2 hb.2 (fun z => by
   have hz := h z
   rw [List.mem_cons, List.mem_cons] at hz
   constructor
   ·intro hm
    rcases hz.1 (Or.inr hm) with e | e
    ·subst e; exact absurd (ha.1 z hm) (Nat.lt_irrefl _)
    ·exact e
   ·intro hm
    rcases hz.2 (Or.inr hm) with e | e
    ·subst e; exact absurd (hb.1 z hm) (Nat.lt_irrefl _)
    ·exact e)]
set_option maxRecDepth 100000 in
set_option maxHeartbeats 4000000 in
theorem asks_list (m e : Nat) (sp : List (Nat × Nat)) (O : Nat → Nat) (aR : Option Addr) (nr cR : Nat) (aE : Option Addr) (ne cE : Nat) (pre : ByteArray) (f t tw : Nat) (w : World) (hM : MapAt w m e sp) (hl : sp.length ≤ 10000) (hS : SpI O sp M64) (hO : ∀ u, O u < 4294967296)
  (hm : MX w) (hp : pre.size ≤ 140737488351232) (hpre : prefL pre.data.toList = true) :
  Calls Tryz.prog 10 #[.pointer (some ⟨m, 0, none⟩), .agg (callC 2 (.slice aR nr cR) (.slice aE ne cE) pre f t tw)] w (AsksLG pre sp w) := by
 have HMAY := Lib.hid (fun (W : World) (hW : Below w.heap.size w W) => may_list (.slice aR nr cR) (.slice aE ne cE) pre f t tw W (hm.below hW (Nat.le_refl _)) hp rfl rfl)
 rw [if_pos hpre] at HMAY
 have HSH := Lib.hid (fun (W : World) (hW : Below w.heap.size w W) => map_Shards m e sp W (hM.below hW) (by omega) O hS)
 have H32 : Hid (∀ x ∈ sp, x.2 < 4294967296) := Lib.hid (hS.b32 hO)
 have HNE := Lib.hid (List.length_pos_iff.2 hS.ne)
 clear hM hS hO hm hp hpre
 obtain ⟨W0, hW0⟩ : ∃ W0, w.alloc (.cells (callC 2 (.slice aR nr cR) (.slice aE ne cE) pre f t tw) 30) = W0 := ⟨_, rfl⟩
 obtain ⟨hz0, hblk, hB0⟩ := alloc_keep hW0
 have hlt0 : w.heap.size < W0.heap.size := by omega
 have KP := Lib.hid (fun (W : World) (h : Below W0.heap.size W0 W) => show W.cell? ⟨w.heap.size, 0, none⟩ = some (.int .u8 ((2 : Nat) : Int)) ∧ W.cell? ⟨w.heap.size, 3, none⟩ = some (.string pre) by
  have hb := (h.block _ hlt0).trans hblk
  exact ⟨cell_of hb 0, cell_of hb 3⟩)
 have c0 : W0.cell? ⟨w.heap.size, 0, none⟩ = some (.int .u8 ((2 : Nat) : Int)) := cell_of hblk 0
 have c1 : W0.cell? ⟨w.heap.size, 1, none⟩ = some (.slice aR nr cR) := cell_of hblk 1
 have c2 : W0.cell? ⟨w.heap.size, 2, none⟩ = some (.slice aE ne cE) := cell_of hblk 2
 have c3 : W0.cell? ⟨w.heap.size, 3, none⟩ = some (.string pre) := cell_of hblk 3
 have c4 : W0.cell? ⟨w.heap.size, 4, none⟩ = some (.int .u64 (f : Int)) := cell_of hblk 4
 have c5 : W0.cell? ⟨w.heap.size, 5, none⟩ = some (.int .u64 (t : Int)) := cell_of hblk 5
 have c6 : W0.cell? ⟨w.heap.size, 6, none⟩ = some (.int .u32 (tw : Int)) := cell_of hblk 6
 have HB0 := Lib.hid hB0
 clear hz0 hblk hB0 hlt0
 go_enter Tryz.func10, Tryz.ntmps10
 go_upto_region 3 with fail
 clear hW0
 go_wp2_with fail
 refine (HMAY.out W0 HB0.out).mono ?_
 rintro en w1 ⟨rfl, hb1⟩
 obtain ⟨x0, x3⟩ := KP.out w1 hb1
 have HB1 := Lib.hid hb1
 clear hb1 c0 c1 c2 c3 c4 c5 c6 HMAY
 have hmm := @run_makeMap Tryz.prog
 go_upto_region 8 with fail
 obtain ⟨W2, hW2⟩ : ∃ W2, (w1.alloc (.map #[] 0)).alloc (.cells #[.map (some w1.heap.size)] 93) = W2 := ⟨_, rfl⟩
 obtain ⟨bm, hbm⟩ : ∃ bm, w1.heap.size = bm := ⟨_, rfl⟩
 have hA0 : ∀ (SH : List Nat) (B : Nat), AsksAt 0 B bm W2 (fun s => s ∈ SH.take 0) (fun _ => 0) (fun _ _ => undef) (lstTo pre SH 0) := fun SH B => by
  have hno : ∀ s, ¬ s ∈ SH.take 0 := fun s h => by simp at h
  refine ⟨⟨.map [], 0, ?_, Nat.le_refl _, fun z => ?_, fun s hs => absurd hs (hno s)⟩, fun s hs => absurd hs (hno s), fun s hs => absurd hs (hno s), fun s _ hs => absurd hs (hno s), fun s _ hs => absurd hs (hno s)⟩
  ·rw [← hW2, ← hbm]
   exact ownsMap_below (World.ownsMap_made w1 _ _ _) ((Below.refl _ _).alloc (Nat.le_refl _) _)
  ·constructor
   ·intro h; simp [Maps.has] at h
   ·rintro ⟨s, hs, _⟩; exact absurd hs (hno s)
 have hz2 : W2.heap.size = bm + 2 := by rw [← hW2, ← hbm]; simp
 have hby : W2.heap[bm + 1]? = some (.cells #[.map (some bm)] 93 (0, 0)) := by
  rw [← hW2, ← hbm]
  have h := (MapKept.heap_alloc (w1.alloc (.map #[] 0)) (.cells #[.map (some w1.heap.size)] 93)).1
  simpa using h
 have hb2 : Below bm w1 W2 := by rw [← hW2, ← hbm]; exact ((Below.refl _ _).alloc (Nat.le_refl _) _).alloc (by simp) _
 rw [hW2, hbm]
 have HA0 := Lib.hid hA0; have HBY := Lib.hid hby; have HB2 := Lib.hid hb2; have HZ2 := Lib.hid hz2; have HBM := Lib.hid hbm
 obtain ⟨y0, y3⟩ := KP.out W2 (HB1.out.trans (hb2.mono (by rw [← hbm]; exact HB1.out.size)))
 have HB1m : Hid (Below w.heap.size w w1) := Lib.hid (HB0.out.trans (HB1.out.mono HB0.out.size))
 have HWM : Hid (W0.heap.size ≤ bm ∧ w.heap.size ≤ bm) := Lib.hid ⟨by rw [← hbm]; exact HB1.out.size, by rw [← hbm]; exact HB1m.out.size⟩
 have HBW2 := Lib.hid (HB1m.out.trans (hb2.mono (by rw [← hbm]; exact HB1m.out.size)))
 clear hA0 hby hb2 hz2 hW2 hbm x0 x3 hmm
 go_wp2_with fail
 refine (HSH.out _ HBW2.out).mono ?_
 rintro en w3 ⟨gS, cS, SH, rfl, hgS0, hgS, hcS, hris, hmem, hlen, hb3⟩
 have hA3 := (HA0.out SH w3.heap.size).below hb3
 have hby3 := (hb3.block (bm + 1) (Array.getElem?_eq_some_iff.1 HBY.out).1).trans HBY.out
 obtain ⟨n, hn⟩ : ∃ n, SH.length = n := ⟨_, rfl⟩
 have H32S : Hid (∀ i, i < n → SH.getD i 0 < 4294967296) := Lib.hid (fun i hi => by
  have hs : SH.getD i 0 ∈ SH := by rw [List.getD_eq_getElem?_getD, List.getElem?_eq_getElem (by omega)]; exact List.getElem_mem _
  obtain ⟨k, hk, e⟩ := (hmem _).1 hs
  rw [← e]
  exact H32.out _ (by rw [List.getD_eq_getElem?_getD, List.getElem?_eq_getElem hk]; exact List.getElem_mem _))
 have HB3 : Hid (Below bm w1 w3) := Lib.hid (HB2.out.trans (hb3.mono (by have := HZ2.out; omega)))
 rw [hn] at hcS hlen ⊢
 have HCS := Lib.hid hcS; have HGS := Lib.hid hgS; have HRIS := Lib.hid hris; have HMEM := Lib.hid hmem; have HN := Lib.hid hn; have HA3 := Lib.hid hA3; have HBY3 := Lib.hid hby3
 have hn0 : n ≤ 10000 := by omega
 have HG0 : Hid (bm + 2 ≤ gS ∧ gS < w3.heap.size) := Lib.hid ⟨by have := HZ2.out; omega, hgS⟩
 clear hcS hgS hgS0 hris hmem hn hA3 hby3 hb3 y0 y3 HA0 HSH
 go_wp2_with fail
 go_loopw [107] (fun vi wr => ∃ (k : Nat) (P : Nat → Nat) (V : Nat → Nat → Value), k ≤ n ∧ vi = .int .i64 k ∧ Hid (AsksAt k w3.heap.size bm wr (fun s => s ∈ SH.take k) P V (lstTo pre SH k)) ∧ Hid (Below bm w1 wr) ∧ Hid (w3.heap.size ≤ wr.heap.size ∧ ∀ i, i < n → wr.cell? ⟨gS, i, none⟩ = some (.int .u32 ((SH.getD i 0 : Nat) : Int))) ∧ Hid (wr.heap[bm + 1]? = some (.cells #[.map (some bm)] 93 (0, 0)))) (fun vi _ => n - (intOf vi).toNat)
 case atStart => exact ⟨0, _, _, Nat.zero_le _, rfl, HA3, HB3, Lib.hid ⟨Nat.le_refl _, HCS.out⟩, HBY3⟩
 case round =>
  clear HA3 HB3 HCS HBY3
  obtain ⟨k, P, V, hk, rfl, HA, HB, HC, HBY3⟩ := hrel
  by_cases hlt : k < n
  ·have hki : (k : Int) < (n : Int) := by omega
   have hkl : k < SH.length := by rw [HN.out]; exact hlt
   have hg := HC.out.2 k hlt
   obtain ⟨s, hs⟩ : ∃ s, SH.getD k 0 = s := ⟨_, rfl⟩
   rw [hs] at hg
   have hs32 : s < 4294967296 := hs ▸ H32S.out k hlt
   have hms := fun x => mem_snoc hkl x
   rw [hs] at hms
   have HMS := Lib.hid hms; have HS := Lib.hid hs
   clear hkl hms hs
   have hnin : ¬ s ∈ SH.take k := fun h => by
    obtain ⟨i, hi, e⟩ := List.mem_iff_getElem.1 h
    have hi2 : i < k ∧ i < SH.length := by have := hi; rw [List.length_take] at this; omega
    rw [List.getElem_take] at e
    have h2 := List.pairwise_iff_getElem.1 HRIS.out i k hi2.2 (by have := HN.out; omega) hi2.1
    have e3 : SH[k]'(by have := HN.out; omega) = s := by have := HS.out; rw [List.getD_eq_getElem?_getD, List.getElem?_eq_getElem (by have := HN.out; omega)] at this; exact this
    omega
   have hnew : lstTo pre SH k s = Ask.new s := by unfold lstTo; rw [if_neg hnin]
   have HNEW := Lib.hid hnew
   have hbml := (Array.getElem?_eq_some_iff.1 HBY3.out).1
   have z0 := cell_of HBY3.out 0
   have HOFF := Lib.hid (asks_of k w3.heap.size bm (bm + 1) s hs32 _ P V _ wr z0 HA.out (by omega) (fun _ => hnew) HC.out.1)
   clear hnin hnew
   go_wp2_with fail
   refine HOFF.out.mono ?_
   rintro en w5 ⟨P', V', rfl, hA5, hbut5, hV5⟩
   have hSs : (fun x => x ∈ SH.take k ∨ x = s) s := Or.inr rfl
   have hw5 : Below bm wr w5 := hbut5.below (fun k hk => by have h : k = bm := hk; omega) (by omega)
   have hb5 := (hA5.blk s hSs).2
   rw [HNEW.out] at hb5
   have hbm5 := (hA5.blk s hSs).1
   have HX5 := Lib.hid (list_step hA5 hSs rfl pre HNEW.out)
   have hK5 := KP.out w5 (HB1.out.trans ((HB.out.trans (hw5.mono (Nat.le_refl _))).mono HWM.out.1))
   have HFIN : Hid (∀ X, (X = (w5.drew.setCell ⟨P' s, 5, none⟩ (.bool true)).setCell ⟨P' s, 6, none⟩ (.string pre) ∨ X = (w5.drew.setCell ⟨P' s, 6, none⟩ (.string pre)).setCell ⟨P' s, 5, none⟩ (.bool true)) → AsksAt (k + 1) w3.heap.size bm X (fun s => s ∈ SH.take (k + 1)) P' V' (lstTo pre SH (k + 1)) ∧ Below bm w1 X ∧ (w3.heap.size ≤ X.heap.size ∧ ∀ i, i < n → X.cell? ⟨gS, i, none⟩ = some (.int .u32 ((SH.getD i 0 : Nat) : Int))) ∧ X.heap[bm + 1]? = some (.cells #[.map (some bm)] 93 (0, 0))) := Lib.hid (fun X hX => by
    obtain ⟨h1, h2⟩ := HX5.out X hX
    have hsz := hbut5.size
    have hg := HG0.out
    have hc1 := HC.out.1
    refine ⟨?_, (HB.out.trans hw5).trans (h2.below (fun j hj => by have h : j = P' s := hj; omega) (by have := HB.out.size; omega)), ⟨by have := h2.size; omega, fun i hi => ?_⟩, ?_⟩
    ·have e : (fun x => if x = s then lstA pre s else lstTo pre SH k x) = lstTo pre SH (k + 1) := funext fun x => by
      unfold lstTo
      by_cases e : x = s
      ·rw [if_pos e, if_pos ((HMS.out x).2 (Or.inr e)), e]
      ·rw [if_neg e]
       by_cases e2 : x ∈ SH.take k
       ·rw [if_pos e2, if_pos ((HMS.out x).2 (Or.inl e2))]
       ·rw [if_neg e2, if_neg (fun h => ((HMS.out x).1 h).elim e2 e)]
     rw [← e]
     exact h1.same (fun x => HMS.out x)
    ·have q1 := hbut5.cell (p := ⟨gS, i, none⟩) (by show gS < wr.heap.size; omega) (by show ¬ gS = bm; omega)
     have q2 := h2.cell (p := ⟨gS, i, none⟩) (by show gS < w5.heap.size; omega) (by show ¬ gS = P' s; omega)
     exact q2.trans (q1.trans (HC.out.2 i hi))
    ·have q1 := (hbut5.block (bm + 1) hbml (by show ¬ bm + 1 = bm; omega)).trans HBY3.out
     exact (h2.block (bm + 1) (Array.getElem?_eq_some_iff.1 q1).1 (by show ¬ bm + 1 = P' s; omega)).trans q1)
   obtain ⟨p, hp⟩ : ∃ p, P' s = p := ⟨_, rfl⟩
   rw [hp] at hb5 HFIN ⊢
   have x3 := hK5.2
   have b5 := cell_of hb5 5; have b6 := cell_of hb5 6; have f5 := frozen_of hb5 5; have f6 := frozen_of hb5 6
   clear hw5 hb5 hbm5 hK5 hbut5 hV5 hA5 hp hSs HOFF hg z0 HX5 hbml
   go_upto_region 26 with fail
   go_region_with (fail)
   all_goals (
    go_wp2_with fail
    go_roundw
    case measure => simp [intOf]; omega
    case rel => first
     | exact ⟨k + 1, P', V', by omega, by go_num, Lib.hid (HFIN.out _ (Or.inl rfl)).1, Lib.hid (HFIN.out _ (Or.inl rfl)).2.1, Lib.hid (HFIN.out _ (Or.inl rfl)).2.2.1, Lib.hid (HFIN.out _ (Or.inl rfl)).2.2.2⟩
     | exact ⟨k + 1, P', V', by omega, by go_num, Lib.hid (HFIN.out _ (Or.inr rfl)).1, Lib.hid (HFIN.out _ (Or.inr rfl)).2.1, Lib.hid (HFIN.out _ (Or.inr rfl)).2.2.1, Lib.hid (HFIN.out _ (Or.inr rfl)).2.2.2⟩)
  ·have hki : ¬ (k : Int) < (n : Int) := by omega
   obtain rfl : k = n := by omega
   have htk : SH.take k = SH := List.take_of_length_le (by rw [HN.out]; exact Nat.le_refl _)
   have hA := HA.out
   rw [htk] at hA
   have HASKED := Lib.hid (plan_asked k w3.heap.size bm wr _ P V _ hA (by omega) ⟨(sp.getD 0 d0).2, (HMEM.out _).2 ⟨0, HNE.out, rfl⟩⟩ (fun s hs => by
    obtain ⟨q, hq, e⟩ := (HMEM.out s).1 hs
    rw [← e]
    exact H32.out _ (by rw [List.getD_eq_getElem?_getD, List.getElem?_eq_getElem hq]; exact List.getElem_mem _)))
   have HTK := Lib.hid htk
   have z0 := cell_of HBY3.out 0
   have HBw : Hid (Below w.heap.size w wr) := Lib.hid (HB1m.out.trans (HB.out.mono HWM.out.2))
   clear hA htk
   go_wp2_with fail
   refine HASKED.out.mono ?_
   rintro en w6 ⟨v6, ss, rfl, h1, h2, h3, hb6⟩
   obtain rfl := rise_eq h1 HRIS.out h2
   have H3 : Hid (IsAsks w6 v6 (ss.map (lstA pre))) := Lib.hid (by
    have e : ss.map (lstTo pre ss k) = ss.map (lstA pre) := List.map_congr_left fun s hs => by
     unfold lstTo; rw [HTK.out, if_pos hs]
    rw [← e]; exact h3)
   have HB6 := Lib.hid (HBw.out.trans (hb6.mono HBw.out.size))
   clear h1 h2 h3 hb6 HASKED z0
   go_wp2_with fail
   go_ret2
   exact ⟨v6, ss, rfl, HRIS.out, HMEM.out, H3.out, HB6.out⟩
end Go.Proofs.YtggdkfijioeijaaGreatDoor
namespace Go.Proofs.YtggdkfijioeijaaGreatDoor
open Go Go.RowKit Go.Maps
def OfR2 (N B bm : Nat) (S : Nat → Prop) (P : Nat → Nat) (A : Nat → Ask) (s : Nat) (w : World) (e : Ending) (w' : World) : Prop :=
 ∃ P' V', e = .returned (.pointer (some ⟨P' s, 0, none⟩)) ∧ AsksAt (N + 1) B bm w' (fun x => S x ∨ x = s) P' V' A ∧ ButS (fun k => k = bm) w w' ∧ ∀ x, S x → P' x = P x
set_option maxRecDepth 100000 in
set_option maxHeartbeats 2000000 in
theorem asks_of2 (N B bm by_ s : Nat) (hs : s < 4294967296) (S : Nat → Prop) (P : Nat → Nat) (V : Nat → Nat → Value) (A : Nat → Ask) (w : World) (hby : w.cell? ⟨by_, 0, none⟩ = some (.map (some bm))) (h : AsksAt N B bm w S P V A) (hN : N < 1000000) (hA : ¬ S s → A s = Ask.new s) (hB : B ≤ w.heap.size) :
  Calls Tryz.prog 29 #[.int .u32 (s : Int), .pointer (some ⟨by_, 0, none⟩)] w (OfR2 N B bm S P A s w) := by
 obtain ⟨es0, c0, hmb⟩ := h.map_block
 have hbl : bm < w.heap.size := (Array.getElem?_eq_some_iff.1 hmb).1
 by_cases hS : S s
 ·have hl := h.map.hit s hs hS
  have HH := Lib.hid h; have HS := Lib.hid hS
  clear h hmb hA
  go_enter Tryz.func29, Tryz.ntmps29
  go_wp2_with fail
  go_ret
  exact ⟨P, V, rfl, (HH.out.grow (Nat.le_succ N)).same (fun x => ⟨fun h => h.elim id (fun e => e ▸ HS.out), Or.inl⟩), ButS.refl _, fun _ _ => rfl⟩
 ·have hl := h.map.miss s hs hS
  obtain ⟨W, hW⟩ : ∃ W, w.alloc (.cells (askV (Ask.new s) (.slice none 0 0) (.slice none 0 0) (.slice none 0 0) (.slice none 0 0)) 47) = W := ⟨_, rfl⟩
  obtain ⟨hz, hg, hbW⟩ := alloc_keep hW
  have hWr : AsksAt N B bm W S P V A := h.below hbW
  obtain ⟨w2, hrun, hby2, hg2⟩ := hWr.map.put hN s hs w.heap.size
  have hbl2 : by_ < w.heap.size := block_lt_of_cell hby
  have hbyW : W.cell? ⟨by_, 0, none⟩ = some (.map (some bm)) := (hbW.cell (p := ⟨by_, 0, none⟩) hbl2).trans hby
  have hne : by_ ≠ bm := fun e => by
   rw [e] at hby; unfold World.cell? at hby; rw [hmb] at hby; simp at hby
  have hby3 : w2.cell? ⟨by_, 0, none⟩ = some (.map (some bm)) := (hg2.cell_far ⟨by_, 0, none⟩ (by show by_ < _; omega) (by simpa using hne)).trans hbyW
  have hl2 := hby2.hit s hs (Or.inr rfl)
  have hbut : ButS (fun k => k = bm) w w2 := (ButS.of hbW).trans (ButS.grown hg2 rfl)
  have hbutW : ButS (fun k => k = bm) W w2 := ButS.grown hg2 rfl
  have hold : ∀ x, S x → x ≠ s := fun x hx e => hS (e ▸ hx)
  have hPlt : ∀ x, S x → P x < w.heap.size := fun x hx => (Array.getElem?_eq_some_iff.1 (h.blk x hx).2).1
  have hfin : AsksAt (N + 1) B bm w2 (fun x => S x ∨ x = s) (fun x => if x = s then w.heap.size else P x) (fun x => if x = s then fun _ => .slice none 0 0 else V x) A := by
   refine ⟨hby2, fun x hx => ?_, fun x hx => ?_, fun x y hx hy hxy => ?_, fun x y hx hy i j hi hj hxy g hg' => ?_⟩
   ·by_cases e : x = s
    ·subst e
     simp only
     rw [hA hS]
     exact ⟨hB, (hg2.block w.heap.size (by omega) (by simp; omega)).trans hg⟩
    ·simp only [if_neg e]
     have hx' := hx.resolve_right e
     have hb1 := (hWr.blk x hx').2
     refine ⟨(hWr.blk x hx').1, (hg2.block _ (Array.getElem?_eq_some_iff.1 hb1).1 (fun e2 => ?_)).trans hb1⟩
     cases e2
     have h3 := (h.blk x hx').2
     rw [hmb] at h3; cases h3
   ·by_cases e : x = s
    ·subst e
     simp only
     rw [hA hS]
     exact ⟨World.ownsRow_nil _ _ _ _, World.ownsRow_nil _ _ _ _, World.ownsRow_nil _ _ _ _, World.ownsRow_nil _ _ _ _⟩
    ·simp only [if_neg e]
     have hx' := hx.resolve_right e
     refine (hWr.rows x hx').but hbutW (fun i hi g hg' e2 => ?_)
     obtain ⟨_, C, T, h3, _⟩ := (h.rows x hx').block hi hg'
     rw [e2, hmb] at h3; cases h3
   ·by_cases e : x = s
    ·subst e
     have hy' := hy.resolve_right (Ne.symm hxy)
     rw [if_pos rfl, if_neg (Ne.symm hxy)]
     have := hPlt y hy'; omega
    ·rw [if_neg e]
     have hx' := hx.resolve_right e
     by_cases e2 : y = s
     ·rw [if_pos e2]; have := hPlt x hx'; omega
     ·rw [if_neg e2]; exact h.inj x y hx' (hy.resolve_right e2) hxy
   ·by_cases e : x = s
    ·simp only [if_pos e] at hg'; cases hg'
    ·simp only [if_neg e] at hg'
     by_cases e2 : y = s
     ·simp only [if_pos e2]; intro h3; cases h3
     ·simp only [if_neg e2]; exact h.off x y (hx.resolve_right e) (hy.resolve_right e2) i j hi hj hxy g hg'
  have HF := Lib.hid hfin; have HBU := Lib.hid hbut
  have HRUN : Hid ((Instr.mapUpdate 93 (.map (some bm)) (.int .u32 (s : Int)) (.pointer (some ⟨w.heap.size, 0, none⟩))).run Tryz.prog (w.alloc (.cells #[.int .u32 (s : Int), .slice none 0 0, .slice none 0 0, .slice none 0 0, .slice none 0 0, .bool false, .string ⟨#[]⟩, .bool false, .bool false, .int .u64 0, .int .u64 0] 47)) = .ok () w2) := Lib.hid (by rw [← hW] at hrun; exact hrun)
  simp only [if_pos] at hl2
  have HL2 := Lib.hid hl2
  have HB3 := Lib.hid hby3
  clear h hmb hA hWr hby2 hg2 hbl2 hne hbut hbutW hold hPlt hfin hz hg hbW hl2 hrun hW hbyW hby3
  have hrun := HRUN.out; have hby3 := HB3.out; have hl2 := HL2.out
  go_enter Tryz.func29, Tryz.ntmps29
  go_wp2_with fail
  go_ret
  exact ⟨fun x => if x = s then w.heap.size else P x, _, show Ending.returned (.pointer (some ⟨w.heap.size, 0, none⟩)) = .returned (.pointer (some ⟨if s = s then w.heap.size else P s, 0, none⟩)) by rw [if_pos rfl], HF.out, HBU.out, fun x hx => if_neg (fun e => hS (by rw [← e]; exact hx))⟩
end Go.Proofs.YtggdkfijioeijaaGreatDoor
