/- Plan: what shards tell, and what is put together of it: data; maps from places; fits. Contract: plan.Merge, where what is told fits and each read and edit is there. A range, and a slice of strings that came in, opened for this seat's walks. Law 28: World, of no moves: a map of a ring of few shards, the program's and the document's. Contracts: ref27.Map's end, Owner, whose, add. Contracts: ref27.Map's whose; ref27's add. Contract: ref27.Map's Split. -/
import Derived.Test.YtggdkfijioeijaaGreatDoorQb00
import Derived.Test.YtggdkfijioeijaaGreatDoorQb11
import Derived.Test.YtggdkfijioeijaaGreatDoorQb12
import Derived.Test.YtggdkfijioeijaaGreatDoorQb13
import Derived.Lib.SmallJoins
import Derived.Deep.AppendLies
import Derived.Deep.RegionLaw
namespace Go.Proofs.YtggdkfijioeijaaGreatDoor
open Go Go.RowKit Go.Maps
structure Gt where
 n : Nat
 st : Nat
 tx : ByteArray
 er : Int
def dGt : Gt := ⟨0, 0, ByteArray.empty, 0⟩
def gtC (g : Gt) : List Value := [.int .u64 (g.n : Int), .int .u8 (g.st : Int), .string g.tx, .int .i64 g.er]
theorem gtC_len (g : Gt) : (gtC g).length = 4 := rfl
def gtV (g : Gt) : Value := .agg #[.int .u64 (g.n : Int), .int .u8 (g.st : Int), .string g.tx, .int .i64 g.er]
def nuC (n : Nat) : List Value := [.int .u64 (n : Int)]
theorem nuC_len (n : Nat) : (nuC n).length = 1 := rfl
def naC (s : ByteArray) : List Value := [.string s]
theorem naC_len (s : ByteArray) : (naC s).length = 1 := rfl
abbrev IsGts (w : World) (v : Value) (l : List Gt) : Prop := IsL 4 gtC dGt w v l
abbrev IsNus (w : World) (v : Value) (l : List Nat) : Prop := IsL 1 nuC 0 w v l
abbrev IsNas (w : World) (v : Value) (l : List ByteArray) : Prop := IsL 1 naC ByteArray.empty w v l
structure Tl where
 shard : Nat
 got : List Gt
 nums : List Nat
 names : List ByteArray
def dTl : Tl := ⟨0, [], [], []⟩
abbrev tlV (T : Tl) (v1 v2 v3 : Value) : Array Value := #[.int .u32 (T.shard : Int), v1, v2, v3]
def IsTold (w : World) (v : Value) (l : List Tl) : Prop :=
 ∃ a cp, v = .slice a l.length cp ∧ (l = [] ∨ ∃ b off, a = some ⟨b, off, none⟩ ∧ b < w.heap.size ∧ ∀ i, i < l.length → ∃ v1 v2 v3, (∀ j u, (tlV (l.getD i dTl) v1 v2 v3)[j]? = some u → w.cell? ⟨b, off + i * 4 + j, none⟩ = some u) ∧
  IsGts w v1 (l.getD i dTl).got ∧ IsNus w v2 (l.getD i dTl).nums ∧ IsNas w v3 (l.getD i dTl).names)
theorem IsTold.below {w w' : World} {v : Value} {l : List Tl} {B : Nat} (h : IsTold w v l) (hb : Below B w w') (hB : w.heap.size ≤ B) : IsTold w' v l := by
 obtain ⟨a, cp, rfl, h⟩ := h
 refine ⟨a, cp, rfl, ?_⟩
 rcases h with h | ⟨b, off, rfl, hlt, hc⟩
 ·exact Or.inl h
 ·refine Or.inr ⟨b, off, rfl, by have := hb.size; omega, fun i hi => ?_⟩
  obtain ⟨v1, v2, v3, h0, h1, h2, h3⟩ := hc i hi
  exact ⟨v1, v2, v3, fun j u hu => (hb.cell (p := ⟨b, off + i * 4 + j, none⟩) (by dsimp only; omega)).trans (h0 j u hu), h1.below hb hB, h2.below hb hB, h3.below hb hB⟩
structure FitsT (A : Ask) (T : Tl) : Prop where
 sh : A.shard = T.shard
 g1 : A.reads.length = T.got.length
 g2 : A.readAt.length = T.got.length
 e1 : A.edits.length = T.nums.length
 e2 : A.editAt.length = T.nums.length
 na : A.list = true ∨ T.names.length = 0
set_option maxRecDepth 100000 in
set_option maxHeartbeats 4000000 in
theorem fits_ok (s n1 n2 nn c1 c2 c3 c4 d1 d2 d3 f t : Nat) (a1 a2 a3 a4 b1 b2 b3 : Option Addr) (li gi ta : Bool) (pre : ByteArray) (h : li = true ∨ nn = 0) (w : World) :
  Calls Tryz.prog 46 #[.agg #[.int .u32 (s : Int), .slice a1 n1 c1, .slice a2 n1 c2, .slice a3 n2 c3, .slice a4 n2 c4, .bool li, .string pre, .bool gi, .bool ta, .int .u64 (f : Int), .int .u64 (t : Int)], .agg #[.int .u32 (s : Int), .slice b1 n1 d1, .slice b2 n2 d2, .slice b3 nn d3]] w
   fun e w' => e = .returned (.bool true) ∧ Below w.heap.size w w' := by
 cases li with
 | true =>
  clear h
  go_enter Tryz.func46, Tryz.ntmps46
  go_wp2_with fail
  go_ret
  exact ⟨rfl, ((Below.refl _ _).alloc (Nat.le_refl _) _).alloc (by simp) _⟩
 | false =>
  obtain rfl : nn = 0 := h.resolve_left (by decide)
  go_enter Tryz.func46, Tryz.ntmps46
  go_wp2_with fail
  go_ret
  exact ⟨rfl, ((Below.refl _ _).alloc (Nat.le_refl _) _).alloc (by simp) _⟩
abbrev kI (z : Int) : Lit := .int .i64 z
theorem i64wf {q : Nat} (h : q < 4611686018427387904) : (Lit.int .i64 (q : Int)).wf = true := by
 simp [Lit.wf, IntKind.min, IntKind.max, IntKind.signed, IntKind.bits]; omega
def ByF (N bm : Nat) (w : World) (G : Nat → Option Value) : Prop :=
 ∃ (D : DataW Value) (nn : Nat), w.ownsMap Tryz.prog 3 heldR bm nn D ∧ nn ≤ N ∧ ∀ z : Nat, (has D (kI (z : Int)) = true ↔ G z ≠ none) ∧ ∀ v, G z = some v → D.atKey (kI (z : Int)) .nil = .held v
theorem ByF.below {N bm : Nat} {w w' : World} {G : Nat → Option Value} (h : ByF N bm w G) (hb : Below w.heap.size w w') : ByF N bm w' G := by
 obtain ⟨D, nn, ho, hr⟩ := h
 exact ⟨D, nn, ownsMap_below ho hb, hr⟩
theorem ByF.but {N bm : Nat} {w w' : World} {G : Nat → Option Value} {X : Nat → Prop} (h : ByF N bm w G) (hb : ButS X w w') (hX : ¬ X bm) : ByF N bm w' G := by
 obtain ⟨D, nn, ⟨es, clock, h1, F, hs, hD⟩, hr⟩ := h
 exact ⟨D, nn, ⟨es, clock, (hb.block bm (Array.getElem?_eq_some_iff.1 h1).1 hX).trans h1, F, hs, hD⟩, hr⟩
theorem ByF.lt {N bm : Nat} {w : World} {G : Nat → Option Value} (h : ByF N bm w G) : bm < w.heap.size := by
 obtain ⟨D, nn, ho, _⟩ := h; exact ho.lt
theorem ByF.made (w : World) : ByF 0 w.heap.size (w.alloc (.map #[] 0)) (fun _ => none) :=
 ⟨.map [], 0, World.ownsMap_made w _ _ _, Nat.le_refl _, fun z => ⟨⟨fun h => (by simp [has] at h), fun h => absurd rfl h⟩, fun v h => (by cases h)⟩⟩
set_option maxRecDepth 100000 in
theorem ByF.put {N bm : Nat} {w : World} {G : Nat → Option Value} (h : ByF N bm w G) (hN : N < 1000000000) {T e : TypeId} (hT : Tryz.prog.underlying T = some (.map 3 e)) (s : Nat) (hs : s < 4611686018427387904) (v : Value) :
  ∃ w2, (Instr.mapUpdate T (.map (some bm)) (.int .i64 (s : Int)) v).run Tryz.prog w = .ok () w2 ∧ ByF (N + 1) bm w2 (fun x => if x = s then some v else G x) ∧ w.grownBy w2 (some bm) := by
 obtain ⟨D, nn, ho, hn, hh⟩ := h
 obtain ⟨w2, hrun, ho2, hg2⟩ := ho.update (int_keyed Tryz.underlying3) hT (by unfold maxLen; omega) (keyOf_int_mk Tryz.underlying3 (i64wf hs)) (show heldR v = some (.held v, []) from rfl)
 have hk : WideAt.IsKeyLit (kI (s : Int)) := by simp [WideAt.IsKeyLit]
 refine ⟨w2, hrun, ⟨_, _, ho2, by omega, fun z => ?_⟩, hg2⟩
 by_cases e : z = s
 ·subst e
  rw [Maps.has_put_same ho.isMap hk, Maps.atKey_put_same ho.isMap hk]
  simp only [if_pos]
  exact ⟨⟨fun _ h => (by cases h), fun _ => trivial⟩, fun v' h => (by injection h with h; rw [h])⟩
 ·rw [Maps.has_put_other (by simpa using (fun h : (z : Int) = (s : Int) => e (by omega))), Maps.atKey_put_other (by simpa using (fun h : (z : Int) = (s : Int) => e (by omega)))]
  simp only [if_neg e]
  exact hh z
set_option maxRecDepth 100000 in
theorem ByF.look {N bm : Nat} {w : World} {G : Nat → Option Value} (h : ByF N bm w G) {T e : TypeId} (hT : Tryz.prog.underlying T = some (.map 3 e)) {z : Value} (hz : (zeroValue e).run Tryz.prog w = .ok z w) (s : Nat) (hs : s < 4611686018427387904) {v : Value} (hv : G s = some v) :
  (Instr.lookup T (.map (some bm)) (.int .i64 (s : Int)) true).run Tryz.prog w = .ok (.tuple #[v, .bool true]) w := by
 obtain ⟨D, nn, ho, _, hh⟩ := h
 have hhas : has D (kI (s : Int)) = true := (hh s).1.2 (by rw [hv]; exact fun h => by cases h)
 obtain ⟨v1, p1, hr1, hv1⟩ := ho.look_ok (int_keyed Tryz.underlying3) hT hz (zd := .held z) (zp := []) rfl (keyOf_int_mk Tryz.underlying3 (i64wf hs))
 have e1 : DataW.held v1 = D.atKey (kI (s : Int)) (.held z) := by simpa [heldR] using (congrArg (fun o => o.map Prod.fst) hv1)
 rw [Maps.atKey_indep hhas (.held z) .nil, (hh s).2 v hv] at e1
 injection e1 with e1
 subst e1
 rw [hhas] at hr1
 exact hr1
def putAll (G : Nat → Option Value) : List (Nat × Value) → Nat → Option Value
 | [] => G
 | x :: l => putAll (fun z => if z = x.1 then some x.2 else G z) l
theorem putAll_snoc (G : Nat → Option Value) (l : List (Nat × Value)) (x : Nat × Value) : putAll G (l ++ [x]) = fun z => if z = x.1 then some x.2 else putAll G l z := by
 induction l generalizing G with
 | nil => rfl
 | cons y l ih => exact ih _
end Go.Proofs.YtggdkfijioeijaaGreatDoor
namespace Go.Proofs.YtggdkfijioeijaaGreatDoor
open Go Go.RowKit Go.Maps
def gP (A : Ask) (T : Tl) : List (Nat × Value) := A.readAt.zip (T.got.map gtV)
def eP (A : Ask) (T : Tl) : List (Nat × Value) := A.editAt.zip (T.nums.map (fun n : Nat => Value.int .u64 (n : Int)))
def allG (asks : List Ask) (ts : List Tl) : Nat → List (Nat × Value)
 | 0 => []
 | k + 1 => allG asks ts k ++ gP (asks.getD k dAsk) (ts.getD k dTl)
def allE (asks : List Ask) (ts : List Tl) : Nat → List (Nat × Value)
 | 0 => []
 | k + 1 => allE asks ts k ++ eP (asks.getD k dAsk) (ts.getD k dTl)
theorem allG_le {asks : List Ask} {ts : List Tl} (h : ∀ i, (asks.getD i dAsk).readAt.length ≤ 1000) : ∀ k, (allG asks ts k).length ≤ k * 1000
 | 0 => Nat.le_refl _
 | k + 1 => by
  have ih := allG_le (ts := ts) h k
  have h1 : (gP (asks.getD k dAsk) (ts.getD k dTl)).length ≤ 1000 := by
   unfold gP; rw [List.length_zip]; have := h k; omega
  rw [allG, List.length_append]; omega
theorem allE_le {asks : List Ask} {ts : List Tl} (h : ∀ i, (asks.getD i dAsk).editAt.length ≤ 1000) : ∀ k, (allE asks ts k).length ≤ k * 1000
 | 0 => Nat.le_refl _
 | k + 1 => by
  have ih := allE_le (ts := ts) h k
  have h1 : (eP (asks.getD k dAsk) (ts.getD k dTl)).length ≤ 1000 := by
   unfold eP; rw [List.length_zip]; have := h k; omega
  rw [allE, List.length_append]; omega
def NmF (N bm : Nat) (w : World) : Prop := ∃ (D : DataW Value) (nn : Nat), w.ownsMap Tryz.prog 9 heldR bm nn D ∧ nn ≤ N ∧ ∀ k, has D k = true → ∃ c : Int, D.atKey k .nil = .held (.int .i64 c)
theorem NmF.below {N bm : Nat} {w w' : World} (h : NmF N bm w) (hb : Below w.heap.size w w') : NmF N bm w' := by
 obtain ⟨D, nn, ho, hr⟩ := h
 exact ⟨D, nn, ownsMap_below ho hb, hr⟩
theorem NmF.but {N bm : Nat} {w w' : World} {X : Nat → Prop} (h : NmF N bm w) (hb : ButS X w w') (hX : ¬ X bm) : NmF N bm w' := by
 obtain ⟨D, nn, ⟨es, clock, h1, F, hs, hD⟩, hr⟩ := h
 exact ⟨D, nn, ⟨es, clock, (hb.block bm (Array.getElem?_eq_some_iff.1 h1).1 hX).trans h1, F, hs, hD⟩, hr⟩
theorem NmF.lt {N bm : Nat} {w : World} (h : NmF N bm w) : bm < w.heap.size := by
 obtain ⟨D, nn, ho, _⟩ := h; exact ho.lt
theorem NmF.made (w : World) : NmF 0 w.heap.size (w.alloc (.map #[] 0)) := ⟨.map [], 0, World.ownsMap_made w _ _ _, Nat.le_refl _, fun k h => (by simp [has] at h)⟩
theorem NmF.more {N bm : Nat} {w : World} (h : NmF N bm w) (hN : N < 1000000000) (s : ByteArray) (hs : s.size ≤ 140737488351232) :
  ∃ c : Int, (Instr.lookup 115 (.map (some bm)) (.string s) false).run Tryz.prog w = .ok (.int .i64 c) w ∧ ∀ c2 : Int, ∃ w2, (Instr.mapUpdate 115 (.map (some bm)) (.string s) (.int .i64 c2)).run Tryz.prog w = .ok () w2 ∧ NmF (N + 1) bm w2 ∧ w.grownBy w2 (some bm) := by
 obtain ⟨D, nn, ho, hn, hh⟩ := h
 have hkey : keyOf Tryz.prog 9 (.string s) = some (.string s.data.toList) := Go.WideMaps.keyOf_string_mk Tryz.underlying9 (by unfold maxLen; omega)
 have K : Keyed Tryz.prog 9 := string_keyed Tryz.underlying9
 obtain ⟨v, p, hr, hv⟩ := ho.lookup K Tryz.underlying115 (z := .int .i64 0) (by kernel_rfl) (zd := .held (.int .i64 0)) (zp := []) rfl hkey
 have e1 : DataW.held v = D.atKey (.string s.data.toList) (.held (.int .i64 0)) := by simpa [heldR] using (congrArg (fun o => o.map Prod.fst) hv)
 have hvc : ∃ c : Int, v = .int .i64 c := by
  cases hc : has D (.string s.data.toList) with
  | true =>
   obtain ⟨c, hc2⟩ := hh _ hc
   rw [Maps.atKey_indep hc (.held (.int .i64 0)) .nil, hc2] at e1
   injection e1 with e1
   exact ⟨c, e1⟩
  | false =>
   rw [Maps.atKey_of_not_has hc] at e1
   injection e1 with e1
   exact ⟨0, e1⟩
 obtain ⟨c, rfl⟩ := hvc
 refine ⟨c, hr, fun c2 => ?_⟩
 obtain ⟨w2, hrun, ho2, hg2⟩ := ho.update K Tryz.underlying115 (by unfold maxLen; omega) hkey (show heldR (.int .i64 c2) = some (.held (.int .i64 c2), []) from rfl)
 have hk : WideAt.IsKeyLit (.string s.data.toList) := by simp [WideAt.IsKeyLit]
 refine ⟨w2, hrun, ⟨_, _, ho2, by omega, fun k hk2 => ?_⟩, hg2⟩
 by_cases e : k = .string s.data.toList
 ·subst e; exact ⟨c2, Maps.atKey_put_same ho.isMap hk _ _⟩
 ·rw [Maps.has_put_other e] at hk2
  rw [Maps.atKey_put_other e]; exact hh k hk2
end Go.Proofs.YtggdkfijioeijaaGreatDoor
namespace Go.Proofs.YtggdkfijioeijaaGreatDoor
open Go Go.ChangeShapes Go.WideShapes Go.ChangeAt Go.RowKit
theorem wf_u8 {n : Int} (h : (Lit.int .u8 n).wf = true) : 0 ≤ n ∧ n < 256 := by
 simp [Lit.wf, IntKind.min, IntKind.max, IntKind.signed, IntKind.bits] at h; omega
theorem wf_u32 {n : Int} (h : (Lit.int .u32 n).wf = true) : 0 ≤ n ∧ n < 4294967296 := by
 simp [Lit.wf, IntKind.min, IntKind.max, IntKind.signed, IntKind.bits] at h; omega
theorem wf_u64 {n : Int} (h : (Lit.int .u64 n).wf = true) : 0 ≤ n ∧ n < 18446744073709551616 := by
 simp [Lit.wf, IntKind.min, IntKind.max, IntKind.signed, IntKind.bits] at h; omega
theorem nat_of {n : Int} {M : Nat} (h : 0 ≤ n ∧ n < (M : Int)) : ∃ k : Nat, n = (k : Int) ∧ k < M := ⟨n.toNat, by omega, by omega⟩
theorem list2 {α : Type} {l : List α} (h : l.length = 2) : ∃ c0 c1, l = [c0, c1] := by
 match l, h with
 | [c0, c1], _ => exact ⟨c0, c1, rfl⟩
theorem cU64 : Tryz.prog.cellsOf 25 = 1 := by kernel_rfl
theorem cRg : Tryz.prog.cellsOf 27 = 2 := by kernel_rfl
def rgData {H : Type} (f t : Nat) : DataW H := .agg [.lit (.int .u64 (f : Int)), .lit (.int .u64 (t : Int))]
section
variable {H : Type} {enc : TypeId × Value → H} {w : World} {base : Nat} {sp : Nat → Bool} {held : Bool}
set_option maxRecDepth 100000 in
theorem trod_rg {fuel : Nat} {cs : List Value} {x : DataW H × List MemPlace} (h : DataW.trod enc Tryz.prog w base sp held fuel 27 cs = some x) : ∃ f t : Nat, f < 18446744073709551616 ∧ t < 18446744073709551616 ∧ cs = [.int .u64 (f : Int), .int .u64 (t : Int)] ∧ x = (rgData f t, []) := by
 obtain ⟨xs, n, _, rfl, hl, hlen, hf⟩ := DataW.trod_struct Tryz.underlying27 h
 rw [cRg] at hl
 obtain ⟨c0, c1, rfl⟩ := list2 hl
 obtain ⟨y0, y1, rfl⟩ := list2 hlen
 have h0 : DataW.trod enc Tryz.prog w base sp held n 25 [c0] = some y0 := by simpa [cU64] using hf 0 _ rfl
 have h1 : DataW.trod enc Tryz.prog w base sp held n 25 [c1] = some y1 := by simpa [cU64] using hf 1 _ rfl
 obtain ⟨a0, e0, rfl, w0⟩ := DataW.trod_int Tryz.underlying25 h0
 obtain ⟨a1, e1, rfl, w1⟩ := DataW.trod_int Tryz.underlying25 h1
 obtain ⟨n0, rfl, o0⟩ := nat_of (M := 18446744073709551616) (wf_u64 w0)
 obtain ⟨n1, rfl, o1⟩ := nat_of (M := 18446744073709551616) (wf_u64 w1)
 refine ⟨n0, n1, o0, o1, ?_, ?_⟩
 ·simp only [List.cons.injEq, and_true] at e0 e1
  rw [e0, e1]
 ·first | rfl | simp [rgData]
end
theorem isNas_of {w : World} {v : Value} {l : List ByteArray} (h : IsStrs w v l) : IsNas w v l := by
 obtain ⟨a, cap, rfl, h⟩ := h
 refine ⟨a, cap, rfl, ?_⟩
 rcases h with h | ⟨b, off, ha, hb, hc⟩
 ·exact Or.inl h
 ·refine Or.inr ⟨b, off, ha, hb, fun i hi j u hu => ?_⟩
  obtain rfl : j = 0 := by have := (List.getElem?_eq_some_iff.1 hu).1; rw [naC_len] at this; omega
  rw [Nat.mul_one, Nat.add_zero]
  exact (hc i hi).trans hu
end Go.Proofs.YtggdkfijioeijaaGreatDoor
namespace Go.Proofs.YtggdkfijioeijaaGreatDoor
open Go Go.RowKit Go.Maps
def DocAt (w : World) (m e : Nat) (sp : List (Nat × Nat)) : Prop := ∃ g c, w.heap[m]? = some (.cells #[.int .u64 (e : Int), .slice (some ⟨g, 0, none⟩) sp.length c] 88 (0, 0)) ∧ g < w.heap.size ∧ ∀ i, i < sp.length → w.cell? ⟨g, i * 2, none⟩ = some (.int .u64 ((sp.getD i d0).1 : Int)) ∧ w.cell? ⟨g, i * 2 + 1, none⟩ = some (.int .u32 ((sp.getD i d0).2 : Int))
theorem DocAt.below {w w' : World} {m e : Nat} {sp : List (Nat × Nat)} (h : DocAt w m e sp) (hb : Below w.heap.size w w') : DocAt w' m e sp := by
 obtain ⟨g, c, h1, h2, h3⟩ := h
 exact ⟨g, c, (hb.block _ (lt_of_block h1)).trans h1, Nat.lt_of_lt_of_le h2 hb.size, fun i hi => ⟨(hb.cell (p := ⟨g, i * 2, none⟩) h2).trans (h3 i hi).1, (hb.cell (p := ⟨g, i * 2 + 1, none⟩) h2).trans (h3 i hi).2⟩⟩
def fewS (n : Nat) : List Nat := upto (fun i => i + 1) n
theorem fewS_length (n : Nat) : (fewS n).length = n := upto_length _ _
theorem fewS_mem {n x : Nat} (h : x ∈ fewS n) : 1 ≤ x ∧ x ≤ n := by
 obtain ⟨i, hi, rfl⟩ := List.mem_map.1 h
 have := List.mem_range.1 hi
 omega
theorem fewS_nodup (n : Nat) : (fewS n).Nodup := by
 unfold fewS upto
 rw [List.nodup_iff_pairwise_ne, List.pairwise_map]
 exact List.nodup_range.imp (fun h e => h (by omega))
theorem fewS_succ (n : Nat) : fewS (n + 1) = fewS n ++ [n + 1] := upto_succ _ _
theorem cell_one_new32 (w : World) (v : Value) (T : TypeId) : ∀ j u, [v][j]? = some u → (w.alloc (.cells #[v] T)).cell? ((⟨w.heap.size, 0, none⟩ : Addr).add j) = some u := by
 intro j u hu
 have hj := (List.getElem?_eq_some_iff.1 hu).1
 obtain rfl : j = 0 := by simpa using hj
 obtain rfl : v = u := by simpa using hu
 exact cell_of (MapKept.heap_alloc w (.cells #[v] T)).1 0
theorem ownS_mem {S : List Nat} {k h : Nat} (hl : 1 ≤ S.length) (hk : 1 ≤ k) : ownS S k h ∈ S := by
 obtain ⟨p, hp, _⟩ := ownF_is (ps := puts S k) h (puts_ne hl hk)
 obtain ⟨s, hs, h2⟩ := List.mem_flatMap.1 hp
 obtain ⟨i, _, e⟩ := List.mem_map.1 h2
 have : s = ownS S k h := congrArg Prod.snd e
 exact this ▸ hs
set_option maxRecDepth 100000 in
set_option maxHeartbeats 4000000 in
theorem law28_world (p s : Nat) (hp : p < 256) (hs : s < 256) (w : World) :
  Calls Tryz.prog 9 #[.int .u8 (p : Int), .int .u8 (s : Int), .slice none 0 0] w fun e w' => ∃ m r sp, e = .returned (.tuple #[.pointer (some ⟨m, 0, none⟩), .pointer (some ⟨r, 0, none⟩)]) ∧ MapAt w' m 1 sp ∧ DocAt w' r 1 sp ∧ SpI (ownS (fewS (1 + s % 4)) (1 + p % 4)) sp M64 ∧ sp.length ≤ 25 ∧ Below w.heap.size w w' := by
 obtain ⟨i0, hi, hz0, hz1, hz2⟩ := info_parts infoW32
 obtain ⟨q, hq⟩ : ∃ q, s % 4 = q := ⟨_, rfl⟩
 obtain ⟨n, hn⟩ : ∃ n, 1 + s % 4 = n := ⟨_, rfl⟩
 obtain ⟨k, hk⟩ : ∃ k, 1 + p % 4 = k := ⟨_, rfl⟩
 have hqi : (s : Int) % 4 = (q : Int) := by omega
 have hq32 : IntKind.u32.wrap (q : Int) = (q : Int) := by rw [IntKind.wrap_u32]; omega
 have hki : (1 : Int) + (p : Int) % 4 = (k : Int) := by omega
 have hk1 : 1 ≤ k ∧ k ≤ 4 := by omega
 have hn1 : 1 ≤ n ∧ n ≤ 4 ∧ n ≤ q + 1 ∧ q < n := by omega
 rw [hn, hk]
 clear hq hn hk
 go_enter Tryz.func9, Tryz.ntmps9
 go_wp2_with fail
 go_loopw [8, 9] (fun v i wr => ∃ j : Nat, j ≤ n ∧ i = .int .u32 j ∧ (∃ a c, v = .slice a j c) ∧ Hid (wr.ownsRow w.heap.size 28 1 v j ((fewS j).map (fun s : Nat => Value.int .u32 (s : Int)))) ∧ Hid (Below w.heap.size w wr)) (fun _ i _ => n - (intOf i).toNat)
 case atStart => exact ⟨0, Nat.zero_le _, rfl, ⟨none, 0, rfl⟩, Lib.hid (World.ownsRow_nil _ _ _ _), Lib.hid (Below.refl _ _)⟩
 case round =>
  obtain ⟨j, hj, rfl, ⟨av, cv, rfl⟩, HROW, HB⟩ := hrel
  by_cases hlt : j < n
  ·obtain ⟨j1, hj1⟩ : ∃ j1, j + 1 = j1 := ⟨_, rfl⟩
   have hji : (j : Int) + 1 = (j1 : Int) := by omega
   have hjw : IntKind.u32.wrap (j1 : Int) = (j1 : Int) := by rw [IntKind.wrap_u32]; omega
   have hle : ((j : Int) ≤ (q : Int)) = True := by simp; omega
   have HJ1 := Lib.hid hj1
   have hle' : (j : Int) ≤ (q : Int) := by omega
   clear hj1
   go_wp2_with (
    at_builtin
    refine wpList_append_lies _ rfl (.tmp 30) (.tmp 33) 64 rfl w.heap.size 28 i0 (.int .u32 0) 1 4 Tryz.underlying64 hi hz0 hz1 hz2 rfl (by decide) _ j ((fewS j).map (fun s : Nat => Value.int .u32 (s : Int))) rfl (HROW.out.alloc _) ⟨wr.heap.size, 0, none⟩ 1 1 [.int .u32 (j1 : Int)] rfl rfl (cell_one_new32 _ _ _) (few_one _) (by decide) (by unfold maxLen; omega) (by omega) (by have := HB.out.size; simp; omega) (wr.heap.size + 1) (by simp) ?go
    intro g cp w8 hown8 hg8 _hat _hlt8
    replace hown8 : w8.ownsRow w.heap.size 28 1 (.slice (some ⟨g, 0, none⟩) (j + 1) cp) (j + 1) ((fewS (j + 1)).map (fun s : Nat => Value.int .u32 (s : Int))) := (by rw [fewS_succ, List.map_append, show ([j + 1] : List Nat).map (fun s : Nat => Value.int .u32 (s : Int)) = [.int .u32 (j1 : Int)] by rw [HJ1.out]; rfl]; exact hown8)
    have hB8 : Below w.heap.size w w8 := (HB.out.alloc HB.out.size _).grown hg8 (by simp; have := HB.out.size; omega) (fun k hk => by have := own_above HROW.out k hk; omega)
    have HB8 := Lib.hid hB8; have HO8 := Lib.hid hown8
    clear hown8 hg8 _hat _hlt8 hB8)
   go_roundw
   case rel => exact ⟨j + 1, by omega, by rw [← hji]; rfl, ⟨_, _, rfl⟩, HO8, HB8⟩
   case measure => simp [intOf]; omega
  ·obtain rfl : j = n := by omega
   have hle : ((j : Int) ≤ (q : Int)) = False := by simp; omega
   have hle' : ¬ (j : Int) ≤ (q : Int) := by omega
   obtain ⟨g, rfl⟩ : ∃ g, av = some ⟨g, 0, none⟩ := by
    rcases HROW.out.2 with ⟨h', hn0⟩ | ⟨g, cap, cur, h', _⟩
    ·omega
    ·simp only [Value.slice.injEq] at h'
     exact ⟨g, h'.1⟩
   have hfl := fewS_length j
   have hcell : ∀ i, i < j → wr.cell? ⟨g, i, none⟩ = some (.int .u32 (((fewS j).getD i 0 : Nat) : Int)) := fun i hi => by
    rw [World.ownsRow.cellAt HROW.out i (by omega), List.getElem?_map, List.getD_eq_getElem?_getD, List.getElem?_eq_getElem (by omega)]; rfl
   have hgl := block_lt_of_cell (hcell 0 (by omega))
   have hnew := ringNew (fewS j) k g 0 cv wr hgl (fun i hi => by rw [Nat.zero_add]; exact hcell i (by omega)) hk1.1 (by omega) (by omega) (by omega) (fewS_nodup j) (fun x hx => by have := fewS_mem hx; omega)
   have hspots := fun w' (h : Below wr.heap.size wr w') => ref26_Spots (fewS j) k g cv w' (by omega) (by omega) (fun x hx => by have := fewS_mem hx; omega) (fun i hi => (h.cell (p := ⟨g, i, none⟩) hgl).trans (hcell i (by omega)))
   have hpl : (puts (fewS j) k).length = j * k := by rw [puts_length, hfl]
   have hpl1 : 1 ≤ j * k := Nat.mul_pos (by omega) (by omega)
   have hpl2 : j * k ≤ 4 * 4 := Nat.mul_le_mul (by omega) (by omega)
   rw [hfl] at hnew hspots
   rw [hpl] at hspots
   obtain ⟨L, hL⟩ : ∃ L, j * k = L := ⟨_, rfl⟩
   rw [hL] at hspots hpl hpl1 hpl2
   have HSPOT := Lib.hid hspots; have HNEW := Lib.hid hnew; have HPL := Lib.hid hpl; have HFL := Lib.hid hfl
   clear hspots hnew hpl hL hcell HROW hfl
   go_wp2_with fail
   refine HNEW.out.mono ?_
   rintro e w1 ⟨r, rfl, hR, hb1⟩
   have HR := Lib.hid hR; have HB1 := Lib.hid hb1
   clear hR hb1
   go_wp2_with fail
   refine (map_New r (fewS j) k w1 HR.out).mono ?_
   rintro e w2 ⟨m, sp, rfl, hM, hsp, hl, hm, hb2⟩
   have HM := Lib.hid hM; have HSP := Lib.hid hsp; have HB2 := Lib.hid (HB1.out.trans (hb2.mono HB1.out.size))
   have HLL := Lib.hid hl
   clear hM hsp hl hb2
   go_wp2_with fail
   refine (HSPOT.out w2 HB2.out).mono ?_
   rintro e w3 ⟨v, rfl, hrow, hb3⟩
   obtain ⟨g3, c3, rfl, hc3⟩ : ∃ g3 c3, v = .slice (some ⟨g3, 0, none⟩) L c3 ∧ ∀ i, i < L → w3.cell? ⟨g3, i * 2, none⟩ = some (.int .u64 (((puts (fewS j) k).getD i d0).1 : Int)) ∧ w3.cell? ⟨g3, i * 2 + 1, none⟩ = some (.int .u32 (((puts (fewS j) k).getD i d0).2 : Int)) := by
    rcases hrow.2 with ⟨_, h0⟩ | ⟨g', cap', cur, rfl, _⟩
    ·omega
    ·refine ⟨g', cap', rfl, fun i hi => ?_⟩
     obtain ⟨s1, s2⟩ := spV_at (puts (fewS j) k) i (by rw [HPL.out]; exact hi)
     exact ⟨(World.ownsRow.cellAt hrow (i * 2) (by omega)).trans s1, (World.ownsRow.cellAt hrow (i * 2 + 1) (by omega)).trans s2⟩
   have hspans := ref26_Spans (puts (fewS j) k) g3 c3 w3 (puts_inb (fun x hx => by have := fewS_mem hx; show x < 4294967296; omega)) (by rw [HPL.out]; exact hpl1) (by rw [HPL.out]; omega) (fun i hi => hc3 i (by rw [← HPL.out]; exact hi))
   rw [HPL.out] at hspans
   have HSPANS := Lib.hid hspans; have HB3 := Lib.hid (HB2.out.trans (hb3.mono HB2.out.size))
   have HM3 := Lib.hid (HM.out.below hb3)
   clear hspans hb3 hrow hc3
   go_wp2_with fail
   refine HSPANS.out.mono ?_
   rintro e w4 ⟨g4, c4, sp4, rfl, hrow4, hsp4, hl4, hb4⟩
   obtain rfl := hsp4.uniq (b := sp) HSP.out
   have hcells := cells_of_row hrow4 rfl
   have hpos := List.length_pos_iff.2 HSP.out.ne
   have hg4 := block_lt_of_cell (hcells 0 hpos).1
   have HB4 := Lib.hid (HB3.out.trans (hb4.mono HB3.out.size))
   have HM4 := Lib.hid (HM3.out.below hb4)
   have HC4 := Lib.hid hcells
   clear hrow4 hsp4 hb4 hcells
   obtain ⟨l4, hl4e⟩ : ∃ l4, sp4.length = l4 := ⟨_, rfl⟩
   rw [hl4e]
   have HL4 := Lib.hid hl4e
   clear hl4e
   go_wp2_with fail
   obtain ⟨W5, hW5⟩ : ∃ W5, w4.alloc (.cells #[.int .u64 1, .slice (some ⟨g4, 0, none⟩) l4 c4] 88) = W5 := ⟨_, rfl⟩
   rw [hW5]
   have HW5 := Lib.hid hW5
   clear hW5
   go_loopw [13, 15, 16] (fun vm vd vi wr2 => vm = .pointer (some ⟨m, 0, none⟩) ∧ vd = .pointer (some ⟨w4.heap.size, 0, none⟩) ∧ vi = .int .i64 0 ∧ wr2 = W5) (fun _ _ _ _ => 0)
   case atStart => exact ⟨rfl, rfl, rfl, rfl⟩
   case round =>
    obtain ⟨rfl, rfl, rfl, rfl⟩ := hrel
    go_wp2_with fail
    go_ret2
    rw [← HW5.out]
    have hba := HB.out.trans (HB4.out.mono HB.out.size)
    refine ⟨m, w4.heap.size, sp4, rfl, HM4.out.below ((Below.refl _ _).alloc (Nat.le_refl _) _), ⟨g4, c4, ?_, by simp; omega, fun i hi => ?_⟩, HSP.out, by omega, hba.alloc hba.size _⟩
    ·rw [HL4.out]; exact (MapKept.heap_alloc _ _).1
    ·obtain ⟨a, b⟩ := HC4.out i hi
     exact ⟨(World.cell?_alloc_past _ _ _ hg4).trans a, (World.cell?_alloc_past _ _ _ hg4).trans b⟩
end Go.Proofs.YtggdkfijioeijaaGreatDoor
namespace Go.Proofs.YtggdkfijioeijaaGreatDoor
open Go Go.RowKit Go.Maps
structure Canon (sp : List (Nat × Nat)) : Prop where
 pos : 1 ≤ sp.length
 len : sp.length ≤ 10000
 from_ : ∀ i, 1 ≤ i → i < sp.length → 1 ≤ (sp.getD i d0).1
 b64 : ∀ i, i < sp.length → (sp.getD i d0).1 < M64
theorem SpI.canon {O : Nat → Nat} {sp : List (Nat × Nat)} (h : SpI O sp M64) (hl : sp.length ≤ 10000) : Canon sp := by
 refine ⟨List.length_pos_iff.2 h.ne, hl, fun i h1 h2 => ?_, fun i hi => h.lt _ (by rw [List.getD_eq_getElem?_getD, List.getElem?_eq_getElem hi]; exact List.getElem_mem _)⟩
 have := List.pairwise_iff_getElem.1 h.rise 0 i (by omega) h2 (by omega)
 have h2 : (sp.getD 0 d0).1 < (sp.getD i d0).1 := by
  rw [List.getD_eq_getElem?_getD, List.getD_eq_getElem?_getD, List.getElem?_eq_getElem (by omega : 0 < sp.length), List.getElem?_eq_getElem h2]; exact this
 omega
set_option maxRecDepth 100000 in
set_option maxHeartbeats 1000000 in
theorem d27_end (m e k : Nat) (sp : List (Nat × Nat)) (w : World) (hD : DocAt w m e sp) (hC : Canon sp) (hk : k < sp.length) :
  Calls Tryz.prog 53 #[.pointer (some ⟨m, 0, none⟩), .int .i64 (k : Int)] w fun en w' => en = .returned (.int .u64 ((endOf sp k : Nat) : Int)) ∧ w' = w := by
 obtain ⟨g, c, h1, h2, h3⟩ := hD
 have c1 : w.cell? ⟨m, 1, none⟩ = some (.slice (some ⟨g, 0, none⟩) sp.length c) := cell_of h1 1
 have hle := hC.len
 obtain ⟨L, hL⟩ : ∃ L, sp.length = L := ⟨_, rfl⟩
 obtain ⟨k1, hk1⟩ : ∃ k1, k + 1 = k1 := ⟨_, rfl⟩
 have hki : (k : Int) + 1 = (k1 : Int) := by omega
 rw [hL] at c1
 clear h1 h2
 by_cases hlt : k1 < L
 ·obtain ⟨q0, _⟩ := h3 k1 (by omega)
  have hf := hC.from_ k1 (by omega) (by omega)
  have hb := hC.b64 k1 (by omega)
  have he : endOf sp k = (sp.getD k1 d0).1 - 1 := by unfold endOf; rw [hk1, hL, if_pos hlt]
  obtain ⟨q, hq⟩ : ∃ q, (sp.getD k1 d0).1 = q := ⟨_, rfl⟩
  rw [hq] at he q0 hf hb
  obtain ⟨q1, hq1⟩ : ∃ q1, q - 1 = q1 := ⟨_, rfl⟩
  have hqi : (q : Int) - 1 = (q1 : Int) := by omega
  have hq64 : (q1 : Int) < 18446744073709551616 := by have : q < 18446744073709551616 := hb; omega
  have hw : IntKind.u64.wrap (q1 : Int) = (q1 : Int) := by rw [IntKind.wrap_u64]; omega
  rw [he, hq1]
  have hlti : ((k1 : Int) < (L : Int)) = True := by simp; omega
  have hlti' : (k1 : Int) < (L : Int) := by omega
  clear h3 hC hq he hL hk1 hq1 hq64 hb
  go_enter Tryz.func53, Tryz.ntmps53
  go_wp2_with fail
  go_ret
  exact ⟨rfl, rfl⟩
 ·have he : endOf sp k = 18446744073709551615 := by unfold endOf; rw [hk1, hL, if_neg hlt]
  rw [he]
  have hlti : ((k1 : Int) < (L : Int)) = False := by simp; omega
  have hlti' : ¬ (k1 : Int) < (L : Int) := by omega
  clear h3 hC he hL hk1
  go_enter Tryz.func53, Tryz.ntmps53
  go_wp2_with fail
  go_ret
  exact ⟨rfl, rfl⟩
def lastO (sp : List (Nat × Nat)) (h : Nat) : Nat → Nat
 | 0 => 0
 | k + 1 => if (sp.getD k d0).1 ≤ h then (sp.getD k d0).2 else lastO sp h k
theorem lastO_law {O : Nat → Nat} {sp : List (Nat × Nat)} (hS : SpI O sp M64) {h : Nat} (hh : h < M64) : lastO sp h sp.length = O h := by
 obtain ⟨k, hk, a, b⟩ := cover hS hh
 have key : ∀ n, k < n → n ≤ sp.length → lastO sp h n = (sp.getD k d0).2 := by
  intro n
  induction n with
  | zero => intro h1; omega
  | succ n ih =>
   intro h1 h2
   unfold lastO
   by_cases e : n = k
   ·subst e; rw [if_pos a]
   ·rw [if_neg, ih (by omega) (by omega)]
    have hr := List.pairwise_iff_getElem.1 hS.rise
    have hg : ∀ i, (hi : i < sp.length) → sp.getD i d0 = sp[i] := fun i hi => by rw [List.getD_eq_getElem?_getD, List.getElem?_eq_getElem hi]; rfl
    have h3 := (endOf_next hS hk).2
    rw [if_pos (by omega)] at h3
    have h4 : (sp.getD (k + 1) d0).1 ≤ (sp.getD n d0).1 := by
     by_cases e2 : n = k + 1
     ·rw [e2]; exact Nat.le_refl _
     ·rw [hg _ (by omega), hg _ (by omega)]; exact Nat.le_of_lt (hr (k + 1) n (by omega) (by omega) (by omega))
    omega
 rw [key _ hk (Nat.le_refl _), hS.at_ hk a b]
set_option maxRecDepth 100000 in
set_option maxHeartbeats 2000000 in
theorem d27_Owner (m e h : Nat) (sp : List (Nat × Nat)) (w : World) (hD : DocAt w m e sp) (hl : sp.length ≤ 10000) :
  Calls Tryz.prog 55 #[.pointer (some ⟨m, 0, none⟩), .int .u64 (h : Int)] w fun en w' => en = .returned (.int .u32 ((lastO sp h sp.length : Nat) : Int)) ∧ w = w' := by
 obtain ⟨g, c, h1, h2, h3⟩ := hD
 have c1 : w.cell? ⟨m, 1, none⟩ = some (.slice (some ⟨g, 0, none⟩) sp.length c) := cell_of h1 1
 obtain ⟨L, hL⟩ : ∃ L, sp.length = L := ⟨_, rfl⟩
 rw [hL] at c1 h3 hl ⊢
 have HC := Lib.hid h3
 clear h1 h2 h3 hL
 go_enter Tryz.func55, Tryz.ntmps55
 go_wp2_with fail
 go_loop [5, 6] (fun s i => ∃ k : Nat, k ≤ L ∧ i = .int .i64 k ∧ s = .int .u32 ((lastO sp h k : Nat) : Int)) (fun _ i => L - (intOf i).toNat)
 case atStart => exact ⟨0, Nat.zero_le _, rfl, rfl⟩
 case round =>
  obtain ⟨k, hk, rfl, rfl⟩ := hrel
  by_cases hlt : k < L
  ·obtain ⟨k0, k1⟩ := HC.out k hlt
   have hs : lastO sp h (k + 1) = if (sp.getD k d0).1 ≤ h then (sp.getD k d0).2 else lastO sp h k := rfl
   obtain ⟨p, hp⟩ : ∃ p, (sp.getD k d0).1 = p := ⟨_, rfl⟩
   obtain ⟨s, hs0⟩ : ∃ p, (sp.getD k d0).2 = p := ⟨_, rfl⟩
   rw [hp, hs0] at hs; rw [hp] at k0; rw [hs0] at k1
   obtain ⟨o, ho⟩ : ∃ o, lastO sp h k = o := ⟨_, rfl⟩
   rw [ho] at hs ⊢
   have hkl : ((k : Int) < (L : Int)) = True := by simp; omega
   have hkl' : (k : Int) < (L : Int) := by omega
   have HS := Lib.hid hs
   clear hp hs0 ho hs
   by_cases hph : p ≤ h
   ·go_wp2_with fail
    go_round
    case rel => exact ⟨k + 1, by omega, by go_num, by rw [HS.out, if_pos hph]⟩
    case measure => simp [intOf]; omega
   ·go_wp2_with fail
    go_round
    case rel => exact ⟨k + 1, by omega, by go_num, by rw [HS.out, if_neg hph]⟩
    case measure => simp [intOf]; omega
  ·obtain rfl : k = L := by omega
   go_wp2_with fail
   go_ret
   exact ⟨rfl, rfl⟩
end Go.Proofs.YtggdkfijioeijaaGreatDoor
namespace Go.Proofs.YtggdkfijioeijaaGreatDoor
open Go Go.RowKit Go.Maps
def AddD (base c s : Nat) (sp : List (Nat × Nat)) (w : World) (e : Ending) (w' : World) : Prop := ∃ a cp, e = .returned (.slice a (addS sp c s).length cp) ∧ w'.ownsRow base 99 2 (.slice a (addS sp c s).length cp) (addS sp c s).length (spV (addS sp c s)) ∧ Below base w w'
set_option maxRecDepth 100000 in
set_option maxHeartbeats 2000000 in
theorem d27_add (base c s n cp : Nat) (a : Option Addr) (sp : List (Nat × Nat)) (w : World) (hn : sp.length = n) (hl2 : n ≤ 100000) (hbw : base ≤ w.heap.size) (hrow : w.ownsRow base 99 2 (.slice a n cp) n (spV sp)) :
  Calls Tryz.prog 54 #[.slice a n cp, .int .u64 (c : Int), .int .u32 (s : Int)] w (AddD base c s sp w) := by
 obtain ⟨i0, hi, hz0, hz1, hz2⟩ := info_parts infoSpan
 have HN := Lib.hid hn; have HR := Lib.hid hrow
 have hab := own_above2 hrow
 by_cases hn0 : n = 0
 ·have hsp : sp = [] := List.length_eq_zero_iff.1 (by omega)
  have HADS := Lib.hid (show addS sp c s = sp ++ [(c, s)] by unfold addS; rw [if_neg (fun h => h.1 hsp)])
  have hn0b : ((n : Int) > 0) = False := by simp; omega
  have hn0c : ¬ (0 : Int) < (n : Int) := by omega
  have HAB := Lib.hid hab; have HN0 := Lib.hid hn0
  clear hn hab hrow hsp hn0
  go_enter Tryz.func54, Tryz.ntmps54
  go_wp2_with (
   at_builtin
   refine wpList_append_lies _ rfl (.tmp 22) (.tmp 26) 83 rfl base 99 i0 (.agg #[.int .u64 0, .int .u32 0]) 2 16 Tryz.underlying83 hi hz0 hz1 hz2 rfl (by decide) _ n (spV sp) rfl (rowBelow HR.out ((Below.refl _ _).alloc (Nat.le_refl _) _)) ⟨w.heap.size, 0, none⟩ 1 1 [.int .u64 (c : Int), .int .u32 (s : Int)] rfl rfl (World.news_of_block (MapKept.heap_alloc _ _).1) (two_one (c, s)) (by decide) (by unfold maxLen; omega) (by omega) (by simp; omega) (w.heap.size + 1) (by simp) ?go
   intro g cp w8 hown8 hg8 _hat _hlt8
   have HB8 := Lib.hid ((((Below.refl base w).alloc hbw _).grown hg8 (by simp; omega) (fun j hj => HAB.out j hj)))
   have HO8 := Lib.hid hown8
   clear hown8 hg8 _hat _hlt8)
  go_ret
  have hlen : (addS sp c s).length = n + 1 := by rw [HADS.out, List.length_append, HN.out]; rfl
  refine ⟨_, _, by rw [hlen]; rfl, ?_, HB8.out⟩
  rw [hlen, HADS.out, spV_snoc]; exact HO8.out
 ·obtain ⟨g0, rfl⟩ : ∃ g0, a = some ⟨g0, 0, none⟩ := by
   rcases hrow.2 with ⟨_, h⟩ | ⟨g', cap', cur, h', _⟩
   ·exact absurd h hn0
   ·simp only [Value.slice.injEq] at h'; exact ⟨g', h'.1⟩
  obtain ⟨nl, hnl⟩ : ∃ nl, n - 1 = nl := ⟨_, rfl⟩
  have hn0b : ((n : Int) > 0) = True := by simp; omega
  have hn0c : (0 : Int) < (n : Int) := by omega
  have hnli : (n : Int) - 1 = (nl : Int) := by omega
  have hnln : (nl : Int) < (n : Int) := by omega
  obtain ⟨s0, hs0⟩ : ∃ s0, (sp.getD (sp.length - 1) d0).2 = s0 := ⟨_, rfl⟩
  have hlast : w.cell? ⟨g0, nl * 2 + 1, none⟩ = some (.int .u32 (s0 : Int)) := by
   rw [World.ownsRow.cellAt hrow (nl * 2 + 1) (by omega), (spV_at sp nl (by rw [hn]; omega)).2, ← hs0, hn, hnl]
  have hspn : sp ≠ [] := fun e => by rw [e] at hn; simp at hn; omega
  have HAB := Lib.hid hab
  by_cases hss : s0 = s
  ·have hsb : ((s0 : Int) == (s : Int)) = true := by simp [hss]
   have HADS := Lib.hid (show addS sp c s = sp from by unfold addS; rw [if_pos ⟨hspn, by rw [hs0, hss]⟩])
   clear hss hspn hs0 hnl hab hrow hn0 hn
   go_enter Tryz.func54, Tryz.ntmps54
   go_wp2_with fail
   go_ret
   refine ⟨_, _, by rw [HADS.out, HN.out]; rfl, ?_, Below.refl _ _⟩
   rw [HADS.out, HN.out]; exact HR.out
  ·have hsb : ((s0 : Int) == (s : Int)) = false := by simp; omega
   have HADS := Lib.hid (show addS sp c s = sp ++ [(c, s)] from by unfold addS; rw [if_neg (fun h => hss (by rw [← hs0]; exact h.2))])
   clear hss hspn hs0 hnl hab hrow hn0 hn
   go_enter Tryz.func54, Tryz.ntmps54
   go_wp2_with (
    at_builtin
    refine wpList_append_lies _ rfl (.tmp 22) (.tmp 26) 83 rfl base 99 i0 (.agg #[.int .u64 0, .int .u32 0]) 2 16 Tryz.underlying83 hi hz0 hz1 hz2 rfl (by decide) _ n (spV sp) rfl (rowBelow HR.out ((Below.refl _ _).alloc (Nat.le_refl _) _)) ⟨w.heap.size, 0, none⟩ 1 1 [.int .u64 (c : Int), .int .u32 (s : Int)] rfl rfl (World.news_of_block (MapKept.heap_alloc _ _).1) (two_one (c, s)) (by decide) (by unfold maxLen; omega) (by omega) (by simp; omega) (w.heap.size + 1) (by simp) ?go1
    intro g cp w8 hown8 hg8 _hat _hlt8
    have HB8 := Lib.hid ((((Below.refl base w).alloc hbw _).grown hg8 (by simp; omega) (fun j hj => HAB.out j hj)))
    have HO8 := Lib.hid hown8
    clear hown8 hg8 _hat _hlt8)
   go_ret
   have hlen : (addS sp c s).length = n + 1 := by rw [HADS.out, List.length_append, HN.out]; rfl
   refine ⟨_, _, by rw [hlen]; rfl, ?_, HB8.out⟩
   rw [hlen, HADS.out, spV_snoc]; exact HO8.out
def AllW (sp : List (Nat × Nat)) (f t s n : Nat) : Prop := ∀ k, k < n → (sp.getD k d0).1 ≤ t → f ≤ endOf sp k → (sp.getD k d0).2 = s
def WhoseG (sp : List (Nat × Nat)) (f t s : Nat) (w : World) (e : Ending) (w' : World) : Prop := ((AllW sp f t s sp.length ∧ e = .returned (.int .u32 (s : Int))) ∨ (¬ AllW sp f t s sp.length ∧ e = .returned (.int .u32 0))) ∧ Below w.heap.size w w'
theorem DocAt.drew {w : World} {m e : Nat} {sp : List (Nat × Nat)} (h : DocAt w m e sp) (n : Nat) : DocAt (w.drewN n) m e sp := h.below (below_dr (Below.refl _ _) n)
set_option maxRecDepth 100000 in
set_option maxHeartbeats 4000000 in
theorem d27_whose (m e f t : Nat) (sp : List (Nat × Nat)) (w : World) (hD : DocAt w m e sp) (hC : Canon sp) :
  Calls Tryz.prog 52 #[.pointer (some ⟨m, 0, none⟩), .agg #[.int .u64 (f : Int), .int .u64 (t : Int)]] w (WhoseG sp f t (lastO sp f sp.length) w) := by
 have hbox : Below w.heap.size w (w.alloc (.cells #[.int .u64 (f : Int), .int .u64 (t : Int)] 27)) := (Below.refl _ _).alloc (Nat.le_refl _) _
 have hO := d27_Owner m e f sp _ (hD.below hbox) hC.len
 have hend := fun (k : Nat) (hk : k < sp.length) (w' : World) (hb : Below w.heap.size w w') => d27_end m e k sp w' (hD.below hb) hC hk
 obtain ⟨s, hs⟩ : ∃ s, lastO sp f sp.length = s := ⟨_, rfl⟩
 rw [hs] at hO ⊢
 obtain ⟨g, c, h1, h2, h3⟩ := hD
 have hkeep := fun (w' : World) (hb : Below w.heap.size w w') => show w'.cell? ⟨m, 1, none⟩ = some (.slice (some ⟨g, 0, none⟩) sp.length c) ∧ ∀ i, i < sp.length → w'.cell? ⟨g, i * 2, none⟩ = some (.int .u64 ((sp.getD i d0).1 : Int)) ∧ w'.cell? ⟨g, i * 2 + 1, none⟩ = some (.int .u32 ((sp.getD i d0).2 : Int)) from
  ⟨cell_of ((hb.block _ (lt_of_block h1)).trans h1) 1, fun i hi => ⟨(hb.cell (p := ⟨g, i * 2, none⟩) h2).trans (h3 i hi).1, (hb.cell (p := ⟨g, i * 2 + 1, none⟩) h2).trans (h3 i hi).2⟩⟩
 have hle := hC.len
 obtain ⟨L, hL⟩ : ∃ L, sp.length = L := ⟨_, rfl⟩
 unfold WhoseG
 rw [hL] at hkeep hend hle ⊢
 have HO := Lib.hid hO; have HEND := Lib.hid hend; have HKEEP := Lib.hid hkeep
 clear hO hend hkeep h1 h2 h3 hs hC hL hbox
 go_enter Tryz.func52, Tryz.ntmps52
 go_wp2_with fail
 refine HO.out.mono ?_
 rintro en w1 ⟨rfl, hw1⟩
 have hb1 : Below w.heap.size w w1 := by rw [← hw1]; exact (Below.refl _ _).alloc (Nat.le_refl _) _
 have x0 : w1.cell? ⟨w.heap.size, 0, none⟩ = some (.int .u64 (f : Int)) := by rw [← hw1]; exact cell_of (MapKept.heap_alloc _ _).1 0
 have x1 : w1.cell? ⟨w.heap.size, 1, none⟩ = some (.int .u64 (t : Int)) := by rw [← hw1]; exact cell_of (MapKept.heap_alloc _ _).1 1
 obtain ⟨c1, hcc⟩ := HKEEP.out w1 hb1
 have HC := Lib.hid hcc; have HB1 := Lib.hid hb1
 clear hcc hb1 hw1 HO
 go_wp2_with fail
 go_loopw [6] (fun i wr => ∃ k : Nat, k ≤ L ∧ i = .int .i64 k ∧ Hid (AllW sp f t s k) ∧ ∃ n, wr = w1.drewN n) (fun i _ => L - (intOf i).toNat)
 case atStart => exact ⟨0, Nat.zero_le _, rfl, Lib.hid (fun k hk => by omega), 0, rfl⟩
 case round =>
  obtain ⟨k, hk, rfl, HA, nd, rfl⟩ := hrel
  have hbd : Below w.heap.size w (w1.drewN nd) := below_dr HB1.out nd
  by_cases hlt : k < L
  ·obtain ⟨k0, k1⟩ := HC.out k hlt
   have HE := Lib.hid (fun (n : Nat) => HEND.out k hlt (w1.drewN n) (below_dr HB1.out n))
   have hbad : (sp.getD k d0).1 ≤ t → f ≤ endOf sp k → (sp.getD k d0).2 ≠ s → ¬ AllW sp f t s L := fun a b c h => c (h k hlt a b)
   have hgood : ((sp.getD k d0).1 ≤ t → f ≤ endOf sp k → (sp.getD k d0).2 = s) → AllW sp f t s (k + 1) := fun h j hj a b => by
    by_cases e : j = k
    ·subst e; exact h a b
    ·exact HA.out j (by omega) a b
   obtain ⟨p, hp⟩ : ∃ p, (sp.getD k d0).1 = p := ⟨_, rfl⟩
   obtain ⟨q, hq⟩ : ∃ p, (sp.getD k d0).2 = p := ⟨_, rfl⟩
   obtain ⟨en, hen⟩ : ∃ p, endOf sp k = p := ⟨_, rfl⟩
   rw [hp, hq, hen] at hbad hgood; rw [hp] at k0; rw [hq] at k1; rw [hen] at HE
   have HBAD := Lib.hid hbad; have HGOOD := Lib.hid hgood; have HBD := Lib.hid hbd
   have hkl : ((k : Int) < (L : Int)) = True := by simp; omega
   have hkl' : (k : Int) < (L : Int) := by omega
   clear hbad hgood hp hq hen hbd
   by_cases hpt : p ≤ t
   ·by_cases hfe : f ≤ en
    ·by_cases hqs : q = s
     ·have hqb : ((q : Int) != (s : Int)) = false := by simp [hqs]
      have HG := Lib.hid (HGOOD.out (fun _ _ => hqs))
      have hd1 : decide ((p : Int) ≤ (t : Int)) = true := by simp; omega
      have hd2 : decide ((f : Int) ≤ (en : Int)) = true := by simp; omega
      clear hqs
      go_wp2_with fail
      go_quiet (exact (HE.out _).mono (fun e wz h => ⟨h.1, ⟨_, h.2⟩⟩))
      go_wp2_with fail
      go_roundw
      case rel => exact ⟨k + 1, by omega, by go_num, HG, _, rfl⟩
      case measure => simp [intOf]; omega
     ·have hqb : ((q : Int) != (s : Int)) = true := by simp; omega
      have HG := Lib.hid (HBAD.out hpt hfe hqs)
      have hd1 : decide ((p : Int) ≤ (t : Int)) = true := by simp; omega
      have hd2 : decide ((f : Int) ≤ (en : Int)) = true := by simp; omega
      clear hqs
      go_wp2_with fail
      go_quiet (exact (HE.out _).mono (fun e wz h => ⟨h.1, ⟨_, h.2⟩⟩))
      go_wp2_with fail
      go_ret
      exact ⟨Or.inr ⟨HG.out, rfl⟩, below_dr HBD.out _⟩
    ·have HG := Lib.hid (HGOOD.out (fun _ h => absurd h hfe))
     have hd1 : decide ((p : Int) ≤ (t : Int)) = true := by simp; omega
     have hd2 : decide ((f : Int) ≤ (en : Int)) = false := by simp; omega
     go_wp2_with fail
     go_quiet (exact (HE.out _).mono (fun e wz h => ⟨h.1, ⟨_, h.2⟩⟩))
     go_wp2_with fail
     go_roundw
     case rel => exact ⟨k + 1, by omega, by go_num, HG, _, rfl⟩
     case measure => simp [intOf]; omega
   ·have HG := Lib.hid (HGOOD.out (fun h => absurd h hpt))
    have hd1 : decide ((p : Int) ≤ (t : Int)) = false := by simp; omega
    go_wp2_with fail
    go_quiet (exact (HE.out _).mono (fun e wz h => ⟨h.1, ⟨_, h.2⟩⟩))
    go_wp2_with fail
    go_roundw
    case rel => exact ⟨k + 1, by omega, by go_num, HG, _, rfl⟩
    case measure => simp [intOf]; omega
  ·obtain rfl : k = L := by omega
   have HBD := Lib.hid hbd
   clear hbd
   go_wp2_with fail
   go_ret
   exact ⟨Or.inl ⟨HA.out, rfl⟩, HBD.out⟩
end Go.Proofs.YtggdkfijioeijaaGreatDoor
namespace Go.Proofs.YtggdkfijioeijaaGreatDoor
open Go Go.RowKit Go.Maps
def DpS (nb base : Nat) (ev : Value) (sp : List (Nat × Nat)) (w : World) : Prop := ∃ a cp, w.heap[nb]? = some (.cells #[ev, .slice a sp.length cp] 88 (0, 0)) ∧ w.ownsRow base 99 2 (.slice a sp.length cp) sp.length (spV sp)
theorem DpS.below {nb base : Nat} {ev : Value} {sp : List (Nat × Nat)} {W W' : World} (h : DpS nb base ev sp W) (hb : Below W.heap.size W W') : DpS nb base ev sp W' := by
 obtain ⟨a, cp, h1, h2⟩ := h
 exact ⟨a, cp, (hb.block nb (lt_of_block h1)).trans h1, ownBelow h2 hb⟩
theorem dps_step {w w' : World} {nb base c s n cp cp' : Nat} {ev : Value} {sp : List (Nat × Nat)} {a a' : Option Addr} (hB : w.heap[nb]? = some (.cells #[ev, .slice a n cp] 88 (0, 0))) (hnb : nb < base) (hb : Below base w w')
  (hrow : w'.ownsRow base 99 2 (.slice a' (addS sp c s).length cp') (addS sp c s).length (spV (addS sp c s))) :
  w'.cell? ⟨nb, 1, none⟩ = some (.slice a n cp) ∧ w'.frozen? ⟨nb, 1, none⟩ = false ∧ ∃ X, w'.setCell ⟨nb, 1, none⟩ (.slice a' (addS sp c s).length cp') = X ∧ DpS nb base ev (addS sp c s) X ∧ KX nb base w X := by
 have hB' := (hb.block nb hnb).trans hB
 refine ⟨cell_of hB' 1, frozen_of hB' 1, _, rfl, ⟨a', cp', setCell_block hB' _, ownsRow_setCell_below hrow (by dsimp only; omega) _⟩, (KX.of hb).trans (KX.set base w' ⟨nb, 1, none⟩ _)⟩
theorem DpS.doc {nb base e1 : Nat} {sp : List (Nat × Nat)} {W : World} (h : DpS nb base (.int .u64 (e1 : Int)) sp W) (hne : sp ≠ []) : DocAt W nb e1 sp := by
 obtain ⟨a, cp, h1, h2⟩ := h
 have hpos := List.length_pos_iff.2 hne
 obtain ⟨g, rfl, hbg⟩ : ∃ g, a = some ⟨g, 0, none⟩ ∧ base ≤ g := by
  rcases h2.2 with ⟨_, h⟩ | ⟨g', cap', cur, h', hB, _⟩
  ·omega
  ·simp only [Value.slice.injEq] at h'; exact ⟨g', h'.1, hB⟩
 obtain ⟨C, T, F, hg⟩ := own_cells h2 g rfl
 refine ⟨g, cp, h1, lt_of_block hg, fun i hi => ?_⟩
 obtain ⟨s1, s2⟩ := spV_at sp i hi
 exact ⟨(World.ownsRow.cellAt h2 (i * 2) (by omega)).trans s1, (World.ownsRow.cellAt h2 (i * 2 + 1) (by omega)).trans s2⟩
theorem allW_fit {O : Nat → Nat} {sp : List (Nat × Nat)} (h : SpI O sp M64) {f t : Nat} (hft : f ≤ t) (ht : t < M64) : AllW sp f t (O f) sp.length ↔ ∀ u, f ≤ u → u ≤ t → O u = O f := by
 constructor
 ·intro hA u h1 h2
  obtain ⟨k, hk, a, b⟩ := cover h (u := u) (Nat.lt_of_le_of_lt h2 ht)
  rw [h.at_ hk a b]
  exact hA k hk (Nat.le_trans a h2) (Nat.le_trans h1 b)
 ·intro hF k hk a b
  have hn := (endOf_next h hk).1
  have e := h.at_ hk (u := max f (sp.getD k d0).1) (Nat.le_max_right _ _) (Nat.max_le.2 ⟨b, hn⟩)
  rw [← e]
  exact hF _ (Nat.le_max_left _ _) (Nat.max_le.2 ⟨hft, a⟩)
def SplitD (O : Nat → Nat) (f t tw e1 : Nat) (sp : List (Nat × Nat)) (w : World) (en : Ending) (w' : World) : Prop := Below w.heap.size w w' ∧ ∃ c : Int, SplitC O f t tw e1 (splitL sp f t tw).length c ∧
 ((c ≠ 0 ∧ en = .returned (.tuple #[.pointer none, .int .u32 0, .int .i64 c])) ∨ (c = 0 ∧ ∃ n, en = .returned (.tuple #[.pointer (some ⟨n, 0, none⟩), .int .u32 (O f : Nat), .int .i64 0]) ∧ DocAt w' n e1 (splitL sp f t tw)))
theorem splitC_not {O : Nat → Nat} {f t tw e1 L : Nat} (hb : ¬ BadArg f t tw) (h : ¬ FitO O f t tw) : SplitC O f t tw e1 L 270 := Or.inr (Or.inl ⟨hb, h, rfl⟩)
theorem splitC_full {O : Nat → Nat} {f t tw e1 L : Nat} (hb : ¬ BadArg f t tw) (h : FitO O f t tw) (h2 : 2048 < L ∨ e1 = 0) : SplitC O f t tw e1 L 4 := Or.inr (Or.inr (Or.inl ⟨hb, h, h2, rfl⟩))
theorem splitC_ok {O : Nat → Nat} {f t tw e1 L : Nat} (hb : ¬ BadArg f t tw) (h : FitO O f t tw) (h2 : ¬ (2048 < L ∨ e1 = 0)) : SplitC O f t tw e1 L 0 := Or.inr (Or.inr (Or.inr ⟨hb, h, h2, rfl⟩))
theorem foldW_upto (f t tw : Nat) (sp : List (Nat × Nat)) (k : Nat) : (upto (nthRg sp) (k + 1)).foldl (stepW f t tw) [] = stepW f t tw ((upto (nthRg sp) k).foldl (stepW f t tw) []) (nthRg sp k) := by
 rw [upto_succ, List.foldl_append, List.foldl_cons, List.foldl_nil]
set_option maxRecDepth 100000 in
set_option maxHeartbeats 2000000 in
theorem d27_Split_arg (m f t tw : Nat) (w : World) (ha : BadArg f t tw) :
  Calls Tryz.prog 22 #[.pointer (some ⟨m, 0, none⟩), .agg #[.int .u64 (f : Int), .int .u64 (t : Int)], .int .u32 (tw : Int)] w fun en w' => en = .returned (.tuple #[.pointer none, .int .u32 0, .int .i64 2]) ∧ Below w.heap.size w w' := by
 by_cases hft : t < f
 ·have h1' : (t : Int) < (f : Int) := by omega
  clear ha
  go_enter Tryz.func22, Tryz.ntmps22
  go_wp2_with fail
  refine bodyPost_ret (v := .tuple #[.pointer none, .int .u32 0, .int .i64 2]) (by simp [results, Tryz.results22, go_sem]) rfl ⟨rfl, (Below.refl _ _).alloc (Nat.le_refl _) _⟩
 ·have h1' : ¬ (t : Int) < (f : Int) := by omega
  obtain rfl : tw = 0 := ha.resolve_left hft
  clear ha
  go_enter Tryz.func22, Tryz.ntmps22
  go_wp2_with fail
  refine bodyPost_ret (v := .tuple #[.pointer none, .int .u32 0, .int .i64 2]) (by simp [results, Tryz.results22, go_sem]) rfl ⟨rfl, (Below.refl _ _).alloc (Nat.le_refl _) _⟩
set_option maxRecDepth 100000 in
set_option maxHeartbeats 8000000 in
theorem d27_Split_do (m e f t tw : Nat) (sp : List (Nat × Nat)) (w : World) (hD : DocAt w m e sp) (hl : sp.length ≤ 10000) (O : Nat → Nat) (hS : SpI O sp M64) (ht : t < M64) (hbad : ¬ BadArg f t tw) (hO : ∀ u, 1 ≤ O u) :
    Calls Tryz.prog 22 #[.pointer (some ⟨m, 0, none⟩), .agg #[.int .u64 (f : Int), .int .u64 (t : Int)], .int .u32 (tw : Int)] w (SplitD O f t tw ((e + 1) % M64) sp w) := by
  have hft : f ≤ t := Nat.le_of_not_lt (fun h => hbad (Or.inl h))
  have htw : tw ≠ 0 := fun h => hbad (Or.inr h)
  have hfi : ¬ (t : Int) < (f : Int) := by omega
  have htb : ((tw : Int) == 0) = false := by simp; omega
  have hC := hS.canon hl
  have hA : Below w.heap.size w (w.alloc (.cells #[.int .u64 (f : Int), .int .u64 (t : Int)] 27)) := (Below.refl _ _).alloc (Nat.le_refl _) _
  have hwh := d27_whose m e f t sp _ (hD.below hA) hC
  have hlo : lastO sp f sp.length = O f := lastO_law hS (Nat.lt_of_le_of_lt hft ht)
  rw [hlo] at hwh
  have hall := allW_fit hS hft ht
  obtain ⟨was, hwas⟩ : ∃ x, O f = x := ⟨_, rfl⟩
  obtain ⟨e1, he1⟩ : ∃ x, (e + 1) % M64 = x := ⟨_, rfl⟩
  have hwas1 : 1 ≤ was := by rw [← hwas]; exact hO f
  have hew : IntKind.u64.wrap ((e : Int) + 1) = (e1 : Int) := by rw [IntKind.wrap_u64, ← he1]; show _ = (((e + 1) % 18446744073709551616 : Nat) : Int); omega
  rw [he1]
  have hfit : FitO O f t tw ↔ AllW sp f t was sp.length ∧ was ≠ tw := by unfold FitO; rw [hwas]; exact and_congr_left' (by rw [← hwas]; exact hall.symm)
  rw [hwas] at hwh
  have HFIT := Lib.hid hfit; have HBAD := Lib.hid hbad; have HWAS := Lib.hid hwas; have HWH := Lib.hid hwh; have HS := Lib.hid hS; have HCN := Lib.hid hC; have HD := Lib.hid hD
  clear hlo hall hwas he1 hfit hwh hC hbad hO hA hD hS
  obtain ⟨W0, hW0⟩ : ∃ W0, w.alloc (.cells #[.int .u64 (f : Int), .int .u64 (t : Int)] 27) = W0 := ⟨_, rfl⟩
  obtain ⟨hz0, g0, hb0⟩ := alloc_keep hW0
  rw [hW0] at HWH
  have x0 : W0.cell? ⟨w.heap.size, 0, none⟩ = some (.int .u64 (f : Int)) := cell_of g0 0
  have x1 : W0.cell? ⟨w.heap.size, 1, none⟩ = some (.int .u64 (t : Int)) := cell_of g0 1
  go_enter Tryz.func22, Tryz.ntmps22
  go_upto_region 1 with fail
  clear hW0
  go_wp2_with fail
  refine HWH.out.mono ?_
  rintro en w1 ⟨h | h, hb1⟩
  rotate_left
  · obtain ⟨hno, rfl⟩ := h
    have HB := Lib.hid (hb0.trans (hb1.mono hb0.size))
    have HNO := Lib.hid (fun h => hno (HFIT.out.1 h).1)
    clear hb0 hb1 hno HWH x0 x1
    go_wp2_with fail
    refine bodyPost_ret (v := .tuple #[.pointer none, .int .u32 0, .int .i64 270]) (by simp [results, Tryz.results22, go_sem]) rfl ⟨HB.out, 270, splitC_not HBAD.out HNO.out, Or.inl ⟨by decide, rfl⟩⟩
  obtain ⟨hyes, rfl⟩ := h
  have hb01 := hb0.trans (hb1.mono hb0.size)
  have hwb : ((was : Int) == 0) = false := by simp; omega
  by_cases hwt : was = tw
  · have hwtb : ((was : Int) == (tw : Int)) = true := by simp [hwt]
    have HB := Lib.hid hb01
    have HNO := Lib.hid (fun h => (HFIT.out.1 h).2 hwt)
    clear hb01 hb0 hb1 hyes hwt HWH x0 x1
    go_wp2_with fail
    refine bodyPost_ret (v := .tuple #[.pointer none, .int .u32 0, .int .i64 270]) (by simp [results, Tryz.results22, go_sem]) rfl ⟨HB.out, 270, splitC_not HBAD.out HNO.out, Or.inl ⟨by decide, rfl⟩⟩
  have hwtb : ((was : Int) == (tw : Int)) = false := by simp; omega
  have HFI := Lib.hid (HFIT.out.2 ⟨hyes, hwt⟩)
  have hD1 := HD.out.below hb01
  obtain ⟨g, cp, h1, h2, h3⟩ := id hD1
  have m0 : w1.cell? ⟨m, 0, none⟩ = some (.int .u64 (e : Int)) := cell_of h1 0
  have hml := lt_of_block h1
  obtain ⟨B, hB⟩ : ∃ x, w1.heap.size = x := ⟨_, rfl⟩
  obtain ⟨w2, hw2⟩ : ∃ w2, w1.alloc (.cells #[.int .u64 (e1 : Int), .slice none 0 0] 88) = w2 := ⟨_, rfl⟩
  obtain ⟨hz2, gB, ha2⟩ := alloc_keep hw2
  rw [hB] at hz2 gB ha2 hml h2
  have hs1 := hb1.size
  have hwB : w.heap.size + 1 ≤ B := by omega
  obtain ⟨L, hL⟩ : ∃ x, sp.length = x := ⟨_, rfl⟩
  rw [hL] at h1 h3 hl
  have hkeep : ∀ W', KX B (B + 1) w2 W' → W'.cell? ⟨m, 1, none⟩ = some (.slice (some ⟨g, 0, none⟩) L cp) ∧ W'.cell? ⟨w.heap.size, 0, none⟩ = some (.int .u64 (f : Int)) ∧ W'.cell? ⟨w.heap.size, 1, none⟩ = some (.int .u64 (t : Int)) ∧ (∀ i, i < L → W'.cell? ⟨g, i * 2, none⟩ = some (.int .u64 ((sp.getD i d0).1 : Int)) ∧ W'.cell? ⟨g, i * 2 + 1, none⟩ = some (.int .u32 ((sp.getD i d0).2 : Int))) ∧ DocAt W' m e sp ∧ Below w.heap.size w W' := fun W' hk => by
    have hb : Below B w1 W' := ha2.trans (hk.below (Nat.le_succ _) (Nat.le_refl _))
    have g0' := (hb.block _ (by omega)).trans ((hb1.block _ (by omega)).trans g0)
    exact ⟨cell_of ((hb.block m hml).trans h1) 1, cell_of g0' 0, cell_of g0' 1, fun i hi => ⟨(hb.cell (p := ⟨g, i * 2, none⟩) h2).trans (h3 i hi).1, (hb.cell (p := ⟨g, i * 2 + 1, none⟩) h2).trans (h3 i hi).2⟩, hD1.below (by rw [hB]; exact hb), hb01.trans (hb.mono (by omega))⟩
  have hdp0 : DpS B (B + 1) (.int .u64 (e1 : Int)) [] w2 := ⟨none, 0, gB, World.ownsRow_nil _ _ _ _⟩
  have HKEEP := Lib.hid hkeep; have HDP0 := Lib.hid hdp0; have HZ2 := Lib.hid hz2; have HL := Lib.hid hL
  have HLAW := Lib.hid (splitW_eq HS.out f t tw); have HNE := Lib.hid (splitL_law tw hft HS.out).ne
  obtain ⟨n1, _⟩ := hkeep w2 (KX.refl _ _ _)
  clear hb01 hb0 hb1 hyes hwt HWH x0 x1 h1 h2 h3 hkeep hdp0 hz2 gB ha2 hD1 hml hs1 hz0 g0 hL HD htw hwas1
  go_upto_region 7 with fail
  clear hw2 m0
  go_wp2_with fail
  go_loopw [11] (fun i wr => ∃ k : Nat, k ≤ L ∧ i = .int .i64 k ∧ Hid (DpS B (B + 1) (.int .u64 (e1 : Int)) ((upto (nthRg sp) k).foldl (stepW f t tw) []) wr) ∧ Hid (KX B (B + 1) w2 wr)) (fun i _ => L - (intOf i).toNat)
  case atStart => exact ⟨0, Nat.zero_le _, rfl, HDP0, Lib.hid (KX.refl _ _ _)⟩
  case round =>
    obtain ⟨k, hk, rfl, HDP, HKX⟩ := hrel
    obtain ⟨m1, x0, x1, hgc, hdoc, hbw⟩ := HKEEP.out wr HKX.out
    have hzr : B + 1 ≤ wr.heap.size := by have := HKX.out.size; have := HZ2.out; omega
    by_cases hlt : k < L
    · obtain ⟨k0, k1⟩ := hgc k hlt
      have HEND := Lib.hid (fun (n : Nat) => d27_end m e k sp (wr.drewN n) (hdoc.drew n) HCN.out (by rw [HL.out]; exact hlt))
      have hlq : ((upto (nthRg sp) k).foldl (stepW f t tw) []).length ≤ 30000 := by
        have := foldW_length f t tw (upto (nthRg sp) k) []
        rw [upto_length] at this; simp at this; omega
      have hfo := foldW_upto f t tw sp k
      obtain ⟨sq, hsq⟩ : ∃ x, (upto (nthRg sp) k).foldl (stepW f t tw) [] = x := ⟨_, rfl⟩
      rw [hsq] at HDP hlq hfo
      obtain ⟨a1, ha1⟩ : ∃ x, (sp.getD k d0).1 = x := ⟨_, rfl⟩
      obtain ⟨s, hs⟩ : ∃ x, (sp.getD k d0).2 = x := ⟨_, rfl⟩
      obtain ⟨b1, hb1⟩ : ∃ x, endOf sp k = x := ⟨_, rfl⟩
      obtain ⟨mx, hmx⟩ : ∃ z, max f a1 = z := ⟨_, rfl⟩
      obtain ⟨t1, ht1⟩ : ∃ z, (t + 1) % M64 = z := ⟨_, rfl⟩
      have hmxi : max (a1 : Int) (f : Int) = (mx : Int) := by omega
      have ht1i : IntKind.u64.wrap ((t : Int) + 1) = (t1 : Int) := by rw [IntKind.wrap_u64, ← ht1]; show _ = (((t + 1) % 18446744073709551616 : Nat) : Int); omega
      have hstep : stepW f t tw sq (nthRg sp k) = if a1 ≤ t ∧ f ≤ b1 then (if t < b1 then addS (addS (if a1 < f then addS sq a1 s else sq) mx tw) t1 s else addS (if a1 < f then addS sq a1 s else sq) mx tw) else addS sq a1 s := by
        have h1 : nthRg sp k = (a1, b1, s) := by unfold nthRg; rw [ha1, hb1, hs]
        rw [h1]
        unfold stepW
        by_cases hm : a1 ≤ t ∧ f ≤ b1
        · rw [if_pos (show Meets f t (a1, b1, s) from hm), if_pos hm]; simp only [hmx, ht1]
        · rw [if_neg (show ¬ Meets f t (a1, b1, s) from hm), if_neg hm]
      rw [ha1] at k0; rw [hs] at k1; rw [hb1] at HEND
      have HFOL := Lib.hid (hfo.trans hstep)
      have hkl' : (k : Int) < (L : Int) := by omega
      have HA1 := Lib.hid ha1; have HS1 := Lib.hid hs
      clear hfo hstep hsq ha1 hs hb1 hmx ht1 hgc hdoc hbw
      by_cases hm1 : b1 < f
      · have hm1i : (b1 : Int) < (f : Int) := by omega
        have HFO := Lib.hid (HFOL.out.trans (if_neg (fun h => by omega)))
        go_wp2_with fail
        go_quiet (exact (HEND.out _).mono (fun e wz h => ⟨h.1, ⟨_, h.2⟩⟩))
        obtain ⟨X0, hX0⟩ : ∃ X, wr.drewN nq = X := ⟨_, rfl⟩
        have hbq : Below wr.heap.size wr X0 := by rw [← hX0]; exact below_dr (Below.refl _ _) _
        rw [hX0]
        have HP0 := Lib.hid (HDP.out.below hbq); have HK0 := Lib.hid (HKX.out.trans (KX.of (hbq.mono hzr)))
        have z0 := hbq.size
        clear hX0 hbq HEND m1 x0 x1 k0 k1
        obtain ⟨m1, x0, x1, hgc, _⟩ := HKEEP.out X0 HK0.out
        obtain ⟨k0, k1⟩ := hgc k hlt
        rw [HA1.out] at k0; rw [HS1.out] at k1
        obtain ⟨av0, cv0, bq0, rq0⟩ := HP0.out
        obtain ⟨nn0, hnn0⟩ : ∃ x, sq.length = x := ⟨_, rfl⟩
        rw [hnn0] at bq0 rq0
        have c1n : X0.cell? ⟨B, 1, none⟩ = some (.slice av0 nn0 cv0) := cell_of bq0 1
        have HBQ0 := Lib.hid bq0; have HRQ0 := Lib.hid rq0; have HNN0 := Lib.hid hnn0
        have hnl0 : nn0 ≤ 30000 := by omega
        clear hgc bq0 rq0 hnn0
        go_wp2_with fail
        refine (d27_add (B + 1) a1 s nn0 cv0 av0 sq X0 HNN0.out (by omega) (by omega) HRQ0.out).mono ?_
        rintro e Y0 ⟨ax, cx, rfl, hrow, hb⟩
        obtain ⟨y1, y2, X1, hX1, hp, hk⟩ := dps_step HBQ0.out (Nat.lt_succ_self B) hb hrow; have hsz := hb.size; have HP1 := Lib.hid hp; have HK1 := Lib.hid (HK0.out.trans hk); clear hp hk hrow hb
        have z1 := HK1.out.size
        have l1 := addS_length sq a1 s
        clear m1 x0 x1 k0 k1 c1n
        obtain ⟨m1, x0, x1, hgc, _⟩ := HKEEP.out X1 HK1.out
        obtain ⟨k0, k1⟩ := hgc k hlt
        rw [HA1.out] at k0; rw [HS1.out] at k1
        obtain ⟨av1, cv1, bq1, rq1⟩ := HP1.out
        obtain ⟨nn1, hnn1⟩ : ∃ x, (addS sq a1 s).length = x := ⟨_, rfl⟩
        rw [hnn1] at bq1 rq1
        have c1n : X1.cell? ⟨B, 1, none⟩ = some (.slice av1 nn1 cv1) := cell_of bq1 1
        have HBQ1 := Lib.hid bq1; have HRQ1 := Lib.hid rq1; have HNN1 := Lib.hid hnn1; have hnl1 : nn1 ≤ 30000 + 1 := by have := HNN0.out; omega
        have hzx1 : B + 1 ≤ X1.heap.size := by have := HZ2.out; omega
        clear hgc bq1 rq1 hnn1 l1 z1
        go_wp2_with fail
        go_roundw
        case rel => exact ⟨k + 1, by omega, by go_num, Lib.hid (by rw [HFO.out]; exact HP1.out), HK1⟩
        case measure => simp [intOf]; omega
      · have hm1i : ¬ (b1 : Int) < (f : Int) := by omega
        by_cases hm2 : t < a1
        · have hm2i : (t : Int) < (a1 : Int) := by omega
          have HFO := Lib.hid (HFOL.out.trans (if_neg (fun h => by omega)))
          go_wp2_with fail
          go_quiet (exact (HEND.out _).mono (fun e wz h => ⟨h.1, ⟨_, h.2⟩⟩))
          obtain ⟨X0, hX0⟩ : ∃ X, wr.drewN nq = X := ⟨_, rfl⟩
          have hbq : Below wr.heap.size wr X0 := by rw [← hX0]; exact below_dr (Below.refl _ _) _
          rw [hX0]
          have HP0 := Lib.hid (HDP.out.below hbq); have HK0 := Lib.hid (HKX.out.trans (KX.of (hbq.mono hzr)))
          have z0 := hbq.size
          clear hX0 hbq HEND m1 x0 x1 k0 k1
          obtain ⟨m1, x0, x1, hgc, _⟩ := HKEEP.out X0 HK0.out
          obtain ⟨k0, k1⟩ := hgc k hlt
          rw [HA1.out] at k0; rw [HS1.out] at k1
          obtain ⟨av0, cv0, bq0, rq0⟩ := HP0.out
          obtain ⟨nn0, hnn0⟩ : ∃ x, sq.length = x := ⟨_, rfl⟩
          rw [hnn0] at bq0 rq0
          have c1n : X0.cell? ⟨B, 1, none⟩ = some (.slice av0 nn0 cv0) := cell_of bq0 1
          have HBQ0 := Lib.hid bq0; have HRQ0 := Lib.hid rq0; have HNN0 := Lib.hid hnn0
          have hnl0 : nn0 ≤ 30000 := by omega
          clear hgc bq0 rq0 hnn0
          go_wp2_with fail
          refine (d27_add (B + 1) a1 s nn0 cv0 av0 sq X0 HNN0.out (by omega) (by omega) HRQ0.out).mono ?_
          rintro e Y0 ⟨ax, cx, rfl, hrow, hb⟩
          obtain ⟨y1, y2, X1, hX1, hp, hk⟩ := dps_step HBQ0.out (Nat.lt_succ_self B) hb hrow; have hsz := hb.size; have HP1 := Lib.hid hp; have HK1 := Lib.hid (HK0.out.trans hk); clear hp hk hrow hb
          have z1 := HK1.out.size
          have l1 := addS_length sq a1 s
          clear m1 x0 x1 k0 k1 c1n
          obtain ⟨m1, x0, x1, hgc, _⟩ := HKEEP.out X1 HK1.out
          obtain ⟨k0, k1⟩ := hgc k hlt
          rw [HA1.out] at k0; rw [HS1.out] at k1
          obtain ⟨av1, cv1, bq1, rq1⟩ := HP1.out
          obtain ⟨nn1, hnn1⟩ : ∃ x, (addS sq a1 s).length = x := ⟨_, rfl⟩
          rw [hnn1] at bq1 rq1
          have c1n : X1.cell? ⟨B, 1, none⟩ = some (.slice av1 nn1 cv1) := cell_of bq1 1
          have HBQ1 := Lib.hid bq1; have HRQ1 := Lib.hid rq1; have HNN1 := Lib.hid hnn1; have hnl1 : nn1 ≤ 30000 + 1 := by have := HNN0.out; omega
          have hzx1 : B + 1 ≤ X1.heap.size := by have := HZ2.out; omega
          clear hgc bq1 rq1 hnn1 l1 z1
          go_wp2_with fail
          go_roundw
          case rel => exact ⟨k + 1, by omega, by go_num, Lib.hid (by rw [HFO.out]; exact HP1.out), HK1⟩
          case measure => simp [intOf]; omega
        · have hm2i : ¬ (t : Int) < (a1 : Int) := by omega
          have HSWM := Lib.hid (HFOL.out.trans (if_pos (by omega)))
          go_wp2_with fail
          go_quiet (exact (HEND.out _).mono (fun e wz h => ⟨h.1, ⟨_, h.2⟩⟩))
          obtain ⟨X0, hX0⟩ : ∃ X, wr.drewN nq = X := ⟨_, rfl⟩
          have hbq : Below wr.heap.size wr X0 := by rw [← hX0]; exact below_dr (Below.refl _ _) _
          rw [hX0]
          have HP0 := Lib.hid (HDP.out.below hbq); have HK0 := Lib.hid (HKX.out.trans (KX.of (hbq.mono hzr)))
          have z0 := hbq.size
          clear hX0 hbq HEND m1 x0 x1 k0 k1
          obtain ⟨m1, x0, x1, hgc, _⟩ := HKEEP.out X0 HK0.out
          obtain ⟨k0, k1⟩ := hgc k hlt
          rw [HA1.out] at k0; rw [HS1.out] at k1
          obtain ⟨av0, cv0, bq0, rq0⟩ := HP0.out
          obtain ⟨nn0, hnn0⟩ : ∃ x, sq.length = x := ⟨_, rfl⟩
          rw [hnn0] at bq0 rq0
          have c1n : X0.cell? ⟨B, 1, none⟩ = some (.slice av0 nn0 cv0) := cell_of bq0 1
          have HBQ0 := Lib.hid bq0; have HRQ0 := Lib.hid rq0; have HNN0 := Lib.hid hnn0
          have hnl0 : nn0 ≤ 30000 := by omega
          clear hgc bq0 rq0 hnn0
          by_cases hc1 : a1 < f
          · have hc1i : (a1 : Int) < (f : Int) := by omega
            by_cases hc3 : t < b1
            · have hc3i : (t : Int) < (b1 : Int) := by omega
              have HFO := Lib.hid (HSWM.out.trans (by rw [if_pos hc3, if_pos hc1]))
              go_wp2_with fail
              refine (d27_add (B + 1) a1 s nn0 cv0 av0 sq X0 HNN0.out (by omega) (by omega) HRQ0.out).mono ?_
              rintro e Y0 ⟨ax, cx, rfl, hrow, hb⟩
              obtain ⟨y1, y2, X1, hX1, hp, hk⟩ := dps_step HBQ0.out (Nat.lt_succ_self B) hb hrow; have hsz := hb.size; have HP1 := Lib.hid hp; have HK1 := Lib.hid (HK0.out.trans hk); clear hp hk hrow hb
              have z1 := HK1.out.size
              have l1 := addS_length sq a1 s
              clear m1 x0 x1 k0 k1 c1n
              obtain ⟨m1, x0, x1, hgc, _⟩ := HKEEP.out X1 HK1.out
              obtain ⟨k0, k1⟩ := hgc k hlt
              rw [HA1.out] at k0; rw [HS1.out] at k1
              obtain ⟨av1, cv1, bq1, rq1⟩ := HP1.out
              obtain ⟨nn1, hnn1⟩ : ∃ x, (addS sq a1 s).length = x := ⟨_, rfl⟩
              rw [hnn1] at bq1 rq1
              have c1n : X1.cell? ⟨B, 1, none⟩ = some (.slice av1 nn1 cv1) := cell_of bq1 1
              have HBQ1 := Lib.hid bq1; have HRQ1 := Lib.hid rq1; have HNN1 := Lib.hid hnn1; have hnl1 : nn1 ≤ 30000 + 1 := by have := HNN0.out; omega
              have hzx1 : B + 1 ≤ X1.heap.size := by have := HZ2.out; omega
              clear hgc bq1 rq1 hnn1 l1 z1
              go_wp2_with fail
              have HADD1 := Lib.hid (d27_add (B + 1) mx tw nn1 cv1 av1 (addS sq a1 s) X1.drew HNN1.out (by omega) (by show B + 1 ≤ X1.heap.size; omega) (rowBelow HRQ1.out (Below.drew (Below.refl _ _))))
              go_region_law ((go_simp; go_at_call 54; refine HADD1.out.mono ?_; rintro e Y1 ⟨ax, cx, rfl, hrow, hb⟩; obtain ⟨y1, y2, X2, hX2, hp, hk⟩ := dps_step (show X1.drew.heap[B]? = _ from HBQ1.out) (Nat.lt_succ_self B) hb hrow; have hsz := hb.size; have HP2 := Lib.hid hp; have HK2 := Lib.hid (HK1.out.trans ((KX.of (Below.drew (Below.refl (B + 1) X1))).trans hk)); clear hp hk hrow hb))
              all_goals (
                have z2 := HK2.out.size
                have l2 := addS_length (addS sq a1 s) mx tw
                clear m1 x0 x1 k0 k1 c1n
                obtain ⟨m1, x0, x1, hgc, _⟩ := HKEEP.out X2 HK2.out
                obtain ⟨k0, k1⟩ := hgc k hlt
                rw [HA1.out] at k0; rw [HS1.out] at k1
                obtain ⟨av2, cv2, bq2, rq2⟩ := HP2.out
                obtain ⟨nn2, hnn2⟩ : ∃ x, (addS (addS sq a1 s) mx tw).length = x := ⟨_, rfl⟩
                rw [hnn2] at bq2 rq2
                have c1n : X2.cell? ⟨B, 1, none⟩ = some (.slice av2 nn2 cv2) := cell_of bq2 1
                have HBQ2 := Lib.hid bq2; have HRQ2 := Lib.hid rq2; have HNN2 := Lib.hid hnn2; have hnl2 : nn2 ≤ 30000 + 2 := by have := HNN1.out; omega
                have hzx2 : B + 1 ≤ X2.heap.size := by have := HZ2.out; omega
                clear hgc bq2 rq2 hnn2 l2 z2
                go_wp2_with fail
                have HADD2 := Lib.hid (d27_add (B + 1) t1 s nn2 cv2 av2 (addS (addS sq a1 s) mx tw) X2.drew HNN2.out (by omega) (by show B + 1 ≤ X2.heap.size; omega) (rowBelow HRQ2.out (Below.drew (Below.refl _ _))))
                go_region_law ((go_simp; go_at_call 54; refine HADD2.out.mono ?_; rintro e Y2 ⟨ax, cx, rfl, hrow, hb⟩; obtain ⟨y1, y2, X3, hX3, hp, hk⟩ := dps_step (show X2.drew.heap[B]? = _ from HBQ2.out) (Nat.lt_succ_self B) hb hrow; have hsz := hb.size; have HP3 := Lib.hid hp; have HK3 := Lib.hid (HK2.out.trans ((KX.of (Below.drew (Below.refl (B + 1) X2))).trans hk)); clear hp hk hrow hb))
                all_goals (
                  have z3 := HK3.out.size
                  have l3 := addS_length (addS (addS sq a1 s) mx tw) t1 s
                  clear m1 x0 x1 k0 k1 c1n
                  obtain ⟨m1, x0, x1, hgc, _⟩ := HKEEP.out X3 HK3.out
                  obtain ⟨k0, k1⟩ := hgc k hlt
                  rw [HA1.out] at k0; rw [HS1.out] at k1
                  obtain ⟨av3, cv3, bq3, rq3⟩ := HP3.out
                  obtain ⟨nn3, hnn3⟩ : ∃ x, (addS (addS (addS sq a1 s) mx tw) t1 s).length = x := ⟨_, rfl⟩
                  rw [hnn3] at bq3 rq3
                  have c1n : X3.cell? ⟨B, 1, none⟩ = some (.slice av3 nn3 cv3) := cell_of bq3 1
                  have HBQ3 := Lib.hid bq3; have HRQ3 := Lib.hid rq3; have HNN3 := Lib.hid hnn3; have hnl3 : nn3 ≤ 30000 + 3 := by have := HNN2.out; omega
                  have hzx3 : B + 1 ≤ X3.heap.size := by have := HZ2.out; omega
                  clear hgc bq3 rq3 hnn3 l3 z3
                  go_wp2_with fail
                  go_roundw
                  case rel => exact ⟨k + 1, by omega, by go_num, Lib.hid (by rw [HFO.out]; exact HP3.out), HK3⟩
                  case measure => simp [intOf]; omega))
            · have hc3i : ¬ (t : Int) < (b1 : Int) := by omega
              have HFO := Lib.hid (HSWM.out.trans (by rw [if_neg hc3, if_pos hc1]))
              go_wp2_with fail
              refine (d27_add (B + 1) a1 s nn0 cv0 av0 sq X0 HNN0.out (by omega) (by omega) HRQ0.out).mono ?_
              rintro e Y0 ⟨ax, cx, rfl, hrow, hb⟩
              obtain ⟨y1, y2, X1, hX1, hp, hk⟩ := dps_step HBQ0.out (Nat.lt_succ_self B) hb hrow; have hsz := hb.size; have HP1 := Lib.hid hp; have HK1 := Lib.hid (HK0.out.trans hk); clear hp hk hrow hb
              have z1 := HK1.out.size
              have l1 := addS_length sq a1 s
              clear m1 x0 x1 k0 k1 c1n
              obtain ⟨m1, x0, x1, hgc, _⟩ := HKEEP.out X1 HK1.out
              obtain ⟨k0, k1⟩ := hgc k hlt
              rw [HA1.out] at k0; rw [HS1.out] at k1
              obtain ⟨av1, cv1, bq1, rq1⟩ := HP1.out
              obtain ⟨nn1, hnn1⟩ : ∃ x, (addS sq a1 s).length = x := ⟨_, rfl⟩
              rw [hnn1] at bq1 rq1
              have c1n : X1.cell? ⟨B, 1, none⟩ = some (.slice av1 nn1 cv1) := cell_of bq1 1
              have HBQ1 := Lib.hid bq1; have HRQ1 := Lib.hid rq1; have HNN1 := Lib.hid hnn1; have hnl1 : nn1 ≤ 30000 + 1 := by have := HNN0.out; omega
              have hzx1 : B + 1 ≤ X1.heap.size := by have := HZ2.out; omega
              clear hgc bq1 rq1 hnn1 l1 z1
              go_wp2_with fail
              have HADD1 := Lib.hid (d27_add (B + 1) mx tw nn1 cv1 av1 (addS sq a1 s) X1.drew HNN1.out (by omega) (by show B + 1 ≤ X1.heap.size; omega) (rowBelow HRQ1.out (Below.drew (Below.refl _ _))))
              go_region_law ((go_simp; go_at_call 54; refine HADD1.out.mono ?_; rintro e Y1 ⟨ax, cx, rfl, hrow, hb⟩; obtain ⟨y1, y2, X2, hX2, hp, hk⟩ := dps_step (show X1.drew.heap[B]? = _ from HBQ1.out) (Nat.lt_succ_self B) hb hrow; have hsz := hb.size; have HP2 := Lib.hid hp; have HK2 := Lib.hid (HK1.out.trans ((KX.of (Below.drew (Below.refl (B + 1) X1))).trans hk)); clear hp hk hrow hb))
              all_goals (
                have z2 := HK2.out.size
                have l2 := addS_length (addS sq a1 s) mx tw
                clear m1 x0 x1 k0 k1 c1n
                obtain ⟨m1, x0, x1, hgc, _⟩ := HKEEP.out X2 HK2.out
                obtain ⟨k0, k1⟩ := hgc k hlt
                rw [HA1.out] at k0; rw [HS1.out] at k1
                obtain ⟨av2, cv2, bq2, rq2⟩ := HP2.out
                obtain ⟨nn2, hnn2⟩ : ∃ x, (addS (addS sq a1 s) mx tw).length = x := ⟨_, rfl⟩
                rw [hnn2] at bq2 rq2
                have c1n : X2.cell? ⟨B, 1, none⟩ = some (.slice av2 nn2 cv2) := cell_of bq2 1
                have HBQ2 := Lib.hid bq2; have HRQ2 := Lib.hid rq2; have HNN2 := Lib.hid hnn2; have hnl2 : nn2 ≤ 30000 + 2 := by have := HNN1.out; omega
                have hzx2 : B + 1 ≤ X2.heap.size := by have := HZ2.out; omega
                clear hgc bq2 rq2 hnn2 l2 z2
                go_wp2_with fail
                go_roundw
                case rel => exact ⟨k + 1, by omega, by go_num, Lib.hid (by rw [HFO.out]; exact HP2.out), HK2⟩
                case measure => simp [intOf]; omega)
          · have hc1i : ¬ (a1 : Int) < (f : Int) := by omega
            by_cases hc3 : t < b1
            · have hc3i : (t : Int) < (b1 : Int) := by omega
              have HFO := Lib.hid (HSWM.out.trans (by rw [if_pos hc3, if_neg hc1]))
              go_wp2_with fail
              have HADD0 := Lib.hid (d27_add (B + 1) mx tw nn0 cv0 av0 sq X0.drew HNN0.out (by omega) (by show B + 1 ≤ X0.heap.size; omega) (rowBelow HRQ0.out (Below.drew (Below.refl _ _))))
              go_region_law ((go_simp; go_at_call 54; refine HADD0.out.mono ?_; rintro e Y0 ⟨ax, cx, rfl, hrow, hb⟩; obtain ⟨y1, y2, X1, hX1, hp, hk⟩ := dps_step (show X0.drew.heap[B]? = _ from HBQ0.out) (Nat.lt_succ_self B) hb hrow; have hsz := hb.size; have HP1 := Lib.hid hp; have HK1 := Lib.hid (HK0.out.trans ((KX.of (Below.drew (Below.refl (B + 1) X0))).trans hk)); clear hp hk hrow hb))
              all_goals (
                have z1 := HK1.out.size
                have l1 := addS_length sq mx tw
                clear m1 x0 x1 k0 k1 c1n
                obtain ⟨m1, x0, x1, hgc, _⟩ := HKEEP.out X1 HK1.out
                obtain ⟨k0, k1⟩ := hgc k hlt
                rw [HA1.out] at k0; rw [HS1.out] at k1
                obtain ⟨av1, cv1, bq1, rq1⟩ := HP1.out
                obtain ⟨nn1, hnn1⟩ : ∃ x, (addS sq mx tw).length = x := ⟨_, rfl⟩
                rw [hnn1] at bq1 rq1
                have c1n : X1.cell? ⟨B, 1, none⟩ = some (.slice av1 nn1 cv1) := cell_of bq1 1
                have HBQ1 := Lib.hid bq1; have HRQ1 := Lib.hid rq1; have HNN1 := Lib.hid hnn1; have hnl1 : nn1 ≤ 30000 + 1 := by have := HNN0.out; omega
                have hzx1 : B + 1 ≤ X1.heap.size := by have := HZ2.out; omega
                clear hgc bq1 rq1 hnn1 l1 z1
                go_wp2_with fail
                have HADD1 := Lib.hid (d27_add (B + 1) t1 s nn1 cv1 av1 (addS sq mx tw) X1.drew HNN1.out (by omega) (by show B + 1 ≤ X1.heap.size; omega) (rowBelow HRQ1.out (Below.drew (Below.refl _ _))))
                go_region_law ((go_simp; go_at_call 54; refine HADD1.out.mono ?_; rintro e Y1 ⟨ax, cx, rfl, hrow, hb⟩; obtain ⟨y1, y2, X2, hX2, hp, hk⟩ := dps_step (show X1.drew.heap[B]? = _ from HBQ1.out) (Nat.lt_succ_self B) hb hrow; have hsz := hb.size; have HP2 := Lib.hid hp; have HK2 := Lib.hid (HK1.out.trans ((KX.of (Below.drew (Below.refl (B + 1) X1))).trans hk)); clear hp hk hrow hb))
                all_goals (
                  have z2 := HK2.out.size
                  have l2 := addS_length (addS sq mx tw) t1 s
                  clear m1 x0 x1 k0 k1 c1n
                  obtain ⟨m1, x0, x1, hgc, _⟩ := HKEEP.out X2 HK2.out
                  obtain ⟨k0, k1⟩ := hgc k hlt
                  rw [HA1.out] at k0; rw [HS1.out] at k1
                  obtain ⟨av2, cv2, bq2, rq2⟩ := HP2.out
                  obtain ⟨nn2, hnn2⟩ : ∃ x, (addS (addS sq mx tw) t1 s).length = x := ⟨_, rfl⟩
                  rw [hnn2] at bq2 rq2
                  have c1n : X2.cell? ⟨B, 1, none⟩ = some (.slice av2 nn2 cv2) := cell_of bq2 1
                  have HBQ2 := Lib.hid bq2; have HRQ2 := Lib.hid rq2; have HNN2 := Lib.hid hnn2; have hnl2 : nn2 ≤ 30000 + 2 := by have := HNN1.out; omega
                  have hzx2 : B + 1 ≤ X2.heap.size := by have := HZ2.out; omega
                  clear hgc bq2 rq2 hnn2 l2 z2
                  go_wp2_with fail
                  go_roundw
                  case rel => exact ⟨k + 1, by omega, by go_num, Lib.hid (by rw [HFO.out]; exact HP2.out), HK2⟩
                  case measure => simp [intOf]; omega))
            · have hc3i : ¬ (t : Int) < (b1 : Int) := by omega
              have HFO := Lib.hid (HSWM.out.trans (by rw [if_neg hc3, if_neg hc1]))
              go_wp2_with fail
              have HADD0 := Lib.hid (d27_add (B + 1) mx tw nn0 cv0 av0 sq X0.drew HNN0.out (by omega) (by show B + 1 ≤ X0.heap.size; omega) (rowBelow HRQ0.out (Below.drew (Below.refl _ _))))
              go_region_law ((go_simp; go_at_call 54; refine HADD0.out.mono ?_; rintro e Y0 ⟨ax, cx, rfl, hrow, hb⟩; obtain ⟨y1, y2, X1, hX1, hp, hk⟩ := dps_step (show X0.drew.heap[B]? = _ from HBQ0.out) (Nat.lt_succ_self B) hb hrow; have hsz := hb.size; have HP1 := Lib.hid hp; have HK1 := Lib.hid (HK0.out.trans ((KX.of (Below.drew (Below.refl (B + 1) X0))).trans hk)); clear hp hk hrow hb))
              all_goals (
                have z1 := HK1.out.size
                have l1 := addS_length sq mx tw
                clear m1 x0 x1 k0 k1 c1n
                obtain ⟨m1, x0, x1, hgc, _⟩ := HKEEP.out X1 HK1.out
                obtain ⟨k0, k1⟩ := hgc k hlt
                rw [HA1.out] at k0; rw [HS1.out] at k1
                obtain ⟨av1, cv1, bq1, rq1⟩ := HP1.out
                obtain ⟨nn1, hnn1⟩ : ∃ x, (addS sq mx tw).length = x := ⟨_, rfl⟩
                rw [hnn1] at bq1 rq1
                have c1n : X1.cell? ⟨B, 1, none⟩ = some (.slice av1 nn1 cv1) := cell_of bq1 1
                have HBQ1 := Lib.hid bq1; have HRQ1 := Lib.hid rq1; have HNN1 := Lib.hid hnn1; have hnl1 : nn1 ≤ 30000 + 1 := by have := HNN0.out; omega
                have hzx1 : B + 1 ≤ X1.heap.size := by have := HZ2.out; omega
                clear hgc bq1 rq1 hnn1 l1 z1
                go_wp2_with fail
                go_roundw
                case rel => exact ⟨k + 1, by omega, by go_num, Lib.hid (by rw [HFO.out]; exact HP1.out), HK1⟩
                case measure => simp [intOf]; omega)
    · obtain rfl : k = L := by omega
      obtain ⟨SL, hSL⟩ : ∃ z, splitL sp f t tw = z := ⟨_, rfl⟩
      have hdp := HDP.out
      rw [← HL.out, HLAW.out, hSL] at hdp
      obtain ⟨a, cq, q1, q2⟩ := id hdp
      obtain ⟨N, hN⟩ : ∃ z, SL.length = z := ⟨_, rfl⟩
      rw [hN] at q1
      have n0 : wr.cell? ⟨B, 0, none⟩ = some (.int .u64 (e1 : Int)) := cell_of q1 0
      have n1 : wr.cell? ⟨B, 1, none⟩ = some (.slice a N cq) := cell_of q1 1
      have HDPE := Lib.hid hdp; have HN := Lib.hid hN; have HSL := Lib.hid hSL; have HBW := Lib.hid hbw
      clear hdp q1 q2 hN hSL HDP hgc hdoc hbw
      by_cases hlen : 2048 < N
      · have hleni : (2048 : Int) < (N : Int) := by omega
        go_wp2_with fail
        refine bodyPost_ret (v := .tuple #[.pointer none, .int .u32 0, .int .i64 4]) (by simp [results, Tryz.results22, go_sem]) rfl ⟨HBW.out, 4, splitC_full HBAD.out HFI.out (Or.inl (by rw [HSL.out, HN.out]; exact hlen)), Or.inl ⟨by decide, rfl⟩⟩
      · have hleni : ¬ (2048 : Int) < (N : Int) := by omega
        by_cases he : e1 = 0
        · have heb : ((e1 : Int) == 0) = true := by simp [he]
          have HE := Lib.hid he
          clear he
          go_wp2_with fail
          refine bodyPost_ret (v := .tuple #[.pointer none, .int .u32 0, .int .i64 4]) (by simp [results, Tryz.results22, go_sem]) rfl ⟨HBW.out, 4, splitC_full HBAD.out HFI.out (Or.inr HE.out), Or.inl ⟨by decide, rfl⟩⟩
        · have heb : ((e1 : Int) == 0) = false := by simp; omega
          have HE := Lib.hid he
          clear he
          go_wp2_with fail
          refine bodyPost_ret (v := .tuple #[.pointer (some ⟨B, 0, none⟩), .int .u32 (was : Int), .int .i64 0]) (by simp [results, Tryz.results22, go_sem]) rfl ⟨HBW.out, 0, splitC_ok HBAD.out HFI.out (fun h => h.elim (fun h => hlen (by rw [HSL.out, HN.out] at h; exact h)) HE.out), Or.inr ⟨rfl, B, by rw [HWAS.out], ?_⟩⟩
          have hdd := HDPE.out.doc (fun h => HNE.out (HSL.out.trans h))
          rw [HSL.out]; exact hdd
theorem d27_Split (m e f t tw : Nat) (sp : List (Nat × Nat)) (w : World) (hD : DocAt w m e sp) (hl : sp.length ≤ 10000) (O : Nat → Nat) (hS : SpI O sp M64) (ht : t < M64) (hO : ∀ u, 1 ≤ O u) :
  Calls Tryz.prog 22 #[.pointer (some ⟨m, 0, none⟩), .agg #[.int .u64 (f : Int), .int .u64 (t : Int)], .int .u32 (tw : Int)] w (SplitD O f t tw ((e + 1) % M64) sp w) := by
 by_cases hb : BadArg f t tw
 ·exact (d27_Split_arg m f t tw w hb).mono fun en w' ⟨h1, h2⟩ => ⟨h2, 2, Or.inl ⟨hb, rfl⟩, Or.inl ⟨by decide, h1⟩⟩
 ·exact d27_Split_do m e f t tw sp w hD hl O hS ht hb hO
end Go.Proofs.YtggdkfijioeijaaGreatDoor
