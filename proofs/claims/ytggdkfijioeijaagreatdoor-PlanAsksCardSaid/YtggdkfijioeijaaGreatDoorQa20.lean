/- Plan: what shards tell, and what is put together of it: data; maps from places; fits. Contract: plan.Merge, where what is told fits and each read and edit is there. A range, and a slice of strings that came in, opened for this seat's walks. Law 28: World, of no moves: a map of a ring of few shards, the program's and the document's. Contracts: ref27.Map's end, Owner, whose, add. Contracts: ref27.Map's whose; ref27's add. -/
import Derived.Test.YtggdkfijioeijaaGreatDoorQa00
import Derived.Test.YtggdkfijioeijaaGreatDoorQa16
import Derived.Test.YtggdkfijioeijaaGreatDoorQa17
import Derived.Test.YtggdkfijioeijaaGreatDoorQa19
import Derived.Lib.SmallJoins
import Derived.Deep.AppendLies
namespace Go.Proofs.YtggdkfijioeijaaGreatDoor
open Go Go.RowKit Go.Maps
structure Gt where
  n : Nat
  st : Nat
  tx : ByteArray
  er : Int
def dGt : Gt := ⟨0, 0, ByteArray.empty, 0⟩
def gtC (g : Gt) : List Value := [.int .u64 (g.n : Int), .int .u8 (g.st : Int), .string g.tx, .int .i64 g.er]
theorem gtC_len (g : Gt) : (gtC g).length = 4 := rfl
def gtV (g : Gt) : Value := .agg #[.int .u64 (g.n : Int), .int .u8 (g.st : Int), .string g.tx, .int .i64 g.er]
def nuC (n : Nat) : List Value := [.int .u64 (n : Int)]
theorem nuC_len (n : Nat) : (nuC n).length = 1 := rfl
def naC (s : ByteArray) : List Value := [.string s]
theorem naC_len (s : ByteArray) : (naC s).length = 1 := rfl
abbrev IsGts (w : World) (v : Value) (l : List Gt) : Prop := IsL 4 gtC dGt w v l
abbrev IsNus (w : World) (v : Value) (l : List Nat) : Prop := IsL 1 nuC 0 w v l
abbrev IsNas (w : World) (v : Value) (l : List ByteArray) : Prop := IsL 1 naC ByteArray.empty w v l
structure Tl where
  shard : Nat
  got : List Gt
  nums : List Nat
  names : List ByteArray
def dTl : Tl := ⟨0, [], [], []⟩
abbrev tlV (T : Tl) (v1 v2 v3 : Value) : Array Value := #[.int .u32 (T.shard : Int), v1, v2, v3]
def IsTold (w : World) (v : Value) (l : List Tl) : Prop :=
  ∃ a cp, v = .slice a l.length cp ∧ (l = [] ∨ ∃ b off, a = some ⟨b, off, none⟩ ∧ b < w.heap.size ∧ ∀ i, i < l.length → ∃ v1 v2 v3, (∀ j u, (tlV (l.getD i dTl) v1 v2 v3)[j]? = some u → w.cell? ⟨b, off + i * 4 + j, none⟩ = some u) ∧
    IsGts w v1 (l.getD i dTl).got ∧ IsNus w v2 (l.getD i dTl).nums ∧ IsNas w v3 (l.getD i dTl).names)
theorem IsTold.below {w w' : World} {v : Value} {l : List Tl} {B : Nat} (h : IsTold w v l) (hb : Below B w w') (hB : w.heap.size ≤ B) : IsTold w' v l := by
  obtain ⟨a, cp, rfl, h⟩ := h
  refine ⟨a, cp, rfl, ?_⟩
  rcases h with h | ⟨b, off, rfl, hlt, hc⟩
  · exact Or.inl h
  · refine Or.inr ⟨b, off, rfl, by have := hb.size; omega, fun i hi => ?_⟩
    obtain ⟨v1, v2, v3, h0, h1, h2, h3⟩ := hc i hi
    exact ⟨v1, v2, v3, fun j u hu => (hb.cell (p := ⟨b, off + i * 4 + j, none⟩) (by dsimp only; omega)).trans (h0 j u hu), h1.below hb hB, h2.below hb hB, h3.below hb hB⟩
structure FitsT (A : Ask) (T : Tl) : Prop where
  sh : A.shard = T.shard
  g1 : A.reads.length = T.got.length
  g2 : A.readAt.length = T.got.length
  e1 : A.edits.length = T.nums.length
  e2 : A.editAt.length = T.nums.length
  na : A.list = true ∨ T.names.length = 0

set_option maxRecDepth 100000 in
set_option maxHeartbeats 4000000 in
theorem fits_ok (s n1 n2 nn c1 c2 c3 c4 d1 d2 d3 f t : Nat) (a1 a2 a3 a4 b1 b2 b3 : Option Addr) (li gi ta : Bool) (pre : ByteArray) (h : li = true ∨ nn = 0) (w : World) :
    Calls Tryz.prog 46 #[.agg #[.int .u32 (s : Int), .slice a1 n1 c1, .slice a2 n1 c2, .slice a3 n2 c3, .slice a4 n2 c4, .bool li, .string pre, .bool gi, .bool ta, .int .u64 (f : Int), .int .u64 (t : Int)], .agg #[.int .u32 (s : Int), .slice b1 n1 d1, .slice b2 n2 d2, .slice b3 nn d3]] w
      fun e w' => e = .returned (.bool true) ∧ Below w.heap.size w w' := by
  cases li with
  | true =>
    clear h
    go_enter Tryz.func46, Tryz.ntmps46
    go_wp2_with fail
    go_ret
    exact ⟨rfl, ((Below.refl _ _).alloc (Nat.le_refl _) _).alloc (by simp) _⟩
  | false =>
    obtain rfl : nn = 0 := h.resolve_left (by decide)
    go_enter Tryz.func46, Tryz.ntmps46
    go_wp2_with fail
    go_ret
    exact ⟨rfl, ((Below.refl _ _).alloc (Nat.le_refl _) _).alloc (by simp) _⟩

abbrev kI (z : Int) : Lit := .int .i64 z
theorem i64wf {q : Nat} (h : q < 4611686018427387904) : (Lit.int .i64 (q : Int)).wf = true := by
  simp [Lit.wf, IntKind.min, IntKind.max, IntKind.signed, IntKind.bits]; omega
def ByF (N bm : Nat) (w : World) (G : Nat → Option Value) : Prop :=
  ∃ (D : DataW Value) (nn : Nat), w.ownsMap Tryz.prog 3 heldR bm nn D ∧ nn ≤ N ∧ ∀ z : Nat, (has D (kI (z : Int)) = true ↔ G z ≠ none) ∧ ∀ v, G z = some v → D.atKey (kI (z : Int)) .nil = .held v
theorem ByF.below {N bm : Nat} {w w' : World} {G : Nat → Option Value} (h : ByF N bm w G) (hb : Below w.heap.size w w') : ByF N bm w' G := by
  obtain ⟨D, nn, ho, hr⟩ := h
  exact ⟨D, nn, ownsMap_below ho hb, hr⟩
theorem ByF.but {N bm : Nat} {w w' : World} {G : Nat → Option Value} {X : Nat → Prop} (h : ByF N bm w G) (hb : ButS X w w') (hX : ¬ X bm) : ByF N bm w' G := by
  obtain ⟨D, nn, ⟨es, clock, h1, F, hs, hD⟩, hr⟩ := h
  exact ⟨D, nn, ⟨es, clock, (hb.block bm (Array.getElem?_eq_some_iff.1 h1).1 hX).trans h1, F, hs, hD⟩, hr⟩
theorem ByF.lt {N bm : Nat} {w : World} {G : Nat → Option Value} (h : ByF N bm w G) : bm < w.heap.size := by
  obtain ⟨D, nn, ho, _⟩ := h; exact ho.lt
theorem ByF.made (w : World) : ByF 0 w.heap.size (w.alloc (.map #[] 0)) (fun _ => none) :=
  ⟨.map [], 0, World.ownsMap_made w _ _ _, Nat.le_refl _, fun z => ⟨⟨fun h => (by simp [has] at h), fun h => absurd rfl h⟩, fun v h => (by cases h)⟩⟩
set_option maxRecDepth 100000 in
theorem ByF.put {N bm : Nat} {w : World} {G : Nat → Option Value} (h : ByF N bm w G) (hN : N < 1000000000) {T e : TypeId} (hT : Tryz.prog.underlying T = some (.map 3 e)) (s : Nat) (hs : s < 4611686018427387904) (v : Value) :
    ∃ w2, (Instr.mapUpdate T (.map (some bm)) (.int .i64 (s : Int)) v).run Tryz.prog w = .ok () w2 ∧ ByF (N + 1) bm w2 (fun x => if x = s then some v else G x) ∧ w.grownBy w2 (some bm) := by
  obtain ⟨D, nn, ho, hn, hh⟩ := h
  obtain ⟨w2, hrun, ho2, hg2⟩ := ho.update (int_keyed Tryz.underlying3) hT (by unfold maxLen; omega) (keyOf_int_mk Tryz.underlying3 (i64wf hs)) (show heldR v = some (.held v, []) from rfl)
  have hk : WideAt.IsKeyLit (kI (s : Int)) := by simp [WideAt.IsKeyLit]
  refine ⟨w2, hrun, ⟨_, _, ho2, by omega, fun z => ?_⟩, hg2⟩
  by_cases e : z = s
  · subst e
    rw [Maps.has_put_same ho.isMap hk, Maps.atKey_put_same ho.isMap hk]
    simp only [if_pos]
    exact ⟨⟨fun _ h => (by cases h), fun _ => trivial⟩, fun v' h => (by injection h with h; rw [h])⟩
  · rw [Maps.has_put_other (by simpa using (fun h : (z : Int) = (s : Int) => e (by omega))), Maps.atKey_put_other (by simpa using (fun h : (z : Int) = (s : Int) => e (by omega)))]
    simp only [if_neg e]
    exact hh z
set_option maxRecDepth 100000 in
theorem ByF.look {N bm : Nat} {w : World} {G : Nat → Option Value} (h : ByF N bm w G) {T e : TypeId} (hT : Tryz.prog.underlying T = some (.map 3 e)) {z : Value} (hz : (zeroValue e).run Tryz.prog w = .ok z w) (s : Nat) (hs : s < 4611686018427387904) {v : Value} (hv : G s = some v) :
    (Instr.lookup T (.map (some bm)) (.int .i64 (s : Int)) true).run Tryz.prog w = .ok (.tuple #[v, .bool true]) w := by
  obtain ⟨D, nn, ho, _, hh⟩ := h
  have hhas : has D (kI (s : Int)) = true := (hh s).1.2 (by rw [hv]; exact fun h => by cases h)
  obtain ⟨v1, p1, hr1, hv1⟩ := ho.look_ok (int_keyed Tryz.underlying3) hT hz (zd := .held z) (zp := []) rfl (keyOf_int_mk Tryz.underlying3 (i64wf hs))
  have e1 : DataW.held v1 = D.atKey (kI (s : Int)) (.held z) := by simpa [heldR] using (congrArg (fun o => o.map Prod.fst) hv1)
  rw [Maps.atKey_indep hhas (.held z) .nil, (hh s).2 v hv] at e1
  injection e1 with e1
  subst e1
  rw [hhas] at hr1
  exact hr1
def putAll (G : Nat → Option Value) : List (Nat × Value) → Nat → Option Value
  | [] => G
  | x :: l => putAll (fun z => if z = x.1 then some x.2 else G z) l
theorem putAll_snoc (G : Nat → Option Value) (l : List (Nat × Value)) (x : Nat × Value) : putAll G (l ++ [x]) = fun z => if z = x.1 then some x.2 else putAll G l z := by
  induction l generalizing G with
  | nil => rfl
  | cons y l ih => exact ih _
end Go.Proofs.YtggdkfijioeijaaGreatDoor
namespace Go.Proofs.YtggdkfijioeijaaGreatDoor
open Go Go.RowKit Go.Maps
def gP (A : Ask) (T : Tl) : List (Nat × Value) := A.readAt.zip (T.got.map gtV)
def eP (A : Ask) (T : Tl) : List (Nat × Value) := A.editAt.zip (T.nums.map (fun n : Nat => Value.int .u64 (n : Int)))
def allG (asks : List Ask) (ts : List Tl) : Nat → List (Nat × Value)
  | 0 => []
  | k + 1 => allG asks ts k ++ gP (asks.getD k dAsk) (ts.getD k dTl)
def allE (asks : List Ask) (ts : List Tl) : Nat → List (Nat × Value)
  | 0 => []
  | k + 1 => allE asks ts k ++ eP (asks.getD k dAsk) (ts.getD k dTl)
theorem allG_le {asks : List Ask} {ts : List Tl} (h : ∀ i, (asks.getD i dAsk).readAt.length ≤ 1000) : ∀ k, (allG asks ts k).length ≤ k * 1000
  | 0 => Nat.le_refl _
  | k + 1 => by
    have ih := allG_le (ts := ts) h k
    have h1 : (gP (asks.getD k dAsk) (ts.getD k dTl)).length ≤ 1000 := by
      unfold gP; rw [List.length_zip]; have := h k; omega
    rw [allG, List.length_append]; omega
theorem allE_le {asks : List Ask} {ts : List Tl} (h : ∀ i, (asks.getD i dAsk).editAt.length ≤ 1000) : ∀ k, (allE asks ts k).length ≤ k * 1000
  | 0 => Nat.le_refl _
  | k + 1 => by
    have ih := allE_le (ts := ts) h k
    have h1 : (eP (asks.getD k dAsk) (ts.getD k dTl)).length ≤ 1000 := by
      unfold eP; rw [List.length_zip]; have := h k; omega
    rw [allE, List.length_append]; omega
def NmF (N bm : Nat) (w : World) : Prop := ∃ (D : DataW Value) (nn : Nat), w.ownsMap Tryz.prog 9 heldR bm nn D ∧ nn ≤ N ∧ ∀ k, has D k = true → ∃ c : Int, D.atKey k .nil = .held (.int .i64 c)
theorem NmF.below {N bm : Nat} {w w' : World} (h : NmF N bm w) (hb : Below w.heap.size w w') : NmF N bm w' := by
  obtain ⟨D, nn, ho, hr⟩ := h
  exact ⟨D, nn, ownsMap_below ho hb, hr⟩
theorem NmF.but {N bm : Nat} {w w' : World} {X : Nat → Prop} (h : NmF N bm w) (hb : ButS X w w') (hX : ¬ X bm) : NmF N bm w' := by
  obtain ⟨D, nn, ⟨es, clock, h1, F, hs, hD⟩, hr⟩ := h
  exact ⟨D, nn, ⟨es, clock, (hb.block bm (Array.getElem?_eq_some_iff.1 h1).1 hX).trans h1, F, hs, hD⟩, hr⟩
theorem NmF.lt {N bm : Nat} {w : World} (h : NmF N bm w) : bm < w.heap.size := by
  obtain ⟨D, nn, ho, _⟩ := h; exact ho.lt
theorem NmF.made (w : World) : NmF 0 w.heap.size (w.alloc (.map #[] 0)) := ⟨.map [], 0, World.ownsMap_made w _ _ _, Nat.le_refl _, fun k h => (by simp [has] at h)⟩
theorem NmF.more {N bm : Nat} {w : World} (h : NmF N bm w) (hN : N < 1000000000) (s : ByteArray) (hs : s.size ≤ 140737488351232) :
    ∃ c : Int, (Instr.lookup 115 (.map (some bm)) (.string s) false).run Tryz.prog w = .ok (.int .i64 c) w ∧ ∀ c2 : Int, ∃ w2, (Instr.mapUpdate 115 (.map (some bm)) (.string s) (.int .i64 c2)).run Tryz.prog w = .ok () w2 ∧ NmF (N + 1) bm w2 ∧ w.grownBy w2 (some bm) := by
  obtain ⟨D, nn, ho, hn, hh⟩ := h
  have hkey : keyOf Tryz.prog 9 (.string s) = some (.string s.data.toList) := Go.WideMaps.keyOf_string_mk Tryz.underlying9 (by unfold maxLen; omega)
  have K : Keyed Tryz.prog 9 := string_keyed Tryz.underlying9
  obtain ⟨v, p, hr, hv⟩ := ho.lookup K Tryz.underlying115 (z := .int .i64 0) (by kernel_rfl) (zd := .held (.int .i64 0)) (zp := []) rfl hkey
  have e1 : DataW.held v = D.atKey (.string s.data.toList) (.held (.int .i64 0)) := by simpa [heldR] using (congrArg (fun o => o.map Prod.fst) hv)
  have hvc : ∃ c : Int, v = .int .i64 c := by
    cases hc : has D (.string s.data.toList) with
    | true =>
      obtain ⟨c, hc2⟩ := hh _ hc
      rw [Maps.atKey_indep hc (.held (.int .i64 0)) .nil, hc2] at e1
      injection e1 with e1
      exact ⟨c, e1⟩
    | false =>
      rw [Maps.atKey_of_not_has hc] at e1
      injection e1 with e1
      exact ⟨0, e1⟩
  obtain ⟨c, rfl⟩ := hvc
  refine ⟨c, hr, fun c2 => ?_⟩
  obtain ⟨w2, hrun, ho2, hg2⟩ := ho.update K Tryz.underlying115 (by unfold maxLen; omega) hkey (show heldR (.int .i64 c2) = some (.held (.int .i64 c2), []) from rfl)
  have hk : WideAt.IsKeyLit (.string s.data.toList) := by simp [WideAt.IsKeyLit]
  refine ⟨w2, hrun, ⟨_, _, ho2, by omega, fun k hk2 => ?_⟩, hg2⟩
  by_cases e : k = .string s.data.toList
  · subst e; exact ⟨c2, Maps.atKey_put_same ho.isMap hk _ _⟩
  · rw [Maps.has_put_other e] at hk2
    rw [Maps.atKey_put_other e]; exact hh k hk2
end Go.Proofs.YtggdkfijioeijaaGreatDoor

namespace Go.Proofs.YtggdkfijioeijaaGreatDoor
open Go Go.ChangeShapes Go.WideShapes Go.ChangeAt Go.RowKit
theorem wf_u8 {n : Int} (h : (Lit.int .u8 n).wf = true) : 0 ≤ n ∧ n < 256 := by
  simp [Lit.wf, IntKind.min, IntKind.max, IntKind.signed, IntKind.bits] at h; omega
theorem wf_u32 {n : Int} (h : (Lit.int .u32 n).wf = true) : 0 ≤ n ∧ n < 4294967296 := by
  simp [Lit.wf, IntKind.min, IntKind.max, IntKind.signed, IntKind.bits] at h; omega
theorem wf_u64 {n : Int} (h : (Lit.int .u64 n).wf = true) : 0 ≤ n ∧ n < 18446744073709551616 := by
  simp [Lit.wf, IntKind.min, IntKind.max, IntKind.signed, IntKind.bits] at h; omega
theorem nat_of {n : Int} {M : Nat} (h : 0 ≤ n ∧ n < (M : Int)) : ∃ k : Nat, n = (k : Int) ∧ k < M := ⟨n.toNat, by omega, by omega⟩
theorem list2 {α : Type} {l : List α} (h : l.length = 2) : ∃ c0 c1, l = [c0, c1] := by
  match l, h with
  | [c0, c1], _ => exact ⟨c0, c1, rfl⟩
theorem cU64 : Tryz.prog.cellsOf 25 = 1 := by kernel_rfl
theorem cRg : Tryz.prog.cellsOf 27 = 2 := by kernel_rfl
def rgData {H : Type} (f t : Nat) : DataW H := .agg [.lit (.int .u64 (f : Int)), .lit (.int .u64 (t : Int))]
section
variable {H : Type} {enc : TypeId × Value → H} {w : World} {base : Nat} {sp : Nat → Bool} {held : Bool}
set_option maxRecDepth 100000 in
theorem trod_rg {fuel : Nat} {cs : List Value} {x : DataW H × List MemPlace} (h : DataW.trod enc Tryz.prog w base sp held fuel 27 cs = some x) : ∃ f t : Nat, f < 18446744073709551616 ∧ t < 18446744073709551616 ∧ cs = [.int .u64 (f : Int), .int .u64 (t : Int)] ∧ x = (rgData f t, []) := by
  obtain ⟨xs, n, _, rfl, hl, hlen, hf⟩ := DataW.trod_struct Tryz.underlying27 h
  rw [cRg] at hl
  obtain ⟨c0, c1, rfl⟩ := list2 hl
  obtain ⟨y0, y1, rfl⟩ := list2 hlen
  have h0 : DataW.trod enc Tryz.prog w base sp held n 25 [c0] = some y0 := by simpa [cU64] using hf 0 _ rfl
  have h1 : DataW.trod enc Tryz.prog w base sp held n 25 [c1] = some y1 := by simpa [cU64] using hf 1 _ rfl
  obtain ⟨a0, e0, rfl, w0⟩ := DataW.trod_int Tryz.underlying25 h0
  obtain ⟨a1, e1, rfl, w1⟩ := DataW.trod_int Tryz.underlying25 h1
  obtain ⟨n0, rfl, o0⟩ := nat_of (M := 18446744073709551616) (wf_u64 w0)
  obtain ⟨n1, rfl, o1⟩ := nat_of (M := 18446744073709551616) (wf_u64 w1)
  refine ⟨n0, n1, o0, o1, ?_, ?_⟩
  · simp only [List.cons.injEq, and_true] at e0 e1
    rw [e0, e1]
  · first | rfl | simp [rgData]
end
end Go.Proofs.YtggdkfijioeijaaGreatDoor

namespace Go.Proofs.YtggdkfijioeijaaGreatDoor
open Go Go.RowKit Go.Maps
def DocAt (w : World) (m e : Nat) (sp : List (Nat × Nat)) : Prop := ∃ g c, w.heap[m]? = some (.cells #[.int .u64 (e : Int), .slice (some ⟨g, 0, none⟩) sp.length c] 88 (0, 0)) ∧ g < w.heap.size ∧ ∀ i, i < sp.length → w.cell? ⟨g, i * 2, none⟩ = some (.int .u64 ((sp.getD i d0).1 : Int)) ∧ w.cell? ⟨g, i * 2 + 1, none⟩ = some (.int .u32 ((sp.getD i d0).2 : Int))
theorem DocAt.below {w w' : World} {m e : Nat} {sp : List (Nat × Nat)} (h : DocAt w m e sp) (hb : Below w.heap.size w w') : DocAt w' m e sp := by
  obtain ⟨g, c, h1, h2, h3⟩ := h
  exact ⟨g, c, (hb.block _ (lt_of_block h1)).trans h1, Nat.lt_of_lt_of_le h2 hb.size, fun i hi => ⟨(hb.cell (p := ⟨g, i * 2, none⟩) h2).trans (h3 i hi).1, (hb.cell (p := ⟨g, i * 2 + 1, none⟩) h2).trans (h3 i hi).2⟩⟩
def fewS (n : Nat) : List Nat := upto (fun i => i + 1) n
theorem fewS_length (n : Nat) : (fewS n).length = n := upto_length _ _
theorem fewS_mem {n x : Nat} (h : x ∈ fewS n) : 1 ≤ x ∧ x ≤ n := by
  obtain ⟨i, hi, rfl⟩ := List.mem_map.1 h
  have := List.mem_range.1 hi
  omega
theorem fewS_nodup (n : Nat) : (fewS n).Nodup := by
  unfold fewS upto
  rw [List.nodup_iff_pairwise_ne, List.pairwise_map]
  exact List.nodup_range.imp (fun h e => h (by omega))
theorem fewS_succ (n : Nat) : fewS (n + 1) = fewS n ++ [n + 1] := upto_succ _ _
theorem cell_one_new32 (w : World) (v : Value) (T : TypeId) : ∀ j u, [v][j]? = some u → (w.alloc (.cells #[v] T)).cell? ((⟨w.heap.size, 0, none⟩ : Addr).add j) = some u := by
  intro j u hu
  have hj := (List.getElem?_eq_some_iff.1 hu).1
  obtain rfl : j = 0 := by simpa using hj
  obtain rfl : v = u := by simpa using hu
  exact cell_of (MapKept.heap_alloc w (.cells #[v] T)).1 0
theorem ownS_mem {S : List Nat} {k h : Nat} (hl : 1 ≤ S.length) (hk : 1 ≤ k) : ownS S k h ∈ S := by
  obtain ⟨p, hp, _⟩ := ownF_is (ps := puts S k) h (puts_ne hl hk)
  obtain ⟨s, hs, h2⟩ := List.mem_flatMap.1 hp
  obtain ⟨i, _, e⟩ := List.mem_map.1 h2
  have : s = ownS S k h := congrArg Prod.snd e
  exact this ▸ hs

set_option maxRecDepth 100000 in
set_option maxHeartbeats 4000000 in
theorem law28_world (p s : Nat) (hp : p < 256) (hs : s < 256) (w : World) :
    Calls Tryz.prog 9 #[.int .u8 (p : Int), .int .u8 (s : Int), .slice none 0 0] w fun e w' => ∃ m r sp, e = .returned (.tuple #[.pointer (some ⟨m, 0, none⟩), .pointer (some ⟨r, 0, none⟩)]) ∧ MapAt w' m 1 sp ∧ DocAt w' r 1 sp ∧ SpI (ownS (fewS (1 + s % 4)) (1 + p % 4)) sp M64 ∧ sp.length ≤ 25 ∧ Below w.heap.size w w' := by
  obtain ⟨i0, hi, hz0, hz1, hz2⟩ := info_parts infoW32
  obtain ⟨q, hq⟩ : ∃ q, s % 4 = q := ⟨_, rfl⟩
  obtain ⟨n, hn⟩ : ∃ n, 1 + s % 4 = n := ⟨_, rfl⟩
  obtain ⟨k, hk⟩ : ∃ k, 1 + p % 4 = k := ⟨_, rfl⟩
  have hqi : (s : Int) % 4 = (q : Int) := by omega
  have hq32 : IntKind.u32.wrap (q : Int) = (q : Int) := by rw [IntKind.wrap_u32]; omega
  have hki : (1 : Int) + (p : Int) % 4 = (k : Int) := by omega
  have hk1 : 1 ≤ k ∧ k ≤ 4 := by omega
  have hn1 : 1 ≤ n ∧ n ≤ 4 ∧ n ≤ q + 1 ∧ q < n := by omega
  rw [hn, hk]
  clear hq hn hk
  go_enter Tryz.func9, Tryz.ntmps9
  go_wp2_with fail
  go_loopw [8, 9] (fun v i wr => ∃ j : Nat, j ≤ n ∧ i = .int .u32 j ∧ (∃ a c, v = .slice a j c) ∧ Hid (wr.ownsRow w.heap.size 28 1 v j ((fewS j).map (fun s : Nat => Value.int .u32 (s : Int)))) ∧ Hid (Below w.heap.size w wr)) (fun _ i _ => n - (intOf i).toNat)
  case atStart => exact ⟨0, Nat.zero_le _, rfl, ⟨none, 0, rfl⟩, Lib.hid (World.ownsRow_nil _ _ _ _), Lib.hid (Below.refl _ _)⟩
  case round =>
    obtain ⟨j, hj, rfl, ⟨av, cv, rfl⟩, HROW, HB⟩ := hrel
    by_cases hlt : j < n
    · obtain ⟨j1, hj1⟩ : ∃ j1, j + 1 = j1 := ⟨_, rfl⟩
      have hji : (j : Int) + 1 = (j1 : Int) := by omega
      have hjw : IntKind.u32.wrap (j1 : Int) = (j1 : Int) := by rw [IntKind.wrap_u32]; omega
      have hle : ((j : Int) ≤ (q : Int)) = True := by simp; omega
      have HJ1 := Lib.hid hj1
      have hle' : (j : Int) ≤ (q : Int) := by omega
      clear hj1
      go_wp2_with (
        at_builtin
        refine wpList_append_lies _ rfl (.tmp 30) (.tmp 33) 64 rfl w.heap.size 28 i0 (.int .u32 0) 1 4 Tryz.underlying64 hi hz0 hz1 hz2 rfl (by decide) _ j ((fewS j).map (fun s : Nat => Value.int .u32 (s : Int))) rfl (HROW.out.alloc _) ⟨wr.heap.size, 0, none⟩ 1 1 [.int .u32 (j1 : Int)] rfl rfl (cell_one_new32 _ _ _) (few_one _) (by decide) (by unfold maxLen; omega) (by omega) (by have := HB.out.size; simp; omega) (wr.heap.size + 1) (by simp) ?go
        intro g cp w8 hown8 hg8 _hat _hlt8
        replace hown8 : w8.ownsRow w.heap.size 28 1 (.slice (some ⟨g, 0, none⟩) (j + 1) cp) (j + 1) ((fewS (j + 1)).map (fun s : Nat => Value.int .u32 (s : Int))) := (by rw [fewS_succ, List.map_append, show ([j + 1] : List Nat).map (fun s : Nat => Value.int .u32 (s : Int)) = [.int .u32 (j1 : Int)] by rw [HJ1.out]; rfl]; exact hown8)
        have hB8 : Below w.heap.size w w8 := (HB.out.alloc HB.out.size _).grown hg8 (by simp; have := HB.out.size; omega) (fun k hk => by have := own_above HROW.out k hk; omega)
        have HB8 := Lib.hid hB8; have HO8 := Lib.hid hown8
        clear hown8 hg8 _hat _hlt8 hB8)
      go_roundw
      case rel => exact ⟨j + 1, by omega, by rw [← hji]; rfl, ⟨_, _, rfl⟩, HO8, HB8⟩
      case measure => simp [intOf]; omega
    · obtain rfl : j = n := by omega
      have hle : ((j : Int) ≤ (q : Int)) = False := by simp; omega
      have hle' : ¬ (j : Int) ≤ (q : Int) := by omega
      obtain ⟨g, rfl⟩ : ∃ g, av = some ⟨g, 0, none⟩ := by
        rcases HROW.out.2 with ⟨h', hn0⟩ | ⟨g, cap, cur, h', _⟩
        · omega
        · simp only [Value.slice.injEq] at h'
          exact ⟨g, h'.1⟩
      have hfl := fewS_length j
      have hcell : ∀ i, i < j → wr.cell? ⟨g, i, none⟩ = some (.int .u32 (((fewS j).getD i 0 : Nat) : Int)) := fun i hi => by
        rw [World.ownsRow.cellAt HROW.out i (by omega), List.getElem?_map, List.getD_eq_getElem?_getD, List.getElem?_eq_getElem (by omega)]; rfl
      have hgl := block_lt_of_cell (hcell 0 (by omega))
      have hnew := ringNew (fewS j) k g 0 cv wr hgl (fun i hi => by rw [Nat.zero_add]; exact hcell i (by omega)) hk1.1 (by omega) (by omega) (by omega) (fewS_nodup j) (fun x hx => by have := fewS_mem hx; omega)
      have hspots := fun w' (h : Below wr.heap.size wr w') => ref26_Spots (fewS j) k g cv w' (by omega) (by omega) (fun x hx => by have := fewS_mem hx; omega) (fun i hi => (h.cell (p := ⟨g, i, none⟩) hgl).trans (hcell i (by omega)))
      have hpl : (puts (fewS j) k).length = j * k := by rw [puts_length, hfl]
      have hpl1 : 1 ≤ j * k := Nat.mul_pos (by omega) (by omega)
      have hpl2 : j * k ≤ 4 * 4 := Nat.mul_le_mul (by omega) (by omega)
      rw [hfl] at hnew hspots
      rw [hpl] at hspots
      obtain ⟨L, hL⟩ : ∃ L, j * k = L := ⟨_, rfl⟩
      rw [hL] at hspots hpl hpl1 hpl2
      have HSPOT := Lib.hid hspots; have HNEW := Lib.hid hnew; have HPL := Lib.hid hpl; have HFL := Lib.hid hfl
      clear hspots hnew hpl hL hcell HROW hfl
      go_wp2_with fail
      refine HNEW.out.mono ?_
      rintro e w1 ⟨r, rfl, hR, hb1⟩
      have HR := Lib.hid hR; have HB1 := Lib.hid hb1
      clear hR hb1
      go_wp2_with fail
      refine (map_New r (fewS j) k w1 HR.out).mono ?_
      rintro e w2 ⟨m, sp, rfl, hM, hsp, hl, hm, hb2⟩
      have HM := Lib.hid hM; have HSP := Lib.hid hsp; have HB2 := Lib.hid (HB1.out.trans (hb2.mono HB1.out.size))
      have HLL := Lib.hid hl
      clear hM hsp hl hb2
      go_wp2_with fail
      refine (HSPOT.out w2 HB2.out).mono ?_
      rintro e w3 ⟨v, rfl, hrow, hb3⟩
      obtain ⟨g3, c3, rfl, hc3⟩ : ∃ g3 c3, v = .slice (some ⟨g3, 0, none⟩) L c3 ∧ ∀ i, i < L → w3.cell? ⟨g3, i * 2, none⟩ = some (.int .u64 (((puts (fewS j) k).getD i d0).1 : Int)) ∧ w3.cell? ⟨g3, i * 2 + 1, none⟩ = some (.int .u32 (((puts (fewS j) k).getD i d0).2 : Int)) := by
        rcases hrow.2 with ⟨_, h0⟩ | ⟨g', cap', cur, rfl, _⟩
        · omega
        · refine ⟨g', cap', rfl, fun i hi => ?_⟩
          obtain ⟨s1, s2⟩ := spV_at (puts (fewS j) k) i (by rw [HPL.out]; exact hi)
          exact ⟨(World.ownsRow.cellAt hrow (i * 2) (by omega)).trans s1, (World.ownsRow.cellAt hrow (i * 2 + 1) (by omega)).trans s2⟩
      have hspans := ref26_Spans (puts (fewS j) k) g3 c3 w3 (puts_inb (fun x hx => by have := fewS_mem hx; show x < 4294967296; omega)) (by rw [HPL.out]; exact hpl1) (by rw [HPL.out]; omega) (fun i hi => hc3 i (by rw [← HPL.out]; exact hi))
      rw [HPL.out] at hspans
      have HSPANS := Lib.hid hspans; have HB3 := Lib.hid (HB2.out.trans (hb3.mono HB2.out.size))
      have HM3 := Lib.hid (HM.out.below hb3)
      clear hspans hb3 hrow hc3
      go_wp2_with fail
      refine HSPANS.out.mono ?_
      rintro e w4 ⟨g4, c4, sp4, rfl, hrow4, hsp4, hl4, hb4⟩
      obtain rfl := hsp4.uniq (b := sp) HSP.out
      have hcells := cells_of_row hrow4 rfl
      have hpos := List.length_pos_iff.2 HSP.out.ne
      have hg4 := block_lt_of_cell (hcells 0 hpos).1
      have HB4 := Lib.hid (HB3.out.trans (hb4.mono HB3.out.size))
      have HM4 := Lib.hid (HM3.out.below hb4)
      have HC4 := Lib.hid hcells
      clear hrow4 hsp4 hb4 hcells
      obtain ⟨l4, hl4e⟩ : ∃ l4, sp4.length = l4 := ⟨_, rfl⟩
      rw [hl4e]
      have HL4 := Lib.hid hl4e
      clear hl4e
      go_wp2_with fail
      obtain ⟨W5, hW5⟩ : ∃ W5, w4.alloc (.cells #[.int .u64 1, .slice (some ⟨g4, 0, none⟩) l4 c4] 88) = W5 := ⟨_, rfl⟩
      rw [hW5]
      have HW5 := Lib.hid hW5
      clear hW5
      go_loopw [13, 15, 16] (fun vm vd vi wr2 => vm = .pointer (some ⟨m, 0, none⟩) ∧ vd = .pointer (some ⟨w4.heap.size, 0, none⟩) ∧ vi = .int .i64 0 ∧ wr2 = W5) (fun _ _ _ _ => 0)
      case atStart => exact ⟨rfl, rfl, rfl, rfl⟩
      case round =>
        obtain ⟨rfl, rfl, rfl, rfl⟩ := hrel
        go_wp2_with fail
        go_ret2
        rw [← HW5.out]
        have hba := HB.out.trans (HB4.out.mono HB.out.size)
        refine ⟨m, w4.heap.size, sp4, rfl, HM4.out.below ((Below.refl _ _).alloc (Nat.le_refl _) _), ⟨g4, c4, ?_, by simp; omega, fun i hi => ?_⟩, HSP.out, by omega, hba.alloc hba.size _⟩
        · rw [HL4.out]; exact (MapKept.heap_alloc _ _).1
        · obtain ⟨a, b⟩ := HC4.out i hi
          exact ⟨(World.cell?_alloc_past _ _ _ hg4).trans a, (World.cell?_alloc_past _ _ _ hg4).trans b⟩
end Go.Proofs.YtggdkfijioeijaaGreatDoor

namespace Go.Proofs.YtggdkfijioeijaaGreatDoor
open Go Go.RowKit Go.Maps
structure Canon (sp : List (Nat × Nat)) : Prop where
  pos : 1 ≤ sp.length
  len : sp.length ≤ 10000
  from_ : ∀ i, 1 ≤ i → i < sp.length → 1 ≤ (sp.getD i d0).1
  b64 : ∀ i, i < sp.length → (sp.getD i d0).1 < M64
theorem SpI.canon {O : Nat → Nat} {sp : List (Nat × Nat)} (h : SpI O sp M64) (hl : sp.length ≤ 10000) : Canon sp := by
  refine ⟨List.length_pos_iff.2 h.ne, hl, fun i h1 h2 => ?_, fun i hi => h.lt _ (by rw [List.getD_eq_getElem?_getD, List.getElem?_eq_getElem hi]; exact List.getElem_mem _)⟩
  have := List.pairwise_iff_getElem.1 h.rise 0 i (by omega) h2 (by omega)
  have h2 : (sp.getD 0 d0).1 < (sp.getD i d0).1 := by
    rw [List.getD_eq_getElem?_getD, List.getD_eq_getElem?_getD, List.getElem?_eq_getElem (by omega : 0 < sp.length), List.getElem?_eq_getElem h2]; exact this
  omega
set_option maxRecDepth 100000 in
set_option maxHeartbeats 1000000 in
theorem d27_end (m e k : Nat) (sp : List (Nat × Nat)) (w : World) (hD : DocAt w m e sp) (hC : Canon sp) (hk : k < sp.length) :
    Calls Tryz.prog 53 #[.pointer (some ⟨m, 0, none⟩), .int .i64 (k : Int)] w fun en w' => en = .returned (.int .u64 ((endOf sp k : Nat) : Int)) ∧ w' = w := by
  obtain ⟨g, c, h1, h2, h3⟩ := hD
  have c1 : w.cell? ⟨m, 1, none⟩ = some (.slice (some ⟨g, 0, none⟩) sp.length c) := cell_of h1 1
  have hle := hC.len
  obtain ⟨L, hL⟩ : ∃ L, sp.length = L := ⟨_, rfl⟩
  obtain ⟨k1, hk1⟩ : ∃ k1, k + 1 = k1 := ⟨_, rfl⟩
  have hki : (k : Int) + 1 = (k1 : Int) := by omega
  rw [hL] at c1
  clear h1 h2
  by_cases hlt : k1 < L
  · obtain ⟨q0, _⟩ := h3 k1 (by omega)
    have hf := hC.from_ k1 (by omega) (by omega)
    have hb := hC.b64 k1 (by omega)
    have he : endOf sp k = (sp.getD k1 d0).1 - 1 := by unfold endOf; rw [hk1, hL, if_pos hlt]
    obtain ⟨q, hq⟩ : ∃ q, (sp.getD k1 d0).1 = q := ⟨_, rfl⟩
    rw [hq] at he q0 hf hb
    obtain ⟨q1, hq1⟩ : ∃ q1, q - 1 = q1 := ⟨_, rfl⟩
    have hqi : (q : Int) - 1 = (q1 : Int) := by omega
    have hq64 : (q1 : Int) < 18446744073709551616 := by have : q < 18446744073709551616 := hb; omega
    have hw : IntKind.u64.wrap (q1 : Int) = (q1 : Int) := by rw [IntKind.wrap_u64]; omega
    rw [he, hq1]
    have hlti : ((k1 : Int) < (L : Int)) = True := by simp; omega
    have hlti' : (k1 : Int) < (L : Int) := by omega
    clear h3 hC hq he hL hk1 hq1 hq64 hb
    go_enter Tryz.func53, Tryz.ntmps53
    go_wp2_with fail
    go_ret
    exact ⟨rfl, rfl⟩
  · have he : endOf sp k = 18446744073709551615 := by unfold endOf; rw [hk1, hL, if_neg hlt]
    rw [he]
    have hlti : ((k1 : Int) < (L : Int)) = False := by simp; omega
    have hlti' : ¬ (k1 : Int) < (L : Int) := by omega
    clear h3 hC he hL hk1
    go_enter Tryz.func53, Tryz.ntmps53
    go_wp2_with fail
    go_ret
    exact ⟨rfl, rfl⟩

def lastO (sp : List (Nat × Nat)) (h : Nat) : Nat → Nat
  | 0 => 0
  | k + 1 => if (sp.getD k d0).1 ≤ h then (sp.getD k d0).2 else lastO sp h k
theorem lastO_law {O : Nat → Nat} {sp : List (Nat × Nat)} (hS : SpI O sp M64) {h : Nat} (hh : h < M64) : lastO sp h sp.length = O h := by
  obtain ⟨k, hk, a, b⟩ := cover hS hh
  have key : ∀ n, k < n → n ≤ sp.length → lastO sp h n = (sp.getD k d0).2 := by
    intro n
    induction n with
    | zero => intro h1; omega
    | succ n ih =>
      intro h1 h2
      unfold lastO
      by_cases e : n = k
      · subst e; rw [if_pos a]
      · rw [if_neg, ih (by omega) (by omega)]
        have hr := List.pairwise_iff_getElem.1 hS.rise
        have hg : ∀ i, (hi : i < sp.length) → sp.getD i d0 = sp[i] := fun i hi => by rw [List.getD_eq_getElem?_getD, List.getElem?_eq_getElem hi]; rfl
        have h3 := (endOf_next hS hk).2
        rw [if_pos (by omega)] at h3
        have h4 : (sp.getD (k + 1) d0).1 ≤ (sp.getD n d0).1 := by
          by_cases e2 : n = k + 1
          · rw [e2]; exact Nat.le_refl _
          · rw [hg _ (by omega), hg _ (by omega)]; exact Nat.le_of_lt (hr (k + 1) n (by omega) (by omega) (by omega))
        omega
  rw [key _ hk (Nat.le_refl _), hS.at_ hk a b]

set_option maxRecDepth 100000 in
set_option maxHeartbeats 2000000 in
theorem d27_Owner (m e h : Nat) (sp : List (Nat × Nat)) (w : World) (hD : DocAt w m e sp) (hl : sp.length ≤ 10000) :
    Calls Tryz.prog 55 #[.pointer (some ⟨m, 0, none⟩), .int .u64 (h : Int)] w fun en w' => en = .returned (.int .u32 ((lastO sp h sp.length : Nat) : Int)) ∧ w = w' := by
  obtain ⟨g, c, h1, h2, h3⟩ := hD
  have c1 : w.cell? ⟨m, 1, none⟩ = some (.slice (some ⟨g, 0, none⟩) sp.length c) := cell_of h1 1
  obtain ⟨L, hL⟩ : ∃ L, sp.length = L := ⟨_, rfl⟩
  rw [hL] at c1 h3 hl ⊢
  have HC := Lib.hid h3
  clear h1 h2 h3 hL
  go_enter Tryz.func55, Tryz.ntmps55
  go_wp2_with fail
  go_loop [5, 6] (fun s i => ∃ k : Nat, k ≤ L ∧ i = .int .i64 k ∧ s = .int .u32 ((lastO sp h k : Nat) : Int)) (fun _ i => L - (intOf i).toNat)
  case atStart => exact ⟨0, Nat.zero_le _, rfl, rfl⟩
  case round =>
    obtain ⟨k, hk, rfl, rfl⟩ := hrel
    by_cases hlt : k < L
    · obtain ⟨k0, k1⟩ := HC.out k hlt
      have hs : lastO sp h (k + 1) = if (sp.getD k d0).1 ≤ h then (sp.getD k d0).2 else lastO sp h k := rfl
      obtain ⟨p, hp⟩ : ∃ p, (sp.getD k d0).1 = p := ⟨_, rfl⟩
      obtain ⟨s, hs0⟩ : ∃ p, (sp.getD k d0).2 = p := ⟨_, rfl⟩
      rw [hp, hs0] at hs; rw [hp] at k0; rw [hs0] at k1
      obtain ⟨o, ho⟩ : ∃ o, lastO sp h k = o := ⟨_, rfl⟩
      rw [ho] at hs ⊢
      have hkl : ((k : Int) < (L : Int)) = True := by simp; omega
      have hkl' : (k : Int) < (L : Int) := by omega
      have HS := Lib.hid hs
      clear hp hs0 ho hs
      by_cases hph : p ≤ h
      · go_wp2_with fail
        go_round
        case rel => exact ⟨k + 1, by omega, by go_num, by rw [HS.out, if_pos hph]⟩
        case measure => simp [intOf]; omega
      · go_wp2_with fail
        go_round
        case rel => exact ⟨k + 1, by omega, by go_num, by rw [HS.out, if_neg hph]⟩
        case measure => simp [intOf]; omega
    · obtain rfl : k = L := by omega
      go_wp2_with fail
      go_ret
      exact ⟨rfl, rfl⟩
end Go.Proofs.YtggdkfijioeijaaGreatDoor
namespace Go.Proofs.YtggdkfijioeijaaGreatDoor
open Go Go.RowKit Go.Maps
def AddD (base c s : Nat) (sp : List (Nat × Nat)) (w : World) (e : Ending) (w' : World) : Prop := ∃ a cp, e = .returned (.slice a (addS sp c s).length cp) ∧ w'.ownsRow base 99 2 (.slice a (addS sp c s).length cp) (addS sp c s).length (spV (addS sp c s)) ∧ Below base w w'

set_option maxRecDepth 100000 in
set_option maxHeartbeats 2000000 in
theorem d27_add (base c s n cp : Nat) (a : Option Addr) (sp : List (Nat × Nat)) (w : World) (hn : sp.length = n) (hl2 : n ≤ 100000) (hbw : base ≤ w.heap.size) (hrow : w.ownsRow base 99 2 (.slice a n cp) n (spV sp)) :
    Calls Tryz.prog 54 #[.slice a n cp, .int .u64 (c : Int), .int .u32 (s : Int)] w (AddD base c s sp w) := by
  obtain ⟨i0, hi, hz0, hz1, hz2⟩ := info_parts infoSpan
  have HN := Lib.hid hn; have HR := Lib.hid hrow
  have hab := own_above2 hrow
  by_cases hn0 : n = 0
  · have hsp : sp = [] := List.length_eq_zero_iff.1 (by omega)
    have HADS := Lib.hid (show addS sp c s = sp ++ [(c, s)] by unfold addS; rw [if_neg (fun h => h.1 hsp)])
    have hn0b : ((n : Int) > 0) = False := by simp; omega
    have hn0c : ¬ (0 : Int) < (n : Int) := by omega
    have HAB := Lib.hid hab; have HN0 := Lib.hid hn0
    clear hn hab hrow hsp hn0
    go_enter Tryz.func54, Tryz.ntmps54
    go_wp2_with (
      at_builtin
      refine wpList_append_lies _ rfl (.tmp 22) (.tmp 26) 83 rfl base 99 i0 (.agg #[.int .u64 0, .int .u32 0]) 2 16 Tryz.underlying83 hi hz0 hz1 hz2 rfl (by decide) _ n (spV sp) rfl (rowBelow HR.out ((Below.refl _ _).alloc (Nat.le_refl _) _)) ⟨w.heap.size, 0, none⟩ 1 1 [.int .u64 (c : Int), .int .u32 (s : Int)] rfl rfl (World.news_of_block (MapKept.heap_alloc _ _).1) (two_one (c, s)) (by decide) (by unfold maxLen; omega) (by omega) (by simp; omega) (w.heap.size + 1) (by simp) ?go
      intro g cp w8 hown8 hg8 _hat _hlt8
      have HB8 := Lib.hid ((((Below.refl base w).alloc hbw _).grown hg8 (by simp; omega) (fun j hj => HAB.out j hj)))
      have HO8 := Lib.hid hown8
      clear hown8 hg8 _hat _hlt8)
    go_ret
    have hlen : (addS sp c s).length = n + 1 := by rw [HADS.out, List.length_append, HN.out]; rfl
    refine ⟨_, _, by rw [hlen]; rfl, ?_, HB8.out⟩
    rw [hlen, HADS.out, spV_snoc]; exact HO8.out
  · obtain ⟨g0, rfl⟩ : ∃ g0, a = some ⟨g0, 0, none⟩ := by
      rcases hrow.2 with ⟨_, h⟩ | ⟨g', cap', cur, h', _⟩
      · exact absurd h hn0
      · simp only [Value.slice.injEq] at h'; exact ⟨g', h'.1⟩
    obtain ⟨nl, hnl⟩ : ∃ nl, n - 1 = nl := ⟨_, rfl⟩
    have hn0b : ((n : Int) > 0) = True := by simp; omega
    have hn0c : (0 : Int) < (n : Int) := by omega
    have hnli : (n : Int) - 1 = (nl : Int) := by omega
    have hnln : (nl : Int) < (n : Int) := by omega
    obtain ⟨s0, hs0⟩ : ∃ s0, (sp.getD (sp.length - 1) d0).2 = s0 := ⟨_, rfl⟩
    have hlast : w.cell? ⟨g0, nl * 2 + 1, none⟩ = some (.int .u32 (s0 : Int)) := by
      rw [World.ownsRow.cellAt hrow (nl * 2 + 1) (by omega), (spV_at sp nl (by rw [hn]; omega)).2, ← hs0, hn, hnl]
    have hspn : sp ≠ [] := fun e => by rw [e] at hn; simp at hn; omega
    have HAB := Lib.hid hab
    by_cases hss : s0 = s
    · have hsb : ((s0 : Int) == (s : Int)) = true := by simp [hss]
      have HADS := Lib.hid (show addS sp c s = sp from by unfold addS; rw [if_pos ⟨hspn, by rw [hs0, hss]⟩])
      clear hss hspn hs0 hnl hab hrow hn0 hn
      go_enter Tryz.func54, Tryz.ntmps54
      go_wp2_with fail
      go_ret
      refine ⟨_, _, by rw [HADS.out, HN.out]; rfl, ?_, Below.refl _ _⟩
      rw [HADS.out, HN.out]; exact HR.out
    · have hsb : ((s0 : Int) == (s : Int)) = false := by simp; omega
      have HADS := Lib.hid (show addS sp c s = sp ++ [(c, s)] from by unfold addS; rw [if_neg (fun h => hss (by rw [← hs0]; exact h.2))])
      clear hss hspn hs0 hnl hab hrow hn0 hn
      go_enter Tryz.func54, Tryz.ntmps54
      go_wp2_with (
        at_builtin
        refine wpList_append_lies _ rfl (.tmp 22) (.tmp 26) 83 rfl base 99 i0 (.agg #[.int .u64 0, .int .u32 0]) 2 16 Tryz.underlying83 hi hz0 hz1 hz2 rfl (by decide) _ n (spV sp) rfl (rowBelow HR.out ((Below.refl _ _).alloc (Nat.le_refl _) _)) ⟨w.heap.size, 0, none⟩ 1 1 [.int .u64 (c : Int), .int .u32 (s : Int)] rfl rfl (World.news_of_block (MapKept.heap_alloc _ _).1) (two_one (c, s)) (by decide) (by unfold maxLen; omega) (by omega) (by simp; omega) (w.heap.size + 1) (by simp) ?go1
        intro g cp w8 hown8 hg8 _hat _hlt8
        have HB8 := Lib.hid ((((Below.refl base w).alloc hbw _).grown hg8 (by simp; omega) (fun j hj => HAB.out j hj)))
        have HO8 := Lib.hid hown8
        clear hown8 hg8 _hat _hlt8)
      go_ret
      have hlen : (addS sp c s).length = n + 1 := by rw [HADS.out, List.length_append, HN.out]; rfl
      refine ⟨_, _, by rw [hlen]; rfl, ?_, HB8.out⟩
      rw [hlen, HADS.out, spV_snoc]; exact HO8.out

def AllW (sp : List (Nat × Nat)) (f t s n : Nat) : Prop := ∀ k, k < n → (sp.getD k d0).1 ≤ t → f ≤ endOf sp k → (sp.getD k d0).2 = s
def WhoseG (sp : List (Nat × Nat)) (f t s : Nat) (w : World) (e : Ending) (w' : World) : Prop := ((AllW sp f t s sp.length ∧ e = .returned (.int .u32 (s : Int))) ∨ (¬ AllW sp f t s sp.length ∧ e = .returned (.int .u32 0))) ∧ Below w.heap.size w w'
theorem DocAt.drew {w : World} {m e : Nat} {sp : List (Nat × Nat)} (h : DocAt w m e sp) (n : Nat) : DocAt (w.drewN n) m e sp := h.below (below_dr (Below.refl _ _) n)

set_option maxRecDepth 100000 in
set_option maxHeartbeats 4000000 in
theorem d27_whose (m e f t : Nat) (sp : List (Nat × Nat)) (w : World) (hD : DocAt w m e sp) (hC : Canon sp) :
    Calls Tryz.prog 52 #[.pointer (some ⟨m, 0, none⟩), .agg #[.int .u64 (f : Int), .int .u64 (t : Int)]] w (WhoseG sp f t (lastO sp f sp.length) w) := by
  have hbox : Below w.heap.size w (w.alloc (.cells #[.int .u64 (f : Int), .int .u64 (t : Int)] 27)) := (Below.refl _ _).alloc (Nat.le_refl _) _
  have hO := d27_Owner m e f sp _ (hD.below hbox) hC.len
  have hend := fun (k : Nat) (hk : k < sp.length) (w' : World) (hb : Below w.heap.size w w') => d27_end m e k sp w' (hD.below hb) hC hk
  obtain ⟨s, hs⟩ : ∃ s, lastO sp f sp.length = s := ⟨_, rfl⟩
  rw [hs] at hO ⊢
  obtain ⟨g, c, h1, h2, h3⟩ := hD
  have hkeep := fun (w' : World) (hb : Below w.heap.size w w') => show w'.cell? ⟨m, 1, none⟩ = some (.slice (some ⟨g, 0, none⟩) sp.length c) ∧ ∀ i, i < sp.length → w'.cell? ⟨g, i * 2, none⟩ = some (.int .u64 ((sp.getD i d0).1 : Int)) ∧ w'.cell? ⟨g, i * 2 + 1, none⟩ = some (.int .u32 ((sp.getD i d0).2 : Int)) from
    ⟨cell_of ((hb.block _ (lt_of_block h1)).trans h1) 1, fun i hi => ⟨(hb.cell (p := ⟨g, i * 2, none⟩) h2).trans (h3 i hi).1, (hb.cell (p := ⟨g, i * 2 + 1, none⟩) h2).trans (h3 i hi).2⟩⟩
  have hle := hC.len
  obtain ⟨L, hL⟩ : ∃ L, sp.length = L := ⟨_, rfl⟩
  unfold WhoseG
  rw [hL] at hkeep hend hle ⊢
  have HO := Lib.hid hO; have HEND := Lib.hid hend; have HKEEP := Lib.hid hkeep
  clear hO hend hkeep h1 h2 h3 hs hC hL hbox
  go_enter Tryz.func52, Tryz.ntmps52
  go_wp2_with fail
  refine HO.out.mono ?_
  rintro en w1 ⟨rfl, hw1⟩
  have hb1 : Below w.heap.size w w1 := by rw [← hw1]; exact (Below.refl _ _).alloc (Nat.le_refl _) _
  have x0 : w1.cell? ⟨w.heap.size, 0, none⟩ = some (.int .u64 (f : Int)) := by rw [← hw1]; exact cell_of (MapKept.heap_alloc _ _).1 0
  have x1 : w1.cell? ⟨w.heap.size, 1, none⟩ = some (.int .u64 (t : Int)) := by rw [← hw1]; exact cell_of (MapKept.heap_alloc _ _).1 1
  obtain ⟨c1, hcc⟩ := HKEEP.out w1 hb1
  have HC := Lib.hid hcc; have HB1 := Lib.hid hb1
  clear hcc hb1 hw1 HO
  go_wp2_with fail
  go_loopw [6] (fun i wr => ∃ k : Nat, k ≤ L ∧ i = .int .i64 k ∧ Hid (AllW sp f t s k) ∧ ∃ n, wr = w1.drewN n) (fun i _ => L - (intOf i).toNat)
  case atStart => exact ⟨0, Nat.zero_le _, rfl, Lib.hid (fun k hk => by omega), 0, rfl⟩
  case round =>
    obtain ⟨k, hk, rfl, HA, nd, rfl⟩ := hrel
    have hbd : Below w.heap.size w (w1.drewN nd) := below_dr HB1.out nd
    by_cases hlt : k < L
    · obtain ⟨k0, k1⟩ := HC.out k hlt
      have HE := Lib.hid (fun (n : Nat) => HEND.out k hlt (w1.drewN n) (below_dr HB1.out n))
      have hbad : (sp.getD k d0).1 ≤ t → f ≤ endOf sp k → (sp.getD k d0).2 ≠ s → ¬ AllW sp f t s L := fun a b c h => c (h k hlt a b)
      have hgood : ((sp.getD k d0).1 ≤ t → f ≤ endOf sp k → (sp.getD k d0).2 = s) → AllW sp f t s (k + 1) := fun h j hj a b => by
        by_cases e : j = k
        · subst e; exact h a b
        · exact HA.out j (by omega) a b
      obtain ⟨p, hp⟩ : ∃ p, (sp.getD k d0).1 = p := ⟨_, rfl⟩
      obtain ⟨q, hq⟩ : ∃ p, (sp.getD k d0).2 = p := ⟨_, rfl⟩
      obtain ⟨en, hen⟩ : ∃ p, endOf sp k = p := ⟨_, rfl⟩
      rw [hp, hq, hen] at hbad hgood; rw [hp] at k0; rw [hq] at k1; rw [hen] at HE
      have HBAD := Lib.hid hbad; have HGOOD := Lib.hid hgood; have HBD := Lib.hid hbd
      have hkl : ((k : Int) < (L : Int)) = True := by simp; omega
      have hkl' : (k : Int) < (L : Int) := by omega
      clear hbad hgood hp hq hen hbd
      by_cases hpt : p ≤ t
      · by_cases hfe : f ≤ en
        · by_cases hqs : q = s
          · have hqb : ((q : Int) != (s : Int)) = false := by simp [hqs]
            have HG := Lib.hid (HGOOD.out (fun _ _ => hqs))
            have hd1 : decide ((p : Int) ≤ (t : Int)) = true := by simp; omega
            have hd2 : decide ((f : Int) ≤ (en : Int)) = true := by simp; omega
            clear hqs
            go_wp2_with fail
            go_quiet (exact (HE.out _).mono (fun e wz h => ⟨h.1, ⟨_, h.2⟩⟩))
            go_wp2_with fail
            go_roundw
            case rel => exact ⟨k + 1, by omega, by go_num, HG, _, rfl⟩
            case measure => simp [intOf]; omega
          · have hqb : ((q : Int) != (s : Int)) = true := by simp; omega
            have HG := Lib.hid (HBAD.out hpt hfe hqs)
            have hd1 : decide ((p : Int) ≤ (t : Int)) = true := by simp; omega
            have hd2 : decide ((f : Int) ≤ (en : Int)) = true := by simp; omega
            clear hqs
            go_wp2_with fail
            go_quiet (exact (HE.out _).mono (fun e wz h => ⟨h.1, ⟨_, h.2⟩⟩))
            go_wp2_with fail
            go_ret
            exact ⟨Or.inr ⟨HG.out, rfl⟩, below_dr HBD.out _⟩
        · have HG := Lib.hid (HGOOD.out (fun _ h => absurd h hfe))
          have hd1 : decide ((p : Int) ≤ (t : Int)) = true := by simp; omega
          have hd2 : decide ((f : Int) ≤ (en : Int)) = false := by simp; omega
          go_wp2_with fail
          go_quiet (exact (HE.out _).mono (fun e wz h => ⟨h.1, ⟨_, h.2⟩⟩))
          go_wp2_with fail
          go_roundw
          case rel => exact ⟨k + 1, by omega, by go_num, HG, _, rfl⟩
          case measure => simp [intOf]; omega
      · have HG := Lib.hid (HGOOD.out (fun h => absurd h hpt))
        have hd1 : decide ((p : Int) ≤ (t : Int)) = false := by simp; omega
        go_wp2_with fail
        go_quiet (exact (HE.out _).mono (fun e wz h => ⟨h.1, ⟨_, h.2⟩⟩))
        go_wp2_with fail
        go_roundw
        case rel => exact ⟨k + 1, by omega, by go_num, HG, _, rfl⟩
        case measure => simp [intOf]; omega
    · obtain rfl : k = L := by omega
      have HBD := Lib.hid hbd
      clear hbd
      go_wp2_with fail
      go_ret
      exact ⟨Or.inl ⟨HA.out, rfl⟩, HBD.out⟩
end Go.Proofs.YtggdkfijioeijaaGreatDoor
