/- Plan: what shards tell, and what is put together of it: data; maps from places; fits. Contract: plan.Merge, where what is told fits and each read and edit is there. -/
import Derived.Test.YthcmcjoenepkbaaGreatDoorPlV
import Derived.Test.YthcmcjoenepkbaaGreatDoorIter
namespace Go.Proofs.YthcmcjoenepkbaaGreatDoor
open Go Go.RowKit Go.Maps

/-- What a read has. -/
structure Gt where
  n : Nat
  st : Nat
  tx : ByteArray
  er : Int
def dGt : Gt := ⟨0, 0, ByteArray.empty, 0⟩
def gtC (g : Gt) : List Value := [.int .u64 (g.n : Int), .int .u8 (g.st : Int), .string g.tx, .int .i64 g.er]
theorem gtC_len (g : Gt) : (gtC g).length = 4 := rfl
def gtV (g : Gt) : Value := .agg #[.int .u64 (g.n : Int), .int .u8 (g.st : Int), .string g.tx, .int .i64 g.er]
def nuC (n : Nat) : List Value := [.int .u64 (n : Int)]
theorem nuC_len (n : Nat) : (nuC n).length = 1 := rfl
def naC (s : ByteArray) : List Value := [.string s]
theorem naC_len (s : ByteArray) : (naC s).length = 1 := rfl
abbrev IsGts (w : World) (v : Value) (l : List Gt) : Prop := IsL 4 gtC dGt w v l
abbrev IsNus (w : World) (v : Value) (l : List Nat) : Prop := IsL 1 nuC 0 w v l
abbrev IsNas (w : World) (v : Value) (l : List ByteArray) : Prop := IsL 1 naC ByteArray.empty w v l
/-- What a shard tells. -/
structure Tl where
  shard : Nat
  got : List Gt
  nums : List Nat
  names : List ByteArray
def dTl : Tl := ⟨0, [], [], []⟩
abbrev tlV (T : Tl) (v1 v2 v3 : Value) : Array Value := #[.int .u32 (T.shard : Int), v1, v2, v3]
def IsTold (w : World) (v : Value) (l : List Tl) : Prop :=
  ∃ a cp, v = .slice a l.length cp ∧ (l = [] ∨ ∃ b off, a = some ⟨b, off, none⟩ ∧ b < w.heap.size ∧ ∀ i, i < l.length → ∃ v1 v2 v3, (∀ j u, (tlV (l.getD i dTl) v1 v2 v3)[j]? = some u → w.cell? ⟨b, off + i * 4 + j, none⟩ = some u) ∧
    IsGts w v1 (l.getD i dTl).got ∧ IsNus w v2 (l.getD i dTl).nums ∧ IsNas w v3 (l.getD i dTl).names)
theorem IsTold.below {w w' : World} {v : Value} {l : List Tl} {B : Nat} (h : IsTold w v l) (hb : Below B w w') (hB : w.heap.size ≤ B) : IsTold w' v l := by
  obtain ⟨a, cp, rfl, h⟩ := h
  refine ⟨a, cp, rfl, ?_⟩
  rcases h with h | ⟨b, off, rfl, hlt, hc⟩
  · exact Or.inl h
  · refine Or.inr ⟨b, off, rfl, by have := hb.size; omega, fun i hi => ?_⟩
    obtain ⟨v1, v2, v3, h0, h1, h2, h3⟩ := hc i hi
    exact ⟨v1, v2, v3, fun j u hu => (hb.cell (p := ⟨b, off + i * 4 + j, none⟩) (by dsimp only; omega)).trans (h0 j u hu), h1.below hb hB, h2.below hb hB, h3.below hb hB⟩
/-- Has a shard told what it was asked? -/
structure FitsT (A : Ask) (T : Tl) : Prop where
  sh : A.shard = T.shard
  g1 : A.reads.length = T.got.length
  g2 : A.readAt.length = T.got.length
  e1 : A.edits.length = T.nums.length
  e2 : A.editAt.length = T.nums.length
  na : A.list = true ∨ T.names.length = 0

set_option maxRecDepth 100000 in
set_option maxHeartbeats 4000000 in
theorem fits_ok (s n1 n2 nn c1 c2 c3 c4 d1 d2 d3 f t : Nat) (a1 a2 a3 a4 b1 b2 b3 : Option Addr) (li gi ta : Bool) (pre : ByteArray) (h : li = true ∨ nn = 0) (w : World) :
    Calls Tryz.prog 46 #[.agg #[.int .u32 (s : Int), .slice a1 n1 c1, .slice a2 n1 c2, .slice a3 n2 c3, .slice a4 n2 c4, .bool li, .string pre, .bool gi, .bool ta, .int .u64 (f : Int), .int .u64 (t : Int)], .agg #[.int .u32 (s : Int), .slice b1 n1 d1, .slice b2 n2 d2, .slice b3 nn d3]] w
      fun e w' => e = .returned (.bool true) ∧ Below w.heap.size w w' := by
  cases li with
  | true =>
    clear h
    go_enter Tryz.func46, Tryz.ntmps46
    go_wp2_with fail
    go_ret
    exact ⟨rfl, ((Below.refl _ _).alloc (Nat.le_refl _) _).alloc (by simp) _⟩
  | false =>
    obtain rfl : nn = 0 := h.resolve_left (by decide)
    go_enter Tryz.func46, Tryz.ntmps46
    go_wp2_with fail
    go_ret
    exact ⟨rfl, ((Below.refl _ _).alloc (Nat.le_refl _) _).alloc (by simp) _⟩

abbrev kI (z : Int) : Lit := .int .i64 z
theorem i64wf {q : Nat} (h : q < 4611686018427387904) : (Lit.int .i64 (q : Int)).wf = true := by
  simp [Lit.wf, IntKind.min, IntKind.max, IntKind.signed, IntKind.bits]; omega
/-- A map from places, told as a function. -/
def ByF (N bm : Nat) (w : World) (G : Nat → Option Value) : Prop :=
  ∃ (D : DataW Value) (nn : Nat), w.ownsMap Tryz.prog 3 heldR bm nn D ∧ nn ≤ N ∧ ∀ z : Nat, (has D (kI (z : Int)) = true ↔ G z ≠ none) ∧ ∀ v, G z = some v → D.atKey (kI (z : Int)) .nil = .held v
theorem ByF.below {N bm : Nat} {w w' : World} {G : Nat → Option Value} (h : ByF N bm w G) (hb : Below w.heap.size w w') : ByF N bm w' G := by
  obtain ⟨D, nn, ho, hr⟩ := h
  exact ⟨D, nn, ownsMap_below ho hb, hr⟩
theorem ByF.but {N bm : Nat} {w w' : World} {G : Nat → Option Value} {X : Nat → Prop} (h : ByF N bm w G) (hb : ButS X w w') (hX : ¬ X bm) : ByF N bm w' G := by
  obtain ⟨D, nn, ⟨es, clock, h1, F, hs, hD⟩, hr⟩ := h
  exact ⟨D, nn, ⟨es, clock, (hb.block bm (Array.getElem?_eq_some_iff.1 h1).1 hX).trans h1, F, hs, hD⟩, hr⟩
theorem ByF.lt {N bm : Nat} {w : World} {G : Nat → Option Value} (h : ByF N bm w G) : bm < w.heap.size := by
  obtain ⟨D, nn, ho, _⟩ := h; exact ho.lt
theorem ByF.made (w : World) : ByF 0 w.heap.size (w.alloc (.map #[] 0)) (fun _ => none) :=
  ⟨.map [], 0, World.ownsMap_made w _ _ _, Nat.le_refl _, fun z => ⟨⟨fun h => (by simp [has] at h), fun h => absurd rfl h⟩, fun v h => (by cases h)⟩⟩
set_option maxRecDepth 100000 in
theorem ByF.put {N bm : Nat} {w : World} {G : Nat → Option Value} (h : ByF N bm w G) (hN : N < 1000000000) {T e : TypeId} (hT : Tryz.prog.underlying T = some (.map 3 e)) (s : Nat) (hs : s < 4611686018427387904) (v : Value) :
    ∃ w2, (Instr.mapUpdate T (.map (some bm)) (.int .i64 (s : Int)) v).run Tryz.prog w = .ok () w2 ∧ ByF (N + 1) bm w2 (fun x => if x = s then some v else G x) ∧ w.grownBy w2 (some bm) := by
  obtain ⟨D, nn, ho, hn, hh⟩ := h
  obtain ⟨w2, hrun, ho2, hg2⟩ := ho.update (int_keyed Tryz.underlying3) hT (by unfold maxLen; omega) (keyOf_int_mk Tryz.underlying3 (i64wf hs)) (show heldR v = some (.held v, []) from rfl)
  have hk : WideAt.IsKeyLit (kI (s : Int)) := by simp [WideAt.IsKeyLit]
  refine ⟨w2, hrun, ⟨_, _, ho2, by omega, fun z => ?_⟩, hg2⟩
  by_cases e : z = s
  · subst e
    rw [Maps.has_put_same ho.isMap hk, Maps.atKey_put_same ho.isMap hk]
    simp only [if_pos]
    exact ⟨⟨fun _ h => (by cases h), fun _ => trivial⟩, fun v' h => (by injection h with h; rw [h])⟩
  · rw [Maps.has_put_other (by simpa using (fun h : (z : Int) = (s : Int) => e (by omega))), Maps.atKey_put_other (by simpa using (fun h : (z : Int) = (s : Int) => e (by omega)))]
    simp only [if_neg e]
    exact hh z
set_option maxRecDepth 100000 in
theorem ByF.look {N bm : Nat} {w : World} {G : Nat → Option Value} (h : ByF N bm w G) {T e : TypeId} (hT : Tryz.prog.underlying T = some (.map 3 e)) {z : Value} (hz : (zeroValue e).run Tryz.prog w = .ok z w) (s : Nat) (hs : s < 4611686018427387904) {v : Value} (hv : G s = some v) :
    (Instr.lookup T (.map (some bm)) (.int .i64 (s : Int)) true).run Tryz.prog w = .ok (.tuple #[v, .bool true]) w := by
  obtain ⟨D, nn, ho, _, hh⟩ := h
  have hhas : has D (kI (s : Int)) = true := (hh s).1.2 (by rw [hv]; exact fun h => by cases h)
  obtain ⟨v1, p1, hr1, hv1⟩ := ho.look_ok (int_keyed Tryz.underlying3) hT hz (zd := .held z) (zp := []) rfl (keyOf_int_mk Tryz.underlying3 (i64wf hs))
  have e1 : DataW.held v1 = D.atKey (kI (s : Int)) (.held z) := by simpa [heldR] using (congrArg (fun o => o.map Prod.fst) hv1)
  rw [Maps.atKey_indep hhas (.held z) .nil, (hh s).2 v hv] at e1
  injection e1 with e1
  subst e1
  rw [hhas] at hr1
  exact hr1
/-- Pairs that are put, one behind the other. -/
def putAll (G : Nat → Option Value) : List (Nat × Value) → Nat → Option Value
  | [] => G
  | x :: l => putAll (fun z => if z = x.1 then some x.2 else G z) l
theorem putAll_snoc (G : Nat → Option Value) (l : List (Nat × Value)) (x : Nat × Value) : putAll G (l ++ [x]) = fun z => if z = x.1 then some x.2 else putAll G l z := by
  induction l generalizing G with
  | nil => rfl
  | cons y l ih => exact ih _
theorem putAll_append (G : Nat → Option Value) (l m : List (Nat × Value)) : putAll G (l ++ m) = putAll (putAll G l) m := by
  induction l generalizing G with
  | nil => rfl
  | cons y l ih => exact ih _
end Go.Proofs.YthcmcjoenepkbaaGreatDoor

namespace Go.Proofs.YthcmcjoenepkbaaGreatDoor
open Go Go.RowKit Go.Maps

def gP (A : Ask) (T : Tl) : List (Nat × Value) := A.readAt.zip (T.got.map gtV)
def eP (A : Ask) (T : Tl) : List (Nat × Value) := A.editAt.zip (T.nums.map (fun n : Nat => Value.int .u64 (n : Int)))
def allG (asks : List Ask) (ts : List Tl) : Nat → List (Nat × Value)
  | 0 => []
  | k + 1 => allG asks ts k ++ gP (asks.getD k dAsk) (ts.getD k dTl)
def allE (asks : List Ask) (ts : List Tl) : Nat → List (Nat × Value)
  | 0 => []
  | k + 1 => allE asks ts k ++ eP (asks.getD k dAsk) (ts.getD k dTl)
theorem allG_le {asks : List Ask} {ts : List Tl} (h : ∀ i, (asks.getD i dAsk).readAt.length ≤ 1000) : ∀ k, (allG asks ts k).length ≤ k * 1000
  | 0 => Nat.le_refl _
  | k + 1 => by
    have ih := allG_le (ts := ts) h k
    have h1 : (gP (asks.getD k dAsk) (ts.getD k dTl)).length ≤ 1000 := by
      unfold gP; rw [List.length_zip]; have := h k; omega
    rw [allG, List.length_append]; omega
theorem allE_le {asks : List Ask} {ts : List Tl} (h : ∀ i, (asks.getD i dAsk).editAt.length ≤ 1000) : ∀ k, (allE asks ts k).length ≤ k * 1000
  | 0 => Nat.le_refl _
  | k + 1 => by
    have ih := allE_le (ts := ts) h k
    have h1 : (eP (asks.getD k dAsk) (ts.getD k dTl)).length ≤ 1000 := by
      unfold eP; rw [List.length_zip]; have := h k; omega
    rw [allE, List.length_append]; omega
/-- The map of names: numbers at texts. -/
def NmF (N bm : Nat) (w : World) : Prop := ∃ (D : DataW Value) (nn : Nat), w.ownsMap Tryz.prog 9 heldR bm nn D ∧ nn ≤ N ∧ ∀ k, has D k = true → ∃ c : Int, D.atKey k .nil = .held (.int .i64 c)
theorem NmF.below {N bm : Nat} {w w' : World} (h : NmF N bm w) (hb : Below w.heap.size w w') : NmF N bm w' := by
  obtain ⟨D, nn, ho, hr⟩ := h
  exact ⟨D, nn, ownsMap_below ho hb, hr⟩
theorem NmF.but {N bm : Nat} {w w' : World} {X : Nat → Prop} (h : NmF N bm w) (hb : ButS X w w') (hX : ¬ X bm) : NmF N bm w' := by
  obtain ⟨D, nn, ⟨es, clock, h1, F, hs, hD⟩, hr⟩ := h
  exact ⟨D, nn, ⟨es, clock, (hb.block bm (Array.getElem?_eq_some_iff.1 h1).1 hX).trans h1, F, hs, hD⟩, hr⟩
theorem NmF.lt {N bm : Nat} {w : World} (h : NmF N bm w) : bm < w.heap.size := by
  obtain ⟨D, nn, ho, _⟩ := h; exact ho.lt
theorem NmF.made (w : World) : NmF 0 w.heap.size (w.alloc (.map #[] 0)) := ⟨.map [], 0, World.ownsMap_made w _ _ _, Nat.le_refl _, fun k h => (by simp [has] at h)⟩
/-- One more of a name. -/
theorem NmF.more {N bm : Nat} {w : World} (h : NmF N bm w) (hN : N < 1000000000) (s : ByteArray) (hs : s.size ≤ 140737488351232) :
    ∃ c : Int, (Instr.lookup 115 (.map (some bm)) (.string s) false).run Tryz.prog w = .ok (.int .i64 c) w ∧ ∀ c2 : Int, ∃ w2, (Instr.mapUpdate 115 (.map (some bm)) (.string s) (.int .i64 c2)).run Tryz.prog w = .ok () w2 ∧ NmF (N + 1) bm w2 ∧ w.grownBy w2 (some bm) := by
  obtain ⟨D, nn, ho, hn, hh⟩ := h
  have hkey : keyOf Tryz.prog 9 (.string s) = some (.string s.data.toList) := Go.WideMaps.keyOf_string_mk Tryz.underlying9 (by unfold maxLen; omega)
  have K : Keyed Tryz.prog 9 := string_keyed Tryz.underlying9
  obtain ⟨v, p, hr, hv⟩ := ho.lookup K Tryz.underlying115 (z := .int .i64 0) (by kernel_rfl) (zd := .held (.int .i64 0)) (zp := []) rfl hkey
  have e1 : DataW.held v = D.atKey (.string s.data.toList) (.held (.int .i64 0)) := by simpa [heldR] using (congrArg (fun o => o.map Prod.fst) hv)
  have hvc : ∃ c : Int, v = .int .i64 c := by
    cases hc : has D (.string s.data.toList) with
    | true =>
      obtain ⟨c, hc2⟩ := hh _ hc
      rw [Maps.atKey_indep hc (.held (.int .i64 0)) .nil, hc2] at e1
      injection e1 with e1
      exact ⟨c, e1⟩
    | false =>
      rw [Maps.atKey_of_not_has hc] at e1
      injection e1 with e1
      exact ⟨0, e1⟩
  obtain ⟨c, rfl⟩ := hvc
  refine ⟨c, hr, fun c2 => ?_⟩
  obtain ⟨w2, hrun, ho2, hg2⟩ := ho.update K Tryz.underlying115 (by unfold maxLen; omega) hkey (show heldR (.int .i64 c2) = some (.held (.int .i64 c2), []) from rfl)
  have hk : WideAt.IsKeyLit (.string s.data.toList) := by simp [WideAt.IsKeyLit]
  refine ⟨w2, hrun, ⟨_, _, ho2, by omega, fun k hk2 => ?_⟩, hg2⟩
  by_cases e : k = .string s.data.toList
  · subst e; exact ⟨c2, Maps.atKey_put_same ho.isMap hk _ _⟩
  · rw [Maps.has_put_other e] at hk2
    rw [Maps.atKey_put_other e]; exact hh k hk2
end Go.Proofs.YthcmcjoenepkbaaGreatDoor
