/- Contracts: scriniumlaw31.put, get. Maps from transactions to numbers; lists of transactions. Contract: model.Behind. Plain laws of the stories that scriniumlaw31.alive plays. Boxes of stories; rows of two and of four stories. Plain laws of the stories that scriniumlaw31.ModelCells plays. Stories built in a region that draws its order. -/
import Derived.Test.YtfbgnpfhjbiikaaGreatDoorQm06
import Derived.DeepKeys3
import Derived.Maps.Keyed
import Derived.Great.Walk
import Derived.Great.BuildSlice
import Derived.Deep.AppendLies
import Derived.Deep.AppendSrc
namespace Go.Proofs.YtfbgnpfhjbiikaaGreatDoor
open Go Go.RowKit
open Pth
open Go.Maps (has size Canon CanonK Tidy IsMap KeysOf Keyed Merged)
theorem zeroCal (w : World) : (zeroValue 80).run Tryz.prog w = .ok (.agg #[.int .u8 0, .slice none 0 0, .slice none 0 0, .string ByteArray.empty, .int .u64 0, .int .u64 0, .int .u32 0]) w := by kernel_rfl
def putL (p t : ByteArray) : Cal := ⟨1, [], [⟨1, p, true, 0, 0, t⟩], ByteArray.empty, 0, 0, 0⟩
def getL (p : ByteArray) : Cal := ⟨1, [⟨p, 0⟩], [], ByteArray.empty, 0, 0, 0⟩
theorem but7 (W : World) (n : Nat) (a b c d e f g : Value) : ButS (fun k => k = n) W (((((((W.setCell ⟨n, 0, none⟩ a).setCell ⟨n, 1, none⟩ b).setCell ⟨n, 2, none⟩ c).setCell ⟨n, 3, none⟩ d).setCell ⟨n, 4, none⟩ e).setCell ⟨n, 5, none⟩ f).setCell ⟨n, 6, none⟩ g) :=
  have s : ∀ (W : World) (o : Nat) (v : Value), ButS (fun k => k = n) W (W.setCell ⟨n, o, none⟩ v) := fun W o v => ButS.set (S := fun k => k = n) W (p := ⟨n, o, none⟩) rfl v
  (((((((s _ _ _).trans (s _ _ _)).trans (s _ _ _)).trans (s _ _ _)).trans (s _ _ _)).trans (s _ _ _)).trans (s _ _ _))
def PutG (p t : ByteArray) (w : World) (e : Ending) (w' : World) : Prop :=
  ∃ g, e = .returned (calVal (.slice none 0 0) (.slice (some ⟨g, 0, none⟩) 1 1) (putL p t)) ∧ w.heap.size ≤ g ∧ One g #[.int .u8 1, .string p, .bool true, .int .u64 0, .int .u64 0, .string t] w' ∧ Below w.heap.size w w'
set_option maxRecDepth 100000 in
set_option maxHeartbeats 2000000 in
theorem law_put (p t : ByteArray) (w : World) : Calls Tryz.prog 36 #[.string p, .string t] w (PutG p t w) := by
  have hzc := zeroCal
  go_enter Tryz.func36, Tryz.ntmps36
  go_upto_region 1 with fail
  refine wp_abs (F := fun W => One w.heap.size #[.int .u8 0, .slice none 0 0, .slice none 0 0, .string ByteArray.empty, .int .u64 0, .int .u64 0, .int .u32 0] W ∧ Below w.heap.size w W) ⟨One.of _ _ _, (Below.refl _ _).alloc (Nat.le_refl _) _⟩ ?_
  rintro W1 ⟨hO, hb⟩
  have hO2 := hO.step ((Below.refl _ _).alloc (Nat.le_refl _) (.cells #[.int .u8 1, .string p, .bool true, .int .u64 0, .int .u64 0, .string t] 55))
  have n0 := hO2.c 0; have n1 := hO2.c 1; have n2 := hO2.c 2; have n3 := hO2.c 3; have n4 := hO2.c 4; have n5 := hO2.c 5; have n6 := hO2.c 6
  have p0 := hO2.f 0; have p1 := hO2.f 1; have p2 := hO2.f 2; have p3 := hO2.f 3; have p4 := hO2.f 4; have p5 := hO2.f 5; have p6 := hO2.f 6
  simp at n0 n1 n2 n3 n4 n5 n6
  have Hb := Lib.hid hb; have HO := Lib.hid hO
  clear hO hb hO2
  go_wp2_with fail
  exact bodyPost_ret (v := calVal (.slice none 0 0) (.slice (some ⟨W1.heap.size, 0, none⟩) 1 1) (putL p t)) (by simp [results, Tryz.results36, go_sem, calVal, putL, n0, n1, n2, n3, n4, n5, n6]) rfl
    ⟨W1.heap.size, rfl, Hb.out.size, one_but (One.of W1 _ _) (but7 _ _ _ _ _ _ _ _ _) (by show ¬ W1.heap.size = w.heap.size; have := HO.out.lt; omega), (Hb.out.alloc Hb.out.size _).trans ((but7 _ _ _ _ _ _ _ _ _).below (fun k hk => by omega) (by have := Hb.out.size; simp; omega))⟩
def GetG (p : ByteArray) (w : World) (e : Ending) (w' : World) : Prop :=
  ∃ vR, e = .returned (calVal vR (.slice none 0 0) (getL p)) ∧ IsRds w' vR (getL p).rds ∧ Below w.heap.size w w'
set_option maxRecDepth 100000 in
set_option maxHeartbeats 2000000 in
theorem law_get (p : ByteArray) (w : World) : Calls Tryz.prog 37 #[.string p] w (GetG p w) := by
  have hzc := zeroCal
  go_enter Tryz.func37, Tryz.ntmps37
  go_upto_region 1 with fail
  refine wp_abs (F := fun W => One w.heap.size #[.int .u8 0, .slice none 0 0, .slice none 0 0, .string ByteArray.empty, .int .u64 0, .int .u64 0, .int .u32 0] W ∧ Below w.heap.size w W) ⟨One.of _ _ _, (Below.refl _ _).alloc (Nat.le_refl _) _⟩ ?_
  rintro W1 ⟨hO, hb⟩
  have hO2 := hO.step ((Below.refl _ _).alloc (Nat.le_refl _) (.cells #[.string p, .int .u64 0] 133))
  have n0 := hO2.c 0; have n1 := hO2.c 1; have n2 := hO2.c 2; have n3 := hO2.c 3; have n4 := hO2.c 4; have n5 := hO2.c 5; have n6 := hO2.c 6
  have p0 := hO2.f 0; have p1 := hO2.f 1; have p2 := hO2.f 2; have p3 := hO2.f 3; have p4 := hO2.f 4; have p5 := hO2.f 5; have p6 := hO2.f 6
  simp at n0 n1 n2 n3 n4 n5 n6
  have Hb := Lib.hid hb; have HO := Lib.hid hO
  clear hO hb hO2
  go_wp2_with fail
  refine bodyPost_ret (v := calVal (.slice (some ⟨W1.heap.size, 0, none⟩) 1 1) (.slice none 0 0) (getL p)) (by simp [results, Tryz.results37, go_sem, calVal, getL, n0, n1, n2, n3, n4, n5, n6]) rfl
    ⟨_, rfl, ⟨_, 1, rfl, Or.inr ⟨W1.heap.size, 0, rfl, ?_, fun i hi => ?_⟩⟩, (Hb.out.alloc Hb.out.size _).trans ((but7 _ _ _ _ _ _ _ _ _).below (fun k hk => by omega) (by have := Hb.out.size; simp; omega))⟩
  · have := (but7 (W1.alloc (.cells #[.string p, .int .u64 0] 133)) w.heap.size (.int .u8 1) (.slice (some ⟨W1.heap.size, 0, none⟩) 1 1) (.slice none 0 0) (.string ByteArray.empty) (.int .u64 0) (.int .u64 0) (.int .u32 0)).size
    simp at this ⊢
  · obtain rfl : i = 0 := by simpa [getL] using hi
    have hO3 := one_but (One.of W1 #[.string p, .int .u64 0] 133) (but7 _ w.heap.size (.int .u8 1) (.slice (some ⟨W1.heap.size, 0, none⟩) 1 1) (.slice none 0 0) (.string ByteArray.empty) (.int .u64 0) (.int .u64 0) (.int .u32 0)) (by show ¬ W1.heap.size = w.heap.size; have := HO.out.lt; omega)
    exact ⟨hO3.c 0, hO3.c 1⟩
end Go.Proofs.YtfbgnpfhjbiikaaGreatDoor

namespace Go.Proofs.YtfbgnpfhjbiikaaGreatDoor
open Go Go.RowKit
open Pth
open Go.Maps (has size Canon CanonK Tidy IsMap KeysOf Keyed Merged)
abbrev Tx : Type := Nat × Nat
def txOf (s : Sto) : Tx := (s.life, s.txn)
def TxOk (x : Tx) : Prop := x.1 < 18446744073709551616 ∧ x.2 < 18446744073709551616
def txVal (x : Tx) : Value := .agg #[.int .u64 x.1, .int .u64 x.2]
def keyTx (x : Tx) : Lit := .string (keyBytes [.int .u64 x.1, .int .u64 x.2])
theorem wfU64 {n : Nat} (h : n < 18446744073709551616) : (Lit.int .u64 (n : Int)).wf = true := by
  simp [Lit.wf, IntKind.min, IntKind.max, IntKind.signed, IntKind.bits]; omega
theorem txDeep1 : Tryz.prog.keyTypeAt 2 82 = true := by kernel_rfl
theorem txDeep2 : Tryz.prog.tiled 2 82 = true := by kernel_rfl
theorem txDeep3 : (match Tryz.prog.underlying 82 with | some (.array _ _) | some (.struct _) => true | _ => false) = true := by kernel_rfl
set_option maxRecDepth 100000 in
theorem kTx : Keyed Tryz.prog 82 := Maps.Keyed.of_law (deep_law (m := 2) (by omega) txDeep1 txDeep2 txDeep3)
theorem keyTx_of {x : Tx} (h : TxOk x) : keyOf Tryz.prog 82 (txVal x) = some (keyTx x) := by
  have h1 : Tryz.prog.keyType 82 = true := by kernel_rfl
  have hc : Tryz.prog.cellsOf 82 = 2 := by kernel_rfl
  have hu : Tryz.prog.cellsOf 43 = 1 := by kernel_rfl
  have h2 : (txVal x).formed Tryz.prog 82 = true := by
    simp [Value.formed, txVal, Tryz.underlying82, hc]
  obtain ⟨m, hm⟩ : ∃ m, Tryz.prog.types.size = m + 1 := ⟨Tryz.prog.types.size - 1, by
    have : 0 < Tryz.prog.types.size := of_decide_eq_true (by kernel_rfl)
    omega⟩
  have h3 : Tryz.prog.keyLits (Tryz.prog.types.size + 1) 82 (txVal x).cells.toList = some [.int .u64 x.1, .int .u64 x.2] := by
    rw [hm]
    simp [Program.keyLits, txVal, Value.cells, Tryz.underlying82, Tryz.underlying43, hc, hu, wfU64 h.1, wfU64 h.2]
  unfold keyOf
  rw [Tryz.underlying82]
  simp only [h1, h2, h3, Bool.and_self, if_true, Option.map_some]
  rfl
theorem keyTx_inj {x y : Tx} (hx : TxOk x) (hy : TxOk y) (h : keyTx x = keyTx y) : x = y := by
  have := kTx.inj (keyTx_of hx) (by rw [h]; exact keyTx_of hy)
  unfold txVal at this
  injection this with this
  simp at this
  exact Prod.ext (by omega) (by omega)

def MapTx (w : World) (b n : Nat) (F : Tx → Option Int) : Prop :=
  ∃ D : DataW Value, w.ownsMap Tryz.prog 82 heldR b n D ∧ IsMap D ∧ ∀ x, TxOk x → has D (keyTx x) = (F x).isSome ∧ ∀ v, F x = some v → D.atKey (keyTx x) .nil = .held (.int .i64 v)
theorem MapTx.move {w w' : World} {b n : Nat} {F : Tx → Option Int} (h : MapTx w b n F) (hb : w'.heap[b]? = w.heap[b]?) : MapTx w' b n F := by
  obtain ⟨D, ⟨es, clock, hh, Fi, hn, hD⟩, hm, hF⟩ := h
  exact ⟨D, ⟨es, clock, hb.trans hh, Fi, hn, hD⟩, hm, hF⟩
theorem MapTx.lt {w : World} {b n : Nat} {F : Tx → Option Int} (h : MapTx w b n F) : b < w.heap.size := by obtain ⟨D, h, _⟩ := h; exact h.lt
theorem MapTx.made (w : World) : MapTx (w.alloc (.map #[] 0)) w.heap.size 0 (fun _ => none) :=
  ⟨.map [], World.ownsMap_made w _ _ heldR, ⟨[], rfl⟩, fun x _ => ⟨rfl, fun v h => by cases h⟩⟩
theorem MapTx.put {_w w' : World} {b _n n' : Nat} {F : Tx → Option Int} {D : DataW Value} {x : Tx} {c : Int} (hx : TxOk x) (hm : IsMap D) (hF : ∀ x, TxOk x → has D (keyTx x) = (F x).isSome ∧ ∀ v, F x = some v → D.atKey (keyTx x) .nil = .held (.int .i64 v))
    (h : w'.ownsMap Tryz.prog 82 heldR b n' (D.put (keyTx x) (.held (.int .i64 c)))) : MapTx w' b n' (fun y => if y = x then some c else F y) := by
  refine ⟨_, h, hm.put _ _, fun y hy => ?_⟩
  have hk := kTx.key (keyTx_of hx)
  dsimp only
  by_cases e : y = x
  · subst e
    rw [if_pos rfl]
    exact ⟨Maps.has_put_same hm hk _, fun v hv => by injection hv with hv; subst hv; exact Maps.atKey_put_same hm hk _ _⟩
  · have hne : keyTx y ≠ keyTx x := fun h => e (keyTx_inj hy hx h)
    rw [if_neg e, Maps.has_put_other hne]
    exact ⟨(hF y hy).1, fun v hv => by rw [Maps.atKey_put_other hne]; exact (hF y hy).2 v hv⟩
theorem zeroIntT (w : World) : (zeroValue 3).run Tryz.prog w = .ok (.int .i64 0) w := by kernel_rfl
theorem MapTx.look {w : World} {b n : Nat} {F : Tx → Option Int} (h : MapTx w b n F) {x : Tx} (hx : TxOk x) :
    (Instr.lookup 141 (.map (some b)) (txVal x) true).run Tryz.prog w = .ok (.tuple #[.int .i64 ((F x).getD 0), .bool (F x).isSome]) w ∧
    (Instr.lookup 141 (.map (some b)) (txVal x) false).run Tryz.prog w = .ok (.int .i64 ((F x).getD 0)) w := by
  obtain ⟨D, ho, hm, hF⟩ := h
  obtain ⟨v1, p1, hr1, hv1⟩ := ho.look_ok kTx Tryz.underlying141 (zeroIntT w) (zd := .held (.int .i64 0)) (zp := []) rfl (keyTx_of hx)
  obtain ⟨v2, p2, hr2, hv2⟩ := ho.lookup kTx Tryz.underlying141 (zeroIntT w) (zd := .held (.int .i64 0)) (zp := []) rfl (keyTx_of hx)
  have e1 : DataW.held v1 = D.atKey (keyTx x) (.held (.int .i64 0)) := by simpa [heldR] using (congrArg (fun o => o.map Prod.fst) hv1)
  have e2 : DataW.held v2 = D.atKey (keyTx x) (.held (.int .i64 0)) := by simpa [heldR] using (congrArg (fun o => o.map Prod.fst) hv2)
  obtain ⟨h1, h2⟩ := hF x hx
  rw [h1] at hr1
  cases hf : F x with
  | none =>
    rw [hf] at h1
    rw [Maps.atKey_of_not_has h1] at e1 e2
    injection e1 with e1; injection e2 with e2
    subst e1; subst e2
    rw [hf] at hr1
    exact ⟨hr1, hr2⟩
  | some c =>
    rw [hf] at h1
    rw [Maps.atKey_indep h1 (.held (.int .i64 0)) .nil, h2 c hf] at e1 e2
    injection e1 with e1; injection e2 with e2
    subst e1; subst e2
    rw [hf] at hr1
    exact ⟨hr1, hr2⟩
theorem wpl_mapTx {ops : Array Oper} {rest : List Oper} {o : Oper} {a : Act} {w : World} {Q : Exit → Act → World → Prop} {b n : Nat} {F : Tx → Option Int}
    (hg : o.guard = none) (m k v : Operand) (hop : o.op = Op.mapUpdate 141 m k v) (h : MapTx w b n F) (hn : n < maxLen) (x : Tx) (c : Int) (hx : TxOk x)
    (hm : a.eval m = .map (some b)) (hk : a.eval k = txVal x) (hv : a.eval v = .int .i64 c)
    (hK : ∀ w', MapTx w' b (n + 1) (fun y => if y = x then some c else F y) → w.grownBy w' (some b) → wpList Tryz.prog ops Q rest (a.put o.dst undef) w') :
    wpList Tryz.prog ops Q (o :: rest) a w := by
  obtain ⟨D, ho, hmm, hF⟩ := h
  exact wpList_mapUpdate_own w hg m k v 141 hop 82 3 kTx Tryz.underlying141 heldR b n D hm ho hn _ _ _ hk hv (keyTx_of hx) _ [] rfl (fun w' h' hg' => hK w' (MapTx.put (_w := w) (_n := n) hx hmm hF h') hg')

def IsTxs (w : World) (v : Value) (l : List Tx) : Prop :=
  ∃ a cap, v = .slice a l.length cap ∧ (l = [] ∨ ∃ b off, a = some ⟨b, off, none⟩ ∧ b < w.heap.size ∧ ∀ i, i < l.length → w.cell? ⟨b, off + i * 2, none⟩ = some (.int .u64 (l.getD i (0, 0)).1) ∧ w.cell? ⟨b, off + i * 2 + 1, none⟩ = some (.int .u64 (l.getD i (0, 0)).2))
theorem IsTxs.below {w w' : World} {v : Value} {l : List Tx} {B : Nat} (h : IsTxs w v l) (hb : Below B w w') (hB : w.heap.size ≤ B) : IsTxs w' v l := by
  obtain ⟨a, cap, hv, h⟩ := h
  refine ⟨a, cap, hv, ?_⟩
  rcases h with h | ⟨b, off, ha, hlt, hc⟩
  · exact Or.inl h
  · exact Or.inr ⟨b, off, ha, by have := hb.size; omega, fun i hi => ⟨(hb.cell (p := ⟨b, _, none⟩) (by show b < B; omega)).trans (hc i hi).1, (hb.cell (p := ⟨b, _, none⟩) (by show b < B; omega)).trans (hc i hi).2⟩⟩
theorem zeroTx (w : World) : (zeroValue 82).run Tryz.prog w = .ok (.agg #[.int .u64 0, .int .u64 0]) w := by kernel_rfl
end Go.Proofs.YtfbgnpfhjbiikaaGreatDoor

namespace Go.Proofs.YtfbgnpfhjbiikaaGreatDoor
open Go Go.RowKit
open Pth
open Go.Maps (has size Canon CanonK Tidy IsMap KeysOf Keyed Merged)
def stoFlat (l : List (Five × Sto)) : List Value := l.flatMap (fun x => stoCells x.1 x.2)
theorem stoFlat_length (l : List (Five × Sto)) : (stoFlat l).length = l.length * 18 := by
  induction l with
  | nil => rfl
  | cons x r ih =>
    have e : stoFlat (x :: r) = stoCells x.1 x.2 ++ stoFlat r := by simp [stoFlat]
    have hl : (stoCells x.1 x.2).length = 18 := rfl
    rw [e, List.length_append, ih, hl, List.length_cons]; omega
theorem stoFlat_append (l : List (Five × Sto)) (x : Five × Sto) : stoFlat (l ++ [x]) = stoFlat l ++ stoCells x.1 x.2 := by simp [stoFlat]
abbrev dFS : Five × Sto := (⟨.slice none 0 0, .slice none 0 0, .slice none 0 0, .slice none 0 0, .slice none 0 0⟩, dS)
theorem stoFlat_at (l : List (Five × Sto)) : ∀ (i : Nat), i < l.length → ∀ j, j < 18 → (stoFlat l)[i * 18 + j]? = (stoCells (l.getD i dFS).1 (l.getD i dFS).2)[j]? := by
  induction l with
  | nil => intro i hi; simp at hi
  | cons g r ih =>
    intro i hi j hj
    have e : stoFlat (g :: r) = stoCells g.1 g.2 ++ stoFlat r := by simp [stoFlat]
    have hl : (stoCells g.1 g.2).length = 18 := rfl
    rw [e]
    cases i with
    | zero => rw [List.getElem?_append_left (by rw [hl]; omega)]; simp
    | succ i =>
      rw [List.getElem?_append_right (by rw [hl]; omega), hl, show (i + 1) * 18 + j - 18 = i * 18 + j by omega, ih i (by simpa using hi) j hj]
      simp
theorem IsStos.own {w : World} {B e : Nat} {v : Value} {T : List (Five × Sto)} (h : w.ownsRow B e 18 v T.length (stoFlat T)) (hT : ∀ x ∈ T, StoIs w x.1 x.2) : IsStos w v (T.map (·.2)) := by
  rcases h.2 with ⟨hv, hl⟩ | ⟨g, cap, cur, hv, hB, hg, hn, hcap, hsz, htake⟩
  · have : T = [] := List.length_eq_zero_iff.1 hl
    subst this; exact ⟨none, 0, hv, Nat.le_refl _, Or.inl rfl⟩
  · refine ⟨_, cap, by rw [List.length_map]; exact hv, by rw [List.length_map]; exact hn, Or.inr ⟨g, 0, rfl, lt_of_block hg, fun i hi => ?_⟩⟩
    rw [List.length_map] at hi
    subst hv
    have hm : T.getD i dFS ∈ T := by rw [List.getD_eq_getElem?_getD, List.getElem?_eq_getElem hi]; exact List.getElem_mem hi
    have he : (T.map (·.2)).getD i dS = (T.getD i dFS).2 := by
      rw [List.getD_eq_getElem?_getD, List.getD_eq_getElem?_getD, List.getElem?_map, List.getElem?_eq_getElem hi]; rfl
    rw [he]
    refine ⟨(T.getD i dFS).1, hT _ hm, fun j u hj => ?_⟩
    have hj2 : j < 18 := (List.getElem?_eq_some_iff.1 hj).1
    rw [Nat.zero_add, World.ownsRow.cellAt h (i * 18 + j) (by omega), stoFlat_at T i hi j hj2, hj]
theorem infoStoA : (Tryz.prog.info? 87).map (fun i => (i.zero, i.size, i.bytes)) = some (some (.agg #[.int .i64 0, .int .u8 0, .slice none 0 0, .slice none 0 0, .string ByteArray.empty, .int .u64 0, .int .u64 0, .int .u32 0, .int .i64 0, .int .i64 0, .bool false, .int .u64 0, .int .u64 0, .int .i64 0, .int .i64 0, .slice none 0 0, .slice none 0 0, .slice none 0 0]), 18, 232) := by kernel_rfl

theorem built1 (f : Five) (s : Sto) : Tryz.prog.builtSlice 87 1 [(0, .agg (stoCells f s).toArray)] = some (stoCells f s).toArray := by kernel_rfl
theorem wpl_build_sto {ops : Array Oper} {rest : List Oper} {o : Oper} {a : Act} {w : World} {Q : Exit → Act → World → Prop} (hg : o.guard = none) (x : Operand) (ho : o.op = .buildSlice 68 1 #[(0, x)]) {f : Five} {s : Sto} (hx : a.eval x = .agg (stoCells f s).toArray)
    (h : wpList Tryz.prog ops Q rest (a.put o.dst (.slice (some ⟨w.heap.size, 0, none⟩) 1 1)) (w.alloc (.cells (stoCells f s).toArray 87))) : wpList Tryz.prog ops Q (o :: rest) a w :=
  Great.wpList_buildSliceTo hg 68 87 1 #[(0, x)] ho w.heap.size rfl o.dst rfl Tryz.underlying68 (stoCells f s).toArray (by
    simp only [List.map_toArray, List.map_cons, List.map_nil, hx]; exact built1 f s) h
def someS (l : List Sto) (txs : List Tx) (o : List Nat) : List Sto := (o.filter (fun i => txs.contains (txOf (l.getD i dS)))).map (fun i => l.getD i dS)
def allS (l : List Sto) (txs : List Tx) (o : List Nat) : Bool := txs.all (fun x => o.any (fun i => txOf (l.getD i dS) == x))
def leftF (l : List Sto) (txs : List Tx) (o : List Nat) (x : Tx) : Option Int := if x ∈ txs then some (if o.any (fun i => txOf (l.getD i dS) == x) then 0 else 1) else none
def BehindG (l : List Sto) (txs : List Tx) (w : World) (e : Ending) (w' : World) : Prop :=
  ∃ v, e = .returned (.tuple #[v, .bool (allS l txs (ordS l))]) ∧ IsRows w' v (rowsS (someS l txs (ordS l))) ∧ Below w.heap.size w w'
theorem filter_take_succ {p : Nat → Bool} {o : List Nat} {k : Nat} (hk : k < o.length) : (o.take (k + 1)).filter p = if p (o.getD k 0) then (o.take k).filter p ++ [o.getD k 0] else (o.take k).filter p := by
  rw [List.take_succ_eq_append_getElem hk, List.filter_append, List.getD_eq_getElem?_getD, List.getElem?_eq_getElem hk]
  by_cases h : p o[k] <;> simp [h]
theorem someS_succ {l : List Sto} {txs : List Tx} {o : List Nat} {k : Nat} (hk : k < o.length) : someS l txs (o.take (k + 1)) = if txOf (l.getD (o.getD k 0) dS) ∈ txs then someS l txs (o.take k) ++ [l.getD (o.getD k 0) dS] else someS l txs (o.take k) := by
  unfold someS
  rw [filter_take_succ hk]
  by_cases h : txOf (l.getD (o.getD k 0) dS) ∈ txs
  · rw [if_pos h, if_pos (by simpa using h), List.map_append]; rfl
  · rw [if_neg h, if_neg (by simpa using h)]
theorem leftF_succ {l : List Sto} {txs : List Tx} {o : List Nat} {k : Nat} (hk : k < o.length) (x : Tx) : leftF l txs (o.take (k + 1)) x = if x = txOf (l.getD (o.getD k 0) dS) ∧ txOf (l.getD (o.getD k 0) dS) ∈ txs then some 0 else leftF l txs (o.take k) x := by
  unfold leftF
  rw [any_take_succ (p := fun i => txOf (l.getD i dS) == x) hk 0]
  obtain ⟨y, hy⟩ : ∃ y, txOf (l.getD (o.getD k 0) dS) = y := ⟨_, rfl⟩
  rw [hy]
  by_cases h : x = y
  · subst h
    by_cases h2 : x ∈ txs
    · simp only [h2, if_true, beq_self_eq_true, Bool.or_true, and_self]
    · simp only [h2, if_false, and_false]
  · have h2 : (y == x) = false := by rw [beq_eq_false_iff_ne]; exact fun e => h e.symm
    rw [h2, Bool.or_false, if_neg (c := x = y ∧ y ∈ txs) (fun e => h e.1)]
theorem allS_succ {l : List Sto} {txs : List Tx} {o : List Nat} {k : Nat} (hk : k < txs.length) : allS l (txs.take (k + 1)) o = (allS l (txs.take k) o && o.any (fun i => txOf (l.getD i dS) == txs.getD k (0, 0))) := by
  unfold allS
  rw [List.take_succ_eq_append_getElem hk, List.all_append, List.getD_eq_getElem?_getD, List.getElem?_eq_getElem hk]
  simp
theorem someS_mem {l : List Sto} {txs : List Tx} {o : List Nat} {s : Sto} (h : s ∈ someS l txs o) : ∃ i ∈ o, s = l.getD i dS := by
  unfold someS at h
  obtain ⟨i, hi, rfl⟩ := List.mem_map.1 h
  exact ⟨i, (List.mem_filter.1 hi).1, rfl⟩
theorem someS_len (l : List Sto) (txs : List Tx) (o : List Nat) : (someS l txs o).length ≤ o.length := by
  unfold someS; rw [List.length_map]; exact List.length_filter_le _ _
set_option maxRecDepth 100000 in
set_option maxHeartbeats 8000000 in
theorem model_behind (l : List Sto) (txs : List Tx) (v vt : Value) (w : World) (hv : IsStos w v l) (ht : IsTxs w vt txs) (hl : l.length ≤ 1048576) (htl : txs.length ≤ 1048576) (hk : (idxO l l.length).length ≤ 20) (hz : StosSz l) (hok : ∀ x ∈ txs, TxOk x) (hokl : ∀ i, i < l.length → TxOk (txOf (l.getD i dS))) (hm : MX w) :
    Calls Tryz.prog 35 #[v, vt] w (BehindG l txs w) := by
  have HV := Lib.hid hv; have HZ := Lib.hid hz; have HM := Lib.hid hm; have HK := Lib.hid hk; have HOK := Lib.hid hok; have HOKL := Lib.hid hokl
  obtain ⟨a, cap, rfl, hcap, hcc⟩ := hv
  obtain ⟨at', ct, rfl, htc⟩ := ht
  have HC := Lib.hid hcc; have HTC := Lib.hid htc
  clear hcc hz hm hk hok hokl htc
  obtain ⟨i0, hi, hz0, hz1, hz2⟩ := info_parts infoStoA
  have hzt := zeroTx
  have hmm := @run_makeMap Tryz.prog
  go_enter Tryz.func35, Tryz.ntmps35
  go_upto_region 2 with fail
  refine wp_abs (F := fun W => MapTx W w.heap.size 0 (fun _ => none) ∧ Below w.heap.size w W) ⟨MapTx.made w, (Below.refl _ _).alloc (Nat.le_refl _) _⟩ ?_
  rintro W1 ⟨hM1, hb1⟩
  have HM1 := Lib.hid hM1; have Hb1 := Lib.hid hb1
  clear hM1 hb1
  go_wp2_with fail
  go_loopw [20] (fun s20 wr => ∃ k : Nat, k ≤ txs.length ∧ s20 = .int .i64 k ∧ Hid (MapTx wr w.heap.size k (fun x => if x ∈ txs.take k then some 1 else none)) ∧ Hid (Below w.heap.size w wr)) (fun i _ => txs.length - (intOf i).toNat)
  case atStart => exact ⟨0, Nat.zero_le _, rfl, Lib.hid (by simpa using HM1.out), Hb1⟩
  case round =>
    obtain ⟨k, hk, rfl, hM, hbw⟩ := hrel
    by_cases hlt : k < txs.length
    · have hltI : (k : Int) < (txs.length : Int) := by omega
      rcases HTC.out with hn | ⟨b1, o1, rfl, hblt, hst⟩
      · rw [hn] at hlt; simp at hlt
      obtain ⟨g0, g1⟩ := hst k hlt
      have e0 := (hbw.out.cell (p := ⟨b1, o1 + k * 2, none⟩) hblt).trans g0
      have e1 := (hbw.out.cell (p := ⟨b1, o1 + k * 2 + 1, none⟩) hblt).trans g1
      have hxm : txs.getD k (0, 0) ∈ txs := by rw [List.getD_eq_getElem?_getD, List.getElem?_eq_getElem hlt]; exact List.getElem_mem hlt
      have hxo := HOK.out _ hxm
      have htk : ∀ x, (x ∈ txs.take (k + 1) ↔ x = txs.getD k (0, 0) ∨ x ∈ txs.take k) := fun x => by
        rw [List.take_succ_eq_append_getElem hlt, List.mem_append, List.mem_singleton, List.getD_eq_getElem?_getD, List.getElem?_eq_getElem hlt]
        exact Or.comm
      obtain ⟨x, hx⟩ : ∃ x, txs.getD k (0, 0) = x := ⟨_, rfl⟩
      rw [hx] at e0 e1 hxo htk
      have Htk := Lib.hid htk; have Hxo := Lib.hid hxo
      clear hx hst g0 g1 hxm htk hxo
      obtain ⟨x1, x2⟩ := x
      dsimp only at e0 e1
      go_upto_region 5 with fail
      refine wp_abs (F := fun W => One wr.heap.size #[.int .u64 x1, .int .u64 x2] W ∧ Below wr.heap.size wr W) ⟨One.of _ _ _, (Below.refl _ _).alloc (Nat.le_refl _) _⟩ ?_
      rintro W2 ⟨hO2, hb2⟩
      have y0 := hO2.c 0; have y1 := hO2.c 1
      simp at y0 y1
      have HM2 := Lib.hid (hM.out.move (hb2.block _ hM.out.lt))
      have HB2 : Hid (Below w.heap.size w W2) := Lib.hid (hbw.out.trans (hb2.mono hbw.out.size))
      clear hO2 hb2 e0 e1
      go_wp2_with (first
        | (refine wpl_mapTx rfl (.tmp 24) (.tmp 25) _ rfl HM2.out (by unfold maxLen; omega) (x1, x2) 1 Hxo.out rfl rfl rfl ?_; intro w3 hM3 hg3; have HM3 := Lib.hid hM3; have Hg3 := Lib.hid hg3; clear hM3 hg3)
        | fail)
      go_roundw
      case rel => exact ⟨k + 1, by omega, by go_num, Lib.hid (by
          have : (fun y => if y = (x1, x2) then some (1 : Int) else if y ∈ txs.take k then some 1 else none) = (fun y => if y ∈ txs.take (k + 1) then some 1 else none) := by
            funext y
            by_cases e : y = (x1, x2)
            · rw [if_pos e, if_pos ((Htk.out y).2 (Or.inl e))]
            · rw [if_neg e]
              by_cases e2 : y ∈ txs.take k
              · rw [if_pos e2, if_pos ((Htk.out y).2 (Or.inr e2))]
              · rw [if_neg e2, if_neg (fun h => by rcases (Htk.out y).1 h with h | h; exact e h; exact e2 h)]
          rw [← this]; exact HM3.out), Lib.hid (HB2.out.grown Hg3.out HB2.out.size (fun k hk => by cases hk; exact Nat.le_refl _))⟩
      case measure => simp [intOf]; omega
    · have hge : ¬ (k : Int) < (txs.length : Int) := by omega
      obtain rfl : k = txs.length := by omega
      have HMa : Hid (MapTx wr w.heap.size txs.length (leftF l txs [])) := Lib.hid (by
        have h := hM.out
        rw [List.take_length] at h
        exact h)
      have HB0 := Lib.hid hbw.out
      have HOr := Lib.hid (model_order l _ wr (HV.out.below hbw.out (Nat.le_refl _)) hl HK.out)
      clear hM hbw
      go_wp2_with fail
      refine HOr.out.mono ?_
      rintro e w3 ⟨vo, rfl, hio, hfo, hb3⟩
      have HB3 : Hid (Below w.heap.size w w3) := Lib.hid (HB0.out.trans (hb3.mono HB0.out.size))
      have HM3 := Lib.hid (HMa.out.move (hb3.block _ HMa.out.lt))
      have HIO := Lib.hid hio
      have HFO : Hid (∀ k, vo.ownBlock = some k → ¬ (k = w.heap.size)) := Lib.hid (fun k hk => by have := hfo k hk; have := HMa.out.lt; omega)
      obtain ⟨ao, co, rfl, hoc, _⟩ := hio
      have hol : (ordS l).length ≤ 1048576 := Nat.le_trans (ordL_le _ _) hl
      have HLen : Hid ((ordS l).length ≤ 20) := Lib.hid (by unfold ordS; rw [ordL_length]; exact HK.out)
      have Hmb : Hid (w.heap.size < w3.heap.size) := Lib.hid HM3.out.lt
      clear hb3 hfo HOr hoc
      go_wp2_with fail
      go_loopw [9, 30] (fun s9 s30 wx => ∃ (k : Nat) (T : List (Five × Sto)), k ≤ (ordS l).length ∧ s30 = .int .i64 k ∧ (∃ a9 c9, s9 = .slice a9 T.length c9) ∧ Hid (T.map (·.2) = someS l txs ((ordS l).take k)) ∧ Hid (∀ x ∈ T, StoIs w x.1 x.2) ∧ Hid (wx.ownsRow w3.heap.size 87 18 s9 T.length (stoFlat T)) ∧ Hid (MapTx wx w.heap.size (txs.length + k) (leftF l txs ((ordS l).take k))) ∧ Hid (ButS (fun k => k = w.heap.size) w3 wx)) (fun _ i _ => (ordS l).length - (intOf i).toNat)
      case atStart => exact ⟨0, [], Nat.zero_le _, rfl, ⟨none, 0, rfl⟩, Lib.hid rfl, Lib.hid (fun x hx => by cases hx), Lib.hid (World.ownsRow_nil _ _ _ _), HM3, Lib.hid (ButS.of (Below.refl _ _))⟩
      case round =>
        obtain ⟨k, T, hk2, rfl, ⟨a9, c9, rfl⟩, hmap, hsi, hrow, hM, hbw⟩ := hrel
        have HBr : Hid (Below w.heap.size w wr) := Lib.hid (HB3.out.trans (hbw.out.below (fun k hk => by omega) HB3.out.size))
        have hTl : T.length ≤ k := by
          have h1 := congrArg List.length hmap.out
          rw [List.length_map] at h1
          rw [h1]; unfold someS
          rw [List.length_map]
          exact Nat.le_trans (List.length_filter_le _ _) (List.length_take_le _ _)
        by_cases hlt : k < (ordS l).length
        · have hltI : (k : Int) < ((ordS l).length : Int) := by omega
          have hio := HIO.out.but hbw.out HFO.out
          obtain ⟨ao', co', hvo, _, hoo⟩ := hio
          injection hvo with e1 _ e3
          subst e1; subst e3
          have hone : ordS l ≠ [] := fun h => by rw [h] at hlt; simp at hlt
          rcases hoo with h0 | ⟨ob, oo, rfl, hoblt, hoc2⟩
          · exact absurd h0 hone
          have hck := hoc2 k hlt
          have him : (ordS l).getD k 0 ∈ ordS l := by rw [List.getD_eq_getElem?_getD, List.getElem?_eq_getElem hlt]; exact List.getElem_mem hlt
          have hil := (mem_ordL.1 him).1
          have HSs := Lib.hid (someS_succ (l := l) (txs := txs) hlt)
          have HLs := Lib.hid (fun x => leftF_succ (l := l) (txs := txs) hlt x)
          obtain ⟨i, hi⟩ : ∃ i, (ordS l).getD k 0 = i := ⟨_, rfl⟩
          rw [hi] at hck hil HSs HLs
          rcases HC.out with hn | ⟨b1, o1, rfl, hblt, hst⟩
          · rw [hn] at hil; simp at hil
          obtain ⟨f, hsi1, hat⟩ := hst i hil
          have HAT := Lib.hid (hat.below HBr.out hblt)
          have g11 := HAT.out 11 _ rfl
          have g12 := HAT.out 12 _ rfl
          have hone1 := five_one hsi1
          have hxo := HOKL.out i hil
          have HSI := Lib.hid hsi1
          have hiI : (i : Int) < (l.length : Int) := by omega
          obtain ⟨x, hx⟩ : ∃ x, l.getD i dS = x := ⟨_, rfl⟩
          rw [hx] at HAT g11 g12 hone1 hxo HSI HSs HLs
          have Hone := Lib.hid hone1
          have hlook := (hM.out.look hxo).1
          unfold txVal txOf at hlook
          dsimp only at hlook
          have Hxo := Lib.hid hxo
          clear hi him hoc2 hone hst hsi1 hat hx hone1 hxo
          by_cases hin : txOf x ∈ txs
          · have hlf : (leftF l txs ((ordS l).take k) (x.life, x.txn)).isSome = true := by unfold leftF; rw [if_pos (show (x.life, x.txn) ∈ txs from hin)]; rfl
            rw [hlf] at hlook
            have HSs2 : Hid (someS l txs ((ordS l).take (k + 1)) = someS l txs ((ordS l).take k) ++ [x]) := Lib.hid (by rw [HSs.out, if_pos hin])
            have HLs2 : Hid ((fun y => if y = txOf x then some (0 : Int) else leftF l txs ((ordS l).take k) y) = leftF l txs ((ordS l).take (k + 1))) := Lib.hid (by
              funext y
              rw [HLs.out y]
              by_cases e : y = txOf x
              · rw [if_pos e, if_pos ⟨e, hin⟩]
              · rw [if_neg e, if_neg (fun h => e h.1)])
            have Hin := Lib.hid hin
            have HLen2 := HLen.out
            clear HSs HLs hin hlf
            have hbA : Below wr.heap.size wr (wr.alloc (.cells (stoCells f x).toArray 87)) := (Below.refl _ _).alloc (Nat.le_refl _) _
            have HbA := Lib.hid hbA
            have HMA := Lib.hid (hM.out.move (hbA.block _ hM.out.lt))
            have Hblt := Lib.hid hblt
            clear hbA
            go_wp2_with (first
              | (refine wpl_load_sto rfl (.tmp 48) rfl rfl HAT.out ?_)
              | (refine wpl_build_sto rfl (.tmp 49) rfl rfl ?_)
              | (at_builtin; refine wpList_append_own _ rfl (.tmp 45) (.tmp 50) 68 rfl w3.heap.size 87 i0 (.agg #[.int .i64 0, .int .u8 0, .slice none 0 0, .slice none 0 0, .string ByteArray.empty, .int .u64 0, .int .u64 0, .int .u32 0, .int .i64 0, .int .i64 0, .bool false, .int .u64 0, .int .u64 0, .int .i64 0, .int .i64 0, .slice none 0 0, .slice none 0 0, .slice none 0 0]) 18 232 Tryz.underlying68 hi hz0 hz1 hz2 rfl (by decide) _ T.length (stoFlat T) rfl (ownBelow hrow.out HbA.out) ⟨wr.heap.size, 0, none⟩ 1 1 (stoCells f x) rfl rfl (World.news_of_block (MapKept.heap_alloc _ _).1) Hone.out (by unfold maxLen; omega) (by omega) ?hbase ?go; (case hbase => have h1 := hbw.out.size; simp; omega); intro v5 w5 hown5 hg5 _; obtain ⟨a6, c6, rfl⟩ := ownShape hown5;
                  have hb5 : Below w.heap.size w w5 := (HBr.out.alloc HBr.out.size _).grown hg5 (HBr.out.alloc HBr.out.size (.cells (stoCells f x).toArray 87)).size (fun k hk => by have := ownAbove hrow.out k hk; have := Hmb.out; omega);
                  have hat5 := HAT.out.below ((Below.refl wr.heap.size wr).alloc (Nat.le_refl _) (.cells (stoCells f x).toArray 87)) (by have := HBr.out.size; have := Hblt.out; omega);
                  have HM5 := Lib.hid (HMA.out.move (hg5.block _ HMA.out.lt (fun e => by have := ownAbove hrow.out _ e.symm; have := Hmb.out; omega)));
                  have hat6 : StoAt w5 b1 (o1 + i * 18) f x := fun j u hj => (World.cell?_of_block (a := ⟨b1, o1 + i * 18 + j, none⟩) (hg5.block b1 (by have := HBr.out.size; have := Hblt.out; simp; omega) (fun e => by have := ownAbove hrow.out _ e.symm; have := Hblt.out; have := Hmb.out; omega))).trans (hat5 j u hj);
                  have p11 := hat6 11 _ rfl; have p12 := hat6 12 _ rfl; have HW5 : Hid (Below w3.heap.size wr w5) := Lib.hid ((HbA.out.mono hbw.out.size).grown hg5 (Nat.le_trans hbw.out.size HbA.out.size) (fun k hk => ownAbove hrow.out k hk)); have HB5 := Lib.hid hb5; have Hown5 := Lib.hid hown5; have Hg5 := Lib.hid hg5; clear hb5 hown5 hg5 hat5 hat6)
              | (refine wpl_mapTx rfl (.tmp 52) (.tmp 57) _ rfl HM5.out (by unfold maxLen; omega) (txOf x) 0 Hxo.out rfl rfl rfl ?_; intro w6 hM6 hg6; have HM6 := Lib.hid hM6; have Hg6 := Lib.hid hg6; clear hM6 hg6)
              | fail)
            go_roundw
            case rel =>
              refine ⟨k + 1, T ++ [(f, x)], by omega, by go_num, ⟨a6, c6, by rw [List.length_append]; rfl⟩, Lib.hid ?_, Lib.hid ?_, Lib.hid ?_, Lib.hid ?_, Lib.hid ?_⟩
              · rw [HSs2.out, List.map_append, hmap.out]; rfl
              · intro y hy
                rcases List.mem_append.1 hy with hy | hy
                · exact hsi.out y hy
                · rw [List.mem_singleton.1 hy]; exact HSI.out
              · rw [List.length_append, stoFlat_append]
                exact ownGrown Hown5.out Hg6.out Hmb.out
              · rw [← HLs2.out]; exact HM6.out
              · exact (hbw.out.thenB HW5.out).trans (ButS.grown Hg6.out rfl)
            case measure => simp [intOf]; omega
          · have hlf : (leftF l txs ((ordS l).take k) (x.life, x.txn)).isSome = false := by unfold leftF; rw [if_neg (show ¬ (x.life, x.txn) ∈ txs from hin)]; rfl
            rw [hlf] at hlook
            have HSs2 : Hid (someS l txs ((ordS l).take (k + 1)) = someS l txs ((ordS l).take k)) := Lib.hid (by rw [HSs.out, if_neg hin])
            have HLs2 : Hid (leftF l txs ((ordS l).take (k + 1)) = leftF l txs ((ordS l).take k)) := Lib.hid (by
              funext y
              rw [HLs.out y, if_neg (fun h => hin h.2)])
            have HMn : Hid (MapTx wr w.heap.size (txs.length + (k + 1)) (leftF l txs ((ordS l).take k))) := Lib.hid (by
              obtain ⟨D, ho, hm, hF⟩ := hM.out
              exact ⟨D, ho.mono (by omega), hm, hF⟩)
            clear HSs HLs hin hlf
            go_wp2_with fail
            go_roundw
            case rel => exact ⟨k + 1, T, by omega, by go_num, ⟨a9, c9, rfl⟩, Lib.hid (by rw [HSs2.out]; exact hmap.out), hsi, hrow, Lib.hid (by rw [HLs2.out]; exact HMn.out), hbw⟩
            case measure => simp [intOf]; omega
        · have hge2 : ¬ (k : Int) < ((ordS l).length : Int) := by omega
          have hkk : k = (ordS l).length := by omega
          have HSm : Hid (T.map (·.2) = someS l txs (ordS l)) := Lib.hid (by have := hmap.out; rwa [hkk, List.take_length] at this)
          have HMf : Hid (MapTx wr w.heap.size (txs.length + (ordS l).length) (leftF l txs (ordS l))) := Lib.hid (by have := hM.out; rwa [hkk, List.take_length] at this)
          have HISt : Hid (IsStos wr (.slice a9 T.length c9) (someS l txs (ordS l))) := Lib.hid (by
            rw [← HSm.out]
            exact IsStos.own hrow.out (fun y hy => (hsi.out y hy).below HBr.out (Nat.le_refl _)))
          have HTl : Hid (T.length = (someS l txs (ordS l)).length) := Lib.hid (by rw [← HSm.out, List.length_map])
          have HLen2 := HLen.out
          have HBr' := HBr
          obtain ⟨wrL, hwrL⟩ : ∃ W, W = wr := ⟨_, rfl⟩
          rw [← hwrL] at HBr' HMf HISt ⊢
          clear hmap hM hsi hrow hkk HMa hbw HBr hwrL
          go_wp2_with fail
          go_loopw [14, 61] (fun s14 s61 wx => ∃ k : Nat, k ≤ txs.length ∧ s61 = .int .i64 k ∧ s14 = .bool (allS l (txs.take k) (ordS l)) ∧ Hid (Below wrL.heap.size wrL wx)) (fun _ i _ => txs.length - (intOf i).toNat)
          case atStart => exact ⟨0, Nat.zero_le _, rfl, rfl, Lib.hid (Below.refl _ _)⟩
          case round =>
            obtain ⟨k5, hk5, rfl, rfl, hbx⟩ := hrel
            by_cases hlt5 : k5 < txs.length
            · have hltI : (k5 : Int) < (txs.length : Int) := by omega
              rcases HTC.out with hn | ⟨b1, o1, rfl, hblt, hst⟩
              · rw [hn] at hlt5; simp at hlt5
              obtain ⟨g0, g1⟩ := hst k5 hlt5
              have hbB : Below w.heap.size w wr := HBr'.out.trans (hbx.out.mono HBr'.out.size)
              have e0 := (hbB.cell (p := ⟨b1, o1 + k5 * 2, none⟩) hblt).trans g0
              have e1 := (hbB.cell (p := ⟨b1, o1 + k5 * 2 + 1, none⟩) hblt).trans g1
              have hxm : txs.getD k5 (0, 0) ∈ txs := by rw [List.getD_eq_getElem?_getD, List.getElem?_eq_getElem hlt5]; exact List.getElem_mem hlt5
              have hxo := HOK.out _ hxm
              have HAs := Lib.hid (allS_succ (l := l) (o := ordS l) hlt5)
              obtain ⟨x, hx⟩ : ∃ x, txs.getD k5 (0, 0) = x := ⟨_, rfl⟩
              rw [hx] at e0 e1 hxo HAs hxm
              have Hxo := Lib.hid hxo
              have HlF : Hid (leftF l txs (ordS l) x = some (if (ordS l).any (fun i => txOf (l.getD i dS) == x) then 0 else 1)) := Lib.hid (by unfold leftF; rw [if_pos hxm])
              clear hx hst g0 g1 hxm hxo hbB
              obtain ⟨x1, x2⟩ := x
              dsimp only at e0 e1
              go_upto_region 20 with fail
              refine wp_abs (F := fun W => One wr.heap.size #[.int .u64 x1, .int .u64 x2] W ∧ Below wr.heap.size wr W) ⟨One.of _ _ _, (Below.refl _ _).alloc (Nat.le_refl _) _⟩ ?_
              rintro W2 ⟨hO2, hb2⟩
              have y0 := hO2.c 0; have y1 := hO2.c 1
              simp at y0 y1
              have hM2 := HMf.out.move ((hb2.block _ (Nat.lt_of_lt_of_le HMf.out.lt hbx.out.size)).trans (hbx.out.block _ HMf.out.lt))
              have hlook := (hM2.look Hxo.out).2
              rw [HlF.out] at hlook
              unfold txVal at hlook
              dsimp only [Option.getD_some] at hlook
              obtain ⟨z2, hz2⟩ : ∃ z, (ordS l).any (fun i => txOf (l.getD i dS) == (x1, x2)) = z := ⟨_, rfl⟩
              rw [hz2] at hlook HAs
              obtain ⟨z1, hz1⟩ : ∃ z, allS l (txs.take k5) (ordS l) = z := ⟨_, rfl⟩
              rw [hz1] at HAs ⊢
              have HB2 : Hid (Below wrL.heap.size wrL W2) := Lib.hid (hbx.out.trans (hb2.mono hbx.out.size))
              clear hO2 hb2 e0 e1 hM2 hz1 hz2 HlF
              cases z1 <;> cases z2
              all_goals (
                go_wp2_with fail
                go_roundw
                case rel => exact ⟨k5 + 1, by omega, by go_num, by rw [HAs.out]; rfl, HB2⟩
                case measure => simp [intOf]; omega)
            · have hge5 : ¬ (k5 : Int) < (txs.length : Int) := by omega
              obtain rfl : k5 = txs.length := by omega
              have HBw : Hid (Below w.heap.size w wr) := Lib.hid (HBr'.out.trans (hbx.out.mono HBr'.out.size))
              have HIS2 := Lib.hid (HISt.out.below hbx.out (Nat.le_refl _))
              have hlen : (someS l txs (ordS l)).length ≤ 20 := Nat.le_trans (someS_len _ _ _) HLen2
              have HRw := Lib.hid (model_rows (someS l txs (ordS l)) _ wr HIS2.out (by omega) (Nat.le_trans (idxO_le _ _) hlen) (fun i hi => by
                have hm : (someS l txs (ordS l)).getD i dS ∈ someS l txs (ordS l) := by rw [List.getD_eq_getElem?_getD, List.getElem?_eq_getElem hi]; exact List.getElem_mem hi
                obtain ⟨j, hj, he⟩ := someS_mem hm
                rw [he]; exact HZ.out j (mem_ordL.1 hj).1) (HM.out.below HBw.out (Nat.le_refl _)))
              rw [List.take_length]
              go_wp2_with fail
              refine HRw.out.mono ?_
              rintro e w9 ⟨v9, rfl, hi9, hb9⟩
              have HI9 := Lib.hid hi9; have HB9 := Lib.hid hb9
              obtain ⟨a10, c10, rfl, _⟩ := hi9
              clear hb9 HRw
              go_wp2_with fail
              go_ret2
              exact ⟨_, rfl, HI9.out, HBw.out.trans (HB9.out.mono HBw.out.size)⟩
end Go.Proofs.YtfbgnpfhjbiikaaGreatDoor

namespace Go.Proofs.YtfbgnpfhjbiikaaGreatDoor
open Go Go.RowKit
open Pth
open Go.Maps (has size Canon CanonK Tidy IsMap KeysOf Keyed Merged)
def sA : Sto := ⟨0, putL tA tX, 1, 2, false, 1, 1, 1, 0, [], [1], []⟩
def sB : Sto := ⟨0, getL tA, 3, 4, false, 1, 2, 2, 0, [⟨⟨1, 1, tX⟩, 0⟩], [], []⟩
def sC : Sto := ⟨0, getL tA, 3, 4, false, 1, 2, 2, 0, [⟨dV, 3⟩], [], []⟩
def sD : Sto := ⟨0, putL tA tX, 1, 2, false, 1, 1, 3, 0, [], [1], []⟩
def exM : DataW Cel := .map [(kS tA, .held ⟨1, [⟨1, 1, tX⟩]⟩)]
theorem exM_put : doesT (.map []) 0 QQ QQ (putL tA tX) = ⟨[], [1], [], true, exM, 2⟩ := by kernel_rfl
theorem exM_get : doesT exM 2 QQ QQ (getL tA) = ⟨[⟨⟨1, 1, tX⟩, 0⟩], [], [], true, exM, 2⟩ := by kernel_rfl
theorem ord_AB (s t : Sto) (h1 : 0 < s.com) (h2 : s.com ≤ t.com) : ordS [s, t] = [0, 1] := by
  symm
  refine ordL_uniq ?_ ?_
  · have : (List.range [s, t].length).filter (fun i => decide (0 < comF [s, t] i)) = [0, 1] := by
      have e0 : comF [s, t] 0 = s.com := rfl
      have e1 : comF [s, t] 1 = t.com := rfl
      have hr : List.range [s, t].length = [0, 1] := rfl
      rw [hr]
      simp [e0, e1, h1]; omega
    rw [this]
  · have e0 : comF [s, t] 0 = s.com := rfl
    have e1 : comF [s, t] 1 = t.com := rfl
    simp [leS, e0, e1]; omega
theorem ord_BA (s t : Sto) (h1 : 0 < t.com) (h2 : t.com < s.com) : ordS [s, t] = [1, 0] := by
  symm
  refine ordL_uniq ?_ ?_
  · have : (List.range [s, t].length).filter (fun i => decide (0 < comF [s, t] i)) = [0, 1] := by
      have e0 : comF [s, t] 0 = s.com := rfl
      have e1 : comF [s, t] 1 = t.com := rfl
      have hr : List.range [s, t].length = [0, 1] := rfl
      rw [hr]
      simp [e0, e1, h1]; omega
    rw [this]
    exact List.Perm.swap _ _ _
  · have e0 : comF [s, t] 0 = s.com := rfl
    have e1 : comF [s, t] 1 = t.com := rfl
    simp [leS, e0, e1]; omega
theorem check_cons {l : List Sto} (h : l.findIdx badA = l.length) : checkT l = chkT l (ordS l) 0 (ordS l) (.map [], 0) := by
  unfold checkT; rw [h, if_neg (Nat.lt_irrefl _)]
theorem chk_step {l : List Sto} {o : List Nat} {k i : Nat} {r : List Nat} {M : DataW Cel} {B : Int} {d : Done} (hl : lateT l o k = false) (hd : doesT M B QQ QQ (l.getD i dS).call = d) (hi : d.is = true) (hw : wrongR d (l.getD i dS) = false) : chkT l o k (i :: r) (M, B) = chkT l o (k + 1) r (d.M, d.B) := by
  rw [chkT, if_neg (by rw [hl]; decide)]
  dsimp only
  rw [hd, if_neg (by rw [hi]; decide), if_neg (by rw [hw]; decide)]
theorem chk_wrong {l : List Sto} {o : List Nat} {k i : Nat} {r : List Nat} {M : DataW Cel} {B : Int} {d : Done} (hl : lateT l o k = false) (hd : doesT M B QQ QQ (l.getD i dS).call = d) (hi : d.is = true) (hw : wrongR d (l.getD i dS) = true) : chkT l o k (i :: r) (M, B) = ⟨false, i, 4⟩ := by
  rw [chkT, if_neg (by rw [hl]; decide)]
  dsimp only
  rw [hd, if_neg (by rw [hi]; decide), if_pos hw]
theorem chk_late {l : List Sto} {o : List Nat} {k i : Nat} {r : List Nat} {s : DataW Cel × Int} (hl : lateT l o k = true) : chkT l o k (i :: r) s = ⟨false, i, 1⟩ := by
  rw [chkT, if_pos hl]
theorem wrong_same {d : Done} {s : Sto} (h : SameR d s) : wrongR d s = false := by
  unfold wrongR; exact @decide_eq_false _ (Classical.propDecidable _) (fun h2 => h2.2 h)
theorem wrong_not {d : Done} {s : Sto} (h0 : 0 < s.til) (h : ¬ SameR d s) : wrongR d s = true := by
  unfold wrongR; exact @decide_eq_true _ (Classical.propDecidable _) ⟨h0, h⟩
theorem check_AB : checkT [sA, sB] = ⟨true, 0, 0⟩ := by
  rw [check_cons (by kernel_rfl), ord_AB sA sB (by decide) (by decide)]
  rw [chk_step (d := ⟨[], [1], [], true, exM, 2⟩) (by kernel_rfl) exM_put rfl (wrong_same ⟨rfl, rfl, rfl⟩)]
  rw [chk_step (d := ⟨[⟨⟨1, 1, tX⟩, 0⟩], [], [], true, exM, 2⟩) (by kernel_rfl) exM_get rfl (wrong_same ⟨rfl, rfl, rfl⟩)]
  rfl
theorem check_AC : checkT [sA, sC] = ⟨false, 1, 4⟩ := by
  rw [check_cons (by kernel_rfl), ord_AB sA sC (by decide) (by decide)]
  rw [chk_step (d := ⟨[], [1], [], true, exM, 2⟩) (by kernel_rfl) exM_put rfl (wrong_same ⟨rfl, rfl, rfl⟩)]
  rw [chk_wrong (d := ⟨[⟨⟨1, 1, tX⟩, 0⟩], [], [], true, exM, 2⟩) (by kernel_rfl) exM_get rfl (wrong_not (by decide) (fun h => by
    have h1 := h.1
    have h2 : (1 : Nat) = 0 := congrArg (fun l : List GotR => (l.getD 0 dG).ver.n) h1
    cases h2))]
theorem check_DB : checkT [sD, sB] = ⟨false, 1, 1⟩ := by
  rw [check_cons (by kernel_rfl), ord_BA sD sB (by decide) (by decide)]
  rw [chk_late (by kernel_rfl)]
theorem some_AB : someS [sA, sB] [(1, 1)] (ordS [sA, sB]) = [sA] := by
  rw [ord_AB sA sB (by decide) (by decide)]
  rfl
theorem all_AB : allS [sA, sB] [(1, 1)] (ordS [sA, sB]) = true := by
  rw [ord_AB sA sB (by decide) (by decide)]
  rfl
theorem ord_one (s : Sto) (h1 : 0 < s.com) : ordS [s] = [0] := by
  symm
  refine ordL_uniq ?_ (by simp)
  have : (List.range [s].length).filter (fun i => decide (0 < comF [s] i)) = [0] := by
    have e0 : comF [s] 0 = s.com := rfl
    have hr : List.range [s].length = [0] := rfl
    rw [hr]
    simp [e0, h1]
  rw [this]
theorem rows_A : rowsS [sA] = rowsL exM := by
  unfold rowsS
  rw [ord_one sA (by decide)]
  show rowsL (doesT (.map []) 0 QQ QQ (putL tA tX)).M = _
  rw [exM_put]
theorem good_exM : Good Tryz.prog 9 exM := by
  have h := (does_good (q1 := QQ) (q2 := QQ) (c := putL tA tX) (good_none Tryz.prog 9)).1
  rw [rowsL_nil] at h
  have e : doesT (.map []) ((bytesR [] : Nat) : Int) QQ QQ (putL tA tX) = ⟨[], [1], [], true, exM, 2⟩ := exM_put
  rw [e] at h
  exact h
theorem rows_one {M : DataW Cel} {p : ByteArray} {c : Cel} (hg : Good Tryz.prog 9 M) (hM : M = .map [(kS p, .held c)]) : rowsL M = [(p, c)] := by
  have hl : (rowsL M).length = 1 := by rw [rows_length hg.canon, hM]; rfl
  obtain ⟨x, hx⟩ := List.length_eq_one_iff.1 hl
  have hm := (rows_mem hg.canon x).1 (by rw [hx]; exact List.mem_cons_self)
  have hp : x.1 = p := by
    have h1 := hm.1
    rw [hM, Maps.has_eq] at h1
    simp only [List.any_cons, List.any_nil, Bool.or_false, sameKey_kS, decide_eq_true_eq] at h1
    exact h1.symm
  have hc : cellAt M p = c := by
    rw [hM]
    refine cellAt_of ?_
    have hk : Lit.sameKey (kS p) (kS p) = true := by rw [sameKey_kS]; simp
    simp [DataW.atKey, hk]
  rw [hx]
  congr 1
  exact Prod.ext hp (by rw [← hm.2, hp, hc])
theorem rows_exM : rowsL exM = [(tA, ⟨1, [⟨1, 1, tX⟩]⟩)] := rows_one good_exM rfl
end Go.Proofs.YtfbgnpfhjbiikaaGreatDoor

namespace Go.Proofs.YtfbgnpfhjbiikaaGreatDoor
open Go Go.RowKit
open Pth
open Go.Maps (has size Canon CanonK Tidy IsMap KeysOf Keyed Merged)
abbrev nilV : Value := .slice none 0 0
theorem IsNums.new1 (w : World) (n : Nat) (e : TypeId) : IsNums (w.alloc (.cells #[.int .u64 n] e)) (.slice (some ⟨w.heap.size, 0, none⟩) 1 1) [n] := by
  refine ⟨_, 1, rfl, Or.inr ⟨w.heap.size, 0, rfl, by simp, fun i hi => ?_⟩⟩
  obtain rfl : i = 0 := by simpa using hi
  simp
theorem IsGots.new1 (w : World) (g : GotR) (e : TypeId) : IsGots (w.alloc (.cells #[.int .u64 g.ver.n, .int .u8 g.ver.st, .string g.ver.tx, .int .i64 g.err] e)) (.slice (some ⟨w.heap.size, 0, none⟩) 1 1) [g] := by
  refine ⟨_, 1, rfl, Or.inr ⟨w.heap.size, 0, rfl, by simp, fun i hi => ?_⟩⟩
  obtain rfl : i = 0 := by simpa using hi
  have h := One.of w #[.int .u64 g.ver.n, .int .u8 g.ver.st, .string g.ver.tx, .int .i64 g.err] e
  exact ⟨h.c 0, h.c 1, h.c 2, h.c 3⟩
theorem IsEdts.one {w : World} {g : Nat} {x : Edt} (h : One g #[.int .u8 x.kind, .string x.path, .bool x.any, .int .u64 x.want, .int .u64 x.n, .string x.text] w) (cap : Nat) : IsEdts w (.slice (some ⟨g, 0, none⟩) 1 cap) [x] := by
  refine ⟨_, cap, rfl, Or.inr ⟨g, 0, rfl, h.lt, fun i hi => ?_⟩⟩
  obtain rfl : i = 0 := by simpa using hi
  exact ⟨h.c 0, h.c 1, h.c 2, h.c 3, h.c 4, h.c 5⟩
theorem wpl_store_stN {ops : Array Oper} {rest : List Oper} {op : Oper} {a : Act} {w : World} {Q : Exit → Act → World → Prop} (hgd : op.guard = none) (x y : Operand) (ho : op.op = .store 87 x y) (n : Nat) (hn : w.heap.size = n) {c : Array Value} (hx : a.eval x = .pointer (some ⟨n, 0, none⟩)) {f : Five} {s : Sto} (hy : a.eval y = .agg (stoCells f s).toArray)
    (hoo : c.size = 18) (h1 : ∀ v ∈ stoCells f s, v.oneCell' = true)
    (h : wpList Tryz.prog ops Q rest (a.put op.dst undef) (w.alloc (.cells (stoCells f s).toArray 87))) : wpList Tryz.prog ops Q (op :: rest) a (w.alloc (.cells c 87)) := by
  subst hn; exact wpl_store_sto hgd x y ho hx hy hoo h1 h
theorem sto_one5 {f : Five} {s : Sto} (h1 : f.r.oneCell' = true) (h2 : f.e.oneCell' = true) (h3 : f.g.oneCell' = true) (h4 : f.n.oneCell' = true) (h5 : f.m.oneCell' = true) : ∀ v ∈ stoCells f s, v.oneCell' = true := by
  intro v hv
  simp only [stoCells, List.mem_cons, List.not_mem_nil, or_false] at hv
  rcases hv with rfl | rfl | rfl | rfl | rfl | rfl | rfl | rfl | rfl | rfl | rfl | rfl | rfl | rfl | rfl | rfl | rfl | rfl <;> first | rfl | assumption
set_option maxRecDepth 100000 in
theorem wpl_build_s {ops : Array Oper} {rest : List Oper} {o : Oper} {a : Act} {w : World} {Q : Exit → Act → World → Prop} (hg : o.guard = none) (parts : Array (Nat × Operand)) (ho : o.op = .build 87 parts) (f : Five) (s : Sto)
    (hb : Tryz.prog.built 87 (parts.map fun (i, x) => (i, a.eval x)).toList = some (stoCells f s).toArray)
    (h : wpList Tryz.prog ops Q rest (a.put o.dst (.agg (stoCells f s).toArray)) w) : wpList Tryz.prog ops Q (o :: rest) a w := by
  refine wpList_plain hg fun K hK => ?_
  unfold Oper.wp execOp
  simp only [ho, Sem.run_bind]
  have := run_build (P := Tryz.prog) w 87 (parts.map fun (i, x) => (i, a.eval x)) _ hb
  simp only [this]
  exact hK _ _ h

structure BoxS (n : Nat) (f : Five) (s : Sto) (W : World) : Prop where
  o : One n (stoCells f s).toArray W
  i : StoIs W f s
theorem BoxS.step {n : Nat} {f : Five} {s : Sto} {W W' : World} (h : BoxS n f s W) (hb : Below W.heap.size W W') : BoxS n f s W' := ⟨h.o.step hb, h.i.below hb (Nat.le_refl _)⟩
theorem BoxS.at {n : Nat} {f : Five} {s : Sto} {W : World} (h : BoxS n f s W) : StoAt W n 0 f s := by
  intro j u hj
  rw [Nat.zero_add, h.o.c j]; simpa using hj
theorem BoxS.new {w : World} {f : Five} {s : Sto} (h : StoIs w f s) : BoxS w.heap.size f s (w.alloc (.cells (stoCells f s).toArray 87)) :=
  ⟨One.of _ _ _, h.below ((Below.refl _ _).alloc (Nat.le_refl _) _) (Nat.le_refl _)⟩
theorem IsStos.rowN (w : World) (L : List (Five × Sto)) (ty : TypeId) (h : ∀ x ∈ L, StoIs w x.1 x.2) : IsStos (w.alloc (.cells (stoFlat L).toArray ty)) (.slice (some ⟨w.heap.size, 0, none⟩) L.length L.length) (L.map (·.2)) := by
  have hO := One.of w (stoFlat L).toArray ty
  have hb : Below w.heap.size w (w.alloc (.cells (stoFlat L).toArray ty)) := (Below.refl _ _).alloc (Nat.le_refl _) _
  refine ⟨_, L.length, by rw [List.length_map], by rw [List.length_map]; exact Nat.le_refl _, Or.inr ⟨_, 0, rfl, hO.lt, fun i hi => ?_⟩⟩
  rw [List.length_map] at hi
  have hm : L.getD i dFS ∈ L := by rw [List.getD_eq_getElem?_getD, List.getElem?_eq_getElem hi]; exact List.getElem_mem hi
  have he : (L.map (·.2)).getD i dS = (L.getD i dFS).2 := by
    rw [List.getD_eq_getElem?_getD, List.getD_eq_getElem?_getD, List.getElem?_map, List.getElem?_eq_getElem hi]; rfl
  rw [he]
  refine ⟨(L.getD i dFS).1, (h _ hm).below hb (Nat.le_refl _), fun j u hj => ?_⟩
  have hj2 : j < 18 := (List.getElem?_eq_some_iff.1 hj).1
  rw [Nat.zero_add, hO.c, List.getElem?_toArray, stoFlat_at L i hi j hj2, hj]
theorem built2 (f g : Five) (s t : Sto) : Tryz.prog.builtSlice 87 2 [(0, .agg (stoCells f s).toArray), (1, .agg (stoCells g t).toArray)] = some (stoFlat [(f, s), (g, t)]).toArray := by kernel_rfl
theorem built4 (f1 f2 f3 f4 : Five) (s1 s2 s3 s4 : Sto) : Tryz.prog.builtSlice 87 4 [(0, .agg (stoCells f1 s1).toArray), (1, .agg (stoCells f2 s2).toArray), (2, .agg (stoCells f3 s3).toArray), (3, .agg (stoCells f4 s4).toArray)] = some (stoFlat [(f1, s1), (f2, s2), (f3, s3), (f4, s4)]).toArray := by kernel_rfl
theorem wpl_build_sto2 {ops : Array Oper} {rest : List Oper} {o : Oper} {a : Act} {w : World} {Q : Exit → Act → World → Prop} (hg : o.guard = none) (x y : Operand) (ho : o.op = .buildSlice 68 2 #[(0, x), (1, y)]) {f g : Five} {s t : Sto} (hx : a.eval x = .agg (stoCells f s).toArray) (hy : a.eval y = .agg (stoCells g t).toArray)
    (h : wpList Tryz.prog ops Q rest (a.put o.dst (.slice (some ⟨w.heap.size, 0, none⟩) 2 2)) (w.alloc (.cells (stoFlat [(f, s), (g, t)]).toArray 87))) : wpList Tryz.prog ops Q (o :: rest) a w :=
  Great.wpList_buildSliceTo hg 68 87 2 #[(0, x), (1, y)] ho w.heap.size rfl o.dst rfl Tryz.underlying68 (stoFlat [(f, s), (g, t)]).toArray (by
    simp only [List.map_toArray, List.map_cons, List.map_nil, hx, hy]; exact built2 f g s t) h
theorem sz_put {s : Sto} {p t : ByteArray} (h : s.call = putL p t) (hp : p.size ≤ 140737488351232) (ht : t.size ≤ 9223372036854775807) (hg : s.got.length ≤ 1048576) (hn : s.nums.length ≤ 1048576) (hm : s.names.length ≤ 1048576) : StoSz s := by
  refine ⟨?_, ?_, by omega, by omega, by omega⟩
  · rw [h]
    refine ⟨by simp [putL], by simp [putL], fun i hi => ?_, by simp [putL], fun i hi => ?_, by simp [putL]⟩
    · exact absurd hi (Nat.not_lt_zero _)
    · obtain rfl : i = 0 := by simpa [putL] using hi
      exact ⟨hp, ht⟩
  · rw [h]; simp [putL]
theorem sz_get {s : Sto} {p : ByteArray} (h : s.call = getL p) (hp : p.size ≤ 140737488351232) (hg : s.got.length ≤ 1048576) (hn : s.nums.length ≤ 1048576) (hm : s.names.length ≤ 1048576) : StoSz s := by
  refine ⟨?_, ?_, by omega, by omega, by omega⟩
  · rw [h]
    refine ⟨by simp [getL], by simp [getL], fun i hi => ?_, by simp [getL], fun i hi => ?_, by simp [getL]⟩
    · obtain rfl : i = 0 := by simpa [getL] using hi
      exact hp
    · exact absurd hi (Nat.not_lt_zero _)
  · rw [h]; simp [getL]
theorem StosSz.two {s t : Sto} (h : StoSz s) (k : StoSz t) : StosSz [s, t] := fun i hi => by
  have : i = 0 ∨ i = 1 := by have : i < 2 := hi; omega
  rcases this with rfl | rfl
  · exact h
  · exact k
theorem check_two (s t : Sto) (v : Value) (w : World) (hv : IsStos w v [s, t]) (h1 : StoSz s) (h2 : StoSz t) (hm : MX w) : Calls Tryz.prog 32 #[v] w (CheckG [s, t] w) :=
  model_check [s, t] v w hv (by simp) (Nat.le_trans (idxO_le _ _) (by simp)) (StosSz.two h1 h2) hm
theorem IsGots.one {w : World} {b : Nat} {g : GotR} (h : One b #[.int .u64 g.ver.n, .int .u8 g.ver.st, .string g.ver.tx, .int .i64 g.err] w) : IsGots w (.slice (some ⟨b, 0, none⟩) 1 1) [g] := by
  refine ⟨_, 1, rfl, Or.inr ⟨b, 0, rfl, h.lt, fun i hi => ?_⟩⟩
  obtain rfl : i = 0 := by simpa using hi
  exact ⟨h.c 0, h.c 1, h.c 2, h.c 3⟩
theorem IsNums.none (w : World) : IsNums w (.slice none 0 0) [] := ⟨Option.none, 0, rfl, Or.inl rfl⟩
end Go.Proofs.YtfbgnpfhjbiikaaGreatDoor

namespace Go.Proofs.YtfbgnpfhjbiikaaGreatDoor
open Go Go.RowKit
open Pth
open Go.Maps (has size Canon CanonK Tidy IsMap KeysOf Keyed Merged)
def c1 (s : ByteArray) : Cel := ⟨1, [⟨1, 1, s⟩]⟩
def c2 (s t : ByteArray) : Cel := ⟨2, [⟨1, 1, s⟩, ⟨2, 1, t⟩]⟩
def c3 (s : ByteArray) : Cel := ⟨2, [⟨1, 1, s⟩, ⟨2, 2, ByteArray.empty⟩]⟩
theorem mayC_c1 {s : ByteArray} (hs : s.size ≤ 4096) : mayC (c1 s) = true := by
  simp [mayC, c1, okFrom, okVer, hs]
theorem mayC_c3 {s : ByteArray} (hs : s.size ≤ 4096) : mayC (c3 s) = true := by
  simp [mayC, c3, okFrom, okVer, hs]
def mp (p : ByteArray) (c : Cel) : DataW Cel := .map [(kS p, .held c)]
theorem cellAt_mp (p : ByteArray) (c : Cel) : cellAt (mp p c) p = c := by
  refine cellAt_of ?_
  have hk : Lit.sameKey (kS p) (kS p) = true := by rw [sameKey_kS]; simp
  simp [mp, DataW.atKey, hk]
theorem put_mp (p : ByteArray) (c d : Cel) : (mp p c).put (kS p) (.held d) = mp p d := by
  have hk : Lit.sameKey (kS p) (kS p) = true := by rw [sameKey_kS]; simp
  simp [mp, DataW.put, hk]
  rfl
theorem put_nil (p : ByteArray) (d : Cel) : (DataW.map []).put (kS p) (.held d) = mp p d := rfl
theorem cellAt_nil (p : ByteArray) : cellAt (.map []) p = ⟨0, []⟩ := rfl
theorem nowC_c1 (s : ByteArray) : nowC (c1 s) = 1 := rfl
theorem nowC_c3 (s : ByteArray) : nowC (c3 s) = 0 := rfl
theorem edit_first {p s : ByteArray} (hp : mayP p = true) (hs : s.size ≤ 4096) : editE (.map []) ⟨1, p, true, 0, 0, s⟩ = (c1 s, 0) := by
  unfold editE
  rw [if_neg (by simp [hp])]
  unfold outcomeE
  rw [if_pos rfl, cellAt_nil]
  unfold putE
  rw [if_neg (by rw [mayC_none]; decide), if_neg (by show ¬ 4096 < s.size; omega)]
  rfl
theorem edit_second {p s t : ByteArray} {want : Nat} (hp : mayP p = true) (hs : s.size ≤ 4096) (ht : t.size ≤ 4096) : editE (mp p (c1 s)) ⟨1, p, false, want, 0, t⟩ = if want = 1 then (c2 s t, 0) else (c1 s, 170) := by
  unfold editE
  rw [if_neg (by simp [hp])]
  unfold outcomeE
  rw [if_pos rfl, cellAt_mp]
  unfold putE
  rw [if_neg (by rw [mayC_c1 hs]; decide), if_neg (by show ¬ 4096 < t.size; omega)]
  unfold comesC stale
  dsimp only
  rw [nowC_c1]
  by_cases h : want = 1
  · rw [if_neg (by simp [h]), if_neg (by simp [c1]), if_pos h]; rfl
  · rw [if_pos (by simp [h]), if_neg h]
theorem edit_del {p s : ByteArray} (hp : mayP p = true) (hs : s.size ≤ 4096) : editE (mp p (c1 s)) ⟨2, p, true, 0, 0, ByteArray.empty⟩ = (c3 s, 0) := by
  unfold editE
  rw [if_neg (by simp [hp])]
  unfold outcomeE
  rw [if_neg (by show ¬ (2 : Nat) = 1; decide), if_pos rfl, cellAt_mp]
  unfold deleteE
  rw [if_neg (by rw [mayC_c1 hs]; decide), nowC_c1, if_neg (by decide)]
  unfold comesC stale
  dsimp only
  rw [if_neg (by simp), if_neg (by simp [c1])]; rfl
theorem tried_one {M : DataW Cel} {B q1 q2 : Int} {x : Edt} {c : Cel} (h : editE M x = (c, 0)) (h1 : (size (M.put (kS x.path) (.held c)) : Int) ≤ q1) (h2 : B + ((weightE x.path c : Int) - (weightE x.path (cellAt M x.path) : Int)) ≤ q2) :
    triedT M B q1 q2 [x] = ((0, 0), M.put (kS x.path) (.held c), [c.last], B + ((weightE x.path c : Int) - (weightE x.path (cellAt M x.path) : Int))) := by
  have hr : runT M [] B 0 [x] = ((0, 0), M.put (kS x.path) (.held c), [c.last], B + ((weightE x.path c : Int) - (weightE x.path (cellAt M x.path) : Int))) := by
    unfold runT
    rw [h]
    rw [if_neg (by simp)]
    unfold runT stepM
    rw [h]; rfl
  unfold triedT
  rw [hr]
  dsimp only
  rw [if_neg (by simp), if_neg]
  unfold overT
  dsimp only
  rw [decide_eq_false (by omega), decide_eq_false (p := q2 < _) (by omega)]; simp
theorem tried_bad {M : DataW Cel} {B q1 q2 : Int} {x : Edt} {c : Cel} {e : Nat} (h : editE M x = (c, e)) (he : e ≠ 0) : triedT M B q1 q2 [x] = ((0, e), M, [], B) := by
  have hr : runT M [] B 0 [x] = ((0, e), M, [], B) := by
    unfold runT
    rw [h, if_pos he]
  unfold triedT
  rw [hr]
  dsimp only
  rw [if_pos he]
theorem tried_nil (M : DataW Cel) (B q1 q2 : Int) : triedT M B q1 q2 [] = ((0, 0), M, [], B) := by
  have hr : runT M [] B 0 [] = ((0, 0), M, [], B) := rfl
  unfold triedT
  rw [hr]
  dsimp only
  rw [if_neg (by simp), if_neg]
  unfold overT
  simp
theorem does_one {M : DataW Cel} {B : Int} {x : Edt} {c : Cel} {k : Cal} (hk : k.kind = 1) (hr : k.rds = []) (he : k.eds = [x]) (h : editE M x = (c, 0)) (h1 : (size (M.put (kS x.path) (.held c)) : Int) ≤ QQ) (h2 : B + ((weightE x.path c : Int) - (weightE x.path (cellAt M x.path) : Int)) ≤ QQ) :
    doesT M B QQ QQ k = ⟨[], [c.last], [], true, M.put (kS x.path) (.held c), B + ((weightE x.path c : Int) - (weightE x.path (cellAt M x.path) : Int))⟩ := by
  unfold doesT
  rw [if_pos hk, he, hr, tried_one h h1 h2]
  rfl
theorem does_bad {M : DataW Cel} {B : Int} {x : Edt} {c : Cel} {e : Nat} {k : Cal} (hk : k.kind = 1) (hr : k.rds = []) (he : k.eds = [x]) (h : editE M x = (c, e)) (h0 : e ≠ 0) :
    doesT M B QQ QQ k = ⟨[], [], [], false, M, B⟩ := by
  unfold doesT
  rw [if_pos hk, he, hr, tried_bad h h0]
  simp [gotsT, nextV, nextM, nextB, h0]
theorem does_read {M : DataW Cel} {B : Int} {k : Cal} {p : ByteArray} (hk : k.kind = 1) (hr : k.rds = [⟨p, 0⟩]) (he : k.eds = []) : doesT M B QQ QQ k = ⟨[⟨(readT M p 0).1, (readT M p 0).2⟩], [], [], true, M, B⟩ := by
  unfold doesT
  rw [if_pos hk, he, hr, tried_nil]
  rfl
theorem read_c3 {p s : ByteArray} (hp : mayP p = true) (hs : s.size ≤ 4096) : readT (mp p (c3 s)) p 0 = (dV, 3) := by
  have hk : Lit.sameKey (kS p) (kS p) = true := by rw [sameKey_kS]; simp
  unfold readT
  rw [if_neg (by rw [hp]; decide), if_neg (by rw [mp, Maps.has_eq]; simp [hk]), cellAt_mp]
  unfold readE
  rw [if_pos ⟨rfl, nowC_c3 s, mayC_c3 hs⟩]
theorem does_list1 {M : DataW Cel} {B : Int} {k : Cal} (hk : k.kind = 2) : doesT M B QQ QQ k = ⟨[], [], namesT (rowsL M) k.pre, true, M, B⟩ := by
  unfold doesT
  rw [if_neg (by omega), if_pos hk]

def sP (p s : ByteArray) : Sto := ⟨0, putL p s, 1, 0, false, 0, 0, 1, 0, [], [], []⟩
def casL (p t : ByteArray) (want : Nat) : Cal := ⟨1, [], [⟨1, p, false, want, 0, t⟩], ByteArray.empty, 0, 0, 0⟩
def sQ (p t : ByteArray) (want : Nat) : Sto := ⟨0, casL p t want, 2, 0, false, 0, 0, 2, 0, [], [], []⟩
def delL (p : ByteArray) : Cal := ⟨1, [], [⟨2, p, true, 0, 0, ByteArray.empty⟩], ByteArray.empty, 0, 0, 0⟩
def lstL : Cal := ⟨2, [], [], ByteArray.empty, 0, 0, 0⟩
def sDl (p : ByteArray) : Sto := ⟨0, delL p, 3, 0, false, 0, 0, 3, 0, [], [], []⟩
def sG (p : ByteArray) : Sto := ⟨0, getL p, 4, 5, false, 0, 0, 4, 0, [⟨dV, 3⟩], [], []⟩
def sL : Sto := ⟨0, lstL, 6, 7, false, 0, 0, 5, 0, [], [], []⟩
theorem ord_four (a b c d : Sto) (h1 : 0 < a.com) (h2 : a.com ≤ b.com) (h3 : b.com ≤ c.com) (h4 : c.com ≤ d.com) : ordS [a, b, c, d] = [0, 1, 2, 3] := by
  symm
  have e0 : comF [a, b, c, d] 0 = a.com := rfl
  have e1 : comF [a, b, c, d] 1 = b.com := rfl
  have e2 : comF [a, b, c, d] 2 = c.com := rfl
  have e3 : comF [a, b, c, d] 3 = d.com := rfl
  refine ordL_uniq ?_ ?_
  · have : (List.range [a, b, c, d].length).filter (fun i => decide (0 < comF [a, b, c, d] i)) = [0, 1, 2, 3] := by
      have hr : List.range [a, b, c, d].length = [0, 1, 2, 3] := rfl
      rw [hr]
      have k1 : 0 < b.com := by omega
      have k2 : 0 < c.com := by omega
      have k3 : 0 < d.com := by omega
      simp [e0, e1, e2, e3, h1, k1, k2, k3]
    rw [this]
  · simp [leS, e0, e1, e2, e3]; omega
theorem size_mp (p : ByteArray) (c : Cel) : size (mp p c) = 1 := rfl
theorem w0 (p : ByteArray) : weightE p ⟨0, []⟩ = 0 := rfl
def bP (p s : ByteArray) : Int := 0 + ((weightE p (c1 s) : Int) - (weightE p ⟨0, []⟩ : Int))
theorem wc1 (p s : ByteArray) : weightE p (c1 s) = p.size + s.size := rfl
theorem does_P {p s : ByteArray} (hp : mayP p = true) (hs : s.size ≤ 4096) : doesT (.map []) 0 QQ QQ (putL p s) = ⟨[], [1], [], true, mp p (c1 s), bP p s⟩ := by
  have h := does_one (M := .map []) (B := 0) (k := putL p s) rfl rfl rfl (edit_first hp hs) (by rw [put_nil, size_mp]; decide) (by
    have := mayP_size hp
    show 0 + ((weightE p (c1 s) : Int) - (weightE p (cellAt (.map []) p) : Int)) ≤ QQ
    rw [cellAt_nil, w0, wc1]; unfold QQ; omega)
  exact h
theorem does_Pbad {p s : ByteArray} (hp : mayP p = false) : doesT (.map []) 0 QQ QQ (putL p s) = ⟨[], [], [], false, .map [], 0⟩ :=
  does_bad (c := ⟨0, []⟩) (e := 2) rfl rfl rfl (by unfold editE; rw [if_pos (Or.inr (Or.inr hp))]; rfl) (by decide)
theorem does_Q {p s t : ByteArray} {want : Nat} (hp : mayP p = true) (hs : s.size ≤ 4096) (ht : t.size ≤ 4096) (h : want = 1) : ∃ B, doesT (mp p (c1 s)) (bP p s) QQ QQ (casL p t want) = ⟨[], [2], [], true, mp p (c2 s t), B⟩ := by
  have h := does_one (M := mp p (c1 s)) (B := bP p s) (k := casL p t want) rfl rfl rfl ((edit_second hp hs ht).trans (if_pos h)) (by rw [put_mp, size_mp]; decide) (by
    have := mayP_size hp
    show bP p s + ((weightE p (c2 s t) : Int) - (weightE p (cellAt (mp p (c1 s)) p) : Int)) ≤ QQ
    have hw : weightE p (c2 s t) = p.size + (s.size + t.size) := rfl
    rw [cellAt_mp]; unfold bP; rw [hw, w0, wc1]; unfold QQ; omega)
  have e : (mp p (c1 s)).put (kS (⟨1, p, false, want, 0, t⟩ : Edt).path) (.held (c2 s t)) = mp p (c2 s t) := put_mp p _ _
  rw [e] at h
  exact ⟨_, h⟩
theorem does_Qbad {p s t : ByteArray} {want : Nat} (hp : mayP p = true) (hs : s.size ≤ 4096) (ht : t.size ≤ 4096) (h : want ≠ 1) : doesT (mp p (c1 s)) (bP p s) QQ QQ (casL p t want) = ⟨[], [], [], false, mp p (c1 s), bP p s⟩ :=
  does_bad (c := c1 s) (e := 170) rfl rfl rfl ((edit_second hp hs ht).trans (if_neg h)) (by decide)
theorem does_D {p s : ByteArray} (hp : mayP p = true) (hs : s.size ≤ 4096) : ∃ B, doesT (mp p (c1 s)) (bP p s) QQ QQ (delL p) = ⟨[], [2], [], true, mp p (c3 s), B⟩ := by
  have h := does_one (M := mp p (c1 s)) (B := bP p s) (k := delL p) rfl rfl rfl (edit_del hp hs) (by rw [put_mp, size_mp]; decide) (by
    have := mayP_size hp
    show bP p s + ((weightE p (c3 s) : Int) - (weightE p (cellAt (mp p (c1 s)) p) : Int)) ≤ QQ
    have hw : weightE p (c3 s) = p.size + s.size := rfl
    rw [cellAt_mp]; unfold bP; rw [hw, w0, wc1]; unfold QQ; omega)
  have e : (mp p (c1 s)).put (kS (⟨2, p, true, 0, 0, ByteArray.empty⟩ : Edt).path) (.held (c3 s)) = mp p (c3 s) := put_mp p _ _
  rw [e] at h
  exact ⟨_, h⟩
theorem good_P {p s : ByteArray} (hp : mayP p = true) (hs : s.size ≤ 4096) : Good Tryz.prog 9 (mp p (c1 s)) ∧ bP p s = bytesR (rowsL (mp p (c1 s))) := by
  have h := does_good (q1 := QQ) (q2 := QQ) (c := putL p s) (good_none Tryz.prog 9)
  rw [rowsL_nil] at h
  have e : doesT (.map []) ((bytesR [] : Nat) : Int) QQ QQ (putL p s) = ⟨[], [1], [], true, mp p (c1 s), bP p s⟩ := does_P hp hs
  rw [e] at h
  exact ⟨h.1, h.2.1⟩
theorem good_Q {p s t : ByteArray} (hp : mayP p = true) (hs : s.size ≤ 4096) (ht : t.size ≤ 4096) : Good Tryz.prog 9 (mp p (c2 s t)) := by
  obtain ⟨g, b⟩ := good_P hp hs
  have h := does_good (q1 := QQ) (q2 := QQ) (c := casL p t 1) g
  obtain ⟨B, e⟩ := does_Q (want := 1) hp hs ht rfl
  rw [b] at e
  rw [e] at h
  exact h.1
theorem good_D {p s : ByteArray} (hp : mayP p = true) (hs : s.size ≤ 4096) : Good Tryz.prog 9 (mp p (c3 s)) := by
  obtain ⟨g, b⟩ := good_P hp hs
  have h := does_good (q1 := QQ) (q2 := QQ) (c := delL p) g
  obtain ⟨B, e⟩ := does_D hp hs
  rw [b] at e
  rw [e] at h
  exact h.1
theorem rows_P {p s : ByteArray} (hp : mayP p = true) (hs : s.size ≤ 4096) : rowsS [sP p s] = [(p, c1 s)] := by
  unfold rowsS
  rw [ord_one _ (by decide : (0 : Int) < 1)]
  show rowsL (doesT (.map []) 0 QQ QQ (putL p s)).M = _
  rw [does_P hp hs]
  exact rows_one (good_P hp hs).1 rfl
theorem rows_Pbad {p s : ByteArray} (hp : mayP p = false) : rowsS [sP p s] = [] := by
  unfold rowsS
  rw [ord_one _ (by decide : (0 : Int) < 1)]
  show rowsL (doesT (.map []) 0 QQ QQ (putL p s)).M = _
  rw [does_Pbad hp]; exact rowsL_nil
theorem rows_PQ {p s t : ByteArray} {want : Nat} (hp : mayP p = true) (hs : s.size ≤ 4096) (ht : t.size ≤ 4096) : rowsS [sP p s, sQ p t want] = [(p, if want = 1 then c2 s t else c1 s)] := by
  unfold rowsS
  rw [ord_AB _ _ (by decide : (0 : Int) < 1) (by decide : (1 : Int) ≤ 2)]
  show rowsL (doesT (doesT (.map []) 0 QQ QQ (putL p s)).M (doesT (.map []) 0 QQ QQ (putL p s)).B QQ QQ (casL p t want)).M = _
  rw [does_P hp hs]
  dsimp only
  by_cases h : want = 1
  · obtain ⟨B, e⟩ := does_Q hp hs ht h
    rw [e, if_pos h]
    exact rows_one (good_Q hp hs ht) rfl
  · rw [does_Qbad hp hs ht h, if_neg h]
    exact rows_one (good_P hp hs).1 rfl
theorem wrong_til {d : Done} {s : Sto} (h : s.til = 0) : wrongR d s = false := by
  unfold wrongR; exact @decide_eq_false _ (Classical.propDecidable _) (fun h2 => by have := h2.1; omega)
theorem chk_not {l : List Sto} {o : List Nat} {k i : Nat} {r : List Nat} {M : DataW Cel} {B : Int} {d : Done} (hl : lateT l o k = false) (hd : doesT M B QQ QQ (l.getD i dS).call = d) (hi : d.is = false) : chkT l o k (i :: r) (M, B) = ⟨false, i, 3⟩ := by
  rw [chkT, if_neg (by rw [hl]; decide)]
  dsimp only
  rw [hd, if_pos hi]
theorem check_Pbad {p s : ByteArray} (hp : mayP p = false) : checkT [sP p s] = ⟨false, 0, 3⟩ := by
  rw [check_cons (by rfl), ord_one _ (by decide : (0 : Int) < 1)]
  rw [chk_not (by rfl) (does_Pbad hp) rfl]
theorem check_PQ {p s t : ByteArray} {want : Nat} (hp : mayP p = true) (hs : s.size ≤ 4096) (ht : t.size ≤ 4096) : checkT [sP p s, sQ p t want] = if want = 1 then ⟨true, 0, 0⟩ else ⟨false, 1, 3⟩ := by
  rw [check_cons (by rfl), ord_AB _ _ (by decide : (0 : Int) < 1) (by decide : (1 : Int) ≤ 2)]
  rw [chk_step (by rfl) (does_P hp hs) rfl (wrong_til rfl)]
  by_cases h : want = 1
  · obtain ⟨B, e⟩ := does_Q hp hs ht h
    rw [if_pos h, chk_step (by rfl) e rfl (wrong_til rfl)]
    rfl
  · rw [if_neg h, chk_not (by rfl) (does_Qbad hp hs ht h) rfl]
theorem names_D {p s : ByteArray} (hp : mayP p = true) (hs : s.size ≤ 4096) : namesT (rowsL (mp p (c3 s))) ByteArray.empty = [] := by
  rw [rows_one (good_D hp hs) rfl]
  have hl : liveR [(p, c3 s)] = [] := rfl
  unfold namesT
  rw [hl]
  simp [namesL, kidsL, nub]
theorem check_four {p s : ByteArray} (hp : mayP p = true) (hs : s.size ≤ 4096) : checkT [sP p s, sDl p, sG p, sL] = ⟨true, 0, 0⟩ := by
  rw [check_cons (by rfl), ord_four _ _ _ _ (by decide : (0 : Int) < 1) (by decide : (1 : Int) ≤ 3) (by decide : (3 : Int) ≤ 4) (by decide : (4 : Int) ≤ 5)]
  rw [chk_step (by rfl) (does_P hp hs) rfl (wrong_til rfl)]
  obtain ⟨B, e⟩ := does_D hp hs
  rw [chk_step (by rfl) e rfl (wrong_til rfl)]
  rw [chk_step (by rfl) (does_read (k := getL p) rfl rfl rfl) rfl (wrong_same ⟨by rw [read_c3 hp hs]; rfl, rfl, rfl⟩)]
  rw [chk_step (by rfl) (does_list1 (k := lstL) rfl) rfl (wrong_same ⟨rfl, rfl, names_D hp hs⟩)]
  rfl
end Go.Proofs.YtfbgnpfhjbiikaaGreatDoor

namespace Go.Proofs.YtfbgnpfhjbiikaaGreatDoor
open Go Go.RowKit
open Pth
set_option maxRecDepth 100000 in
theorem yields_build_s {ops : Array Oper} {S : World → Prop} {op : Oper} {a : Act} (hw : Region.wanted op (yielded ops a.tmps) = true) (parts : Array (Nat × Operand)) (ho : op.op = .build 87 parts) (f : Five) (s : Sto)
    (hb : Tryz.prog.built 87 (parts.map fun (i, x) => (i, a.eval x)).toList = some (stoCells f s).toArray) : YieldsIf Tryz.prog ops S op (.agg (stoCells f s).toArray) a :=
  .inl ⟨hw, fun w _ => by
    unfold execOp
    have := run_build (P := Tryz.prog) w 87 (parts.map fun (i, x) => (i, a.eval x)) _ hb
    simp only [ho, Sem.run_bind, this]; rfl⟩
theorem yields_load_s {ops : Array Oper} {S : World → Prop} {op : Oper} {a : Act} (hw : Region.wanted op (yielded ops a.tmps) = true) (x : Operand) (ho : op.op = .load 87 x) (b o : Nat) (hx : a.eval x = .pointer (some ⟨b, o, none⟩)) (f : Five) (s : Sto)
    (hS : ∀ w, S w → StoAt w b o f s) : YieldsIf Tryz.prog ops S op (.agg (stoCells f s).toArray) a :=
  yieldsIf_load_mid hw 87 x ho b o hx (stoCells f s) _ hS Tryz.underlying87 rfl infoStoL
theorem wp_buildSliceTo {P : Program} {o : Oper} {a : Act} {w : World} {K : Act → World → Prop} {Q : Exit → Act → World → Prop} (t e : TypeId) (len : Nat) (parts : Array (Nat × Operand)) (ho : o.op = .buildSlice t len parts)
    (hu : P.underlying t = some (.slice e)) (cells : Array Value)
    (hf : P.builtSlice e len (parts.map fun (i, x) => (i, a.eval x)).toList = some cells)
    (h : K (a.put o.dst (.slice (some ⟨w.heap.size, 0, none⟩) len len)) (w.alloc (.cells cells e))) : o.wp P a w K Q := by
  unfold Program.builtSlice at hf
  cases hie : P.info? e with
  | none => simp [hie] at hf
  | some ie =>
    simp only [hie] at hf
    cases hz : ie.zero with
    | none => simp [hz] at hf
    | some z =>
      simp only [hz] at hf
      by_cases hc : len * ie.size > 2 ^ 24 ∨ len * ie.size = 0
      · simp [hc] at hf
      · rw [if_neg hc] at hf
        exact wp_buildSlice t e len parts ho cells ie z hu hie hz (fun h' => hc (Or.inl h')) (fun h' => hc (Or.inr h')) hf h
theorem wp_build_sto2 {o : Oper} {a : Act} {w : World} {K : Act → World → Prop} {Q : Exit → Act → World → Prop} (x y : Operand) (ho : o.op = .buildSlice 68 2 #[(0, x), (1, y)]) {f g : Five} {s t : Sto} (hx : a.eval x = .agg (stoCells f s).toArray) (hy : a.eval y = .agg (stoCells g t).toArray)
    (h : K (a.put o.dst (.slice (some ⟨w.heap.size, 0, none⟩) 2 2)) (w.alloc (.cells (stoFlat [(f, s), (g, t)]).toArray 87))) : o.wp Tryz.prog a w K Q :=
  wp_buildSliceTo 68 87 2 #[(0, x), (1, y)] ho Tryz.underlying68 (stoFlat [(f, s), (g, t)]).toArray (by
    simp only [List.map_toArray, List.map_cons, List.map_nil, hx, hy]; exact built2 f g s t) h
theorem wp_build_sto4 {o : Oper} {a : Act} {w : World} {K : Act → World → Prop} {Q : Exit → Act → World → Prop} (x y z u : Operand) (ho : o.op = .buildSlice 68 4 #[(0, x), (1, y), (2, z), (3, u)]) {f1 f2 f3 f4 : Five} {s1 s2 s3 s4 : Sto} (hx : a.eval x = .agg (stoCells f1 s1).toArray) (hy : a.eval y = .agg (stoCells f2 s2).toArray) (hz : a.eval z = .agg (stoCells f3 s3).toArray) (hu : a.eval u = .agg (stoCells f4 s4).toArray)
    (h : K (a.put o.dst (.slice (some ⟨w.heap.size, 0, none⟩) 4 4)) (w.alloc (.cells (stoFlat [(f1, s1), (f2, s2), (f3, s3), (f4, s4)]).toArray 87))) : o.wp Tryz.prog a w K Q :=
  wp_buildSliceTo 68 87 4 #[(0, x), (1, y), (2, z), (3, u)] ho Tryz.underlying68 (stoFlat [(f1, s1), (f2, s2), (f3, s3), (f4, s4)]).toArray (by
    simp only [List.map_toArray, List.map_cons, List.map_nil, hx, hy, hz, hu]; exact built4 f1 f2 f3 f4 s1 s2 s3 s4) h
theorem IsStos.first {w : World} {b cap : Nat} {s t : Sto} (h : IsStos w (.slice (some ⟨b, 0, none⟩) 2 cap) [s, t]) : IsStos w (.slice (some ⟨b, 0, none⟩) 1 cap) [s] ∧ b < w.heap.size ∧ ∃ f, StoIs w f s ∧ StoAt w b 0 f s := by
  obtain ⟨a, c, e, hc, h⟩ := h
  injection e with e1 e2 e3
  subst e1; subst e3
  rcases h with h | ⟨b2, off, e, hlt, h⟩
  · cases h
  · cases e
    obtain ⟨f, h1, h2⟩ := h 0 (by simp)
    have h2' : StoAt w b 0 f s := by simpa using h2
    refine ⟨⟨_, cap, rfl, by have : 2 ≤ cap := hc; show 1 ≤ cap; omega, Or.inr ⟨b, 0, rfl, hlt, fun i hi => ?_⟩⟩, hlt, f, h1, h2'⟩
    obtain rfl : i = 0 := by simpa using hi
    exact ⟨f, h1, h2⟩
theorem IsRows.two {w : World} {v : Value} {r : Rw} (h : IsRows w v [r]) : ∃ b off cap, v = .slice (some ⟨b, off, none⟩) 1 cap ∧ b < w.heap.size ∧ w.cell? ⟨b, off, none⟩ = some (.string r.1) ∧ w.cell? ⟨b, off + 1, none⟩ = some (.int .u64 r.2.last) := by
  obtain ⟨a, cap, e, h⟩ := h
  rcases h with h | ⟨b, off, rfl, hlt, h⟩
  · cases h
  · obtain ⟨h0, h1, _⟩ := h 0 (by simp)
    have h0' : w.cell? ⟨b, off, none⟩ = some (.string r.1) := by simpa using h0
    have h1' : w.cell? ⟨b, off + 1, none⟩ = some (.int .u64 r.2.last) := by simpa using h1
    exact ⟨b, off, cap, e, hlt, h0', h1'⟩
theorem IsRows.none0 {w : World} {v : Value} (h : IsRows w v []) : ∃ a cap, v = .slice a 0 cap := by
  obtain ⟨a, cap, e, _⟩ := h
  exact ⟨a, cap, e⟩
theorem sz_any {s : Sto} {k : Nat} {p t : ByteArray} {any : Bool} {want : Nat} (h : s.call = ⟨1, [], [⟨k, p, any, want, 0, t⟩], ByteArray.empty, 0, 0, 0⟩) (hp : p.size ≤ 140737488351232) (ht : t.size ≤ 9223372036854775807) (hg : s.got.length ≤ 1048576) (hn : s.nums.length ≤ 1048576) (hm : s.names.length ≤ 1048576) : StoSz s := by
  refine ⟨?_, ?_, by omega, by omega, by omega⟩
  · rw [h]
    refine ⟨by simp, by simp, fun i hi => ?_, by simp, fun i hi => ?_, by simp⟩
    · exact absurd hi (Nat.not_lt_zero _)
    · obtain rfl : i = 0 := by simpa using hi
      exact ⟨hp, ht⟩
  · rw [h]; simp
theorem sz_lst {s : Sto} (h : s.call = lstL) (hg : s.got.length ≤ 1048576) (hn : s.nums.length ≤ 1048576) (hm : s.names.length ≤ 1048576) : StoSz s := by
  refine ⟨?_, ?_, by omega, by omega, by omega⟩
  · rw [h]
    refine ⟨by simp [lstL], by simp [lstL], fun i hi => ?_, by simp [lstL], fun i hi => ?_, by simp [lstL]⟩
    · exact absurd hi (Nat.not_lt_zero _)
    · exact absurd hi (Nat.not_lt_zero _)
  · rw [h]; simp [lstL]
theorem szP {p s : ByteArray} (hp : p.size ≤ 128) (hs : s.size ≤ 4096) : StoSz (sP p s) := sz_any rfl (by omega) (by omega) (by simp [sP]) (by simp [sP]) (by simp [sP])
theorem szQ {p t : ByteArray} {want : Nat} (hp : p.size ≤ 128) (hs : t.size ≤ 4096) : StoSz (sQ p t want) := sz_any rfl (by omega) (by omega) (by simp [sQ]) (by simp [sQ]) (by simp [sQ])
theorem szDl {p : ByteArray} (hp : p.size ≤ 128) : StoSz (sDl p) := sz_any rfl (by omega) (by simp) (by simp [sDl]) (by simp [sDl]) (by simp [sDl])
theorem szG {p : ByteArray} (hp : p.size ≤ 128) : StoSz (sG p) := sz_get rfl (by omega) (by simp [sG]) (by simp [sG]) (by simp [sG])
theorem szL : StoSz sL := sz_lst rfl (by simp [sL]) (by simp [sL]) (by simp [sL])
theorem StosSz.one {s : Sto} (h : StoSz s) : StosSz [s] := fun i hi => by
  obtain rfl : i = 0 := by simpa using hi
  exact h
theorem StosSz.four {a b c d : Sto} (h1 : StoSz a) (h2 : StoSz b) (h3 : StoSz c) (h4 : StoSz d) : StosSz [a, b, c, d] := fun i hi => by
  have : i = 0 ∨ i = 1 ∨ i = 2 ∨ i = 3 := by have : i < 4 := hi; omega
  rcases this with rfl | rfl | rfl | rfl
  · exact h1
  · exact h2
  · exact h3
  · exact h4
theorem check_any (l : List Sto) (v : Value) (w : World) (hv : IsStos w v l) (h4 : l.length ≤ 4) (h1 : StosSz l) (hm : MX w) : Calls Tryz.prog 32 #[v] w (CheckG l w) :=
  model_check l v w hv (by omega) (Nat.le_trans (idxO_le _ _) (by omega)) h1 hm
theorem rows_any (l : List Sto) (v : Value) (w : World) (hv : IsStos w v l) (h4 : l.length ≤ 4) (h1 : StosSz l) (hm : MX w) : Calls Tryz.prog 33 #[v] w (RowsSG l w) :=
  model_rows l v w hv (by omega) (Nat.le_trans (idxO_le _ _) (by omega)) h1 hm
theorem IsStos.rowZ (w : World) (L : List (Five × Sto)) (Z : Array Value) (cap : Nat) (hcap : L.length ≤ cap) (ty : TypeId) (h : ∀ x ∈ L, StoIs w x.1 x.2) : IsStos (w.alloc (.cells ((stoFlat L).toArray ++ Z) ty)) (.slice (some ⟨w.heap.size, 0, none⟩) L.length cap) (L.map (·.2)) := by
  have hO := One.of w ((stoFlat L).toArray ++ Z) ty
  have hb : Below w.heap.size w (w.alloc (.cells ((stoFlat L).toArray ++ Z) ty)) := (Below.refl _ _).alloc (Nat.le_refl _) _
  refine ⟨_, cap, by rw [List.length_map], by rw [List.length_map]; exact hcap, Or.inr ⟨_, 0, rfl, hO.lt, fun i hi => ?_⟩⟩
  rw [List.length_map] at hi
  have hm : L.getD i dFS ∈ L := by rw [List.getD_eq_getElem?_getD, List.getElem?_eq_getElem hi]; exact List.getElem_mem hi
  have he : (L.map (·.2)).getD i dS = (L.getD i dFS).2 := by
    rw [List.getD_eq_getElem?_getD, List.getD_eq_getElem?_getD, List.getElem?_map, List.getElem?_eq_getElem hi]; rfl
  rw [he]
  refine ⟨(L.getD i dFS).1, (h _ hm).below hb (Nat.le_refl _), fun j u hj => ?_⟩
  have hj2 : j < 18 := (List.getElem?_eq_some_iff.1 hj).1
  have hlen := stoFlat_length L
  rw [Nat.zero_add, hO.c, Array.getElem?_append_left (by rw [List.size_toArray, hlen]; omega), List.getElem?_toArray, stoFlat_at L i hi j hj2, hj]
theorem wp_append_sto4 {o : Oper} {a : Act} {w : World} {K : Act → World → Prop} {Q : Exit → Act → World → Prop} (x y : Operand) (ho : o.op = .call { callee := .builtin .append, args := #[x, y], argTypes := #[68, 68] })
    (g0 g : Nat) (hx : a.eval x = .slice (some ⟨g0, 0, none⟩) 0 0) (L : List (Five × Sto)) (hL : L.length = 4) (hy : a.eval y = .slice (some ⟨g, 0, none⟩) 4 4) (hO : One g (stoFlat L).toArray w) (h1 : ∀ x ∈ L, StoIs w x.1 x.2)
    (h : ∀ v w', IsStos w' v (L.map (·.2)) → Below w.heap.size w w' → K (a.put o.dst v) w') : o.wp Tryz.prog a w K Q := by
  obtain ⟨i0, hi, hz0, hz1, hz2⟩ := info_parts infoStoA
  have hlen := stoFlat_length L
  have hs : Src Tryz.prog i0.size 68 (.slice (some ⟨g, 0, none⟩) 4 4) 4 (stoFlat L) w := by
    refine Src.ofSlice w Tryz.underlying68 _ 4 4 _ (by rw [hlen, hL, hz1]) (fun j u hj => ?_) (fun u hu => ?_)
    · rw [Addr.add_lit, Nat.zero_add, hO.c, List.getElem?_toArray]; exact hj
    · unfold stoFlat at hu
      obtain ⟨q, hq, hu⟩ := List.mem_flatMap.1 hu
      exact five_one (h1 q hq) u hu
  have hold : (Builtin.firstCells i0.size 0 (.slice (some ⟨g0, 0, none⟩) 0 0)).run Tryz.prog w.drew = .ok ([] : List Value).toArray w.drew :=
    run_firstCells_some w.drew i0.size 0 _ 0 0 [] (by simp) (fun j u hj => by simp at hj)
  have hr := run_append_grow_src (P := Tryz.prog) w 68 68 o.type 87 i0 _ Tryz.underlying68 hi hz0 (some ⟨g0, 0, none⟩) 0 0 [] hold _ 4 _ hs (by omega) (by omega) (by rw [hz2]; decide)
  unfold Oper.wp execOp
  simp only [ho, resolve, invoke, builtin, Sem.run_bind, Sem.run_pure, Result.andThen_ok, List.map_toArray, List.map_cons, List.map_nil, hx, hy, hr]
  have hcap := grownCap_ge w (0 + 4) 0 87
  refine h _ _ ?_ ?_
  · have := IsStos.rowZ w.drew L (Builtin.zeroCells (Value.agg #[.int .i64 0, .int .u8 0, .slice none 0 0, .slice none 0 0, .string ByteArray.empty, .int .u64 0, .int .u64 0, .int .u32 0, .int .i64 0, .int .i64 0, .bool false, .int .u64 0, .int .u64 0, .int .i64 0, .int .i64 0, .slice none 0 0, .slice none 0 0, .slice none 0 0]).cells (grownCap w (0 + 4) 0 87 - (0 + 4))) (grownCap w (0 + 4) 0 87) (by omega) 87 (fun x hx => (h1 x hx).below (Below.drew (Below.refl _ _)) (Nat.le_refl _))
    rw [hL] at this
    exact this
  · exact (Below.drew (Below.refl _ _)).alloc (Nat.le_refl _) _
theorem wp_build_sto0 {o : Oper} {a : Act} {w : World} {K : Act → World → Prop} {Q : Exit → Act → World → Prop} (ho : o.op = .buildSlice 68 0 #[])
    (h : K (a.put o.dst (.slice (some ⟨w.heap.size, 0, none⟩) 0 0)) (w.alloc (.cells #[] 87))) : o.wp Tryz.prog a w K Q := by
  obtain ⟨i0, hi, hz0, hz1, hz2⟩ := info_parts infoStoA
  have hr : (Instr.buildSlice 68 0 #[]).run Tryz.prog w = .ok (.slice (some ⟨w.heap.size, 0, none⟩) 0 0) (w.alloc (.cells #[] 87)) := by
    simp [Instr.buildSlice, run_underlying Tryz.underlying68, sizeOf, typeInfo, hi, newRow, Instr.fill]
    have he : ∀ f : Nat → Value, Array.map f (Array.range 0) = #[] := fun f => by apply Array.ext <;> simp
    rw [he]
  unfold Oper.wp execOp
  simp only [ho, Sem.run_bind, List.map_toArray, List.map_nil, hr]
  exact h
end Go.Proofs.YtfbgnpfhjbiikaaGreatDoor
