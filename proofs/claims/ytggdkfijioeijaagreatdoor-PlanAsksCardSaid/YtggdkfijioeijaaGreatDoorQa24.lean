/- Law 28: copied: a call with lists of its own. A call that came in, opened. Contract: plan.May, of any call. Contract: plan.Asks of no map, and of a call that may not be. plan.Asks: an ask in which more is said. -/
import Derived.Test.YtggdkfijioeijaaGreatDoorQa14
import Derived.Test.YtggdkfijioeijaaGreatDoorQa18
import Derived.Test.YtggdkfijioeijaaGreatDoorQa19
import Derived.Test.YtggdkfijioeijaaGreatDoorQa22
import Derived.Test.YtggdkfijioeijaaGreatDoorQa23
import Derived.Laws.AppendOwnNone
namespace Go.Proofs.YtggdkfijioeijaaGreatDoor
open Go Go.RowKit
theorem wpList_append_new {P : Program} {w : World} {ops : Array Oper} {rest : List Oper} {o : Oper} {a : Act} {Q : Exit → Act → World → Prop} (hgd : o.guard = none) (s x : Operand) (t : TypeId)
    (ho : o.op = .call { callee := .builtin .append, args := #[s, x], argTypes := #[t, t] })
    (base : Nat) (e : TypeId) (i : TypeInfo) (z : Value) (size bytes : Nat) (ht : P.underlying t = some (.slice e)) (hi : P.info? e = some i) (hz : i.zero = some z)
    (hsize : i.size = size) (hby : i.bytes = bytes) (hzs : z.cells.size = size) (hsz : 0 < size) (hs : a.eval s = .slice none 0 0)
    (ad : Addr) (m c : Nat) (news : List Value) (hx : a.eval x = .slice (some ad) m c) (hl : news.length = m * size) (hnews : ∀ j u, news[j]? = some u → w.cell? (ad.add j) = some u) (h1 : ∀ u ∈ news, u.oneCell' = true)
    (h63 : m ≤ maxLen) (hbytes : m * bytes ≤ 140737488355328) (hbase : base ≤ w.heap.size)
    (h : ∀ a' c' w', w'.ownsRow base e size (.slice a' m c') m news → w.grownBy w' none → wpList P ops Q rest (a.put o.dst (.slice a' m c')) w') :
    wpList P ops Q (o :: rest) a w := by
  refine wpList_plain hgd fun K hK => ?_
  obtain ⟨v', w', hr, h2, h3, _, _⟩ := run_append_own_at (P := P) w base t o.type e i z size bytes ht hi hz hsize hby hzs hsz (.slice none 0 0) 0 [] (World.ownsRow_nil _ _ _ _) ad m c news hl hnews h1 (by rw [Nat.zero_add]; exact h63) (by rw [Nat.zero_add]; exact hbytes) hbase
  rw [Nat.zero_add, List.nil_append] at h2
  obtain ⟨a', c', rfl⟩ : ∃ a' c', v' = .slice a' m c' := by
    rcases h2.2 with ⟨hv, h0⟩ | ⟨g, cap, cur, hv, _⟩
    · exact ⟨none, 0, by rw [hv, h0]⟩
    · exact ⟨_, _, hv⟩
  unfold Oper.wp
  simp [execOp, ho, resolve, invoke, builtin, hs, hx, hr, Result.andThen]
  exact hK _ _ (h a' c' w' h2 h3)
theorem isl_news {α : Type} {k : Nat} {C : α → List Value} {z : α} (hC : ∀ x, (C x).length = k) {w : World} {ad : Addr} {n c : Nat} {l : List α} (h : IsL k C z w (.slice (some ad) n c) l) : ∀ j u, (l.flatMap C)[j]? = some u → w.cell? (ad.add j) = some u := by
  obtain ⟨a', c', he, h⟩ := h
  cases he
  rcases h with rfl | ⟨b, off, hb, _, hc⟩
  · intro j u hu; simp at hu
  · cases hb
    intro j u hu
    have hk : 0 < k := by
      rcases Nat.eq_zero_or_pos k with h0 | h0
      · exfalso
        have : l.flatMap C = [] := by
          rw [List.flatMap_eq_nil_iff]
          intro x _
          exact List.length_eq_zero_iff.1 ((hC x).trans h0)
        rw [this] at hu; simp at hu
      · exact h0
    have hjl : j < l.length * k := by
      have := (List.getElem?_eq_some_iff.1 hu).1
      rwa [flat_length hC] at this
    have hi : j / k < l.length := Nat.div_lt_of_lt_mul (by rw [Nat.mul_comm]; exact hjl)
    have hdm := Nat.div_add_mod j k
    have hm : j % k < k := Nat.mod_lt _ hk
    have hlt : j % k < (C (l.getD (j / k) z)).length := by rw [hC]; exact hm
    have h2 := hc (j / k) hi (j % k) _ (List.getElem?_eq_getElem hlt)
    have h3 := flat_at hC z l (j / k) hi (j % k) _ (List.getElem?_eq_getElem hlt)
    rw [show j / k * k + j % k = j by rw [Nat.mul_comm]; exact hdm] at h3
    rw [h3] at hu
    have e : off + j / k * k + j % k = off + j := by rw [Nat.add_assoc, show j / k * k + j % k = j by rw [Nat.mul_comm]; exact hdm]
    rw [e, hu] at h2
    have e2 : (⟨b, off, none⟩ : Addr).add j = ⟨b, off + j, none⟩ := by
      unfold Addr.add; split
      · rename_i h; subst h; rfl
      · rfl
    rw [e2]; exact h2
def NilOk (v : Value) : Prop := ∀ n c, v = .slice none n c → n = 0 ∧ c = 0
theorem wpList_append_copy {α : Type} {k : Nat} {C : α → List Value} {zz : α} {P : Program} {w : World} {ops : Array Oper} {rest : List Oper} {o : Oper} {a : Act} {Q : Exit → Act → World → Prop} (hgd : o.guard = none) (s x : Operand) (t : TypeId)
    (ho : o.op = .call { callee := .builtin .append, args := #[s, x], argTypes := #[t, t] })
    (base : Nat) (e : TypeId) (i : TypeInfo) (z : Value) (bytes : Nat) (ht : P.underlying t = some (.slice e)) (hi : P.info? e = some i) (hz : i.zero = some z)
    (hsize : i.size = k) (hby : i.bytes = bytes) (hzs : z.cells.size = k) (hsz : 0 < k) (hs : a.eval s = .slice none 0 0)
    (v : Value) (l : List α) (hx : a.eval x = v) (hv : IsL k C zz w v l) (hn : NilOk v) (hC : ∀ x, (C x).length = k) (h1 : ∀ u ∈ l.flatMap C, u.oneCell' = true)
    (h63 : l.length ≤ maxLen) (hbytes : l.length * bytes ≤ 140737488355328) (hbase : base ≤ w.heap.size)
    (h : ∀ a' c' w', w'.ownsRow base e k (.slice a' l.length c') l.length (l.flatMap C) → w.grownBy w' none → wpList P ops Q rest (a.put o.dst (.slice a' l.length c')) w') :
    wpList P ops Q (o :: rest) a w := by
  obtain ⟨ad, cp, rfl⟩ := isl_shape hv
  cases ad with
  | none =>
    obtain ⟨h0, rfl⟩ := hn _ _ rfl
    obtain rfl : l = [] := List.length_eq_zero_iff.1 h0
    exact wpList_append_own_none hgd s x t ho base e i k ht hi (.slice none 0 0) 0 [] hs (World.ownsRow_nil _ _ _ _) hx (h none 0 w (World.ownsRow_nil _ _ _ _) ⟨rfl, rfl, rfl, Nat.le_refl _, fun _ _ _ => rfl⟩)
  | some ad => exact wpList_append_new hgd s x t ho base e i z k bytes ht hi hz hsize hby hzs hsz hs ad l.length cp (l.flatMap C) hx (flat_length hC l) (isl_news hC hv) h1 h63 hbytes hbase h
theorem blk_app {C B e k n : Nat} {wr w1 w8 : World} {cs : Array Value} {T : TypeId} {fz : Nat × Nat} {v : Value} {xs : List Value} {o : Option Nat} (hC : C < B) (hcb : wr.heap[C]? = some (.cells cs T fz)) (hb1 : Below wr.heap.size wr w1) (hB : B ≤ wr.heap.size) (hg : w1.grownBy w8 o) (ho : ∀ j, o = some j → B ≤ j) (hrow : w8.ownsRow B e k v n xs) :
    w8.heap[C]? = some (.cells cs T fz) ∧ ∀ i, ∃ X, w8.setCell ⟨C, i, none⟩ v = X ∧ X.heap[C]? = some (.cells (cs.setIfInBounds i v) T fz) ∧ X.ownsRow B e k v n xs ∧ KX C B wr X := by
  have h1 := (hb1.block C (by omega)).trans hcb
  have h8 := (hg.block C (lt_of_block h1) (fun e => by have := ho C e.symm; omega)).trans h1
  have hk : KX C B wr w8 := (KX.of (hb1.mono hB)).trans (KX.row hg ho (Nat.le_trans hB hb1.size))
  exact ⟨h8, fun i => ⟨_, rfl, setCell_block h8 _, ownsRow_setCell_below hrow (by dsimp only; omega) _, hk.trans (KX.set B w8 ⟨C, i, none⟩ _)⟩⟩
theorem row_kx' {C B e k n : Nat} {W2 W : World} {v : Value} {xs : List Value} (h : W2.ownsRow B e k v n xs) (hk : KX C W2.heap.size W2 W) (hB : C < B) : W.ownsRow B e k v n xs := by
  refine ⟨h.1, ?_⟩
  rcases h.2 with hn | ⟨g, cap, cur, hv, hBg, hg, rest⟩
  · exact Or.inl hn
  · exact Or.inr ⟨g, cap, cur, hv, hBg, (hk.same g (lt_of_block hg) (by omega)).trans hg, rest⟩
def CopG (kind : Nat) (rds : List Rd) (eds : List Ed) (pre : ByteArray) (f t tw : Nat) (w : World) (e : Ending) (w' : World) : Prop :=
  ∃ v1 v2, e = .returned (.agg (callC kind v1 v2 pre f t tw)) ∧ IsRds w' v1 rds ∧ IsEds w' v2 eds ∧ Below w.heap.size w w'

set_option maxRecDepth 100000 in
set_option maxHeartbeats 4000000 in
theorem law28_copied (kind : Nat) (rds : List Rd) (eds : List Ed) (vR vE : Value) (pre : ByteArray) (f t tw : Nat) (w : World) (hR : IsRds w vR rds) (hE : IsEds w vE eds) (hnR : NilOk vR) (hnE : NilOk vE) (hlr : rds.length ≤ 1000) (hle : eds.length ≤ 1000) :
    Calls Tryz.prog 11 #[.agg (callC kind vR vE pre f t tw)] w (CopG kind rds eds pre f t tw w) := by
  obtain ⟨iR, hR0, hR1, hR2, hR3⟩ := info_parts infoRd
  obtain ⟨iE, hE0, hE1, hE2, hE3⟩ := info_parts infoEd
  obtain ⟨aR, cR, rfl⟩ := isl_shape hR
  obtain ⟨aE, cE, rfl⟩ := isl_shape hE
  obtain ⟨nr, hnr⟩ : ∃ nr, rds.length = nr := ⟨_, rfl⟩
  obtain ⟨ne, hne⟩ : ∃ ne, eds.length = ne := ⟨_, rfl⟩
  rw [hnr] at hR hnR hlr ⊢
  rw [hne] at hE hnE hle ⊢
  have HNR := Lib.hid hnr; have HNE := Lib.hid hne; have HR := Lib.hid hR; have HE := Lib.hid hE
  obtain ⟨C, hC⟩ : ∃ C, w.heap.size = C := ⟨_, rfl⟩
  obtain ⟨W0, hW0⟩ : ∃ W0, (w.alloc (.cells (callC kind (.slice aR nr cR) (.slice aE ne cE) pre f t tw) 30)).alloc (.cells #[.int .u8 0, .slice none 0 0, .slice none 0 0, .string ⟨#[]⟩, .int .u64 0, .int .u64 0, .int .u32 0] 30) = W0 := ⟨_, rfl⟩
  have hz0 : W0.heap.size = C + 2 := by rw [← hW0, ← hC]; simp
  have hb0 : Below w.heap.size w W0 := by rw [← hW0]; exact ((Below.refl _ _).alloc (Nat.le_refl _) _).alloc (by simp) _
  have hg0 : W0.heap[C]? = some (.cells (callC kind (.slice aR nr cR) (.slice aE ne cE) pre f t tw) 30 (0, 0)) := by
    rw [← hW0, ← hC]; exact (Below.heap_alloc _ _ _ (by simp)).trans (MapKept.heap_alloc _ _).1
  have hg1 : W0.heap[C + 1]? = some (.cells #[.int .u8 0, .slice none 0 0, .slice none 0 0, .string ⟨#[]⟩, .int .u64 0, .int .u64 0, .int .u32 0] 30 (0, 0)) := by
    rw [← hW0, ← hC]
    have h := (MapKept.heap_alloc (w.alloc (.cells (callC kind (.slice aR nr cR) (.slice aE ne cE) pre f t tw) 30)) (.cells #[.int .u8 0, .slice none 0 0, .slice none 0 0, .string ⟨#[]⟩, .int .u64 0, .int .u64 0, .int .u32 0] 30)).1
    simpa using h
  have x1 : W0.cell? ⟨C, 1, none⟩ = some (.slice aR nr cR) := cell_of hg0 1
  have f1 : W0.frozen? ⟨C, 1, none⟩ = false := frozen_of hg0 1
  have HG0 := Lib.hid hg0; have HG1 := Lib.hid hg1; have HB0 := Lib.hid hb0; have HZ0 := Lib.hid hz0; have HCS := Lib.hid hC
  have hsz0 : C + 2 ≤ W0.heap.size := by omega
  have HR0 := Lib.hid hR0; have HR1 := Lib.hid hR1; have HR2 := Lib.hid hR2; have HR3 := Lib.hid hR3
  have HE0 := Lib.hid hE0; have HE1 := Lib.hid hE1; have HE2 := Lib.hid hE2; have HE3 := Lib.hid hE3
  clear hnr hne hR hE hg0 hg1 hb0 hz0 hR0 hR1 hR2 hR3 hE0 hE1 hE2 hE3
  go_enter Tryz.func11, Tryz.ntmps11
  go_upto_region 1 with fail
  clear hW0 hC
  go_upto_region 2 with (
    at_builtin
    refine wpList_append_copy rfl (.const (.slice none 0 0)) (.tmp 4) 23 rfl (C + 2) 56 iR (.agg #[.string ByteArray.empty, .int .u64 0]) 24 Tryz.underlying23 HR0.out HR1.out HR2.out HR3.out rfl (by decide) rfl (.slice aR nr cR) rds rfl (HR.out.below HB0.out (Nat.le_refl _)) hnR rdC_len (rdC_ones rds) (by rw [HNR.out]; unfold maxLen; omega) (by rw [HNR.out]; omega) hsz0 ?goR
    rw [HNR.out]
    intro a1 c1 w8 hown8 hg8
    obtain ⟨hb8, hset⟩ := blk_app (show C < C + 2 by omega) HG0.out (Below.refl _ _) hsz0 hg8 (fun j hj => by cases hj) hown8
    obtain ⟨X1, hX1, hbX, hrX, hkX⟩ := hset 1
    have x1 := cell_of hb8 1; have f1 := frozen_of hb8 1
    have hbX : X1.heap[C]? = some (.cells (callC kind (.slice a1 nr c1) (.slice aE ne cE) pre f t tw) 30 (0, 0)) := hbX
    have HBX := Lib.hid hbX; have HRX := Lib.hid hrX; have HKX := Lib.hid hkX
    have x2 : X1.cell? ⟨C, 2, none⟩ = some (.slice aE ne cE) := cell_of hbX 2
    clear hown8 hg8 hb8 hset hbX hrX hkX)
  have hsz1 : C + 2 ≤ X1.heap.size := by have := HKX.out.size; omega
  have hb01 : Below C W0 X1 := HKX.out.below (by omega) (Nat.le_refl _)
  have HB1 : Hid (Below w.heap.size w X1) := Lib.hid (HB0.out.trans (by rw [HCS.out]; exact hb01))
  clear hb01
  go_upto_region 3 with (
    at_builtin
    refine wpList_append_copy rfl (.const (.slice none 0 0)) (.tmp 8) 24 rfl X1.heap.size 63 iE (.agg #[.int .u8 0, .string ByteArray.empty, .bool false, .int .u64 0, .int .u64 0, .string ByteArray.empty]) 64 Tryz.underlying24 HE0.out HE1.out HE2.out HE3.out rfl (by decide) rfl (.slice aE ne cE) eds rfl (HE.out.below HB1.out (Nat.le_refl _)) hnE edC_len (edC_ones eds) (by rw [HNE.out]; unfold maxLen; omega) (by rw [HNE.out]; omega) (Nat.le_refl _) ?goE
    rw [HNE.out]
    intro a2 c2 w9 hown9 hg9
    obtain ⟨hb9, hset⟩ := blk_app (show C < X1.heap.size by omega) HBX.out (Below.refl _ _) (Nat.le_refl _) hg9 (fun j hj => by cases hj) hown9
    obtain ⟨X2, hX2, hbX, hrX, hkX⟩ := hset 2
    have y1 := cell_of hb9 2; have g1 := frozen_of hb9 2
    have hbX : X2.heap[C]? = some (.cells (callC kind (.slice a1 nr c1) (.slice a2 ne c2) pre f t tw) 30 (0, 0)) := hbX
    have HBX2 := Lib.hid hbX; have HRX2 := Lib.hid hrX; have HKX2 := Lib.hid hkX
    clear hown9 hg9 hb9 hset hbX hrX hkX)
  have hk2 : X2.heap[C + 1]? = some (.cells #[.int .u8 0, .slice none 0 0, .slice none 0 0, .string ⟨#[]⟩, .int .u64 0, .int .u64 0, .int .u32 0] 30 (0, 0)) := by
    have h1 := (HKX.out.same (C + 1) (by omega) (by omega)).trans HG1.out
    exact (HKX2.out.same (C + 1) (by omega) (by omega)).trans h1
  have HR3' : Hid (X2.ownsRow (C + 2) 56 2 (.slice a1 nr c1) nr (rds.flatMap rdC)) := Lib.hid (row_kx' HRX.out HKX2.out (by omega))
  have hb12 : Below C X1 X2 := HKX2.out.below (by omega) (Nat.le_refl _)
  have HB2 : Hid (Below w.heap.size w X2) := Lib.hid (HB1.out.trans (by rw [HCS.out]; exact hb12))
  have hszX : X1.heap.size ≤ X2.heap.size := HKX2.out.size
  have k0 : X2.cell? ⟨C, 0, none⟩ = some (.int .u8 (kind : Int)) := cell_of HBX2.out 0
  have k1 : X2.cell? ⟨C, 1, none⟩ = some (.slice a1 nr c1) := cell_of HBX2.out 1
  have k2 : X2.cell? ⟨C, 2, none⟩ = some (.slice a2 ne c2) := cell_of HBX2.out 2
  have k3 : X2.cell? ⟨C, 3, none⟩ = some (.string pre) := cell_of HBX2.out 3
  have k4 : X2.cell? ⟨C, 4, none⟩ = some (.int .u64 (f : Int)) := cell_of HBX2.out 4
  have k5 : X2.cell? ⟨C, 5, none⟩ = some (.int .u64 (t : Int)) := cell_of HBX2.out 5
  have k6 : X2.cell? ⟨C, 6, none⟩ = some (.int .u32 (tw : Int)) := cell_of HBX2.out 6
  have z0 := cell_of hk2 0; have z1 := cell_of hk2 1; have z2 := cell_of hk2 2; have z3 := cell_of hk2 3; have z4 := cell_of hk2 4; have z5 := cell_of hk2 5; have z6 := cell_of hk2 6
  have g0 := frozen_of hk2 0; have g1' := frozen_of hk2 1; have g2 := frozen_of hk2 2; have g3 := frozen_of hk2 3; have g4 := frozen_of hk2 4; have g5 := frozen_of hk2 5; have g6 := frozen_of hk2 6
  simp at z0 z1 z2 z3 z4 z5 z6
  clear hb12 hk2
  go_wp2_with fail
  refine bodyPost_ret (v := .agg (callC kind (.slice a1 nr c1) (.slice a2 ne c2) pre f t tw)) ?_ rfl ⟨.slice a1 nr c1, .slice a2 ne c2, rfl, ?_, ?_, ?_⟩
  · simp [results, Tryz.results11, go_sem, z0, z1, z2, z3, z4, z5, z6]
  · refine IsL.own rdC_len (by decide) _ (B := C + 2) (e := 56) ?_
    rw [HNR.out]
    repeat (refine ownsRow_setCell_below ?_ (by dsimp only; omega) _)
    exact HR3'.out
  · refine IsL.own edC_len (by decide) _ (B := X1.heap.size) (e := 63) ?_
    rw [HNE.out]
    repeat (refine ownsRow_setCell_below ?_ (by dsimp only; omega) _)
    exact HRX2.out
  · have hCw := HCS.out
    repeat (refine Below.setCell ?_ (by dsimp only; omega) _)
    exact HB2.out
end Go.Proofs.YtggdkfijioeijaaGreatDoor

namespace Go.Proofs.YtggdkfijioeijaaGreatDoor
open Go Go.ChangeShapes Go.WideShapes Go.ChangeAt Go.RowKit
theorem list6 {α : Type} {l : List α} (h : l.length = 6) : ∃ c0 c1 c2 c3 c4 c5, l = [c0, c1, c2, c3, c4, c5] := by
  match l, h with
  | [c0, c1, c2, c3, c4, c5], _ => exact ⟨c0, c1, c2, c3, c4, c5, rfl⟩
theorem list7 {α : Type} {l : List α} (h : l.length = 7) : ∃ c0 c1 c2 c3 c4 c5 c6, l = [c0, c1, c2, c3, c4, c5, c6] := by
  match l, h with
  | [c0, c1, c2, c3, c4, c5, c6], _ => exact ⟨c0, c1, c2, c3, c4, c5, c6, rfl⟩
theorem cU8 : Tryz.prog.cellsOf 5 = 1 := by kernel_rfl
theorem cBool : Tryz.prog.cellsOf 4 = 1 := by kernel_rfl
theorem cRd : Tryz.prog.cellsOf 56 = 2 := by kernel_rfl
theorem cEd : Tryz.prog.cellsOf 63 = 6 := by kernel_rfl
theorem cCall : Tryz.prog.cellsOf 30 = 7 := by kernel_rfl
theorem cRds : Tryz.prog.cellsOf 23 = 1 := by kernel_rfl
theorem cEds : Tryz.prog.cellsOf 24 = 1 := by kernel_rfl
def rdData {H : Type} (r : Rd) : DataW H := .agg [.lit (.string r.path.data.toList), .lit (.int .u64 (r.n : Int))]
def edData {H : Type} (x : Ed) : DataW H := .agg [.lit (.int .u8 (x.kind : Int)), .lit (.string x.path.data.toList), .lit (.bool x.any), .lit (.int .u64 (x.want : Int)), .lit (.int .u64 (x.n : Int)), .lit (.string x.text.data.toList)]
section
variable {H : Type} {enc : TypeId × Value → H} {w : World} {base : Nat} {sp : Nat → Bool} {held : Bool}
set_option maxRecDepth 100000 in
theorem trod_rd {fuel : Nat} {cs : List Value} {x : DataW H × List MemPlace} (h : DataW.trod enc Tryz.prog w base sp held fuel 56 cs = some x) : ∃ r : Rd, True ∧ cs = rdC r ∧ x = (rdData r, []) := by
  obtain ⟨xs, n, _, rfl, hl, hlen, hf⟩ := DataW.trod_struct Tryz.underlying56 h
  rw [cRd] at hl
  obtain ⟨c0, c1, rfl⟩ := list2 hl
  obtain ⟨y0, y1, rfl⟩ := list2 hlen
  have h0 : DataW.trod enc Tryz.prog w base sp held n 9 [c0] = some y0 := by simpa [cellsStr] using hf 0 _ rfl
  have h1 : DataW.trod enc Tryz.prog w base sp held n 25 [c1] = some y1 := by simpa [cU64] using hf 1 _ rfl
  obtain ⟨s0, e0, rfl, _⟩ := DataW.trod_string Tryz.underlying9 h0
  obtain ⟨a1, e1, rfl, w1⟩ := DataW.trod_int Tryz.underlying25 h1
  obtain ⟨n1, rfl, _⟩ := nat_of (M := 18446744073709551616) (wf_u64 w1)
  refine ⟨⟨s0, n1⟩, trivial, ?_, ?_⟩
  · simp only [List.cons.injEq, and_true] at e0 e1
    rw [e0, e1]; rfl
  · first | rfl | simp [rdData]
set_option maxRecDepth 100000 in
theorem trod_ed {fuel : Nat} {cs : List Value} {x : DataW H × List MemPlace} (h : DataW.trod enc Tryz.prog w base sp held fuel 63 cs = some x) : ∃ r : Ed, r.kind < 256 ∧ cs = edC r ∧ x = (edData r, []) := by
  obtain ⟨xs, n, _, rfl, hl, hlen, hf⟩ := DataW.trod_struct Tryz.underlying63 h
  rw [cEd] at hl
  obtain ⟨c0, c1, c2, c3, c4, c5, rfl⟩ := list6 hl
  obtain ⟨y0, y1, y2, y3, y4, y5, rfl⟩ := list6 hlen
  have h0 : DataW.trod enc Tryz.prog w base sp held n 5 [c0] = some y0 := by simpa [cU8] using hf 0 _ rfl
  have h1 : DataW.trod enc Tryz.prog w base sp held n 9 [c1] = some y1 := by simpa [cellsStr] using hf 1 _ rfl
  have h2 : DataW.trod enc Tryz.prog w base sp held n 4 [c2] = some y2 := by simpa [cBool] using hf 2 _ rfl
  have h3 : DataW.trod enc Tryz.prog w base sp held n 25 [c3] = some y3 := by simpa [cU64] using hf 3 _ rfl
  have h4 : DataW.trod enc Tryz.prog w base sp held n 25 [c4] = some y4 := by simpa [cU64] using hf 4 _ rfl
  have h5 : DataW.trod enc Tryz.prog w base sp held n 9 [c5] = some y5 := by simpa [cellsStr] using hf 5 _ rfl
  obtain ⟨a0, e0, rfl, w0⟩ := DataW.trod_int Tryz.underlying5 h0
  obtain ⟨s1, e1, rfl, _⟩ := DataW.trod_string Tryz.underlying9 h1
  obtain ⟨b2, e2, rfl⟩ := DataW.trod_bool Tryz.underlying4 h2
  obtain ⟨a3, e3, rfl, w3⟩ := DataW.trod_int Tryz.underlying25 h3
  obtain ⟨a4, e4, rfl, w4⟩ := DataW.trod_int Tryz.underlying25 h4
  obtain ⟨s5, e5, rfl, _⟩ := DataW.trod_string Tryz.underlying9 h5
  obtain ⟨n0, rfl, o0⟩ := nat_of (M := 256) (wf_u8 w0)
  obtain ⟨n3, rfl, _⟩ := nat_of (M := 18446744073709551616) (wf_u64 w3)
  obtain ⟨n4, rfl, _⟩ := nat_of (M := 18446744073709551616) (wf_u64 w4)
  refine ⟨⟨n0, s1, b2, n3, n4, s5⟩, o0, ?_, ?_⟩
  · simp only [List.cons.injEq, and_true] at e0 e1 e2 e3 e4 e5
    rw [e0, e1, e2, e3, e4, e5]; rfl
  · first | rfl | simp [edData]
set_option maxRecDepth 100000 in
theorem trod_list {α : Type} {C : α → List Value} {D : α → DataW H} {Q : α → Prop} {k : Nat} {t e : TypeId} (z : α) (ht : Tryz.prog.underlying t = some (.slice e)) (hc : Tryz.prog.cellsOf e = k) (hk : 0 < k) (hC : ∀ x, (C x).length = k)
    (hel : ∀ {fuel : Nat} {cs : List Value} {x : DataW H × List MemPlace}, DataW.trod enc Tryz.prog w base sp held fuel e cs = some x → ∃ a : α, Q a ∧ cs = C a ∧ x = (D a, []))
    {fuel : Nat} {cs : List Value} {x : DataW H × List MemPlace} (h : DataW.trod enc Tryz.prog w base sp held fuel t cs = some x) :
    ∃ (v : Value) (l : List α), cs = [v] ∧ IsL k C z w v l ∧ NilOk v ∧ (∀ a ∈ l, Q a) ∧ (x.1 = .nil ∧ l = [] ∨ ∃ sr, x.1 = .slice (l.map D) sr) := by
  rcases Go.Deep.open_slice ht h with ⟨hcs, hx⟩ | ⟨a, len, cap, m, n, Df, Pl, hcs, _, hl, _, hm, hx, he⟩
  · exact ⟨_, [], hcs, IsL.nil _ _ _ _, (fun n c h => by cases h; exact ⟨rfl, rfl⟩), by simp, Or.inl ⟨by rw [hx], rfl⟩⟩
  · have hlm : len ≤ m := by rw [hm]; split <;> omega
    have hE : ∀ i, ∃ e : α, i < len → Q e ∧ (∀ j, j < k → w.cell? ((a.add (i * k)).add j) = (C e)[j]?) ∧ Df i = D e := by
      intro i
      by_cases hi : i < len
      · obtain ⟨cs', h1, h2⟩ := he i (by omega)
        rw [hc] at h1
        obtain ⟨e, ho, rfl, hd⟩ := hel h2
        simp only [Prod.mk.injEq] at hd
        exact ⟨e, fun _ => ⟨ho, (World.cells?_some h1).2.2, hd.1⟩⟩
      · exact ⟨z, fun h => absurd h hi⟩
    obtain ⟨E, hE⟩ := Classical.axiomOfChoice hE
    refine ⟨_, (List.range len).map E, hcs, ⟨some a, cap, by simp, ?_⟩, (fun n c h => by cases h), fun x hx => ?_, Or.inr ⟨(List.range (m - len)).map fun j => Df (len + j), ?_⟩⟩
    · by_cases h0 : len = 0
      · left; subst h0; rfl
      · right
        have h00 := (hE 0 (by omega)).2.1 0 hk
        have ha0 : (a.add (0 * k)).add 0 = a := by unfold Addr.add; simp
        rw [ha0, List.getElem?_eq_getElem (by rw [hC]; exact hk)] at h00
        have hs := spot_none h00
        refine ⟨a.block, a.off, by rw [← hs], block_lt_of_cell h00, fun i hi j u hu => ?_⟩
        have hi' : i < len := by simpa using hi
        have hg : ((List.range len).map E).getD i z = E i := by simp [List.getD_eq_getElem?_getD, hi']
        rw [hg] at hu
        have hj : j < k := by have := (List.getElem?_eq_some_iff.1 hu).1; rwa [hC] at this
        have hc2 := (hE i hi').2.1 j hj
        rw [addrThree hs] at hc2
        exact hc2.trans hu
    · obtain ⟨i, hi, rfl⟩ := List.mem_map.1 hx
      exact (hE i (List.mem_range.1 hi)).1
    · rw [hx, List.map_map]
      show DataW.slice _ _ = DataW.slice _ _
      congr 1
      refine List.map_congr_left fun i hi => ?_
      exact (hE i (List.mem_range.1 hi)).2.2
set_option maxRecDepth 100000 in
theorem open_call {r : Reach} {b0 : Nat} {v : Value} {d : DataW H} {ps : List MemPlace} (hval : Value.okWide Tryz.prog w r b0 30 v) (hd : DataW.Trod enc Tryz.prog w base sp held 30 v d ps) :
    ∃ (kind : Nat) (vR vE : Value) (rds : List Rd) (eds : List Ed) (pre : ByteArray) (f t tw : Nat) (dR dE : DataW H), v = .agg (callC kind vR vE pre f t tw) ∧ kind < 256 ∧ f < 18446744073709551616 ∧ t < 18446744073709551616 ∧ tw < 4294967296 ∧
      IsRds w vR rds ∧ IsEds w vE eds ∧ NilOk vR ∧ NilOk vE ∧ (∀ x ∈ eds, x.kind < 256) ∧ d = .agg [.lit (.int .u8 (kind : Int)), dR, dE, .lit (.string pre.data.toList), rgData f t, .lit (.int .u32 (tw : Int))] ∧
      (dR = .nil ∧ rds = [] ∨ ∃ sr, dR = .slice (rds.map rdData) sr) ∧ (dE = .nil ∧ eds = [] ∨ ∃ sr, dE = .slice (eds.map edData) sr) := by
  obtain ⟨cs, rfl, hsz⟩ := okWide_struct Tryz.underlying30 hval
  obtain ⟨fuel, hf0⟩ := hd
  obtain ⟨xs, n, _, hx, hl, hlen, hf⟩ := DataW.trod_struct Tryz.underlying30 hf0
  rw [cCall] at hl
  obtain ⟨cl, hcl⟩ : ∃ cl, (Value.agg cs).cells.toList = cl := ⟨_, rfl⟩
  rw [hcl] at hl hf
  obtain ⟨c0, c1, c2, c3, c4, c5, c6, rfl⟩ := list7 hl
  obtain ⟨y0, y1, y2, y3, y4, y5, rfl⟩ := list6 hlen
  have h0 : DataW.trod enc Tryz.prog w base sp held n 5 [c0] = some y0 := by simpa [cU8] using hf 0 _ rfl
  have h1 : DataW.trod enc Tryz.prog w base sp held n 23 [c1] = some y1 := by simpa [cRds] using hf 1 _ rfl
  have h2 : DataW.trod enc Tryz.prog w base sp held n 24 [c2] = some y2 := by simpa [cEds] using hf 2 _ rfl
  have h3 : DataW.trod enc Tryz.prog w base sp held n 9 [c3] = some y3 := by simpa [cellsStr] using hf 3 _ rfl
  have h4 : DataW.trod enc Tryz.prog w base sp held n 27 [c4, c5] = some y4 := by simpa [cRg] using hf 4 _ rfl
  have h5 : DataW.trod enc Tryz.prog w base sp held n 28 [c6] = some y5 := by simpa [cU32] using hf 5 _ rfl
  obtain ⟨a0, e0, rfl, w0⟩ := DataW.trod_int Tryz.underlying5 h0
  obtain ⟨v1, l1, e1, i1, k1, _, q1⟩ := trod_list dRd Tryz.underlying23 cRd (by decide) rdC_len trod_rd h1
  obtain ⟨v2, l2, e2, i2, k2, o2, q2⟩ := trod_list dEd Tryz.underlying24 cEd (by decide) edC_len trod_ed h2
  obtain ⟨s3, e3, rfl, _⟩ := DataW.trod_string Tryz.underlying9 h3
  obtain ⟨f, t, of, ot, e4, rfl⟩ := trod_rg h4
  obtain ⟨a5, e5, rfl, w5⟩ := DataW.trod_int Tryz.underlying28 h5
  obtain ⟨n0, rfl, o0⟩ := nat_of (M := 256) (wf_u8 w0)
  obtain ⟨n5, rfl, o5⟩ := nat_of (M := 4294967296) (wf_u32 w5)
  simp only [List.cons.injEq, and_true] at e0 e1 e2 e3 e4 e5
  simp only [Prod.mk.injEq] at hx
  refine ⟨n0, v1, v2, l1, l2, s3, f, t, n5, y1.1, y2.1, ?_, o0, of, ot, o5, i1, i2, k1, k2, o2, ?_, q1, q2⟩
  · have h : cs.toList = (callC n0 v1 v2 s3 f t n5).toList := by
      have h := hcl
      simp only [Value.cells] at h
      rw [h, e0, e1, e2, e3, e4.1, e4.2, e5]
    rw [Array.toList_inj.1 h]
  · rw [hx.1]; rfl
end
theorem weights_rd {H : Type} (r : Rd) : r.path.size ∈ DataW.weights (H := H) Tryz.prog 56 (rdData r) := by
  unfold rdData
  simp only [DataW.weights, Tryz.underlying56, List.map_cons, List.map_nil, DataW.weightsEach, List.mem_append]
  left; show _ ∈ [r.path.data.toList.length]; simp
theorem weights_ed {H : Type} (e : Ed) : e.path.size ∈ DataW.weights (H := H) Tryz.prog 63 (edData e) ∧ e.text.size ∈ DataW.weights (H := H) Tryz.prog 63 (edData e) := by
  unfold edData
  simp only [DataW.weights, Tryz.underlying63, List.map_cons, List.map_nil, DataW.weightsEach, List.mem_append]
  constructor
  · right; left; show _ ∈ [e.path.data.toList.length]; simp
  · right; right; right; right; right; left; show _ ∈ [e.text.data.toList.length]; simp
theorem weights_all {H α : Type} {D : α → DataW H} {e : TypeId} {l : List α} {x : α} (hx : x ∈ l) {n : Nat} (hn : n ∈ DataW.weights Tryz.prog e (D x)) : n ∈ DataW.weightsAll Tryz.prog e (l.map D) := by
  induction l with
  | nil => simp at hx
  | cons a r ih =>
    rw [List.map_cons, DataW.weightsAll, List.mem_append]
    rcases List.mem_cons.1 hx with rfl | hx
    · exact Or.inl hn
    · exact Or.inr (ih hx)
theorem weights_slice {H α : Type} {D : α → DataW H} {t e : TypeId} (ht : Tryz.prog.underlying t = some (.slice e)) {l : List α} {sr : List (DataW H)} {x : α} (hx : x ∈ l) {n : Nat} (hn : n ∈ DataW.weights Tryz.prog e (D x)) : n ∈ DataW.weights Tryz.prog t (.slice (l.map D) sr) := by
  simp only [DataW.weights, ht, List.mem_cons, List.mem_append]
  exact Or.inr (Or.inl (weights_all hx hn))
theorem sized_call {H : Type} {ts : List TypeId} {ds : List (DataW H)} (h : (DataW.weightsEach Tryz.prog ts ds).all (· ≤ reachBytes) = true) {j kind f t tw : Nat} {pre : ByteArray} {rds : List Rd} {eds : List Ed} {dR dE d : DataW H} (hj : ts[j]? = some 30) (hd : ds[j]? = some d)
    (e : d = .agg [.lit (.int .u8 (kind : Int)), dR, dE, .lit (.string pre.data.toList), rgData f t, .lit (.int .u32 (tw : Int))]) (q1 : dR = .nil ∧ rds = [] ∨ ∃ sr, dR = .slice (rds.map rdData) sr) (q2 : dE = .nil ∧ eds = [] ∨ ∃ sr, dE = .slice (eds.map edData) sr) :
    pre.size ≤ 140737488351232 ∧ (∀ r ∈ rds, r.path.size ≤ 140737488351232) ∧ ∀ x ∈ eds, x.path.size ≤ 140737488351232 ∧ x.text.size ≤ 140737488351232 := by
  subst e
  have hm : ∀ n, n ∈ DataW.weights Tryz.prog 30 (.agg [.lit (.int .u8 (kind : Int)), dR, dE, .lit (.string pre.data.toList), rgData f t, .lit (.int .u32 (tw : Int))]) → n ≤ 140737488351232 := fun n hn => by
    have := List.all_eq_true.1 h _ (DataW.weights_mem_each hj hd _ hn)
    exact of_decide_eq_true this
  have hparts : ∀ n, (n ∈ DataW.weights Tryz.prog 23 dR ∨ n ∈ DataW.weights Tryz.prog 24 dE ∨ n ∈ DataW.weights (H := H) Tryz.prog 9 (.lit (.string pre.data.toList))) → n ∈ DataW.weights Tryz.prog 30 (.agg [.lit (.int .u8 (kind : Int)), dR, dE, .lit (.string pre.data.toList), rgData f t, .lit (.int .u32 (tw : Int))]) := fun n hn => by
    rw [DataW.weights, Tryz.underlying30]
    simp only [List.map_cons, List.map_nil, DataW.weightsEach, List.mem_append]
    rcases hn with hn | hn | hn
    · exact Or.inr (Or.inl hn)
    · exact Or.inr (Or.inr (Or.inl hn))
    · exact Or.inr (Or.inr (Or.inr (Or.inl hn)))
  refine ⟨hm _ (hparts _ (Or.inr (Or.inr (by show _ ∈ [pre.data.toList.length]; simp)))), fun r hr => ?_, fun x hx => ?_⟩
  · rcases q1 with ⟨_, rfl⟩ | ⟨sr, rfl⟩
    · simp at hr
    · exact hm _ (hparts _ (Or.inl (weights_slice Tryz.underlying23 hr (weights_rd r))))
  · rcases q2 with ⟨_, rfl⟩ | ⟨sr, rfl⟩
    · simp at hx
    · exact ⟨hm _ (hparts _ (Or.inr (Or.inl (weights_slice Tryz.underlying24 hx (weights_ed x).1)))), hm _ (hparts _ (Or.inr (Or.inl (weights_slice Tryz.underlying24 hx (weights_ed x).2))))⟩
end Go.Proofs.YtggdkfijioeijaaGreatDoor

namespace Go.Proofs.YtggdkfijioeijaaGreatDoor
open Go Go.RowKit Pth
def mayZ (kind : Nat) (rds : List Rd) (eds : List Ed) (pre : ByteArray) (f t tw : Nat) : Int :=
  if kind = 1 then
    (if (1 ≤ rds.length + eds.length ∧ rds.length + eds.length ≤ 16) ∧ rds.any badR = false ∧ eds.any badE = false then (if eds.any longE = true then 5 else 0) else 2)
  else if kind = 2 then (if prefL pre.data.toList = true then 0 else 2)
  else if kind = 3 then (if f ≤ t ∧ 0 < tw then 0 else 2)
  else 2

set_option maxRecDepth 100000 in
set_option maxHeartbeats 2000000 in
theorem may_one (rds : List Rd) (eds : List Ed) (vR vE : Value) (pre : ByteArray) (f t tw : Nat) (w : World) (hR : IsRds w vR rds) (hE : IsEds w vE eds) (hm : MX w) (hsr : ∀ r ∈ rds, SmallRd r) (hse : ∀ x ∈ eds, SmallEd x) (hlr : rds.length ≤ 1000) (hle : eds.length ≤ 1000) :
    Calls Tryz.prog 13 #[.agg (callC 1 vR vE pre f t tw)] w fun e w' => e = .returned (.int .i64 (mayZ 1 rds eds pre f t tw)) ∧ Below w.heap.size w w' := by
  obtain ⟨aR, cR, rfl⟩ := isl_shape hR
  obtain ⟨aE, cE, rfl⟩ := isl_shape hE
  have K1 := Lib.hid (fun (W : World) (hW : Below w.heap.size w W) => has_r rds _ W (hR.below hW (Nat.le_refl _)) (by omega) hsr (hm.below hW (Nat.le_refl _)))
  have K2 := Lib.hid (fun (W : World) (hW : Below w.heap.size w W) => has_e eds _ W (hE.below hW (Nat.le_refl _)) (by omega) hse (hm.below hW (Nat.le_refl _)))
  have K3 := Lib.hid (fun (W : World) (hW : Below w.heap.size w W) => has_l eds _ W (hE.below hW (Nat.le_refl _)) (by omega) hse (hm.below hW (Nat.le_refl _)))
  have hz : mayZ 1 rds eds pre f t tw = (if (1 ≤ rds.length + eds.length ∧ rds.length + eds.length ≤ 16) ∧ rds.any badR = false ∧ eds.any badE = false then (if eds.any longE = true then 5 else 0) else 2) := if_pos rfl
  obtain ⟨z, hzz⟩ : ∃ z, mayZ 1 rds eds pre f t tw = z := ⟨_, rfl⟩
  rw [hzz] at hz ⊢
  obtain ⟨b1, hb1⟩ : ∃ b, rds.any badR = b := ⟨_, rfl⟩
  obtain ⟨b2, hb2⟩ : ∃ b, eds.any badE = b := ⟨_, rfl⟩
  obtain ⟨b3, hb3⟩ : ∃ b, eds.any longE = b := ⟨_, rfl⟩
  obtain ⟨nr, hnr⟩ : ∃ nr, rds.length = nr := ⟨_, rfl⟩
  obtain ⟨ne, hne⟩ : ∃ ne, eds.length = ne := ⟨_, rfl⟩
  rw [hb1] at K1
  rw [hb2] at K2
  rw [hb3] at K3
  rw [hb1, hb2, hb3, hnr, hne] at hz
  rw [hnr] at K1 hlr ⊢
  rw [hne] at K2 K3 hle ⊢
  have HZ := Lib.hid hz
  clear hR hE hm hsr hse hb1 hb2 hb3 hnr hne hz hzz
  obtain ⟨W0, hW0⟩ : ∃ W0, w.alloc (.cells (callC 1 (.slice aR nr cR) (.slice aE ne cE) pre f t tw) 30) = W0 := ⟨_, rfl⟩
  obtain ⟨hz0, hblk, hB0⟩ := alloc_keep hW0
  have hlt0 : w.heap.size < W0.heap.size := by omega
  have KP := Lib.hid (fun (W : World) (h : Below W0.heap.size W0 W) => show W.cell? ⟨w.heap.size, 0, none⟩ = some (.int .u8 ((1 : Nat) : Int)) ∧ W.cell? ⟨w.heap.size, 1, none⟩ = some (.slice aR nr cR) ∧ W.cell? ⟨w.heap.size, 2, none⟩ = some (.slice aE ne cE) by
    have hb := (h.block _ hlt0).trans hblk
    exact ⟨cell_of hb 0, cell_of hb 1, cell_of hb 2⟩)
  obtain ⟨x0, x1, x2⟩ := KP.out W0 (Below.refl _ _)
  have HB0 := Lib.hid hB0
  clear hB0 hblk hlt0 hz0
  go_enter Tryz.func13, Tryz.ntmps13
  go_upto_region 1 with fail
  clear hW0
  by_cases h1 : 1 ≤ nr + ne
  rotate_left
  · have g1 : ¬ (1 : Int) ≤ (nr : Int) + (ne : Int) := by omega
    have HR : Hid (z = 2) := Lib.hid (HZ.out.trans (if_neg (fun h => h1 h.1.1)))
    go_wp2_with fail
    go_ret
    exact ⟨by rw [HR.out]; rfl, HB0.out⟩
  by_cases h2 : nr + ne ≤ 16
  rotate_left
  · have g1 : (1 : Int) ≤ (nr : Int) + (ne : Int) := by omega
    have g2 : ¬ (nr : Int) + (ne : Int) ≤ 16 := by omega
    have HR : Hid (z = 2) := Lib.hid (HZ.out.trans (if_neg (fun h => h2 h.1.2)))
    go_wp2_with fail
    go_ret
    exact ⟨by rw [HR.out]; rfl, HB0.out⟩
  have g1 : (1 : Int) ≤ (nr : Int) + (ne : Int) := by omega
  have g2 : (nr : Int) + (ne : Int) ≤ 16 := by omega
  have HN := Lib.hid (And.intro h1 h2)
  clear h1 h2
  go_wp2_with fail
  refine (K1.out W0 HB0.out).mono ?_
  rintro e w1 ⟨rfl, hb1⟩
  have HB1 := Lib.hid hb1
  have HB2 := Lib.hid (HB0.out.trans (hb1.mono HB0.out.size))
  obtain ⟨y0, y1, y2⟩ := KP.out w1 hb1
  clear hb1 x0 x1 x2 K1
  cases b1 with
  | true =>
    have HR : Hid (z = 2) := Lib.hid (HZ.out.trans (if_neg (fun h => by cases h.2.1)))
    go_wp2_with fail
    go_ret
    exact ⟨by rw [HR.out]; rfl, HB2.out⟩
  | false =>
    go_wp2_with fail
    refine (K2.out w1 HB2.out).mono ?_
    rintro e w2 ⟨rfl, hb2⟩
    have HB3 := Lib.hid (HB1.out.trans (hb2.mono HB1.out.size))
    have HB4 := Lib.hid (HB0.out.trans (HB3.out.mono HB0.out.size))
    obtain ⟨z0, z1, z2⟩ := KP.out w2 HB3.out
    clear hb2 y0 y1 y2 K2
    cases b2 with
    | true =>
      have HR : Hid (z = 2) := Lib.hid (HZ.out.trans (if_neg (fun h => by cases h.2.2)))
      go_wp2_with fail
      go_ret
      exact ⟨by rw [HR.out]; rfl, HB4.out⟩
    | false =>
      have HR : Hid (z = if b3 = true then 5 else 0) := Lib.hid (HZ.out.trans (if_pos ⟨HN.out, (by first | rfl | trivial), (by first | rfl | trivial)⟩))
      go_wp2_with fail
      refine (K3.out w2 HB4.out).mono ?_
      rintro e w3 ⟨rfl, hb3⟩
      have HB5 := Lib.hid (HB4.out.trans (hb3.mono HB4.out.size))
      clear hb3 z0 z1 z2
      cases b3 with
      | true =>
        go_wp2_with fail
        go_ret
        exact ⟨by rw [HR.out]; rfl, HB5.out⟩
      | false =>
        go_wp2_with fail
        go_ret
        exact ⟨by rw [HR.out]; rfl, HB5.out⟩

set_option maxRecDepth 100000 in
set_option maxHeartbeats 2000000 in
theorem may_rest (kind : Nat) (hk1 : kind ≠ 1) (hk2 : kind ≠ 2) (_hk : kind < 256) (vR vE : Value) (pre : ByteArray) (f t tw : Nat) (z : Int) (hz : z = if kind = 3 ∧ f ≤ t ∧ 0 < tw then 0 else 2) (_hR : vR.oneCell' = true) (_hE : vE.oneCell' = true) (w : World) :
    Calls Tryz.prog 13 #[.agg (callC kind vR vE pre f t tw)] w fun e w' => e = .returned (.int .i64 z) ∧ Below w.heap.size w w' := by
  have HZ := Lib.hid hz
  obtain ⟨W0, hW0⟩ : ∃ W0, w.alloc (.cells (callC kind vR vE pre f t tw) 30) = W0 := ⟨_, rfl⟩
  obtain ⟨hz0, hblk, hB0⟩ := alloc_keep hW0
  have x0 : W0.cell? ⟨w.heap.size, 0, none⟩ = some (.int .u8 (kind : Int)) := cell_of hblk 0
  have x4 : W0.cell? ⟨w.heap.size, 4, none⟩ = some (.int .u64 (f : Int)) := cell_of hblk 4
  have x5 : W0.cell? ⟨w.heap.size, 5, none⟩ = some (.int .u64 (t : Int)) := cell_of hblk 5
  have x6 : W0.cell? ⟨w.heap.size, 6, none⟩ = some (.int .u32 (tw : Int)) := cell_of hblk 6
  have HB0 := Lib.hid hB0
  have n1 : ((kind : Int) == 1) = false := by simp; omega
  have n2 : ((kind : Int) == 2) = false := by simp; omega
  clear hB0 hblk hz0 hz
  go_enter Tryz.func13, Tryz.ntmps13
  go_upto_region 1 with fail
  clear hW0
  by_cases h3 : kind = 3
  · have n3 : ((kind : Int) == 3) = true := by simp; omega
    by_cases hft : f ≤ t
    · have hfi : (f : Int) ≤ (t : Int) := by omega
      by_cases htw : 0 < tw
      · have hti : (0 : Int) < (tw : Int) := by omega
        have HR : Hid (z = 0) := Lib.hid (HZ.out.trans (if_pos ⟨h3, hft, htw⟩))
        clear h3
        go_wp2_with fail
        go_ret
        exact ⟨by rw [HR.out]; rfl, HB0.out⟩
      · have hti : ¬ (0 : Int) < (tw : Int) := by omega
        have HR : Hid (z = 2) := Lib.hid (HZ.out.trans (if_neg (fun h => htw h.2.2)))
        clear h3
        go_wp2_with fail
        go_ret
        exact ⟨by rw [HR.out]; rfl, HB0.out⟩
    · have hfi : ¬ (f : Int) ≤ (t : Int) := by omega
      have HR : Hid (z = 2) := Lib.hid (HZ.out.trans (if_neg (fun h => hft h.2.1)))
      clear h3
      go_wp2_with fail
      go_ret
      exact ⟨by rw [HR.out]; rfl, HB0.out⟩
  · have n3 : ((kind : Int) == 3) = false := by simp; omega
    have HR : Hid (z = 2) := Lib.hid (HZ.out.trans (if_neg (fun h => h3 h.1)))
    clear h3
    go_wp2_with fail
    go_ret
    exact ⟨by rw [HR.out]; rfl, HB0.out⟩

theorem may_any (kind : Nat) (rds : List Rd) (eds : List Ed) (vR vE : Value) (pre : ByteArray) (f t tw : Nat) (w : World) (hk : kind < 256) (hR : IsRds w vR rds) (hE : IsEds w vE eds) (hm : MX w) (hsr : ∀ r ∈ rds, SmallRd r) (hse : ∀ x ∈ eds, SmallEd x) (hlr : rds.length ≤ 1000) (hle : eds.length ≤ 1000) (hp : pre.size ≤ 140737488351232) :
    Calls Tryz.prog 13 #[.agg (callC kind vR vE pre f t tw)] w fun e w' => e = .returned (.int .i64 (mayZ kind rds eds pre f t tw)) ∧ Below w.heap.size w w' := by
  obtain ⟨aR, cR, hvR⟩ := isl_shape hR
  obtain ⟨aE, cE, hvE⟩ := isl_shape hE
  by_cases h1 : kind = 1
  · subst h1; exact may_one rds eds vR vE pre f t tw w hR hE hm hsr hse hlr hle
  · by_cases h2 : kind = 2
    · subst h2
      have := may_list vR vE pre f t tw w hm hp (by rw [hvR]; rfl) (by rw [hvE]; rfl)
      unfold mayZ
      rw [if_neg (by decide), if_pos rfl]
      exact this
    · refine may_rest kind h1 h2 hk vR vE pre f t tw _ ?_ (by rw [hvR]; rfl) (by rw [hvE]; rfl) w
      unfold mayZ
      rw [if_neg h1, if_neg h2]
      by_cases h3 : kind = 3
      · rw [if_pos h3]
        by_cases h4 : f ≤ t ∧ 0 < tw
        · rw [if_pos h4, if_pos ⟨h3, h4⟩]
        · rw [if_neg h4, if_neg (fun h => h4 h.2)]
      · rw [if_neg h3, if_neg (fun h => h3 h.1)]
end Go.Proofs.YtggdkfijioeijaaGreatDoor

namespace Go.Proofs.YtggdkfijioeijaaGreatDoor
open Go Go.RowKit Pth
set_option maxRecDepth 100000 in
set_option maxHeartbeats 2000000 in
theorem asks_nil (kind : Nat) (vR vE : Value) (pre : ByteArray) (f t tw : Nat) (w : World) :
    Calls Tryz.prog 10 #[.pointer none, .agg (callC kind vR vE pre f t tw)] w fun e w' => e = .returned (.tuple #[.slice none 0 0, .int .i64 1]) ∧ Below w.heap.size w w' := by
  obtain ⟨W0, hW0⟩ : ∃ W0, w.alloc (.cells (callC kind vR vE pre f t tw) 30) = W0 := ⟨_, rfl⟩
  obtain ⟨hz0, hblk, hB0⟩ := alloc_keep hW0
  have HB0 := Lib.hid hB0
  clear hz0 hblk hB0
  go_enter Tryz.func10, Tryz.ntmps10
  go_upto_region 1 with fail
  clear hW0
  go_wp2_with fail
  go_ret2
  exact ⟨rfl, HB0.out⟩

set_option maxRecDepth 100000 in
set_option maxHeartbeats 2000000 in
theorem asks_no (m kind : Nat) (rds : List Rd) (eds : List Ed) (vR vE : Value) (pre : ByteArray) (f t tw : Nat) (w : World) (hk : kind < 256) (hR : IsRds w vR rds) (hE : IsEds w vE eds) (hm : MX w) (hsr : ∀ r ∈ rds, SmallRd r) (hse : ∀ x ∈ eds, SmallEd x) (hlr : rds.length ≤ 1000) (hle : eds.length ≤ 1000) (hp : pre.size ≤ 140737488351232)
    (hno : mayZ kind rds eds pre f t tw ≠ 0) :
    Calls Tryz.prog 10 #[.pointer (some ⟨m, 0, none⟩), .agg (callC kind vR vE pre f t tw)] w fun e w' => e = .returned (.tuple #[.slice none 0 0, .int .i64 (mayZ kind rds eds pre f t tw)]) ∧ Below w.heap.size w w' := by
  have HMAY := Lib.hid (fun (W : World) (hW : Below w.heap.size w W) => may_any kind rds eds vR vE pre f t tw W hk (hR.below hW (Nat.le_refl _)) (hE.below hW (Nat.le_refl _)) (hm.below hW (Nat.le_refl _)) hsr hse hlr hle hp)
  obtain ⟨z, hz⟩ : ∃ z, mayZ kind rds eds pre f t tw = z := ⟨_, rfl⟩
  rw [hz] at HMAY hno ⊢
  have hzb : (z != 0) = true := by simpa using hno
  obtain ⟨aR, cR, rfl⟩ := isl_shape hR
  obtain ⟨aE, cE, rfl⟩ := isl_shape hE
  obtain ⟨nr, hnr⟩ : ∃ nr, rds.length = nr := ⟨_, rfl⟩
  obtain ⟨ne, hne⟩ : ∃ ne, eds.length = ne := ⟨_, rfl⟩
  rw [hnr, hne] at HMAY ⊢
  clear hR hE hm hsr hse hlr hle hp hno hz hnr hne
  obtain ⟨W0, hW0⟩ : ∃ W0, w.alloc (.cells (callC kind (.slice aR nr cR) (.slice aE ne cE) pre f t tw) 30) = W0 := ⟨_, rfl⟩
  obtain ⟨hz0, hblk, hB0⟩ := alloc_keep hW0
  have c0 : W0.cell? ⟨w.heap.size, 0, none⟩ = some (.int .u8 (kind : Int)) := cell_of hblk 0
  have c1 : W0.cell? ⟨w.heap.size, 1, none⟩ = some (.slice aR nr cR) := cell_of hblk 1
  have c2 : W0.cell? ⟨w.heap.size, 2, none⟩ = some (.slice aE ne cE) := cell_of hblk 2
  have c3 : W0.cell? ⟨w.heap.size, 3, none⟩ = some (.string pre) := cell_of hblk 3
  have c4 : W0.cell? ⟨w.heap.size, 4, none⟩ = some (.int .u64 (f : Int)) := cell_of hblk 4
  have c5 : W0.cell? ⟨w.heap.size, 5, none⟩ = some (.int .u64 (t : Int)) := cell_of hblk 5
  have c6 : W0.cell? ⟨w.heap.size, 6, none⟩ = some (.int .u32 (tw : Int)) := cell_of hblk 6
  have HB0 := Lib.hid hB0
  clear hz0 hblk hB0
  go_enter Tryz.func10, Tryz.ntmps10
  go_upto_region 3 with fail
  clear hW0
  go_wp2_with fail
  refine (HMAY.out W0 HB0.out).mono ?_
  rintro en w1 ⟨rfl, hb1⟩
  have HB1 := Lib.hid (HB0.out.trans (hb1.mono HB0.out.size))
  clear hb1 c0 c1 c2 c3 c4 c5 c6 HMAY
  go_wp2_with fail
  go_ret2
  exact ⟨rfl, HB1.out⟩
end Go.Proofs.YtggdkfijioeijaaGreatDoor

namespace Go.Proofs.YtggdkfijioeijaaGreatDoor
open Go Go.RowKit
theorem AsksAt.turn {N B bm : Nat} {W W' : World} {S : Nat → Prop} {P : Nat → Nat} {V : Nat → Nat → Value} {A : Nat → Ask} (h : AsksAt N B bm W S P V A) {s : Nat} (hs : S s) (A1 : Ask) (e1 : A1.reads = (A s).reads) (e2 : A1.readAt = (A s).readAt) (e3 : A1.edits = (A s).edits) (e4 : A1.editAt = (A s).editAt)
    (hb : ButS (fun j => j = P s) W W') (hblk : W'.heap[P s]? = some (.cells (askV A1 (V s 0) (V s 1) (V s 2) (V s 3)) 47 (0, 0))) :
    AsksAt N B bm W' S P V (fun x => if x = s then A1 else A x) := by
  have hV : (fun x => if x = s then Vn (V s) 0 1 (V s 0) (V s 1) else V x) = V := by
    funext x i
    by_cases e : x = s
    · subst e; simp only [if_pos]; unfold Vn
      by_cases i0 : i = 0
      · subst i0; simp
      · by_cases i1 : i = 1
        · subst i1; simp
        · simp [i0, i1]
    · simp only [if_neg e]
  have hbut : ButS (fun j => j = P s ∨ (V s 0).ownBlock = some j ∨ (V s 1).ownBlock = some j) W W' := hb.mono (fun k hk => Or.inl hk)
  have hrs := h.rows s hs
  have hX : ∀ i, i < 4 → ∀ g, (V s i).ownBlock = some g → ¬ (fun j => j = P s) g := fun i hi g hg => (h.own_ne hs hi hg).2 s hs
  have := h.more hs (i1 := 0) (i2 := 1) (by decide) (by decide) (u1 := V s 0) (u2 := V s 1) (A1 := A1) hbut hblk
    ⟨by show W'.ownsRow B 56 2 (V s 0) A1.reads.length (A1.reads.flatMap rdC); rw [e1]; exact row_but hrs.r0 hb (hX 0 (by decide)),
     by show W'.ownsRow B 3 1 (V s 1) A1.readAt.length (A1.readAt.flatMap ixC); rw [e2]; exact row_but hrs.r1 hb (hX 1 (by decide)),
     by show W'.ownsRow B 63 6 (V s 2) A1.edits.length (A1.edits.flatMap edC); rw [e3]; exact row_but hrs.r2 hb (hX 2 (by decide)),
     by show W'.ownsRow B 3 1 (V s 3) A1.editAt.length (A1.editAt.flatMap ixC); rw [e4]; exact row_but hrs.r3 hb (hX 3 (by decide))⟩
    (fun g hg => Or.inl hg) (fun g hg => Or.inl hg) (fun g hg hg2 => h.off s s hs hs 0 1 (by decide) (by decide) (Or.inr (by decide)) g hg hg2)
  rw [hV] at this
  exact this
end Go.Proofs.YtggdkfijioeijaaGreatDoor
