/- Law 28: heavy: what it lets through is small. Law 28: works: the document's example. Contracts: scriniumref28: places, SameAsk, where both are one. Law 28: PlanAsks' walk. Law 28: what the asks of a call are, plainly: each read and each edit in just one of them, its owner's; what is told of them, all together. Law 28: what is told, built one behind the other: the row of it, and the box of the one under way. Quiet regions over a frame of which n slots alone turn: one step for each operation, whatever the frame's size. -/
import Derived.Test.YtggdkfijioeijaaGreatDoorQb04
import Derived.Test.YtggdkfijioeijaaGreatDoorQb13
import Derived.Test.YtggdkfijioeijaaGreatDoorQb14
import Derived.Test.YtggdkfijioeijaaGreatDoorQb15
import Derived.Test.YtggdkfijioeijaaGreatDoorQb16
import Derived.Test.YtggdkfijioeijaaGreatDoorQb20
import Derived.Deep.RegionHeld3
import Derived.Deep.CutBlock
namespace Go.Proofs.YtggdkfijioeijaaGreatDoor
open Go Go.RowKit Pth
theorem isl_at2 {α : Type} {k : Nat} {C : α → List Value} {z : α} {w : World} {a : Option Addr} {n c j : Nat} {l : List α} (h : IsL k C z w (.slice a n c) l) (hj : j < l.length) : ∃ b off, a = some ⟨b, off, none⟩ ∧ ∀ q u, (C (l.getD j z))[q]? = some u → w.cell? ⟨b, off + j * k + q, none⟩ = some u := by
 obtain ⟨a', c', he, h⟩ := h
 cases he
 obtain ⟨b, off, rfl, _, hc⟩ := h.resolve_left (fun h => by rw [h] at hj; simp at hj)
 exact ⟨b, off, rfl, hc j hj⟩
def HvyG (rds : List Rd) (eds : List Ed) (pre : ByteArray) (LN : Nat) (w : World) (e : Ending) (w' : World) : Prop :=
 ∃ b, e = .returned (.bool b) ∧ (b = false → rds.length ≤ 30 ∧ eds.length ≤ 30 ∧ LN ≤ 10 ∧ pre.size ≤ 2000 ∧ (∀ i, i < rds.length → (rds.getD i dRd).path.size ≤ 2000) ∧ ∀ i, i < eds.length → (eds.getD i dEd).path.size ≤ 2000 ∧ (eds.getD i dEd).text.size ≤ 16007) ∧ Below w.heap.size w w'
set_option maxRecDepth 100000 in
set_option maxHeartbeats 4000000 in
theorem law28_heavy (kind : Nat) (rds : List Rd) (eds : List Ed) (vR vE : Value) (pre : ByteArray) (f t tw : Nat) (aL : Option Addr) (LN cL : Nat) (w : World) (hR : IsRds w vR rds) (hE : IsEds w vE eds) (hp : pre.size ≤ 140737488351232)
  (hsr : ∀ i, i < rds.length → (rds.getD i dRd).path.size ≤ 140737488351232) (hse : ∀ i, i < eds.length → (eds.getD i dEd).path.size ≤ 140737488351232 ∧ (eds.getD i dEd).text.size ≤ 140737488351232) :
  Calls Tryz.prog 7 #[.agg (callC kind vR vE pre f t tw), .slice aL LN cL] w (HvyG rds eds pre LN w) := by
 obtain ⟨aR, cR, rfl⟩ := isl_shape hR
 obtain ⟨aE, cE, rfl⟩ := isl_shape hE
 obtain ⟨nr, hnr⟩ : ∃ nr, rds.length = nr := ⟨_, rfl⟩
 obtain ⟨ne, hne⟩ : ∃ ne, eds.length = ne := ⟨_, rfl⟩
 rw [hnr] at hR hsr ⊢
 rw [hne] at hE hse ⊢
 have HR := Lib.hid hR; have HE := Lib.hid hE; have HSR := Lib.hid hsr; have HSE := Lib.hid hse; have HNR := Lib.hid hnr; have HNE := Lib.hid hne
 obtain ⟨W0, hW0⟩ : ∃ W0, w.alloc (.cells (callC kind (.slice aR nr cR) (.slice aE ne cE) pre f t tw) 30) = W0 := ⟨_, rfl⟩
 obtain ⟨hz0, hblk, hB0⟩ := alloc_keep hW0
 have hlt0 : w.heap.size < W0.heap.size := by omega
 have KP := Lib.hid (fun (W : World) (h : Below W0.heap.size W0 W) => show W.cell? ⟨w.heap.size, 1, none⟩ = some (.slice aR nr cR) ∧ W.cell? ⟨w.heap.size, 2, none⟩ = some (.slice aE ne cE) ∧ W.cell? ⟨w.heap.size, 3, none⟩ = some (.string pre) by
  have hb := (h.block _ hlt0).trans hblk
  exact ⟨cell_of hb 1, cell_of hb 2, cell_of hb 3⟩)
 obtain ⟨x1, x2, x3⟩ := KP.out W0 (Below.refl _ _)
 have HB0 := Lib.hid hB0
 clear hB0 hblk hlt0 hz0 hR hE hsr hse hnr hne
 go_enter Tryz.func7, Tryz.ntmps7
 go_upto_region 1 with fail
 clear hW0
 go_wp2_with fail
 clear x3
 go_loopw [5, 6] (fun vn vi wr => ∃ i S1 : Nat, i ≤ nr ∧ i ≤ 40 ∧ vi = .int .i64 i ∧ vn = .int .i64 S1 ∧ Hid (pre.size ≤ S1 ∧ (∀ q, q < i → (rds.getD q dRd).path.size ≤ S1) ∧ S1 ≤ (1 + i) * 140737488351232) ∧ Hid (Below W0.heap.size W0 wr)) (fun _ vi _ => nr - (intOf vi).toNat)
 case atStart => exact ⟨0, pre.size, Nat.zero_le _, by omega, rfl, rfl, Lib.hid ⟨Nat.le_refl _, fun q hq => by omega, by omega⟩, Lib.hid (Below.refl _ _)⟩
 case round =>
  clear x1 x2
  obtain ⟨i, S1, hi, hi40, rfl, rfl, HP1, HBr⟩ := hrel
  obtain ⟨x1, x2, _⟩ := KP.out wr HBr.out
  have HBE := Lib.hid (HB0.out.trans (HBr.out.mono HB0.out.size))
  have hs1 : S1 ≤ 5770237022400512 := by have := HP1.out.2.2; omega
  by_cases hlt : i < nr
  ·have hii : (i : Int) < (nr : Int) := by omega
   by_cases h40 : i < 40
   ·have h4i : (i : Int) < 40 := by omega
    obtain ⟨bR, oR, rfl, hc⟩ := isl_at2 (HR.out.below HBE.out (Nat.le_refl _)) (j := i) (by rw [HNR.out]; exact hlt)
    have q1 := HSR.out i hlt
    obtain ⟨x, hx⟩ : ∃ x, rds.getD i dRd = x := ⟨_, rfl⟩
    rw [hx] at hc q1
    have y0 : wr.cell? ⟨bR, oR + i * 2, none⟩ = some (.string x.path) := hc 0 _ rfl
    have hq1 : S1 + x.path.size ≤ 9223372036854775807 := by omega
    have HX : Hid (pre.size ≤ S1 + x.path.size ∧ (∀ q, q < i + 1 → (rds.getD q dRd).path.size ≤ S1 + x.path.size) ∧ S1 + x.path.size ≤ (1 + (i + 1)) * 140737488351232) := Lib.hid (by
     obtain ⟨h1, h2, h3⟩ := HP1.out
     refine ⟨by omega, fun q hq => ?_, by omega⟩
     by_cases e : q = i
     ·subst e; rw [hx]; omega
     ·have := h2 q (by omega); omega)
    clear hc hx q1
    go_wp2_with fail
    go_roundw
    case rel => exact ⟨i + 1, S1 + x.path.size, by omega, by omega, by go_num, by go_num, HX, HBr⟩
    case measure => simp [intOf]; omega
   have h4i : ¬ (i : Int) < 40 := by omega
   go_wp2_with fail
   go_loopw [5, 7] (fun vn vi wr => ∃ j S2 : Nat, j ≤ ne ∧ j ≤ 40 ∧ vi = .int .i64 j ∧ vn = .int .i64 S2 ∧ Hid (S1 ≤ S2 ∧ (∀ q, q < j → (eds.getD q dEd).path.size ≤ S2 ∧ (eds.getD q dEd).text.size ≤ 8 * S2 + 7) ∧ S2 ≤ S1 + j * 281474976710656) ∧ Hid (Below W0.heap.size W0 wr)) (fun _ vi _ => ne - (intOf vi).toNat)
   case atStart => exact ⟨0, S1, Nat.zero_le _, by omega, rfl, rfl, Lib.hid ⟨Nat.le_refl _, fun q hq => by omega, by omega⟩, HBr⟩
   case round =>
    clear x1 x2 HBr
    obtain ⟨j, S2, hj, hj40, rfl, rfl, HP2, HBr⟩ := hrel
    obtain ⟨x1, x2, _⟩ := KP.out wr HBr.out
    have HBE := Lib.hid (HB0.out.trans (HBr.out.mono HB0.out.size))
    have hs1 : S1 ≤ 5770237022400512 := by have := HP1.out.2.2; omega
    have hs2 : S2 ≤ S1 + 11258999068426240 := by have := HP2.out.2.2; omega
    by_cases hlt : j < ne
    ·have hji : (j : Int) < (ne : Int) := by omega
     by_cases h40 : j < 40
     ·have h4i : (j : Int) < 40 := by omega
      obtain ⟨bE, oE, rfl, hc⟩ := isl_at2 (HE.out.below HBE.out (Nat.le_refl _)) (j := j) (by rw [HNE.out]; exact hlt)
      obtain ⟨q1, q2⟩ := HSE.out j hlt
      obtain ⟨x, hx⟩ : ∃ x, eds.getD j dEd = x := ⟨_, rfl⟩
      rw [hx] at hc q1 q2
      have y1 : wr.cell? ⟨bE, oE + j * 6 + 1, none⟩ = some (.string x.path) := hc 1 _ rfl
      have y5 : wr.cell? ⟨bE, oE + j * 6 + 5, none⟩ = some (.string x.text) := hc 5 _ rfl
      obtain ⟨tq, htq⟩ : ∃ tq, x.text.size / 8 = tq := ⟨_, rfl⟩
      have ht8 : (x.text.size : Int) / 8 = (tq : Int) := by omega
      have ht9 : (x.text.size : Int).tdiv 8 = (tq : Int) := by rw [Int.tdiv_eq_ediv_of_nonneg (by omega)]; exact ht8
      have hq1 : S2 + x.path.size ≤ 9223372036854775807 := by omega
      have hq2 : S2 + x.path.size + tq ≤ 9223372036854775807 := by omega
      have HX : Hid (S1 ≤ S2 + x.path.size + tq ∧ (∀ q, q < j + 1 → (eds.getD q dEd).path.size ≤ S2 + x.path.size + tq ∧ (eds.getD q dEd).text.size ≤ 8 * (S2 + x.path.size + tq) + 7) ∧ S2 + x.path.size + tq ≤ S1 + (j + 1) * 281474976710656) := Lib.hid (by
       obtain ⟨h1, h2, h3⟩ := HP2.out
       refine ⟨by omega, fun q hq => ?_, by omega⟩
       by_cases e : q = j
       ·subst e; rw [hx]; constructor <;> omega
       ·have := h2 q (by omega); constructor <;> omega)
      clear hc hx q1 q2 htq
      go_wp2_with fail
      go_quiet (fail)
      go_wp2_with fail
      go_roundw
      case rel => exact ⟨j + 1, S2 + x.path.size + tq, by omega, by omega, by go_num, by push_cast; rfl, HX, Lib.hid (below_dr HBr.out _)⟩
      case measure => simp [intOf]; omega
     have h4i : ¬ (j : Int) < 40 := by omega
     have HS1 := Lib.hid hs1
     clear hs1 hs2
     by_cases c1 : 30 < nr
     ·have c1i : (30 : Int) < (nr : Int) := by omega
      clear c1
      go_wp2_with fail
      go_ret
      exact ⟨true, rfl, (fun h => by cases h), HBE.out⟩
     exact (by omega : False).elim
    have hji : ¬ (j : Int) < (ne : Int) := by omega
    have HS1 := Lib.hid hs1
    clear hs1 hs2
    by_cases c1 : 30 < nr
    ·have c1i : (30 : Int) < (nr : Int) := by omega
     clear c1
     go_wp2_with fail
     go_ret
     exact ⟨true, rfl, (fun h => by cases h), HBE.out⟩
    exact (by omega : False).elim
  have hii : ¬ (i : Int) < (nr : Int) := by omega
  go_wp2_with fail
  go_loopw [5, 7] (fun vn vi wr => ∃ j S2 : Nat, j ≤ ne ∧ j ≤ 40 ∧ vi = .int .i64 j ∧ vn = .int .i64 S2 ∧ Hid (S1 ≤ S2 ∧ (∀ q, q < j → (eds.getD q dEd).path.size ≤ S2 ∧ (eds.getD q dEd).text.size ≤ 8 * S2 + 7) ∧ S2 ≤ S1 + j * 281474976710656) ∧ Hid (Below W0.heap.size W0 wr)) (fun _ vi _ => ne - (intOf vi).toNat)
  case atStart => exact ⟨0, S1, Nat.zero_le _, by omega, rfl, rfl, Lib.hid ⟨Nat.le_refl _, fun q hq => by omega, by omega⟩, HBr⟩
  case round =>
   clear x1 x2 HBr
   obtain ⟨j, S2, hj, hj40, rfl, rfl, HP2, HBr⟩ := hrel
   obtain ⟨x1, x2, _⟩ := KP.out wr HBr.out
   have HBE := Lib.hid (HB0.out.trans (HBr.out.mono HB0.out.size))
   have hs1 : S1 ≤ 5770237022400512 := by have := HP1.out.2.2; omega
   have hs2 : S2 ≤ S1 + 11258999068426240 := by have := HP2.out.2.2; omega
   by_cases hlt : j < ne
   ·have hji : (j : Int) < (ne : Int) := by omega
    by_cases h40 : j < 40
    ·have h4i : (j : Int) < 40 := by omega
     obtain ⟨bE, oE, rfl, hc⟩ := isl_at2 (HE.out.below HBE.out (Nat.le_refl _)) (j := j) (by rw [HNE.out]; exact hlt)
     obtain ⟨q1, q2⟩ := HSE.out j hlt
     obtain ⟨x, hx⟩ : ∃ x, eds.getD j dEd = x := ⟨_, rfl⟩
     rw [hx] at hc q1 q2
     have y1 : wr.cell? ⟨bE, oE + j * 6 + 1, none⟩ = some (.string x.path) := hc 1 _ rfl
     have y5 : wr.cell? ⟨bE, oE + j * 6 + 5, none⟩ = some (.string x.text) := hc 5 _ rfl
     obtain ⟨tq, htq⟩ : ∃ tq, x.text.size / 8 = tq := ⟨_, rfl⟩
     have ht8 : (x.text.size : Int) / 8 = (tq : Int) := by omega
     have ht9 : (x.text.size : Int).tdiv 8 = (tq : Int) := by rw [Int.tdiv_eq_ediv_of_nonneg (by omega)]; exact ht8
     have hq1 : S2 + x.path.size ≤ 9223372036854775807 := by omega
     have hq2 : S2 + x.path.size + tq ≤ 9223372036854775807 := by omega
     have HX : Hid (S1 ≤ S2 + x.path.size + tq ∧ (∀ q, q < j + 1 → (eds.getD q dEd).path.size ≤ S2 + x.path.size + tq ∧ (eds.getD q dEd).text.size ≤ 8 * (S2 + x.path.size + tq) + 7) ∧ S2 + x.path.size + tq ≤ S1 + (j + 1) * 281474976710656) := Lib.hid (by
      obtain ⟨h1, h2, h3⟩ := HP2.out
      refine ⟨by omega, fun q hq => ?_, by omega⟩
      by_cases e : q = j
      ·subst e; rw [hx]; constructor <;> omega
      ·have := h2 q (by omega); constructor <;> omega)
     clear hc hx q1 q2 htq
     go_wp2_with fail
     go_quiet (fail)
     go_wp2_with fail
     go_roundw
     case rel => exact ⟨j + 1, S2 + x.path.size + tq, by omega, by omega, by go_num, by push_cast; rfl, HX, Lib.hid (below_dr HBr.out _)⟩
     case measure => simp [intOf]; omega
    have h4i : ¬ (j : Int) < 40 := by omega
    have HS1 := Lib.hid hs1
    clear hs1 hs2
    by_cases c1 : 30 < nr
    ·have c1i : (30 : Int) < (nr : Int) := by omega
     clear c1
     go_wp2_with fail
     go_ret
     exact ⟨true, rfl, (fun h => by cases h), HBE.out⟩
    have c1i : ¬ (30 : Int) < (nr : Int) := by omega
    have C1 := Lib.hid c1
    clear c1
    by_cases c2 : 30 < ne
    ·have c2i : (30 : Int) < (ne : Int) := by omega
     clear c2
     go_wp2_with fail
     go_ret
     exact ⟨true, rfl, (fun h => by cases h), HBE.out⟩
    exact (by omega : False).elim
   have hji : ¬ (j : Int) < (ne : Int) := by omega
   have HS1 := Lib.hid hs1
   clear hs1 hs2
   by_cases c1 : 30 < nr
   ·have c1i : (30 : Int) < (nr : Int) := by omega
    clear c1
    go_wp2_with fail
    go_ret
    exact ⟨true, rfl, (fun h => by cases h), HBE.out⟩
   have c1i : ¬ (30 : Int) < (nr : Int) := by omega
   have C1 := Lib.hid c1
   clear c1
   by_cases c2 : 30 < ne
   ·have c2i : (30 : Int) < (ne : Int) := by omega
    clear c2
    go_wp2_with fail
    go_ret
    exact ⟨true, rfl, (fun h => by cases h), HBE.out⟩
   have c2i : ¬ (30 : Int) < (ne : Int) := by omega
   have C2 := Lib.hid c2
   clear c2
   by_cases c3 : 10 < LN
   ·have c3i : (10 : Int) < (LN : Int) := by omega
    clear c3
    go_wp2_with fail
    go_ret
    exact ⟨true, rfl, (fun h => by cases h), HBE.out⟩
   have c3i : ¬ (10 : Int) < (LN : Int) := by omega
   have C3 := Lib.hid c3
   clear c3
   by_cases c4 : 2000 < S2
   ·have c4i : (2000 : Int) < (S2 : Int) := by omega
    clear c4
    go_wp2_with fail
    go_ret
    exact ⟨true, rfl, (fun h => by cases h), HBE.out⟩
   have c4i : ¬ (2000 : Int) < (S2 : Int) := by omega
   have C4 := Lib.hid c4
   clear c4
   go_wp2_with fail
   go_ret
   refine ⟨false, rfl, fun _ => ⟨by rw [HNR.out]; have := C1.out; omega, by rw [HNE.out]; have := C2.out; omega, by have := C3.out; omega, ?_, fun i hi => ?_, fun j hj => ?_⟩, HBE.out⟩
   ·have h1 := HP2.out; have h2 := HP1.out; have := C4.out; omega
   ·rw [HNR.out] at hi; have h1 := HP2.out.1; have h2 := HP1.out.2.1 i (by omega); have := C4.out; omega
   ·rw [HNE.out] at hj; have h2 := HP2.out.2.1 j (by omega); have := C4.out; omega
end Go.Proofs.YtggdkfijioeijaaGreatDoor
namespace Go.Proofs.YtggdkfijioeijaaGreatDoor
open Go Go.RowKit Go.Maps Pth
theorem one_owner (u : Nat) : ownS (fewS 1) 1 u = 1 := by
 have h := fewS_mem (ownS_mem (S := fewS 1) (k := 1) (h := u) (by rw [fewS_length]; exact Nat.le_refl _) (Nat.le_refl _))
 omega
def exR : List Rd := [⟨⟨#[98]⟩, 0⟩, ⟨⟨#[97]⟩, 0⟩]
theorem exR_ask (O : Nat → Nat) (hO : ∀ u, O u = 1) : askTo O exR [] 2 0 1 = { Ask.new 1 with reads := exR, readAt := [0, 1] } := by
 have h : ∀ p, (ownP O p == 1) = true := fun p => by unfold ownP; rw [hO]; rfl
 unfold askTo rdsTo rAtTo edsTo eAtTo
 have e1 : (exR.take 2).filter (fun r => ownP O r.path == 1) = exR := List.filter_eq_self.2 (fun r _ => h _)
 have e2 : (List.range 2).filter (fun i => ownP O (exR.getD i dRd).path == 1) = [0, 1] := List.filter_eq_self.2 (fun r _ => h _)
 rw [e1, e2]; rfl
theorem ss_one {ss : List Nat} (h1 : ss.Pairwise (· < ·)) (h2 : ∀ s, s ∈ ss ↔ s = 1) : ss = [1] := by
 match ss, h1, h2 with
 | [], _, h2 => have := (h2 1).2 rfl; cases this
 | [a], _, h2 => have := (h2 a).1 (List.mem_singleton.2 rfl); rw [this]
 | a :: b :: l, h1, h2 =>
  have e1 := (h2 a).1 (by simp); have e2 := (h2 b).1 (by simp)
  have := List.rel_of_pairwise_cons h1 (List.mem_cons_self (a := b) (l := l))
  omega
theorem exR_bad : exR.any badR = false := by decide
def exA : Ask := { Ask.new 1 with reads := exR, readAt := [0, 1] }
def exG0 : Gt := ⟨0, 0, ⟨#[]⟩, 3⟩
def exG1 : Gt := ⟨4, 0, ⟨#[]⟩, 0⟩
def exT : Tl := ⟨1, [exG0, exG1], [], []⟩
theorem ex_at (i : Nat) : ([exA] : List Ask).getD i dAsk = exA ∨ ([exA] : List Ask).getD i dAsk = dAsk := by
 rcases i with _ | i
 ·exact Or.inl rfl
 ·exact Or.inr rfl
theorem exT_at (i : Nat) : ([exT] : List Tl).getD i dTl = exT ∨ ([exT] : List Tl).getD i dTl = dTl := by
 rcases i with _ | i
 ·exact Or.inl rfl
 ·exact Or.inr rfl
theorem ex_merge (gR c3 bL oL q : Nat) (W : World) (hA : IsAsks W (.slice (some ⟨bL, oL, none⟩) 1 c3) [exA]) (hT : IsTold W (.slice (some ⟨q, 0, none⟩) 1 1) [exT]) :
  Calls Tryz.prog 18 #[.agg (callC 1 (.slice (some ⟨gR, 0, none⟩) 2 2) (.slice none 0 0) ⟨#[]⟩ 0 0 0), .slice (some ⟨bL, oL, none⟩) 1 c3, .slice (some ⟨q, 0, none⟩) 1 1] W (MergeG 2 0 (fun i => if i = 0 then exG0 else exG1) (fun _ => 0) W) := by
 refine merge_ok 1 0 0 0 2 0 2 0 1 c3 1 _ none _ _ ⟨#[]⟩ [exA] [exT] (fun i => if i = 0 then exG0 else exG1) (fun _ => 0) W hA hT rfl rfl (by decide) (fun i hi => ?_) (fun i => ?_) (fun i => ?_) (fun i => ?_) (fun i x hx => ?_) (fun i x hx => ?_) (fun i x hx => ?_) rfl rfl (fun i hi => ?_) (fun i hi => by omega)
 ·obtain rfl : i = 0 := by omega
  exact ⟨rfl, rfl, rfl, rfl, rfl, Or.inr rfl⟩
 ·rcases ex_at i with h | h <;> rw [h] <;> decide
 ·rcases ex_at i with h | h <;> rw [h] <;> decide
 ·rcases exT_at i with h | h <;> rw [h] <;> decide
 ·rcases ex_at i with h | h
  ·rw [h] at hx
   have : x ∈ [0, 1] := hx
   simp only [List.mem_cons, List.mem_nil_iff, or_false] at this
   omega
  ·rw [h] at hx; cases hx
 ·rcases ex_at i with h | h <;> (rw [h] at hx; cases hx)
 ·rcases exT_at i with h | h <;> (rw [h] at hx; cases hx)
 ·rcases i with _ | _ | i
  ·rfl
  ·rfl
  ·omega
set_option maxRecDepth 100000 in
set_option maxHeartbeats 8000000 in
theorem law28_works (w : World) (hm : MX w) : Calls Tryz.prog 8 #[] w fun e w' => e = .returned (.bool true) ∧ Below w.heap.size w w' := by
 have HF := Lib.hid (law28_world 0 0 (by decide) (by decide) w)
 have HM := Lib.hid hm
 clear hm
 go_enter Tryz.func8, Tryz.ntmps8
 go_wp2_with fail
 refine HF.out.mono ?_
 rintro e w1 ⟨m, r, sp, rfl, hMA, _, hS, hl, hb1⟩
 have HMA := Lib.hid hMA; have HS := Lib.hid hS; have HB1 := Lib.hid hb1; have HL := Lib.hid hl
 clear hMA hS hb1 hl HF
 go_upto_region 5 with fail
 obtain ⟨gR, hgR⟩ : ∃ gR, w1.heap.size = gR := ⟨_, rfl⟩
 obtain ⟨W2, hW2⟩ : ∃ W2, (w1.alloc (.cells #[.string ⟨#[98]⟩, .int .u64 0, .string ⟨#[97]⟩, .int .u64 0] 56)).alloc (.cells #[.int .u8 1, .slice (some ⟨w1.heap.size, 0, none⟩) 2 2, .slice none 0 0, .string ⟨#[]⟩, .int .u64 0, .int .u64 0, .int .u32 0] 30) = W2 := ⟨_, rfl⟩
 have hb2 : Below w1.heap.size w1 W2 := by rw [← hW2]; exact ((Below.refl _ _).alloc (Nat.le_refl _) _).alloc (by simp) _
 have hr2 : W2.heap[gR]? = some (.cells #[.string ⟨#[98]⟩, .int .u64 0, .string ⟨#[97]⟩, .int .u64 0] 56 (0, 0)) := by
  rw [← hW2, ← hgR]
  exact (Below.heap_alloc _ _ _ (by simp)).trans (MapKept.heap_alloc _ _).1
 have hc2 : W2.heap[gR + 1]? = some (.cells #[.int .u8 1, .slice (some ⟨gR, 0, none⟩) 2 2, .slice none 0 0, .string ⟨#[]⟩, .int .u64 0, .int .u64 0, .int .u32 0] 30 (0, 0)) := by
  rw [← hW2, ← hgR]
  have h := (MapKept.heap_alloc (w1.alloc (.cells #[.string ⟨#[98]⟩, .int .u64 0, .string ⟨#[97]⟩, .int .u64 0] 56)) (.cells #[.int .u8 1, .slice (some ⟨w1.heap.size, 0, none⟩) 2 2, .slice none 0 0, .string ⟨#[]⟩, .int .u64 0, .int .u64 0, .int .u32 0] 30)).1
  simpa using h
 rw [hW2, hgR]
 have HB2 := Lib.hid hb2; have HR2 := Lib.hid hr2; have HC2 := Lib.hid hc2; have HGR := Lib.hid hgR
 have hO1 : ∀ u, ownS (fewS 1) 1 u = 1 := one_owner
 have hS2 : SpI (ownS (fewS 1) 1) sp M64 := HS.out
 obtain ⟨O, hO⟩ : ∃ O, ownS (fewS 1) 1 = O := ⟨_, rfl⟩
 rw [hO] at hO1 hS2
 have hIR : IsRds W2 (.slice (some ⟨gR, 0, none⟩) 2 2) exR := by
  refine ⟨_, 2, rfl, Or.inr ⟨gR, 0, rfl, (Array.getElem?_eq_some_iff.1 hr2).1, fun i hi j u hu => ?_⟩⟩
  have hj : j < 2 := by have := (List.getElem?_eq_some_iff.1 hu).1; rw [rdC_len] at this; exact this
  have hi' : i < 2 := hi
  rcases i with _ | _ | i
  ·rcases j with _ | _ | j
   ·exact (cell_of hr2 0).trans hu
   ·exact (cell_of hr2 1).trans hu
   ·omega
  ·rcases j with _ | _ | j
   ·exact (cell_of hr2 2).trans hu
   ·exact (cell_of hr2 3).trans hu
   ·omega
  ·omega
 have HASK := Lib.hid (asks_ops m 1 sp O exR [] (.slice (some ⟨gR, 0, none⟩) 2 2) (.slice none 0 0) ⟨#[]⟩ 0 0 0 W2 (HMA.out.below hb2) (by have := HL.out; omega) hS2 (fun u => by rw [hO1]; decide) hIR (IsL.nil _ _ _ _) ((HM.out.below HB1.out (Nat.le_refl _)).below hb2 (Nat.le_refl _))
  (fun r hr => by simp only [exR, List.mem_cons, List.mem_nil_iff, or_false] at hr; rcases hr with rfl | rfl <;> exact ⟨by decide⟩) (fun x hx => by cases hx) (by decide) (by decide) exR_bad rfl rfl (fun r hr => by simp only [exR, List.mem_cons, List.mem_nil_iff, or_false] at hr; rcases hr with rfl | rfl <;> decide) (fun x hx => by cases hx))
 have HO1 := Lib.hid hO1
 have k0 : W2.cell? ⟨gR + 1, 0, none⟩ = some (.int .u8 1) := cell_of hc2 0
 have k1 : W2.cell? ⟨gR + 1, 1, none⟩ = some (.slice (some ⟨gR, 0, none⟩) 2 2) := cell_of hc2 1
 have k2 : W2.cell? ⟨gR + 1, 2, none⟩ = some (.slice none 0 0) := cell_of hc2 2
 have k3 : W2.cell? ⟨gR + 1, 3, none⟩ = some (.string ⟨#[]⟩) := cell_of hc2 3
 have k4 : W2.cell? ⟨gR + 1, 4, none⟩ = some (.int .u64 0) := cell_of hc2 4
 have k5 : W2.cell? ⟨gR + 1, 5, none⟩ = some (.int .u64 0) := cell_of hc2 5
 have k6 : W2.cell? ⟨gR + 1, 6, none⟩ = some (.int .u32 0) := cell_of hc2 6
 clear hb2 hr2 hc2 hgR hW2 hO hO1 hS2 hIR
 go_wp2_with fail
 refine HASK.out.mono ?_
 rintro e w3 ⟨v3, ss, rfl, h1, h2, h3, hb3⟩
 have h2' : ∀ s, s ∈ ss ↔ s = 1 := fun s => (h2 s).trans ⟨fun h => by
   rcases h with ⟨i, _, e⟩ | ⟨i, _, e⟩
   ·rw [← e]; exact HO1.out _
   ·rw [← e]; exact HO1.out _, fun h => Or.inl ⟨0, by decide, by rw [h]; exact HO1.out _⟩⟩
 obtain rfl := ss_one h1 h2'
 have h4 : IsAsks w3 v3 [{ Ask.new 1 with reads := exR, readAt := [0, 1] }] := by
  have := exR_ask O HO1.out
  rw [show ([1] : List Nat).map (askTo O exR [] exR.length ([] : List Ed).length) = [askTo O exR [] 2 0 1] from rfl, this] at h3
  exact h3
 have H4 := Lib.hid h4
 obtain ⟨a3, c3, rfl, h5⟩ := h4
 obtain ⟨bL, oL, rfl, hbL, hcL⟩ := h5.resolve_left (by simp)
 obtain ⟨u1, u2, u3, u4, hc, i1, i2, i3, i4⟩ := hcL 0 (by decide)
 obtain ⟨e1, d1, rfl, i1⟩ := i1
 obtain ⟨e2, d2, rfl, i2⟩ := i2
 obtain ⟨e3, d3, rfl, _⟩ := i3
 obtain ⟨e4, d4, rfl, _⟩ := i4
 obtain ⟨b1, o1, rfl, _, hc1⟩ := i1.resolve_left (by simp [exR, dAsk, Ask.new])
 obtain ⟨b2, o2, rfl, _, hc2⟩ := i2.resolve_left (by simp)
 have l1 : w3.cell? ⟨bL, oL + 1, none⟩ = some (.slice (some ⟨b1, o1, none⟩) 2 d1) := by have h := hc 1 _ rfl; simp only [Nat.zero_mul, Nat.add_zero] at h; exact h
 have l2 : w3.cell? ⟨bL, oL + 2, none⟩ = some (.slice (some ⟨b2, o2, none⟩) 2 d2) := by have h := hc 2 _ rfl; simp only [Nat.zero_mul, Nat.add_zero] at h; exact h
 have r0 : w3.cell? ⟨b1, o1, none⟩ = some (.string ⟨#[98]⟩) := by have h := hc1 0 (by decide) 0 _ rfl; simp only [Nat.zero_mul, Nat.add_zero] at h; exact h
 have x1 : w3.cell? ⟨b2, o2 + 1, none⟩ = some (.int .i64 1) := by have h := hc2 1 (by decide) 0 _ rfl; simp only [Nat.mul_one, Nat.add_zero] at h; exact h
 have HB3 := Lib.hid hb3
 have HKC : Hid (∀ U : World, Below W2.heap.size W2 U → U.heap[gR + 1]? = some (.cells #[.int .u8 1, .slice (some ⟨gR, 0, none⟩) 2 2, .slice none 0 0, .string ⟨#[]⟩, .int .u64 0, .int .u64 0, .int .u32 0] 30 (0, 0))) := Lib.hid (fun U h => (h.block _ (Array.getElem?_eq_some_iff.1 HC2.out).1).trans HC2.out)
 clear h1 h2 h2' h3 h5 hcL hc hc1 hc2 i1 i2 hb3 HASK k0 k1 k2 k3 k4 k5 k6
 go_upto_region 8 with fail
 have hk := HKC.out w3 HB3.out
 have k0 : w3.cell? ⟨gR + 1, 0, none⟩ = some (.int .u8 1) := cell_of hk 0
 have k1 : w3.cell? ⟨gR + 1, 1, none⟩ = some (.slice (some ⟨gR, 0, none⟩) 2 2) := cell_of hk 1
 have k2 : w3.cell? ⟨gR + 1, 2, none⟩ = some (.slice none 0 0) := cell_of hk 2
 have k3 : w3.cell? ⟨gR + 1, 3, none⟩ = some (.string ⟨#[]⟩) := cell_of hk 3
 have k4 : w3.cell? ⟨gR + 1, 4, none⟩ = some (.int .u64 0) := cell_of hk 4
 have k5 : w3.cell? ⟨gR + 1, 5, none⟩ = some (.int .u64 0) := cell_of hk 5
 have k6 : w3.cell? ⟨gR + 1, 6, none⟩ = some (.int .u32 0) := cell_of hk 6
 obtain ⟨W4, hW4⟩ : ∃ W4, (w3.alloc (.cells #[.int .u64 0, .int .u8 0, .string ⟨#[]⟩, .int .i64 3, .int .u64 4, .int .u8 0, .string ⟨#[]⟩, .int .i64 0] 61)).alloc (.cells #[.int .u32 1, .slice (some ⟨w3.heap.size, 0, none⟩) 2 2, .slice none 0 0, .slice none 0 0] 54) = W4 := ⟨_, rfl⟩
 have hb4 : Below w3.heap.size w3 W4 := by rw [← hW4]; exact ((Below.refl _ _).alloc (Nat.le_refl _) _).alloc (by simp) _
 have hg4 : W4.heap[w3.heap.size]? = some (.cells #[.int .u64 0, .int .u8 0, .string ⟨#[]⟩, .int .i64 3, .int .u64 4, .int .u8 0, .string ⟨#[]⟩, .int .i64 0] 61 (0, 0)) := by
  rw [← hW4]; exact (Below.heap_alloc _ _ _ (by simp)).trans (MapKept.heap_alloc _ _).1
 have ht4 : W4.heap[w3.heap.size + 1]? = some (.cells #[.int .u32 1, .slice (some ⟨w3.heap.size, 0, none⟩) 2 2, .slice none 0 0, .slice none 0 0] 54 (0, 0)) := by
  rw [← hW4]
  have h := (MapKept.heap_alloc (w3.alloc (.cells #[.int .u64 0, .int .u8 0, .string ⟨#[]⟩, .int .i64 3, .int .u64 4, .int .u8 0, .string ⟨#[]⟩, .int .i64 0] 61)) (.cells #[.int .u32 1, .slice (some ⟨w3.heap.size, 0, none⟩) 2 2, .slice none 0 0, .slice none 0 0] 54)).1
  simpa using h
 have hT4 : IsTold W4 (.slice (some ⟨w3.heap.size + 1, 0, none⟩) 1 1) [exT] := by
  refine ⟨_, 1, rfl, Or.inr ⟨_, 0, rfl, (Array.getElem?_eq_some_iff.1 ht4).1, fun i hi => ?_⟩⟩
  obtain rfl : i = 0 := by have : i < 1 := hi; omega
  refine ⟨.slice (some ⟨w3.heap.size, 0, none⟩) 2 2, .slice none 0 0, .slice none 0 0, fun j u hu => ?_, ?_, IsL.nil _ _ _ _, IsL.nil _ _ _ _⟩
  ·simp only [Nat.zero_mul, Nat.zero_add]
   exact (cell_of ht4 j).trans hu
  ·refine ⟨_, 2, rfl, Or.inr ⟨_, 0, rfl, (Array.getElem?_eq_some_iff.1 hg4).1, fun i hi j u hu => ?_⟩⟩
   have hj : j < 4 := by have := (List.getElem?_eq_some_iff.1 hu).1; rw [gtC_len] at this; exact this
   have hi' : i < 2 := hi
   rcases i with _ | _ | i
   ·rcases j with _ | _ | _ | _ | j
    ·exact (cell_of hg4 0).trans hu
    ·exact (cell_of hg4 1).trans hu
    ·exact (cell_of hg4 2).trans hu
    ·exact (cell_of hg4 3).trans hu
    ·omega
   ·rcases j with _ | _ | _ | _ | j
    ·exact (cell_of hg4 4).trans hu
    ·exact (cell_of hg4 5).trans hu
    ·exact (cell_of hg4 6).trans hu
    ·exact (cell_of hg4 7).trans hu
    ·omega
   ·omega
 have HMG := Lib.hid (ex_merge gR c3 bL oL (w3.heap.size + 1) W4 (H4.out.below hb4 (Nat.le_refl _)) hT4)
 have HB4 : Hid (Below w.heap.size w W4) := Lib.hid (by
  have h12 : Below w.heap.size w W2 := HB1.out.trans (HB2.out.mono HB1.out.size)
  have h13 := h12.trans (HB3.out.mono h12.size)
  exact h13.trans (hb4.mono h13.size))
 clear hk l1 l2 r0 x1 hb4 hg4 ht4 hT4 H4
 go_wp2_with fail
 refine HMG.out.mono ?_
 rintro e w5 ⟨u5, u6, u7, nm5, rfl, hg5, hn5, hs5, _, _, hb5⟩
 obtain ⟨a5, c5, rfl, hg5⟩ := hg5
 obtain ⟨a6, c6, rfl, _⟩ := hn5
 obtain ⟨a7, c7, rfl, _⟩ := hs5
 obtain ⟨b5, o5, rfl, hl5, hc5⟩ := hg5.resolve_left (by simp)
 have z1 : w5.cell? ⟨b5, o5 + 4, none⟩ = some (.int .u64 4) := by have h := hc5 1 (by decide) 0 _ rfl; simp only [Nat.one_mul, Nat.add_zero] at h; exact h
 have HB5 : Hid (Below w.heap.size w w5) := Lib.hid (HB4.out.trans (hb5.mono HB4.out.size))
 have HMAY := Lib.hid (fun (W : World) (hW : Below w.heap.size w W) => may_list (.slice none 0 0) (.slice none 0 0) ⟨#[47, 47]⟩ 0 0 0 W (HM.out.below hW (Nat.le_refl _)) (by decide) rfl rfl)
 clear hb5 hc5 hg5 k0 k1 k2 k3 k4 k5 k6 HMG
 go_wp2_with fail
 have hb6 : Below w.heap.size w (w5.alloc (.cells #[.slice (some ⟨b5, o5, none⟩) 2 c5, .slice a6 0 c6, .slice a7 nm5.length c7] 67)) := HB5.out.alloc HB5.out.size _
 refine (HMAY.out _ hb6).mono ?_
 rintro e w6 ⟨rfl, hb7⟩
 have HB7 := Lib.hid (hb6.trans (hb7.mono hb6.size))
 rw [show (if prefL (⟨#[47, 47]⟩ : ByteArray).data.toList = true then (0 : Int) else 2) = 2 from by decide]
 clear hb6 hb7 HMAY
 go_wp2_with fail
 go_ret
 exact ⟨rfl, HB7.out⟩
end Go.Proofs.YtggdkfijioeijaaGreatDoor
namespace Go.Proofs.YtggdkfijioeijaaGreatDoor
open Go Go.RowKit
structure AskV (w : World) (A : Ask) (v : Value) : Prop where
 ex : ∃ v1 v2 v3 v4, v = .agg (askV A v1 v2 v3 v4) ∧ IsRds w v1 A.reads ∧ IsIxs w v2 A.readAt ∧ IsEds w v3 A.edits ∧ IsIxs w v4 A.editAt
end Go.Proofs.YtggdkfijioeijaaGreatDoor
namespace Go.Proofs.YtggdkfijioeijaaGreatDoor
open Go Go.RowKit Go.Maps
theorem isAsks_shape {w : World} {v : Value} {L : List Ask} (h : IsAsks w v L) : ∃ a c, v = .slice a L.length c := by
 obtain ⟨a, c, rfl, _⟩ := h; exact ⟨a, c, rfl⟩
theorem AskV.below {w w' : World} {A : Ask} {v : Value} {B : Nat} (h : AskV w A v) (hb : Below B w w') (hB : w.heap.size ≤ B) : AskV w' A v := by
 obtain ⟨v1, v2, v3, v4, e, h1, h2, h3, h4⟩ := h.ex
 exact ⟨v1, v2, v3, v4, e, h1.below hb hB, h2.below hb hB, h3.below hb hB, h4.below hb hB⟩
theorem AskSpec.small {O : Nat → Nat} {sp : List (Nat × Nat)} {e1 kind : Nat} {rds : List Rd} {eds : List Ed} {pre : ByteArray} {f t tw : Nat} {z : Int} {L : List Ask} (h : AskSpec O sp e1 kind rds eds pre f t tw z L) (h1 : rds.length ≤ 1000) (h2 : eds.length ≤ 1000) : ∀ A ∈ L, A.reads.length ≤ 1000 ∧ A.readAt.length ≤ 1000 ∧ A.edits.length ≤ 1000 ∧ A.editAt.length ≤ 1000 := by
 intro A hA
 rcases h with ⟨_, _, rfl⟩ | ⟨_, _, _, ss, _, _, rfl⟩ | ⟨_, _, _, ss, _, _, rfl⟩ | ⟨_, _, _, ⟨_, rfl⟩ | ⟨_, ss, _, _, rfl⟩⟩
 ·simp at hA
 ·obtain ⟨s, _, rfl⟩ := List.mem_map.1 hA
  refine ⟨?_, ?_, ?_, ?_⟩
  ·show (rdsTo O rds rds.length s).length ≤ 1000
   exact Nat.le_trans (Nat.le_trans (List.length_filter_le _ _) (List.length_take_le _ _)) h1
  ·show (rAtTo O rds rds.length s).length ≤ 1000
   exact Nat.le_trans (Nat.le_trans (List.length_filter_le _ _) (by rw [List.length_range]; exact Nat.le_refl _)) h1
  ·show (edsTo O eds eds.length s).length ≤ 1000
   exact Nat.le_trans (Nat.le_trans (List.length_filter_le _ _) (List.length_take_le _ _)) h2
  ·show (eAtTo O eds eds.length s).length ≤ 1000
   exact Nat.le_trans (Nat.le_trans (List.length_filter_le _ _) (by rw [List.length_range]; exact Nat.le_refl _)) h2
 ·obtain ⟨s, _, rfl⟩ := List.mem_map.1 hA
  exact ⟨Nat.zero_le _, Nat.zero_le _, Nat.zero_le _, Nat.zero_le _⟩
 ·simp at hA
 ·obtain ⟨s, _, rfl⟩ := List.mem_map.1 hA
  exact ⟨Nat.zero_le _, Nat.zero_le _, Nat.zero_le _, Nat.zero_le _⟩
theorem rise_len : ∀ (ss : List Nat) (a N : Nat), ss.Pairwise (· < ·) → (∀ s ∈ ss, a ≤ s ∧ s < N) → ss.length ≤ N - a
 | [], _, _, _, _ => Nat.zero_le _
 | x :: t, a, N, h, hb => by
  have h1 := List.pairwise_cons.1 h
  have h2 := rise_len t (x + 1) N h1.2 (fun s hs => ⟨h1.1 s hs, (hb s (by simp [hs])).2⟩)
  have h3 := hb x (by simp)
  rw [List.length_cons]; omega
theorem AskSpec.len {O : Nat → Nat} {sp : List (Nat × Nat)} {e1 kind : Nat} {rds : List Rd} {eds : List Ed} {pre : ByteArray} {f t tw : Nat} {z : Int} {L : List Ask} (h : AskSpec O sp e1 kind rds eds pre f t tw z L) (hS : SpI O sp M64) (hO : ∀ u, 1 ≤ O u ∧ O u < 4294967296) (htw : tw < 4294967296) : L.length ≤ 4294967296 := by
 have h32 := hS.b32 (fun u => (hO u).2)
 rcases h with ⟨_, _, rfl⟩ | ⟨_, _, _, ss, h1, h2, rfl⟩ | ⟨_, _, _, ss, h1, h2, rfl⟩ | ⟨_, _, _, ⟨_, rfl⟩ | ⟨_, ss, h1, h2, rfl⟩⟩
 ·exact Nat.zero_le _
 ·rw [List.length_map]
  refine rise_len ss 0 4294967296 h1 (fun s hs => ⟨Nat.zero_le _, ?_⟩)
  rcases (h2 s).1 hs with ⟨_, _, rfl⟩ | ⟨_, _, rfl⟩
  ·exact (hO _).2
  ·exact (hO _).2
 ·rw [List.length_map]
  refine rise_len ss 0 4294967296 h1 (fun s hs => ⟨Nat.zero_le _, ?_⟩)
  obtain ⟨k, hk, rfl⟩ := (h2 s).1 hs
  exact h32 _ (by rw [List.getD_eq_getElem?_getD, List.getElem?_eq_getElem hk]; exact List.getElem_mem _)
 ·exact Nat.zero_le _
 ·rw [List.length_map]
  refine rise_len ss 0 4294967296 h1 (fun s hs => ⟨Nat.zero_le _, ?_⟩)
  rcases (h2 s).1 hs with rfl | rfl
  ·exact (hO _).2
  ·exact htw
end Go.Proofs.YtggdkfijioeijaaGreatDoor
namespace Go.Proofs.YtggdkfijioeijaaGreatDoor
open Go Go.RowKit Go.Maps
theorem quiet_skip {P : Program} {ops : Array Oper} {C : World → Prop} {Q : Act → Prop} {a : Act} {o : Oper} {rest : List Oper} (hw : Region.wanted o (yielded ops a.tmps) = false)
  (k : wpQuiet P ops C Q rest (a.put o.dst undef)) : wpQuiet P ops C Q (o :: rest) a := by
 refine wpQuiet_step (fun K hK => ?_)
 rw [if_neg (by rw [hw]; decide)]
 exact hK _ k
def upN (n k : Nat) : Nat := (n + k) % 18446744073709551616
def dnN (n k : Nat) : Nat := (n + (18446744073709551616 - k % 18446744073709551616)) % 18446744073709551616
theorem upN_wrap (n k : Nat) : IntKind.u64.wrap ((n : Int) + (k : Int)) = (upN n k : Int) := by rw [IntKind.wrap_u64]; unfold upN; omega
theorem dnN_wrap (n k : Nat) : IntKind.u64.wrap ((n : Int) - (k : Int)) = (dnN n k : Int) := by rw [IntKind.wrap_u64]; unfold dnN; omega
def gotOf (n k : Nat) : Gt := ⟨upN n k, 0, ByteArray.empty, 0⟩
def tell (n : Nat) (names : List ByteArray) (A : Ask) : Tl := ⟨A.shard, A.readAt.map (gotOf n), A.editAt.map (dnN n), if A.list = true then names else []⟩
structure AskOk (O : Nat → Nat) (rds : List Rd) (eds : List Ed) (A : Ask) : Prop where
 rl : A.reads.length = A.readAt.length
 el : A.edits.length = A.editAt.length
 r : ∀ k, k < A.reads.length → A.readAt.getD k 0 < rds.length ∧ rds.getD (A.readAt.getD k 0) dRd = A.reads.getD k dRd ∧ ownP O (A.reads.getD k dRd).path = A.shard
 e : ∀ k, k < A.edits.length → A.editAt.getD k 0 < eds.length ∧ eds.getD (A.editAt.getD k 0) dEd = A.edits.getD k dEd ∧ ownP O (A.edits.getD k dEd).path = A.shard
theorem getD_map' {α β : Type} (f : α → β) (m : List α) (k : Nat) (z : β) (d : α) (h : k < m.length) : (m.map f).getD k z = f (m.getD k d) := by
 rw [List.getD_eq_getElem?_getD, List.getElem?_map, List.getD_eq_getElem?_getD, List.getElem?_eq_getElem h]; rfl
theorem getD_mem' {α : Type} (m : List α) (k : Nat) (d : α) (h : k < m.length) : m.getD k d ∈ m := by
 rw [List.getD_eq_getElem?_getD, List.getElem?_eq_getElem h]; exact List.getElem_mem _
theorem rdsTo_map {O : Nat → Nat} {rds : List Rd} {s : Nat} : ∀ k, k ≤ rds.length → rdsTo O rds k s = (rAtTo O rds k s).map (fun i => rds.getD i dRd)
 | 0, _ => rfl
 | k + 1, h => by
  have ih := rdsTo_map (O := O) (rds := rds) (s := s) k (by omega)
  have ht : rds.take (k + 1) = rds.take k ++ [rds.getD k dRd] := by
   rw [List.take_succ_eq_append_getElem h, List.getD_eq_getElem?_getD, List.getElem?_eq_getElem h]; rfl
  unfold rdsTo rAtTo at *
  rw [ht, List.range_succ, List.filter_append, List.filter_append, List.map_append, ih]
  congr 1
  by_cases e : ownP O (rds.getD k dRd).path = s
  ·rw [List.filter_cons_of_pos (by simpa using e), List.filter_cons_of_pos (by simpa using e)]; rfl
  ·rw [List.filter_cons_of_neg (by simpa using e), List.filter_cons_of_neg (by simpa using e)]; rfl
theorem edsTo_map {O : Nat → Nat} {eds : List Ed} {s : Nat} : ∀ k, k ≤ eds.length → edsTo O eds k s = (eAtTo O eds k s).map (fun i => eds.getD i dEd)
 | 0, _ => rfl
 | k + 1, h => by
  have ih := edsTo_map (O := O) (eds := eds) (s := s) k (by omega)
  have ht : eds.take (k + 1) = eds.take k ++ [eds.getD k dEd] := by
   rw [List.take_succ_eq_append_getElem h, List.getD_eq_getElem?_getD, List.getElem?_eq_getElem h]; rfl
  unfold edsTo eAtTo at *
  rw [ht, List.range_succ, List.filter_append, List.filter_append, List.map_append, ih]
  congr 1
  by_cases e : ownP O (eds.getD k dEd).path = s
  ·rw [List.filter_cons_of_pos (by simpa using e), List.filter_cons_of_pos (by simpa using e)]; rfl
  ·rw [List.filter_cons_of_neg (by simpa using e), List.filter_cons_of_neg (by simpa using e)]; rfl
theorem mem_rAtTo {O : Nat → Nat} {rds : List Rd} {k s i : Nat} : i ∈ rAtTo O rds k s ↔ i < k ∧ ownP O (rds.getD i dRd).path = s := by
 unfold rAtTo; rw [List.mem_filter, List.mem_range]; simp
theorem mem_eAtTo {O : Nat → Nat} {eds : List Ed} {k s i : Nat} : i ∈ eAtTo O eds k s ↔ i < k ∧ ownP O (eds.getD i dEd).path = s := by
 unfold eAtTo; rw [List.mem_filter, List.mem_range]; simp
theorem askTo_ok (O : Nat → Nat) (rds : List Rd) (eds : List Ed) (s : Nat) : AskOk O rds eds (askTo O rds eds rds.length eds.length s) := by
 have h1 := rdsTo_map (O := O) (rds := rds) (s := s) rds.length (Nat.le_refl _)
 have h2 := edsTo_map (O := O) (eds := eds) (s := s) eds.length (Nat.le_refl _)
 refine ⟨?_, ?_, fun k hk => ?_, fun k hk => ?_⟩
 ·show (rdsTo O rds rds.length s).length = (rAtTo O rds rds.length s).length
  rw [h1, List.length_map]
 ·show (edsTo O eds eds.length s).length = (eAtTo O eds eds.length s).length
  rw [h2, List.length_map]
 ·have hk : k < (rdsTo O rds rds.length s).length := hk
  show (rAtTo O rds rds.length s).getD k 0 < rds.length ∧ rds.getD ((rAtTo O rds rds.length s).getD k 0) dRd = (rdsTo O rds rds.length s).getD k dRd ∧ ownP O ((rdsTo O rds rds.length s).getD k dRd).path = s
  rw [h1, List.length_map] at hk
  have hm := mem_rAtTo.1 (getD_mem' _ k 0 hk)
  rw [h1, getD_map' _ _ k dRd 0 hk]
  exact ⟨hm.1, rfl, hm.2⟩
 ·have hk : k < (edsTo O eds eds.length s).length := hk
  show (eAtTo O eds eds.length s).getD k 0 < eds.length ∧ eds.getD ((eAtTo O eds eds.length s).getD k 0) dEd = (edsTo O eds eds.length s).getD k dEd ∧ ownP O ((edsTo O eds eds.length s).getD k dEd).path = s
  rw [h2, List.length_map] at hk
  have hm := mem_eAtTo.1 (getD_mem' _ k 0 hk)
  rw [h2, getD_map' _ _ k dEd 0 hk]
  exact ⟨hm.1, rfl, hm.2⟩
def pG (n : Nat) (A : Ask) : List (Nat × Value) := A.readAt.map (fun k => (k, gtV (gotOf n k)))
def pE (n : Nat) (A : Ask) : List (Nat × Value) := A.editAt.map (fun k => (k, .int .u64 (dnN n k : Int)))
theorem zip_map_self {α β : Type} (f : α → β) : ∀ l : List α, l.zip (l.map f) = l.map (fun x => (x, f x))
 | [] => rfl
 | x :: l => by rw [List.map_cons, List.zip_cons_cons, zip_map_self f l, List.map_cons]
theorem gP_tell (n : Nat) (names : List ByteArray) (A : Ask) : gP A (tell n names A) = pG n A := by
 unfold gP tell pG; rw [List.map_map, zip_map_self]; rfl
theorem eP_tell (n : Nat) (names : List ByteArray) (A : Ask) : eP A (tell n names A) = pE n A := by
 unfold eP tell pE; rw [List.map_map, zip_map_self]; rfl
theorem allG_tell (n : Nat) (names : List ByteArray) (L : List Ask) : ∀ k, k ≤ L.length → allG L (L.map (tell n names)) k = (L.take k).flatMap (pG n)
 | 0, _ => rfl
 | k + 1, h => by
  have ht : L.take (k + 1) = L.take k ++ [L.getD k dAsk] := by
   rw [List.take_succ_eq_append_getElem h, List.getD_eq_getElem?_getD, List.getElem?_eq_getElem h]; rfl
  rw [allG, allG_tell n names L k (by omega), ht, List.flatMap_append, getD_map' _ L k dTl dAsk h, gP_tell]; simp
theorem allE_tell (n : Nat) (names : List ByteArray) (L : List Ask) : ∀ k, k ≤ L.length → allE L (L.map (tell n names)) k = (L.take k).flatMap (pE n)
 | 0, _ => rfl
 | k + 1, h => by
  have ht : L.take (k + 1) = L.take k ++ [L.getD k dAsk] := by
   rw [List.take_succ_eq_append_getElem h, List.getD_eq_getElem?_getD, List.getElem?_eq_getElem h]; rfl
  rw [allE, allE_tell n names L k (by omega), ht, List.flatMap_append, getD_map' _ L k dTl dAsk h, eP_tell]; simp
theorem putAll_is (F : Nat → Value) : ∀ (l : List (Nat × Value)) (G : Nat → Option Value) (i : Nat), (∀ x ∈ l, x.2 = F x.1) → ((∃ x ∈ l, x.1 = i) ∨ G i = some (F i)) → putAll G l i = some (F i)
 | [], G, i, _, h => h.resolve_left (fun ⟨x, hx, _⟩ => by simp at hx)
 | x :: l, G, i, hF, h => by
  refine putAll_is F l _ i (fun y hy => hF y (by simp [hy])) ?_
  by_cases e : i = x.1
  ·right; rw [if_pos e, hF x (by simp), e]
  ·rcases h with ⟨y, hy, e2⟩ | h
   ·rcases List.mem_cons.1 hy with rfl | hy
    ·exact absurd e2.symm e
    ·exact Or.inl ⟨y, hy, e2⟩
   ·right; rw [if_neg e]; exact h
theorem sum_zero : ∀ l : List Nat, (∀ x ∈ l, x = 0) → l.sum = 0
 | [], _ => rfl
 | x :: l, h => by rw [List.sum_cons, h x (by simp), sum_zero l (fun y hy => h y (by simp [hy]))]
theorem sum_one {ss : List Nat} (hn : ss.Nodup) {x : Nat} (hx : x ∈ ss) : (ss.map (fun s => if x = s then 1 else 0)).sum = 1 := by
 induction ss with
 | nil => simp at hx
 | cons a t ih =>
  have h1 := List.nodup_cons.1 hn
  rw [List.map_cons, List.sum_cons]
  by_cases e : x = a
  ·subst e
   rw [if_pos rfl]
   have h0 : (t.map (fun s => if x = s then 1 else 0)).sum = 0 := by
    refine sum_zero _ fun y hy => ?_
    obtain ⟨s, hs, rfl⟩ := List.mem_map.1 hy
    exact if_neg (fun (e : x = s) => h1.1 (by rw [e]; exact hs))
   rw [h0]
  ·rw [if_neg e, ih h1.2 ((List.mem_cons.1 hx).resolve_left e)]
theorem sum_map_add (ss : List Nat) (f g : Nat → Nat) : (ss.map (fun s => f s + g s)).sum = (ss.map f).sum + (ss.map g).sum := by
 induction ss with
 | nil => rfl
 | cons a t ih => simp only [List.map_cons, List.sum_cons, ih]; omega
theorem sum_rAt {O : Nat → Nat} {rds : List Rd} {ss : List Nat} (hn : ss.Nodup) : ∀ k, (∀ i, i < k → ownP O (rds.getD i dRd).path ∈ ss) → (ss.map (fun s => (rAtTo O rds k s).length)).sum = k
 | 0, _ => by
  refine sum_zero _ fun y hy => ?_
  obtain ⟨s, _, rfl⟩ := List.mem_map.1 hy; rfl
 | k + 1, h => by
  have ih := sum_rAt hn k (fun i hi => h i (by omega))
  have e : (fun s => (rAtTo O rds (k + 1) s).length) = fun s => (rAtTo O rds k s).length + (if ownP O (rds.getD k dRd).path = s then 1 else 0) := by
   funext s
   unfold rAtTo
   rw [List.range_succ, List.filter_append, List.length_append]
   congr 1
   by_cases e : ownP O (rds.getD k dRd).path = s
   ·rw [if_pos e, List.filter_cons_of_pos (by simpa using e)]; rfl
   ·rw [if_neg e, List.filter_cons_of_neg (by simpa using e)]; rfl
  rw [e, sum_map_add, ih, sum_one hn (h k (Nat.lt_succ_self k))]
theorem sum_eAt {O : Nat → Nat} {eds : List Ed} {ss : List Nat} (hn : ss.Nodup) : ∀ k, (∀ i, i < k → ownP O (eds.getD i dEd).path ∈ ss) → (ss.map (fun s => (eAtTo O eds k s).length)).sum = k
 | 0, _ => by
  refine sum_zero _ fun y hy => ?_
  obtain ⟨s, _, rfl⟩ := List.mem_map.1 hy; rfl
 | k + 1, h => by
  have ih := sum_eAt hn k (fun i hi => h i (by omega))
  have e : (fun s => (eAtTo O eds (k + 1) s).length) = fun s => (eAtTo O eds k s).length + (if ownP O (eds.getD k dEd).path = s then 1 else 0) := by
   funext s
   unfold eAtTo
   rw [List.range_succ, List.filter_append, List.length_append]
   congr 1
   by_cases e : ownP O (eds.getD k dEd).path = s
   ·rw [if_pos e, List.filter_cons_of_pos (by simpa using e)]; rfl
   ·rw [if_neg e, List.filter_cons_of_neg (by simpa using e)]; rfl
  rw [e, sum_map_add, ih, sum_one hn (h k (Nat.lt_succ_self k))]
theorem flatMap_len {α β : Type} (f : α → List β) : ∀ l : List α, (l.flatMap f).length = (l.map (fun x => (f x).length)).sum
 | [] => rfl
 | x :: l => by rw [List.flatMap_cons, List.length_append, flatMap_len f l, List.map_cons, List.sum_cons]
theorem rise_nodup {ss : List Nat} (h : ss.Pairwise (· < ·)) : ss.Nodup := h.imp (fun h => Nat.ne_of_lt h)
structure ToldAll (n nr ne : Nat) (L : List Ask) (ts : List Tl) : Prop where
 cr : (allG L ts L.length).length = nr
 ce : (allE L ts L.length).length = ne
 g : ∀ i, i < nr → putAll (fun _ => none) (allG L ts L.length) i = some (gtV (gotOf n i))
 e : ∀ i, i < ne → putAll (fun _ => none) (allE L ts L.length) i = some (.int .u64 (dnN n i : Int))
theorem told_ops {O : Nat → Nat} {rds : List Rd} {eds : List Ed} {ss : List Nat} {L : List Ask} (hr : ss.Pairwise (· < ·)) (hm : ∀ s, s ∈ ss ↔ Sk O rds eds rds.length eds.length s) (hL : L = ss.map (askTo O rds eds rds.length eds.length)) (n : Nat) (names : List ByteArray) : ToldAll n rds.length eds.length L (L.map (tell n names)) := by
 have h1 := allG_tell n names L L.length (Nat.le_refl _)
 have h2 := allE_tell n names L L.length (Nat.le_refl _)
 rw [List.take_length] at h1 h2
 have hn := rise_nodup hr
 refine ⟨?_, ?_, fun i hi => ?_, fun i hi => ?_⟩
 ·rw [h1, hL, flatMap_len, List.map_map]
  refine Eq.trans (congrArg List.sum (List.map_congr_left fun s _ => ?_)) (sum_rAt hn rds.length (fun i hi => (hm _).2 (Or.inl ⟨i, hi, rfl⟩)))
  show (pG n (askTo O rds eds rds.length eds.length s)).length = _
  unfold pG; rw [List.length_map]; rfl
 ·rw [h2, hL, flatMap_len, List.map_map]
  refine Eq.trans (congrArg List.sum (List.map_congr_left fun s _ => ?_)) (sum_eAt hn eds.length (fun i hi => (hm _).2 (Or.inr ⟨i, hi, rfl⟩)))
  show (pE n (askTo O rds eds rds.length eds.length s)).length = _
  unfold pE; rw [List.length_map]; rfl
 ·rw [h1]
  refine putAll_is (fun k => gtV (gotOf n k)) _ _ i (fun x hx => ?_) (Or.inl ⟨(i, gtV (gotOf n i)), ?_, rfl⟩)
  ·obtain ⟨A, _, hx⟩ := List.mem_flatMap.1 hx
   obtain ⟨k, _, rfl⟩ := List.mem_map.1 hx; rfl
  ·refine List.mem_flatMap.2 ⟨askTo O rds eds rds.length eds.length (ownP O (rds.getD i dRd).path), ?_, List.mem_map.2 ⟨i, mem_rAtTo.2 ⟨hi, rfl⟩, rfl⟩⟩
   rw [hL]; exact List.mem_map.2 ⟨_, (hm _).2 (Or.inl ⟨i, hi, rfl⟩), rfl⟩
 ·rw [h2]
  refine putAll_is (fun k => .int .u64 (dnN n k : Int)) _ _ i (fun x hx => ?_) (Or.inl ⟨(i, .int .u64 (dnN n i : Int)), ?_, rfl⟩)
  ·obtain ⟨A, _, hx⟩ := List.mem_flatMap.1 hx
   obtain ⟨k, _, rfl⟩ := List.mem_map.1 hx; rfl
  ·refine List.mem_flatMap.2 ⟨askTo O rds eds rds.length eds.length (ownP O (eds.getD i dEd).path), ?_, List.mem_map.2 ⟨i, mem_eAtTo.2 ⟨hi, rfl⟩, rfl⟩⟩
   rw [hL]; exact List.mem_map.2 ⟨_, (hm _).2 (Or.inr ⟨i, hi, rfl⟩), rfl⟩
theorem told_none {L : List Ask} (h : ∀ A ∈ L, A.readAt = [] ∧ A.editAt = []) (n : Nat) (names : List ByteArray) : ToldAll n 0 0 L (L.map (tell n names)) := by
 have h1 := allG_tell n names L L.length (Nat.le_refl _)
 have h2 := allE_tell n names L L.length (Nat.le_refl _)
 rw [List.take_length] at h1 h2
 have e1 : L.flatMap (pG n) = [] := List.flatMap_eq_nil_iff.2 fun A hA => by unfold pG; rw [(h A hA).1]; rfl
 have e2 : L.flatMap (pE n) = [] := List.flatMap_eq_nil_iff.2 fun A hA => by unfold pE; rw [(h A hA).2]; rfl
 refine ⟨by rw [h1, e1]; rfl, by rw [h2, e2]; rfl, fun i hi => absurd hi (Nat.not_lt_zero _), fun i hi => absurd hi (Nat.not_lt_zero _)⟩
structure Whole (O : Nat → Nat) (rds : List Rd) (eds : List Ed) (L : List Ask) : Prop where
 ok : ∀ A ∈ L, AskOk O rds eds A
 up : L.Pairwise (fun A B => A.shard < B.shard)
theorem AskSpec.whole {O : Nat → Nat} {sp : List (Nat × Nat)} {e1 kind : Nat} {rds : List Rd} {eds : List Ed} {pre : ByteArray} {f t tw : Nat} {L : List Ask} (h : AskSpec O sp e1 kind rds eds pre f t tw 0 L) : Whole O rds eds L ∧
    ((kind = 1 ∧ ∀ n names, ToldAll n rds.length eds.length L (L.map (tell n names))) ∨
     (kind = 2 ∧ (∀ A ∈ L, A.readAt = [] ∧ A.editAt = []) ∧ ∃ ss : List Nat, ss.Pairwise (· < ·) ∧ (∀ s, s ∈ ss ↔ ∃ k, k < sp.length ∧ (sp.getD k d0).2 = s) ∧ L = ss.map (lstA pre)) ∨
     (kind = 3 ∧ (∀ A ∈ L, A.readAt = [] ∧ A.editAt = []) ∧ SplitC O f t tw e1 (splitL sp f t tw).length 0 ∧ ∃ ss : List Nat, ss.Pairwise (· < ·) ∧ (∀ s, s ∈ ss ↔ s = O f ∨ s = tw) ∧ L = ss.map (splA (O f) tw f t))) := by
  have hp : ∀ {ss : List Nat} {F : Nat → Ask}, ss.Pairwise (· < ·) → (∀ s, (F s).shard = s) → (ss.map F).Pairwise (fun A B => A.shard < B.shard) := fun h hF => List.pairwise_map.2 (h.imp (fun {a b} h => by rw [hF a, hF b]; exact h))
  rcases h with ⟨a, b, _⟩ | ⟨_, rfl, _, ss, h1, h2, rfl⟩ | ⟨_, rfl, _, ss, h1, h2, rfl⟩ | ⟨_, rfl, hc, ⟨n, _⟩ | ⟨_, ss, h1, h2, rfl⟩⟩
  · exact absurd b.symm a
  · exact ⟨⟨fun A hA => by obtain ⟨s, _, rfl⟩ := List.mem_map.1 hA; exact askTo_ok O rds eds s, hp h1 (fun _ => rfl)⟩, Or.inl ⟨rfl, told_ops h1 h2 rfl⟩⟩
  · refine ⟨⟨fun A hA => ?_, hp h1 (fun _ => rfl)⟩, Or.inr (Or.inl ⟨rfl, fun A hA => ?_, ss, h1, h2, rfl⟩)⟩
    · obtain ⟨s, _, rfl⟩ := List.mem_map.1 hA
      exact ⟨rfl, rfl, fun k hk => absurd hk (Nat.not_lt_zero _), fun k hk => absurd hk (Nat.not_lt_zero _)⟩
    · obtain ⟨s, _, rfl⟩ := List.mem_map.1 hA; exact ⟨rfl, rfl⟩
  · exact absurd rfl n
  · refine ⟨⟨fun A hA => ?_, hp h1 (fun _ => rfl)⟩, Or.inr (Or.inr ⟨rfl, fun A hA => ?_, hc, ss, h1, h2, rfl⟩)⟩
    · obtain ⟨s, _, rfl⟩ := List.mem_map.1 hA
      exact ⟨rfl, rfl, fun k hk => absurd hk (Nat.not_lt_zero _), fun k hk => absurd hk (Nat.not_lt_zero _)⟩
    · obtain ⟨s, _, rfl⟩ := List.mem_map.1 hA; exact ⟨rfl, rfl⟩
theorem nodup_len {α : Type} [BEq α] [LawfulBEq α] : ∀ (ss l : List α), ss.Nodup → (∀ s ∈ ss, s ∈ l) → ss.length ≤ l.length
 | [], _, _, _ => Nat.zero_le _
 | a :: t, l, h, hs => by
  have h1 := List.nodup_cons.1 h
  have h2 := nodup_len t (l.erase a) h1.2 (fun s hm => (List.mem_erase_of_ne (fun (e : s = a) => h1.1 (by rw [← e]; exact hm))).2 (hs s (by simp [hm])))
  have h3 := List.length_erase_of_mem (hs a (by simp))
  have h4 := List.length_pos_of_mem (hs a (by simp))
  rw [List.length_cons]; omega
theorem AskSpec.len2 {O : Nat → Nat} {sp : List (Nat × Nat)} {e1 kind : Nat} {rds : List Rd} {eds : List Ed} {pre : ByteArray} {f t tw : Nat} {z : Int} {L : List Ask} (h : AskSpec O sp e1 kind rds eds pre f t tw z L) (hsp : sp.length ≤ 2048) (h1 : rds.length ≤ 1000) (h2 : eds.length ≤ 1000) : L.length ≤ 5000 := by
 rcases h with ⟨_, _, rfl⟩ | ⟨_, _, _, ss, g1, g2, rfl⟩ | ⟨_, _, _, ss, g1, g2, rfl⟩ | ⟨_, _, _, ⟨_, rfl⟩ | ⟨_, ss, g1, g2, rfl⟩⟩
 ·exact Nat.zero_le _
 ·rw [List.length_map]
  have h := nodup_len ss ((List.range rds.length).map (fun i => ownP O (rds.getD i dRd).path) ++ (List.range eds.length).map (fun i => ownP O (eds.getD i dEd).path)) (rise_nodup g1) (fun s hs => by
   rcases (g2 s).1 hs with ⟨i, hi, rfl⟩ | ⟨i, hi, rfl⟩
   ·exact List.mem_append_left _ (List.mem_map.2 ⟨i, List.mem_range.2 hi, rfl⟩)
   ·exact List.mem_append_right _ (List.mem_map.2 ⟨i, List.mem_range.2 hi, rfl⟩))
  rw [List.length_append, List.length_map, List.length_map, List.length_range, List.length_range] at h
  omega
 ·rw [List.length_map]
  have h := nodup_len ss (sp.map (·.2)) (rise_nodup g1) (fun s hs => by
   obtain ⟨k, hk, rfl⟩ := (g2 s).1 hs
   exact List.mem_map.2 ⟨_, getD_mem' sp k d0 hk, rfl⟩)
  rw [List.length_map] at h
  omega
 ·exact Nat.zero_le _
 ·rw [List.length_map]
  have h := nodup_len ss [O f, tw] (rise_nodup g1) (fun s hs => by
   rcases (g2 s).1 hs with rfl | rfl <;> simp)
  simp only [List.length_cons, List.length_nil] at h
  omega
structure MergeIn (L : List Ask) (ts : List Tl) : Prop where
 fit : ∀ i, i < L.length → FitsT (L.getD i dAsk) (ts.getD i dTl)
 r1 : ∀ i, (L.getD i dAsk).readAt.length ≤ 1000
 e1 : ∀ i, (L.getD i dAsk).editAt.length ≤ 1000
 n1 : ∀ i, (ts.getD i dTl).names.length ≤ 100
 r2 : ∀ i, ∀ x ∈ (L.getD i dAsk).readAt, x < 4611686018427387904
 e2 : ∀ i, ∀ x ∈ (L.getD i dAsk).editAt, x < 4611686018427387904
 n2 : ∀ i, ∀ x ∈ (ts.getD i dTl).names, x.size ≤ 140737488351232
theorem getD_out {α : Type} (l : List α) (i : Nat) (z : α) (h : ¬ i < l.length) : l.getD i z = z := by
 rw [List.getD_eq_getElem?_getD, List.getElem?_eq_none (by omega)]; rfl
theorem merge_in {O : Nat → Nat} {rds : List Rd} {eds : List Ed} {L : List Ask} (hW : Whole O rds eds L) (h1 : rds.length ≤ 1000) (h2 : eds.length ≤ 1000) (hs : ∀ A ∈ L, A.reads.length ≤ 1000 ∧ A.readAt.length ≤ 1000 ∧ A.edits.length ≤ 1000 ∧ A.editAt.length ≤ 1000) (n : Nat) (nms : List ByteArray) (hn : nms.length ≤ 10) (hz : ∀ x ∈ nms, x.size ≤ 140737488351232) : MergeIn L (L.map (tell n nms)) := by
 have hl : ∀ i, i < L.length → (L.map (tell n nms)).getD i dTl = tell n nms (L.getD i dAsk) := fun i hi => getD_map' _ L i dTl dAsk hi
 have hx : ∀ {l : List Nat} {m : Nat}, (∀ k, k < l.length → l.getD k 0 < m) → ∀ x ∈ l, x < m := fun h x hx => by
  obtain ⟨k, hk, rfl⟩ := List.mem_iff_getElem.1 hx
  have := h k hk
  rwa [List.getD_eq_getElem?_getD, List.getElem?_eq_getElem hk] at this
 refine ⟨fun i hi => ?_, fun i => ?_, fun i => ?_, fun i => ?_, fun i => ?_, fun i => ?_, fun i => ?_⟩
 ·rw [hl i hi]
  obtain ⟨a, b, _, _⟩ := hW.ok _ (getD_mem' L i dAsk hi)
  refine ⟨rfl, ?_, ?_, ?_, ?_, ?_⟩
  ·show _ = (List.map _ _).length; rw [List.length_map]; exact a
  ·show _ = (List.map _ _).length; rw [List.length_map]
  ·show _ = (List.map _ _).length; rw [List.length_map]; exact b
  ·show _ = (List.map _ _).length; rw [List.length_map]
  ·by_cases e : (L.getD i dAsk).list = true
   ·exact Or.inl e
   ·right; show (if (L.getD i dAsk).list = true then nms else []).length = 0; rw [if_neg e]; rfl
 ·by_cases hi : i < L.length
  ·exact (hs _ (getD_mem' L i dAsk hi)).2.1
  ·rw [getD_out L i dAsk hi]; exact Nat.zero_le _
 ·by_cases hi : i < L.length
  ·exact (hs _ (getD_mem' L i dAsk hi)).2.2.2
  ·rw [getD_out L i dAsk hi]; exact Nat.zero_le _
 ·by_cases hi : i < L.length
  ·rw [hl i hi]
   show (if (L.getD i dAsk).list = true then nms else []).length ≤ 100
   split
   ·omega
   ·exact Nat.zero_le _
  ·rw [getD_out _ i dTl (by rw [List.length_map]; exact hi)]; exact Nat.zero_le _
 ·by_cases hi : i < L.length
  ·obtain ⟨a, _, b, _⟩ := hW.ok _ (getD_mem' L i dAsk hi)
   exact hx (fun k hk => by have := (b k (by omega)).1; omega)
  ·rw [getD_out L i dAsk hi]; exact fun x hx => by cases hx
 ·by_cases hi : i < L.length
  ·obtain ⟨_, a, _, b⟩ := hW.ok _ (getD_mem' L i dAsk hi)
   exact hx (fun k hk => by have := (b k (by omega)).1; omega)
  ·rw [getD_out L i dAsk hi]; exact fun x hx => by cases hx
 ·by_cases hi : i < L.length
  ·rw [hl i hi]
   show ∀ x ∈ (if (L.getD i dAsk).list = true then nms else []), _
   split
   ·exact hz
   ·exact fun x hx => by cases hx
  ·rw [getD_out _ i dTl (by rw [List.length_map]; exact hi)]; exact fun x hx => by cases hx
theorem split_two {ss : List Nat} {a b : Nat} (hr : ss.Pairwise (· < ·)) (hm : ∀ s, s ∈ ss ↔ s = a ∨ s = b) (hab : a ≠ b) : ss = [a, b] ∨ ss = [b, a] := by
 have h2 : ∀ {x y : Nat}, x < y → (∀ s, s ∈ ss ↔ s = x ∨ s = y) → ss = [x, y] := fun hxy hm => rise_eq hr (by simp [hxy]) (fun s => by rw [hm s]; simp)
 rcases Nat.lt_or_gt_of_ne hab with h | h
 ·exact Or.inl (h2 h hm)
 ·exact Or.inr (h2 h (fun s => (hm s).trans or_comm))
end Go.Proofs.YtggdkfijioeijaaGreatDoor
namespace Go.Proofs.YtggdkfijioeijaaGreatDoor
open Go Go.RowKit Go.Maps
structure TRows (B : Nat) (w : World) (V : Nat → Value) (T : Tl) : Prop where
 g : w.ownsRow B 61 4 (V 0) T.got.length (T.got.flatMap gtC)
 u : w.ownsRow B 25 1 (V 1) T.nums.length (T.nums.flatMap nuC)
 s : w.ownsRow B 9 1 (V 2) T.names.length (T.names.flatMap naC)
theorem TRows.below {B : Nat} {w w' : World} {V : Nat → Value} {T : Tl} (h : TRows B w V T) (hb : Below w.heap.size w w') : TRows B w' V T := ⟨ownBelow h.g hb, ownBelow h.u hb, ownBelow h.s hb⟩
theorem row_grown {w w8 : World} {B k e n k' e' n' : Nat} {v v' : Value} {xs xs' : List Value} {B' : Nat} (h : w.ownsRow B e k v n xs) (h' : w.ownsRow B' e' k' v' n' xs') (he : e ≠ e') (hg : w.grownBy w8 v'.ownBlock) : w8.ownsRow B e k v n xs := by
 refine row_but h (grown_but hg) (fun g hv hv' => ?_)
 obtain ⟨_, C, h1⟩ := own_block h hv
 obtain ⟨_, C', h2⟩ := own_block h' hv'
 rw [h1] at h2
 have := Option.some.inj h2
 injection this with _ h4 _
 exact he h4
theorem TRows.grown {w w8 : World} {B n : Nat} {V : Nat → Value} {T : Tl} {v : Value} {xs : List Value} {B' : Nat} (h : TRows B w V T) (h' : w.ownsRow B' 54 4 v n xs) (hg : w.grownBy w8 v.ownBlock) : TRows B w8 V T :=
 ⟨row_grown h.g h' (by decide) hg, row_grown h.u h' (by decide) hg, row_grown h.s h' (by decide) hg⟩
def tlCs (V : Nat → Nat → Value) (T : Nat → Tl) (j : Nat) : List Value := (tlV (T j) (V j 0) (V j 1) (V j 2)).toList
theorem tlCs_len (V : Nat → Nat → Value) (T : Nat → Tl) (j : Nat) : (tlCs V T j).length = 4 := rfl
structure TI (B : Nat) (T : Nat → Tl) (V : Nat → Nat → Value) (v : Value) (i : Nat) (w : World) : Prop where
 row : w.ownsRow B 54 4 v i ((List.range i).flatMap (tlCs V T))
 rows : ∀ j, j < i → TRows B w (V j) (T j)
theorem TI.start (B : Nat) (T : Nat → Tl) (V : Nat → Nat → Value) (w : World) : TI B T V (.slice none 0 0) 0 w := ⟨World.ownsRow_nil _ _ _ _, fun _j hj => absurd hj (Nat.not_lt_zero _)⟩
theorem TI.below {B : Nat} {T : Nat → Tl} {V : Nat → Nat → Value} {v : Value} {i : Nat} {w w' : World} (h : TI B T V v i w) (hb : Below w.heap.size w w') : TI B T V v i w' := ⟨ownBelow h.row hb, fun j hj => (h.rows j hj).below hb⟩
def Vi (V : Nat → Nat → Value) (i : Nat) (f : Nat → Value) : Nat → Nat → Value := fun x => if x = i then f else V x
theorem Vi_eq (V : Nat → Nat → Value) (i : Nat) (f : Nat → Value) : Vi V i f i = f := if_pos rfl
theorem Vi_ne (V : Nat → Nat → Value) {i x : Nat} (f : Nat → Value) (h : x ≠ i) : Vi V i f x = V x := if_neg h
def V3 (v0 v1 v2 : Value) : Nat → Value := fun t => if t = 0 then v0 else if t = 1 then v1 else v2
theorem TI.step {B : Nat} {T : Nat → Tl} {V : Nat → Nat → Value} {v v' : Value} {i : Nat} {W w8 : World} (h : TI B T V v i W) {v0 v1 v2 : Value} {T1 : Tl} (hT : T i = T1) (hR : TRows B W (V3 v0 v1 v2) T1) (hg : W.grownBy w8 v.ownBlock)
  (hrow : w8.ownsRow B 54 4 v' (i + 1) ((List.range i).flatMap (tlCs V T) ++ [.int .u32 (T1.shard : Int), v0, v1, v2])) : TI B T (Vi V i (V3 v0 v1 v2)) v' (i + 1) w8 := by
 subst hT
 refine ⟨?_, fun j hj => ?_⟩
 ·have e : (List.range (i + 1)).flatMap (tlCs (Vi V i (V3 v0 v1 v2)) T) = (List.range i).flatMap (tlCs V T) ++ [.int .u32 ((T i).shard : Int), v0, v1, v2] := by
   rw [List.range_succ, List.flatMap_append]
   congr 1
   ·rw [List.flatMap_def, List.flatMap_def]
    congr 1
    refine List.map_congr_left fun x hx => ?_
    unfold tlCs; rw [Vi_ne V _ (Nat.ne_of_lt (List.mem_range.1 hx))]
   ·simp only [List.flatMap_cons, List.flatMap_nil, List.append_nil]
    unfold tlCs; rw [Vi_eq]; rfl
  rw [e]; exact hrow
 ·by_cases e : j = i
  ·subst e; rw [Vi_eq]; exact hR.grown h.row hg
  ·rw [Vi_ne V _ e]; exact (h.rows j (by omega)).grown h.row hg
theorem TI.told {B n : Nat} {T : Nat → Tl} {V : Nat → Nat → Value} {v : Value} {w : World} {ts : List Tl} (h : TI B T V v n w) (hn : ts.length = n) (hT : ∀ i, i < n → ts.getD i dTl = T i) : IsTold w v ts := by
 subst hn
 rcases h.row.2 with ⟨hv, h0⟩ | ⟨g, cap, cur, hv, _, hg, _⟩
 ·exact ⟨none, 0, by rw [hv, h0], Or.inl (List.length_eq_zero_iff.1 h0)⟩
 ·refine ⟨_, cap, hv, Or.inr ⟨g, 0, rfl, (Array.getElem?_eq_some_iff.1 hg).1, fun i hi => ?_⟩⟩
  rw [hT i hi]
  have hr := h.rows i hi
  refine ⟨V i 0, V i 1, V i 2, fun j u hu => ?_, IsL.own gtC_len (by decide) _ hr.g, IsL.own nuC_len (by decide) _ hr.u, IsL.own naC_len (by decide) _ hr.s⟩
  have hj : j < 4 := (Array.getElem?_eq_some_iff.1 hu).1
  have hrow := h.row
  rw [hv] at hrow
  rw [Nat.zero_add, World.ownsRow.cellAt hrow (i * 4 + j) (by omega)]
  have hi2 : i < (List.range ts.length).length := by rw [List.length_range]; exact hi
  have hgi : (List.range ts.length).getD i 0 = i := by rw [List.getD_eq_getElem?_getD, List.getElem?_eq_getElem hi2, List.getElem_range]; rfl
  refine flat_at (tlCs_len V T) 0 (List.range ts.length) i hi2 j u ?_
  rw [hgi]
  have hu2 : (tlCs V T i).toArray[j]? = some u := hu
  simpa using hu2
def TX (q s : Nat) (v1 v2 v3 : Value) (w : World) : Prop := w.heap[q]? = some (.cells #[.int .u32 (s : Int), v1, v2, v3] 54 (0, 0))
theorem TX.cells {q s : Nat} {v1 v2 v3 : Value} {w : World} (h : TX q s v1 v2 v3 w) : w.cell? ⟨q, 0, none⟩ = some (.int .u32 (s : Int)) ∧ w.cell? ⟨q, 1, none⟩ = some v1 ∧ w.cell? ⟨q, 2, none⟩ = some v2 ∧ w.cell? ⟨q, 3, none⟩ = some v3 := ⟨cell_of h 0, cell_of h 1, cell_of h 2, cell_of h 3⟩
theorem TX.frozen {q s : Nat} {v1 v2 v3 : Value} {w : World} (h : TX q s v1 v2 v3 w) (j : Nat) : w.frozen? ⟨q, j, none⟩ = false := frozen_of h j
theorem TX.below {q s B : Nat} {v1 v2 v3 : Value} {w w' : World} (h : TX q s v1 v2 v3 w) (hC : q < B) (hb : Below B w w') : TX q s v1 v2 v3 w' := (hb.block q hC).trans h
theorem TX.set1 {q s : Nat} {v1 v2 v3 v : Value} {w : World} (h : TX q s v1 v2 v3 w) : TX q s v v2 v3 (w.setCell ⟨q, 1, none⟩ v) := setCell_block h _
theorem TX.set2 {q s : Nat} {v1 v2 v3 v : Value} {w : World} (h : TX q s v1 v2 v3 w) : TX q s v1 v v3 (w.setCell ⟨q, 2, none⟩ v) := setCell_block h _
theorem TX.set3 {q s : Nat} {v1 v2 v3 v : Value} {w : World} (h : TX q s v1 v2 v3 w) : TX q s v1 v2 v (w.setCell ⟨q, 3, none⟩ v) := setCell_block h _
theorem tx_app {q s B k e n : Nat} {wr w1 w8 : World} {v1 v2 v3 v : Value} {xs : List Value} {o : Option Nat} (hC : q < B) (hcb : TX q s v1 v2 v3 wr) (hb1 : Below wr.heap.size wr w1) (hB : B ≤ wr.heap.size) (hg : w1.grownBy w8 o) (ho : ∀ j, o = some j → B ≤ j) (hrow : w8.ownsRow B e k v n xs) :
  TX q s v1 v2 v3 w8 ∧ (∃ X, w8.setCell ⟨q, 1, none⟩ v = X ∧ TX q s v v2 v3 X ∧ X.ownsRow B e k v n xs ∧ KX q B wr X) ∧ (∃ X, w8.setCell ⟨q, 2, none⟩ v = X ∧ TX q s v1 v v3 X ∧ X.ownsRow B e k v n xs ∧ KX q B wr X) ∧ (∃ X, w8.setCell ⟨q, 3, none⟩ v = X ∧ TX q s v1 v2 v X ∧ X.ownsRow B e k v n xs ∧ KX q B wr X) := by
 have h1 : TX q s v1 v2 v3 w1 := (hb1.block q (by omega)).trans hcb
 have h8 : TX q s v1 v2 v3 w8 := (hg.block q (lt_of_block h1) (fun e => by have := ho q e.symm; omega)).trans h1
 have hk : KX q B wr w8 := (KX.of (hb1.mono hB)).trans (KX.row hg ho (Nat.le_trans hB hb1.size))
 exact ⟨h8, ⟨_, rfl, h8.set1, ownsRow_setCell_below hrow (by dsimp only; omega) _, hk.trans (KX.set B w8 ⟨q, 1, none⟩ _)⟩, ⟨_, rfl, h8.set2, ownsRow_setCell_below hrow (by dsimp only; omega) _, hk.trans (KX.set B w8 ⟨q, 2, none⟩ _)⟩, ⟨_, rfl, h8.set3, ownsRow_setCell_below hrow (by dsimp only; omega) _, hk.trans (KX.set B w8 ⟨q, 3, none⟩ _)⟩⟩
theorem infoTl : (Tryz.prog.info? 54).map (fun i => (i.zero, i.size, i.bytes)) = some (some (.agg #[.int .u32 0, .slice none 0 0, .slice none 0 0, .slice none 0 0]), 4, 80) := by kernel_rfl
theorem infoSt1 : (Tryz.prog.info? 9).map (fun i => (i.zero, i.size, i.bytes)) = some (some (.string ByteArray.empty), 1, 16) := by kernel_rfl
theorem naC_ones (l : List ByteArray) : ∀ u ∈ l.flatMap naC, u.oneCell' = true := by
 intro u hu
 obtain ⟨x, _, hx⟩ := List.mem_flatMap.1 hu
 have : u = .string x := by simpa [naC] using hx
 rw [this]; rfl
end Go.Proofs.YtggdkfijioeijaaGreatDoor
namespace Go.Proofs.YtggdkfijioeijaaGreatDoor
open Go Go.RowKit
def findReg (n : Nat) : Code → Option (Array Oper)
 | .region k ops _ => if k = n then some ops else none
 | .seq a b => match findReg n a with
  | some o => some o
  | none => findReg n b
 | .cond _ a b => match findReg n a with
  | some o => some o
  | none => findReg n b
 | .block _ c => findReg n c
 | .loop c => findReg n c
 | .scope c => findReg n c
 | _ => none
abbrev AF (base : Array Value) (lo n : Nat) (f : Nat → Value) : Act := { tmps := FsO base lo n f, defers := [] }
theorem AF_put {base : Array Value} {lo n k : Nat} {f : Nat → Value} (v : Value) (hk : k < n) : (AF base lo n f).put (some (lo + k)) v = AF base lo n (fPut f k v) := by
 show ({ tmps := (FsO base lo n f).setIfInBounds (lo + k) v, defers := [] } : Act) = _
 rw [FsO_set hk]
theorem qf_step {P : Program} {ops : Array Oper} {C : World → Prop} {Q : Act → Prop} {base : Array Value} {lo n : Nat} {f : Nat → Value} {o : Oper} {rest : List Oper} (k : Nat) (hd : o.dst = some (lo + k)) (hk : k < n) (hw : Region.wanted o (yielded ops (FsO base lo n f)) = true) (v : Value)
  (h : ∀ w, C w → (execOp (AF base lo n f).eval o).run P w = .ok (.value v) w) (k' : wpQuiet P ops C Q rest (AF base lo n (fPut f k v))) : wpQuiet P ops C Q (o :: rest) (AF base lo n f) := by
 refine quiet_plain hw v h ?_
 rw [hd, AF_put v hk]; exact k'
theorem qf_skip {P : Program} {ops : Array Oper} {C : World → Prop} {Q : Act → Prop} {base : Array Value} {lo n : Nat} {f : Nat → Value} {o : Oper} {rest : List Oper} (k : Nat) (hd : o.dst = some (lo + k)) (hk : k < n) (hw : Region.wanted o (yielded ops (FsO base lo n f)) = false)
  (k' : wpQuiet P ops C Q rest (AF base lo n (fPut f k undef))) : wpQuiet P ops C Q (o :: rest) (AF base lo n f) := by
 refine quiet_skip hw ?_
 rw [hd, AF_put undef hk]; exact k'
theorem FsO_get? {base : Array Value} {lo n : Nat} {f : Nat → Value} (o : Nat) (h : lo + n ≤ base.size) (h1 : o < n) : (FsO base lo n f)[lo + o]? = some (f o) := by
 simp [FsO, show lo + o < base.size by omega, h1]
theorem yield_in {ops : Array Oper} {base : Array Value} {lo n : Nat} {f : Nat → Value} {j o : Nat} {b : Bool} {op : Oper} (hop : ops[j]? = some op) (hd : op.dst = some (lo + o)) (h : lo + n ≤ base.size) (ho : o < n) (hv : f o = .bool b) : yielded ops (FsO base lo n f) j = some b := by
 unfold yielded
 rw [hop]
 simp only [Option.bind_some, hd]
 rw [FsO_get? o h ho, hv]
theorem wanted_none {o : Oper} {y : Nat → Option Bool} (h : o.guard = none) : Region.wanted o y = true := by unfold Region.wanted; rw [h]
theorem wanted_some {o : Oper} {y : Nat → Option Bool} {j : Nat} {b b' r : Bool} (h : o.guard = some (j, b')) (hy : y j = some b) (e : (b == b') = r) : Region.wanted o y = r := by
 unfold Region.wanted; rw [h]; simp only [hy]; subst e; cases b <;> cases b' <;> rfl
theorem AF_eval {base : Array Value} {lo n : Nat} {f : Nat → Value} (h : lo + n ≤ base.size) (k : Nat) : (AF base lo n f).eval (.tmp k) = if lo ≤ k ∧ k < lo + n then f (k - lo) else base.getD k undef := by
 show (FsO base lo n f).getD k undef = _
 by_cases e : lo ≤ k ∧ k < lo + n
 ·rw [if_pos e]
  have := FsO_in (f := f) (k - lo) h (by omega) rfl
  rwa [show lo + (k - lo) = k by omega] at this
 ·rw [if_neg e]
  simp only [FsO, Array.getD_eq_getD_getElem?, Array.getElem?_mapIdx, if_neg e]
  cases base[k]? <;> rfl
def splice : List Value → Nat → Nat → (Nat → Value) → Nat → List Value
 | [], _, _, _, _ => []
 | v :: r, 0, 0, _, _ => v :: r
 | _ :: r, 0, n + 1, f, o => f o :: splice r 0 n f (o + 1)
 | v :: r, lo + 1, n, f, o => v :: splice r lo n f o
theorem splice_get (l : List Value) : ∀ (lo n : Nat) (f : Nat → Value) (o i : Nat), (splice l lo n f o)[i]? = l[i]?.map (fun v => if lo ≤ i ∧ i < lo + n then f (i - lo + o) else v) := by
 induction l with
 | nil => intro lo n f o i; simp [splice]
 | cons v r ih =>
  intro lo n f o i
  match lo, n with
  | 0, 0 =>
   rw [splice]
   cases i with
   | zero => simp
   | succ i =>
    simp only [List.getElem?_cons_succ]
    cases r[i]? with
    | none => rfl
    | some x => simp
  | 0, n + 1 =>
   rw [splice]
   cases i with
   | zero => simp
   | succ i =>
    simp only [List.getElem?_cons_succ, ih]
    cases r[i]? with
    | none => rfl
    | some x =>
     simp only [Option.map_some, Nat.zero_le, true_and, Nat.zero_add, Nat.sub_zero, Nat.add_lt_add_iff_right]
     rw [show i + (o + 1) = i + 1 + o by omega]
  | lo + 1, n =>
   rw [splice]
   cases i with
   | zero => simp
   | succ i =>
    simp only [List.getElem?_cons_succ, ih]
    cases r[i]? with
    | none => rfl
    | some x =>
     simp only [Option.map_some, Nat.add_le_add_iff_right, show (i + 1 < lo + 1 + n) = (i < lo + n) from propext (by omega), show i + 1 - (lo + 1) = i - lo by omega]
theorem AF_splice (l : List Value) (lo n : Nat) (f : Nat → Value) : AF l.toArray lo n f = ⟨(splice l lo n f 0).toArray, []⟩ := by
 show ({ tmps := FsO l.toArray lo n f, defers := [] } : Act) = _
 congr 1
 apply Array.ext_getElem?
 intro i
 simp only [FsO, Array.getElem?_mapIdx, List.getElem?_toArray, splice_get, Nat.add_zero]
end Go.Proofs.YtggdkfijioeijaaGreatDoor
