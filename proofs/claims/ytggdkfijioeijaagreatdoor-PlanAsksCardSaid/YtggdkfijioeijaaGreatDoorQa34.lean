/- plan.Asks and scriniumref28.Asks, of any call: told in one form, which leaves one answer. Law 28: heavy: what it lets through is small. Law 28: works: the document's example. -/
import Derived.Test.YtggdkfijioeijaaGreatDoorQa05
import Derived.Test.YtggdkfijioeijaaGreatDoorQa18
import Derived.Test.YtggdkfijioeijaaGreatDoorQa20
import Derived.Test.YtggdkfijioeijaaGreatDoorQa23
import Derived.Test.YtggdkfijioeijaaGreatDoorQa24
import Derived.Test.YtggdkfijioeijaaGreatDoorQa25
import Derived.Test.YtggdkfijioeijaaGreatDoorQa26
import Derived.Test.YtggdkfijioeijaaGreatDoorQa28
import Derived.Test.YtggdkfijioeijaaGreatDoorQa30
import Derived.Test.YtggdkfijioeijaaGreatDoorQa31
import Derived.Test.YtggdkfijioeijaaGreatDoorQa33
namespace Go.Proofs.YtggdkfijioeijaaGreatDoor
open Go Go.RowKit
def AskSpec (O : Nat → Nat) (sp : List (Nat × Nat)) (e1 kind : Nat) (rds : List Rd) (eds : List Ed) (pre : ByteArray) (f t tw : Nat) (z : Int) (L : List Ask) : Prop :=
 (mayZ kind rds eds pre f t tw ≠ 0 ∧ z = mayZ kind rds eds pre f t tw ∧ L = []) ∨
 (mayZ kind rds eds pre f t tw = 0 ∧ kind = 1 ∧ z = 0 ∧ ∃ ss : List Nat, ss.Pairwise (· < ·) ∧ (∀ s, s ∈ ss ↔ Sk O rds eds rds.length eds.length s) ∧ L = ss.map (askTo O rds eds rds.length eds.length)) ∨
 (mayZ kind rds eds pre f t tw = 0 ∧ kind = 2 ∧ z = 0 ∧ ∃ ss : List Nat, ss.Pairwise (· < ·) ∧ (∀ s, s ∈ ss ↔ ∃ k, k < sp.length ∧ (sp.getD k d0).2 = s) ∧ L = ss.map (lstA pre)) ∨
 (mayZ kind rds eds pre f t tw = 0 ∧ kind = 3 ∧ SplitC O f t tw e1 (splitL sp f t tw).length z ∧ ((z ≠ 0 ∧ L = []) ∨ (z = 0 ∧ ∃ ss : List Nat, ss.Pairwise (· < ·) ∧ (∀ s, s ∈ ss ↔ s = O f ∨ s = tw) ∧ L = ss.map (splA (O f) tw f t))))
theorem AskSpec.uniq {O : Nat → Nat} {sp : List (Nat × Nat)} {e1 kind : Nat} {rds : List Rd} {eds : List Ed} {pre : ByteArray} {f t tw : Nat} {z z' : Int} {L L' : List Ask} (h : AskSpec O sp e1 kind rds eds pre f t tw z L) (h' : AskSpec O sp e1 kind rds eds pre f t tw z' L') : z = z' ∧ L = L' := by
 rcases h with ⟨a, rfl, rfl⟩ | ⟨a, k, rfl, ss, h1, h2, rfl⟩ | ⟨a, k, rfl, ss, h1, h2, rfl⟩ | ⟨a, k, hc, h⟩ <;> rcases h' with ⟨a', rfl, rfl⟩ | ⟨a', k', rfl, ss', h1', h2', rfl⟩ | ⟨a', k', rfl, ss', h1', h2', rfl⟩ | ⟨a', k', hc', h'⟩
 all_goals first | exact absurd a' a | exact absurd a a' | (exfalso; omega) | skip
 ·exact ⟨rfl, rfl⟩
 ·exact ⟨rfl, by rw [rise_eq h1 h1' (fun x => (h2 x).trans (h2' x).symm)]⟩
 ·exact ⟨rfl, by rw [rise_eq h1 h1' (fun x => (h2 x).trans (h2' x).symm)]⟩
 ·obtain rfl : z = z' := SplitC.same hc hc' (fun _ => Iff.rfl) Iff.rfl
  refine ⟨rfl, ?_⟩
  rcases h with ⟨n, rfl⟩ | ⟨n, ss, h1, h2, rfl⟩ <;> rcases h' with ⟨n', rfl⟩ | ⟨n', ss', h1', h2', rfl⟩
  ·rfl
  ·exact absurd n' n
  ·exact absurd n n'
  ·rw [rise_eq h1 h1' (fun x => (h2 x).trans (h2' x).symm)]
theorem mayZ_kind {kind : Nat} {rds : List Rd} {eds : List Ed} {pre : ByteArray} {f t tw : Nat} (h : mayZ kind rds eds pre f t tw = 0) : kind = 1 ∨ kind = 2 ∨ kind = 3 := by
 by_cases h1 : kind = 1
 ·exact Or.inl h1
 ·by_cases h2 : kind = 2
  ·exact Or.inr (Or.inl h2)
  ·by_cases h3 : kind = 3
   ·exact Or.inr (Or.inr h3)
   ·unfold mayZ at h; rw [if_neg h1, if_neg h2, if_neg h3] at h; cases h
def AskAny (O : Nat → Nat) (sp : List (Nat × Nat)) (e1 kind : Nat) (rds : List Rd) (eds : List Ed) (pre : ByteArray) (f t tw : Nat) (w : World) (e : Ending) (w' : World) : Prop :=
 ∃ (v : Value) (z : Int) (L : List Ask), e = .returned (.tuple #[v, .int .i64 z]) ∧ IsAsks w' v L ∧ AskSpec O sp e1 kind rds eds pre f t tw z L ∧ Below w.heap.size w w'
theorem isAsks_nil (w : World) : IsAsks w (.slice none 0 0) [] := ⟨none, 0, rfl, Or.inl rfl⟩
theorem mayZ_two {rds : List Rd} {eds : List Ed} {pre : ByteArray} {f t tw : Nat} (h : mayZ 2 rds eds pre f t tw = 0) : Pth.prefL pre.data.toList = true := by
 have e : mayZ 2 rds eds pre f t tw = (if Pth.prefL pre.data.toList = true then 0 else 2) := (if_neg (by decide)).trans (if_pos rfl)
 rw [e] at h
 by_cases c : Pth.prefL pre.data.toList = true
 ·exact c
 ·rw [if_neg c] at h; cases h
theorem mayZ_three {rds : List Rd} {eds : List Ed} {pre : ByteArray} {f t tw : Nat} (h : mayZ 3 rds eds pre f t tw = 0) : f ≤ t ∧ 0 < tw := by
 have e : mayZ 3 rds eds pre f t tw = (if f ≤ t ∧ 0 < tw then 0 else 2) := (if_neg (by decide)).trans ((if_neg (by decide)).trans (if_pos rfl))
 rw [e] at h
 by_cases c : f ≤ t ∧ 0 < tw
 ·exact c
 ·rw [if_neg c] at h; cases h
theorem asks_any (m e kind : Nat) (sp : List (Nat × Nat)) (O : Nat → Nat) (rds : List Rd) (eds : List Ed) (vR vE : Value) (pre : ByteArray) (f t tw : Nat) (w : World) (hM : MapAt w m e sp) (hl : sp.length ≤ 10000) (hS : SpI O sp M64) (hO : ∀ u, 1 ≤ O u ∧ O u < 4294967296) (ht : t < M64) (htw : tw < 4294967296) (hk : kind < 256)
  (hR : IsRds w vR rds) (hE : IsEds w vE eds) (hm : MX w) (hsr : ∀ r ∈ rds, SmallRd r) (hse : ∀ x ∈ eds, SmallEd x) (hlr : rds.length ≤ 1000) (hle : eds.length ≤ 1000) (hp : pre.size ≤ 140737488351232) (hpr : ∀ r ∈ rds, r.path.size ≤ 100000) (hpe : ∀ x ∈ eds, x.path.size ≤ 100000) :
  Calls Tryz.prog 10 #[.pointer (some ⟨m, 0, none⟩), .agg (callC kind vR vE pre f t tw)] w (AskAny O sp ((e + 1) % M64) kind rds eds pre f t tw w) := by
 by_cases hz : mayZ kind rds eds pre f t tw = 0
 ·obtain ⟨aR, cR, hvR⟩ := isl_shape hR
  obtain ⟨aE, cE, hvE⟩ := isl_shape hE
  rcases mayZ_kind hz with rfl | rfl | rfl
  ·obtain ⟨h1, h2, h3, h4, h5⟩ := mayZ_one hz
   exact (asks_ops m e sp O rds eds vR vE pre f t tw w hM (by omega) hS (fun u => (hO u).2) hR hE hm hsr hse h1 h2 h3 h4 h5 hpr hpe).mono fun en w' ⟨v, ss, he, g1, g2, g3, g4⟩ => ⟨v, 0, _, he, g3, Or.inr (Or.inl ⟨hz, rfl, rfl, ss, g1, g2, rfl⟩), g4⟩
  ·subst hvR hvE
   exact (asks_list m e sp O aR _ cR aE _ cE pre f t tw w hM hl hS (fun u => (hO u).2) hm hp (mayZ_two hz)).mono fun en w' ⟨v, ss, he, g1, g2, g3, g4⟩ => ⟨v, 0, _, he, g3, Or.inr (Or.inr (Or.inl ⟨hz, rfl, rfl, ss, g1, g2, rfl⟩)), g4⟩
  ·subst hvR hvE
   obtain ⟨h1, h2⟩ := mayZ_three hz
   refine (asks_split m e sp O aR _ cR aE _ cE pre f t tw w hM hl hS hO ht htw h1 h2).mono fun en w' ⟨c, hc, hb, h⟩ => ?_
   rcases h with ⟨g1, g2⟩ | ⟨rfl, v, ss, he, g1, g2, g3⟩
   ·exact ⟨_, c, [], g2, isAsks_nil _, Or.inr (Or.inr (Or.inr ⟨hz, rfl, hc, Or.inl ⟨g1, rfl⟩⟩)), hb⟩
   ·exact ⟨v, 0, _, he, g3, Or.inr (Or.inr (Or.inr ⟨hz, rfl, hc, Or.inr ⟨rfl, ss, g1, g2, rfl⟩⟩)), hb⟩
 ·exact (asks_no m kind rds eds vR vE pre f t tw w hk hR hE hm hsr hse hlr hle hp hz).mono fun en w' ⟨h1, h2⟩ => ⟨_, _, [], h1, isAsks_nil _, Or.inl ⟨hz, rfl, rfl⟩, h2⟩
theorem ref28_asks_any (r e kind : Nat) (sp : List (Nat × Nat)) (O : Nat → Nat) (rds : List Rd) (eds : List Ed) (vR vE : Value) (pre : ByteArray) (f t tw : Nat) (w : World) (hD : DocAt w r e sp) (hl : sp.length ≤ 2048) (hS : SpI O sp M64) (hO : ∀ u, 1 ≤ O u ∧ O u < 4294967296) (ht : t < M64)
  (hR : IsRds w vR rds) (hE : IsEds w vE eds) (hsr : ∀ r ∈ rds, SmallRd r) (hse : ∀ x ∈ eds, SmallEd x) (hlr : rds.length ≤ 1000) (hle : eds.length ≤ 1000) (hp : pre.size ≤ 140737488351232) (hpr : ∀ r ∈ rds, r.path.size ≤ 100000) (hpe : ∀ x ∈ eds, x.path.size ≤ 100000) :
  Calls Tryz.prog 12 #[.pointer (some ⟨r, 0, none⟩), .agg (callC kind vR vE pre f t tw)] w (AskAny O sp ((e + 1) % M64) kind rds eds pre f t tw w) := by
 have hl1 : 1 ≤ sp.length := List.length_pos_iff.2 hS.ne
 by_cases hz : mayZ kind rds eds pre f t tw = 0
 ·obtain ⟨aR, cR, hvR⟩ := isl_shape hR
  obtain ⟨aE, cE, hvE⟩ := isl_shape hE
  subst hvR hvE
  rcases mayZ_kind hz with rfl | rfl | rfl
  ·exact (ref28_asks_ops r e sp O rds eds aR _ cR aE _ cE pre f t tw w hD (by omega) hS rfl rfl hR hE hsr hse hlr hle hp hz hpr hpe).mono fun en w' ⟨v, ss, he, g1, g2, g3, g4⟩ => ⟨v, 0, _, he, g3, Or.inr (Or.inl ⟨hz, rfl, rfl, ss, g1, g2, rfl⟩), g4⟩
  ·exact (ref28_asks_list r e sp rds eds aR _ cR aE _ cE pre f t tw w hD hl hl1 hR hE hsr hse hlr hle hp hz).mono fun en w' ⟨v, ss, he, g1, g2, g3, g4⟩ => ⟨v, 0, _, he, g3, Or.inr (Or.inr (Or.inl ⟨hz, rfl, rfl, ss, g1, g2, rfl⟩)), g4⟩
  ·refine (ref28_asks_split r e sp O rds eds aR _ cR aE _ cE pre f t tw w hD (by omega) hS (fun u => (hO u).1) ht hR hE hsr hse hlr hle hp hz).mono fun en w' ⟨c, hc, hb, h⟩ => ?_
   rcases h with ⟨g1, g2⟩ | ⟨rfl, v, ss, he, g1, g2, g3⟩
   ·exact ⟨_, c, [], g2, isAsks_nil _, Or.inr (Or.inr (Or.inr ⟨hz, rfl, hc, Or.inl ⟨g1, rfl⟩⟩)), hb⟩
   ·exact ⟨v, 0, _, he, g3, Or.inr (Or.inr (Or.inr ⟨hz, rfl, hc, Or.inr ⟨rfl, ss, g1, g2, rfl⟩⟩)), hb⟩
 ·exact (ref28_asks_no r kind rds eds vR vE pre f t tw w hR hE hsr hse hlr hle hp hz).mono fun en w' ⟨h1, h2⟩ => ⟨_, _, [], h1, isAsks_nil _, Or.inl ⟨hz, rfl, rfl⟩, h2⟩
end Go.Proofs.YtggdkfijioeijaaGreatDoor
namespace Go.Proofs.YtggdkfijioeijaaGreatDoor
open Go Go.RowKit Pth
theorem isl_at2 {α : Type} {k : Nat} {C : α → List Value} {z : α} {w : World} {a : Option Addr} {n c j : Nat} {l : List α} (h : IsL k C z w (.slice a n c) l) (hj : j < l.length) : ∃ b off, a = some ⟨b, off, none⟩ ∧ ∀ q u, (C (l.getD j z))[q]? = some u → w.cell? ⟨b, off + j * k + q, none⟩ = some u := by
 obtain ⟨a', c', he, h⟩ := h
 cases he
 obtain ⟨b, off, rfl, _, hc⟩ := h.resolve_left (fun h => by rw [h] at hj; simp at hj)
 exact ⟨b, off, rfl, hc j hj⟩
def HvyG (rds : List Rd) (eds : List Ed) (pre : ByteArray) (LN : Nat) (w : World) (e : Ending) (w' : World) : Prop :=
 ∃ b, e = .returned (.bool b) ∧ (b = false → rds.length ≤ 30 ∧ eds.length ≤ 30 ∧ LN ≤ 10 ∧ pre.size ≤ 2000 ∧ (∀ i, i < rds.length → (rds.getD i dRd).path.size ≤ 2000) ∧ ∀ i, i < eds.length → (eds.getD i dEd).path.size ≤ 2000 ∧ (eds.getD i dEd).text.size ≤ 16007) ∧ Below w.heap.size w w'
set_option maxRecDepth 100000 in
set_option maxHeartbeats 4000000 in
theorem law28_heavy (kind : Nat) (rds : List Rd) (eds : List Ed) (vR vE : Value) (pre : ByteArray) (f t tw : Nat) (aL : Option Addr) (LN cL : Nat) (w : World) (hR : IsRds w vR rds) (hE : IsEds w vE eds) (hp : pre.size ≤ 140737488351232)
  (hsr : ∀ i, i < rds.length → (rds.getD i dRd).path.size ≤ 140737488351232) (hse : ∀ i, i < eds.length → (eds.getD i dEd).path.size ≤ 140737488351232 ∧ (eds.getD i dEd).text.size ≤ 140737488351232) :
  Calls Tryz.prog 7 #[.agg (callC kind vR vE pre f t tw), .slice aL LN cL] w (HvyG rds eds pre LN w) := by
 obtain ⟨aR, cR, rfl⟩ := isl_shape hR
 obtain ⟨aE, cE, rfl⟩ := isl_shape hE
 obtain ⟨nr, hnr⟩ : ∃ nr, rds.length = nr := ⟨_, rfl⟩
 obtain ⟨ne, hne⟩ : ∃ ne, eds.length = ne := ⟨_, rfl⟩
 rw [hnr] at hR hsr ⊢
 rw [hne] at hE hse ⊢
 have HR := Lib.hid hR; have HE := Lib.hid hE; have HSR := Lib.hid hsr; have HSE := Lib.hid hse; have HNR := Lib.hid hnr; have HNE := Lib.hid hne
 obtain ⟨W0, hW0⟩ : ∃ W0, w.alloc (.cells (callC kind (.slice aR nr cR) (.slice aE ne cE) pre f t tw) 30) = W0 := ⟨_, rfl⟩
 obtain ⟨hz0, hblk, hB0⟩ := alloc_keep hW0
 have hlt0 : w.heap.size < W0.heap.size := by omega
 have KP := Lib.hid (fun (W : World) (h : Below W0.heap.size W0 W) => show W.cell? ⟨w.heap.size, 1, none⟩ = some (.slice aR nr cR) ∧ W.cell? ⟨w.heap.size, 2, none⟩ = some (.slice aE ne cE) ∧ W.cell? ⟨w.heap.size, 3, none⟩ = some (.string pre) by
  have hb := (h.block _ hlt0).trans hblk
  exact ⟨cell_of hb 1, cell_of hb 2, cell_of hb 3⟩)
 obtain ⟨x1, x2, x3⟩ := KP.out W0 (Below.refl _ _)
 have HB0 := Lib.hid hB0
 clear hB0 hblk hlt0 hz0 hR hE hsr hse hnr hne
 go_enter Tryz.func7, Tryz.ntmps7
 go_upto_region 1 with fail
 clear hW0
 go_wp2_with fail
 clear x3
 go_loopw [5, 6] (fun vn vi wr => ∃ i S1 : Nat, i ≤ nr ∧ i ≤ 40 ∧ vi = .int .i64 i ∧ vn = .int .i64 S1 ∧ Hid (pre.size ≤ S1 ∧ (∀ q, q < i → (rds.getD q dRd).path.size ≤ S1) ∧ S1 ≤ (1 + i) * 140737488351232) ∧ Hid (Below W0.heap.size W0 wr)) (fun _ vi _ => nr - (intOf vi).toNat)
 case atStart => exact ⟨0, pre.size, Nat.zero_le _, by omega, rfl, rfl, Lib.hid ⟨Nat.le_refl _, fun q hq => by omega, by omega⟩, Lib.hid (Below.refl _ _)⟩
 case round =>
  clear x1 x2
  obtain ⟨i, S1, hi, hi40, rfl, rfl, HP1, HBr⟩ := hrel
  obtain ⟨x1, x2, _⟩ := KP.out wr HBr.out
  have HBE := Lib.hid (HB0.out.trans (HBr.out.mono HB0.out.size))
  have hs1 : S1 ≤ 5770237022400512 := by have := HP1.out.2.2; omega
  by_cases hlt : i < nr
  ·have hii : (i : Int) < (nr : Int) := by omega
   by_cases h40 : i < 40
   ·have h4i : (i : Int) < 40 := by omega
    obtain ⟨bR, oR, rfl, hc⟩ := isl_at2 (HR.out.below HBE.out (Nat.le_refl _)) (j := i) (by rw [HNR.out]; exact hlt)
    have q1 := HSR.out i hlt
    obtain ⟨x, hx⟩ : ∃ x, rds.getD i dRd = x := ⟨_, rfl⟩
    rw [hx] at hc q1
    have y0 : wr.cell? ⟨bR, oR + i * 2, none⟩ = some (.string x.path) := hc 0 _ rfl
    have hq1 : S1 + x.path.size ≤ 9223372036854775807 := by omega
    have HX : Hid (pre.size ≤ S1 + x.path.size ∧ (∀ q, q < i + 1 → (rds.getD q dRd).path.size ≤ S1 + x.path.size) ∧ S1 + x.path.size ≤ (1 + (i + 1)) * 140737488351232) := Lib.hid (by
     obtain ⟨h1, h2, h3⟩ := HP1.out
     refine ⟨by omega, fun q hq => ?_, by omega⟩
     by_cases e : q = i
     ·subst e; rw [hx]; omega
     ·have := h2 q (by omega); omega)
    clear hc hx q1
    go_wp2_with fail
    go_roundw
    case rel => exact ⟨i + 1, S1 + x.path.size, by omega, by omega, by go_num, by go_num, HX, HBr⟩
    case measure => simp [intOf]; omega
   have h4i : ¬ (i : Int) < 40 := by omega
   go_wp2_with fail
   go_loopw [5, 7] (fun vn vi wr => ∃ j S2 : Nat, j ≤ ne ∧ j ≤ 40 ∧ vi = .int .i64 j ∧ vn = .int .i64 S2 ∧ Hid (S1 ≤ S2 ∧ (∀ q, q < j → (eds.getD q dEd).path.size ≤ S2 ∧ (eds.getD q dEd).text.size ≤ 8 * S2 + 7) ∧ S2 ≤ S1 + j * 281474976710656) ∧ Hid (Below W0.heap.size W0 wr)) (fun _ vi _ => ne - (intOf vi).toNat)
   case atStart => exact ⟨0, S1, Nat.zero_le _, by omega, rfl, rfl, Lib.hid ⟨Nat.le_refl _, fun q hq => by omega, by omega⟩, HBr⟩
   case round =>
    clear x1 x2 HBr
    obtain ⟨j, S2, hj, hj40, rfl, rfl, HP2, HBr⟩ := hrel
    obtain ⟨x1, x2, _⟩ := KP.out wr HBr.out
    have HBE := Lib.hid (HB0.out.trans (HBr.out.mono HB0.out.size))
    have hs1 : S1 ≤ 5770237022400512 := by have := HP1.out.2.2; omega
    have hs2 : S2 ≤ S1 + 11258999068426240 := by have := HP2.out.2.2; omega
    by_cases hlt : j < ne
    ·have hji : (j : Int) < (ne : Int) := by omega
     by_cases h40 : j < 40
     ·have h4i : (j : Int) < 40 := by omega
      obtain ⟨bE, oE, rfl, hc⟩ := isl_at2 (HE.out.below HBE.out (Nat.le_refl _)) (j := j) (by rw [HNE.out]; exact hlt)
      obtain ⟨q1, q2⟩ := HSE.out j hlt
      obtain ⟨x, hx⟩ : ∃ x, eds.getD j dEd = x := ⟨_, rfl⟩
      rw [hx] at hc q1 q2
      have y1 : wr.cell? ⟨bE, oE + j * 6 + 1, none⟩ = some (.string x.path) := hc 1 _ rfl
      have y5 : wr.cell? ⟨bE, oE + j * 6 + 5, none⟩ = some (.string x.text) := hc 5 _ rfl
      obtain ⟨tq, htq⟩ : ∃ tq, x.text.size / 8 = tq := ⟨_, rfl⟩
      have ht8 : (x.text.size : Int) / 8 = (tq : Int) := by omega
      have ht9 : (x.text.size : Int).tdiv 8 = (tq : Int) := by rw [Int.tdiv_eq_ediv_of_nonneg (by omega)]; exact ht8
      have hq1 : S2 + x.path.size ≤ 9223372036854775807 := by omega
      have hq2 : S2 + x.path.size + tq ≤ 9223372036854775807 := by omega
      have HX : Hid (S1 ≤ S2 + x.path.size + tq ∧ (∀ q, q < j + 1 → (eds.getD q dEd).path.size ≤ S2 + x.path.size + tq ∧ (eds.getD q dEd).text.size ≤ 8 * (S2 + x.path.size + tq) + 7) ∧ S2 + x.path.size + tq ≤ S1 + (j + 1) * 281474976710656) := Lib.hid (by
       obtain ⟨h1, h2, h3⟩ := HP2.out
       refine ⟨by omega, fun q hq => ?_, by omega⟩
       by_cases e : q = j
       ·subst e; rw [hx]; constructor <;> omega
       ·have := h2 q (by omega); constructor <;> omega)
      clear hc hx q1 q2 htq
      go_wp2_with fail
      go_quiet (fail)
      go_wp2_with fail
      go_roundw
      case rel => exact ⟨j + 1, S2 + x.path.size + tq, by omega, by omega, by go_num, by push_cast; rfl, HX, Lib.hid (below_dr HBr.out _)⟩
      case measure => simp [intOf]; omega
     have h4i : ¬ (j : Int) < 40 := by omega
     have HS1 := Lib.hid hs1
     clear hs1 hs2
     by_cases c1 : 30 < nr
     ·have c1i : (30 : Int) < (nr : Int) := by omega
      clear c1
      go_wp2_with fail
      go_ret
      exact ⟨true, rfl, (fun h => by cases h), HBE.out⟩
     exact (by omega : False).elim
    have hji : ¬ (j : Int) < (ne : Int) := by omega
    have HS1 := Lib.hid hs1
    clear hs1 hs2
    by_cases c1 : 30 < nr
    ·have c1i : (30 : Int) < (nr : Int) := by omega
     clear c1
     go_wp2_with fail
     go_ret
     exact ⟨true, rfl, (fun h => by cases h), HBE.out⟩
    exact (by omega : False).elim
  have hii : ¬ (i : Int) < (nr : Int) := by omega
  go_wp2_with fail
  go_loopw [5, 7] (fun vn vi wr => ∃ j S2 : Nat, j ≤ ne ∧ j ≤ 40 ∧ vi = .int .i64 j ∧ vn = .int .i64 S2 ∧ Hid (S1 ≤ S2 ∧ (∀ q, q < j → (eds.getD q dEd).path.size ≤ S2 ∧ (eds.getD q dEd).text.size ≤ 8 * S2 + 7) ∧ S2 ≤ S1 + j * 281474976710656) ∧ Hid (Below W0.heap.size W0 wr)) (fun _ vi _ => ne - (intOf vi).toNat)
  case atStart => exact ⟨0, S1, Nat.zero_le _, by omega, rfl, rfl, Lib.hid ⟨Nat.le_refl _, fun q hq => by omega, by omega⟩, HBr⟩
  case round =>
   clear x1 x2 HBr
   obtain ⟨j, S2, hj, hj40, rfl, rfl, HP2, HBr⟩ := hrel
   obtain ⟨x1, x2, _⟩ := KP.out wr HBr.out
   have HBE := Lib.hid (HB0.out.trans (HBr.out.mono HB0.out.size))
   have hs1 : S1 ≤ 5770237022400512 := by have := HP1.out.2.2; omega
   have hs2 : S2 ≤ S1 + 11258999068426240 := by have := HP2.out.2.2; omega
   by_cases hlt : j < ne
   ·have hji : (j : Int) < (ne : Int) := by omega
    by_cases h40 : j < 40
    ·have h4i : (j : Int) < 40 := by omega
     obtain ⟨bE, oE, rfl, hc⟩ := isl_at2 (HE.out.below HBE.out (Nat.le_refl _)) (j := j) (by rw [HNE.out]; exact hlt)
     obtain ⟨q1, q2⟩ := HSE.out j hlt
     obtain ⟨x, hx⟩ : ∃ x, eds.getD j dEd = x := ⟨_, rfl⟩
     rw [hx] at hc q1 q2
     have y1 : wr.cell? ⟨bE, oE + j * 6 + 1, none⟩ = some (.string x.path) := hc 1 _ rfl
     have y5 : wr.cell? ⟨bE, oE + j * 6 + 5, none⟩ = some (.string x.text) := hc 5 _ rfl
     obtain ⟨tq, htq⟩ : ∃ tq, x.text.size / 8 = tq := ⟨_, rfl⟩
     have ht8 : (x.text.size : Int) / 8 = (tq : Int) := by omega
     have ht9 : (x.text.size : Int).tdiv 8 = (tq : Int) := by rw [Int.tdiv_eq_ediv_of_nonneg (by omega)]; exact ht8
     have hq1 : S2 + x.path.size ≤ 9223372036854775807 := by omega
     have hq2 : S2 + x.path.size + tq ≤ 9223372036854775807 := by omega
     have HX : Hid (S1 ≤ S2 + x.path.size + tq ∧ (∀ q, q < j + 1 → (eds.getD q dEd).path.size ≤ S2 + x.path.size + tq ∧ (eds.getD q dEd).text.size ≤ 8 * (S2 + x.path.size + tq) + 7) ∧ S2 + x.path.size + tq ≤ S1 + (j + 1) * 281474976710656) := Lib.hid (by
      obtain ⟨h1, h2, h3⟩ := HP2.out
      refine ⟨by omega, fun q hq => ?_, by omega⟩
      by_cases e : q = j
      ·subst e; rw [hx]; constructor <;> omega
      ·have := h2 q (by omega); constructor <;> omega)
     clear hc hx q1 q2 htq
     go_wp2_with fail
     go_quiet (fail)
     go_wp2_with fail
     go_roundw
     case rel => exact ⟨j + 1, S2 + x.path.size + tq, by omega, by omega, by go_num, by push_cast; rfl, HX, Lib.hid (below_dr HBr.out _)⟩
     case measure => simp [intOf]; omega
    have h4i : ¬ (j : Int) < 40 := by omega
    have HS1 := Lib.hid hs1
    clear hs1 hs2
    by_cases c1 : 30 < nr
    ·have c1i : (30 : Int) < (nr : Int) := by omega
     clear c1
     go_wp2_with fail
     go_ret
     exact ⟨true, rfl, (fun h => by cases h), HBE.out⟩
    have c1i : ¬ (30 : Int) < (nr : Int) := by omega
    have C1 := Lib.hid c1
    clear c1
    by_cases c2 : 30 < ne
    ·have c2i : (30 : Int) < (ne : Int) := by omega
     clear c2
     go_wp2_with fail
     go_ret
     exact ⟨true, rfl, (fun h => by cases h), HBE.out⟩
    exact (by omega : False).elim
   have hji : ¬ (j : Int) < (ne : Int) := by omega
   have HS1 := Lib.hid hs1
   clear hs1 hs2
   by_cases c1 : 30 < nr
   ·have c1i : (30 : Int) < (nr : Int) := by omega
    clear c1
    go_wp2_with fail
    go_ret
    exact ⟨true, rfl, (fun h => by cases h), HBE.out⟩
   have c1i : ¬ (30 : Int) < (nr : Int) := by omega
   have C1 := Lib.hid c1
   clear c1
   by_cases c2 : 30 < ne
   ·have c2i : (30 : Int) < (ne : Int) := by omega
    clear c2
    go_wp2_with fail
    go_ret
    exact ⟨true, rfl, (fun h => by cases h), HBE.out⟩
   have c2i : ¬ (30 : Int) < (ne : Int) := by omega
   have C2 := Lib.hid c2
   clear c2
   by_cases c3 : 10 < LN
   ·have c3i : (10 : Int) < (LN : Int) := by omega
    clear c3
    go_wp2_with fail
    go_ret
    exact ⟨true, rfl, (fun h => by cases h), HBE.out⟩
   have c3i : ¬ (10 : Int) < (LN : Int) := by omega
   have C3 := Lib.hid c3
   clear c3
   by_cases c4 : 2000 < S2
   ·have c4i : (2000 : Int) < (S2 : Int) := by omega
    clear c4
    go_wp2_with fail
    go_ret
    exact ⟨true, rfl, (fun h => by cases h), HBE.out⟩
   have c4i : ¬ (2000 : Int) < (S2 : Int) := by omega
   have C4 := Lib.hid c4
   clear c4
   go_wp2_with fail
   go_ret
   refine ⟨false, rfl, fun _ => ⟨by rw [HNR.out]; have := C1.out; omega, by rw [HNE.out]; have := C2.out; omega, by have := C3.out; omega, ?_, fun i hi => ?_, fun j hj => ?_⟩, HBE.out⟩
   ·have h1 := HP2.out; have h2 := HP1.out; have := C4.out; omega
   ·rw [HNR.out] at hi; have h1 := HP2.out.1; have h2 := HP1.out.2.1 i (by omega); have := C4.out; omega
   ·rw [HNE.out] at hj; have h2 := HP2.out.2.1 j (by omega); have := C4.out; omega
end Go.Proofs.YtggdkfijioeijaaGreatDoor
namespace Go.Proofs.YtggdkfijioeijaaGreatDoor
open Go Go.RowKit Go.Maps Pth
theorem one_owner (u : Nat) : ownS (fewS 1) 1 u = 1 := by
 have h := fewS_mem (ownS_mem (S := fewS 1) (k := 1) (h := u) (by rw [fewS_length]; exact Nat.le_refl _) (Nat.le_refl _))
 omega
def exR : List Rd := [⟨⟨#[98]⟩, 0⟩, ⟨⟨#[97]⟩, 0⟩]
theorem exR_ask (O : Nat → Nat) (hO : ∀ u, O u = 1) : askTo O exR [] 2 0 1 = { Ask.new 1 with reads := exR, readAt := [0, 1] } := by
 have h : ∀ p, (ownP O p == 1) = true := fun p => by unfold ownP; rw [hO]; rfl
 unfold askTo rdsTo rAtTo edsTo eAtTo
 have e1 : (exR.take 2).filter (fun r => ownP O r.path == 1) = exR := List.filter_eq_self.2 (fun r _ => h _)
 have e2 : (List.range 2).filter (fun i => ownP O (exR.getD i dRd).path == 1) = [0, 1] := List.filter_eq_self.2 (fun r _ => h _)
 rw [e1, e2]; rfl
theorem ss_one {ss : List Nat} (h1 : ss.Pairwise (· < ·)) (h2 : ∀ s, s ∈ ss ↔ s = 1) : ss = [1] := by
 match ss, h1, h2 with
 | [], _, h2 => have := (h2 1).2 rfl; cases this
 | [a], _, h2 => have := (h2 a).1 (List.mem_singleton.2 rfl); rw [this]
 | a :: b :: l, h1, h2 =>
  have e1 := (h2 a).1 (by simp); have e2 := (h2 b).1 (by simp)
  have := List.rel_of_pairwise_cons h1 (List.mem_cons_self (a := b) (l := l))
  omega
theorem exR_bad : exR.any badR = false := by decide
def exA : Ask := { Ask.new 1 with reads := exR, readAt := [0, 1] }
def exG0 : Gt := ⟨0, 0, ⟨#[]⟩, 3⟩
def exG1 : Gt := ⟨4, 0, ⟨#[]⟩, 0⟩
def exT : Tl := ⟨1, [exG0, exG1], [], []⟩
theorem ex_at (i : Nat) : ([exA] : List Ask).getD i dAsk = exA ∨ ([exA] : List Ask).getD i dAsk = dAsk := by
 rcases i with _ | i
 ·exact Or.inl rfl
 ·exact Or.inr rfl
theorem exT_at (i : Nat) : ([exT] : List Tl).getD i dTl = exT ∨ ([exT] : List Tl).getD i dTl = dTl := by
 rcases i with _ | i
 ·exact Or.inl rfl
 ·exact Or.inr rfl
theorem ex_merge (gR c3 bL oL q : Nat) (W : World) (hA : IsAsks W (.slice (some ⟨bL, oL, none⟩) 1 c3) [exA]) (hT : IsTold W (.slice (some ⟨q, 0, none⟩) 1 1) [exT]) :
  Calls Tryz.prog 18 #[.agg (callC 1 (.slice (some ⟨gR, 0, none⟩) 2 2) (.slice none 0 0) ⟨#[]⟩ 0 0 0), .slice (some ⟨bL, oL, none⟩) 1 c3, .slice (some ⟨q, 0, none⟩) 1 1] W (MergeG 2 0 (fun i => if i = 0 then exG0 else exG1) (fun _ => 0) W) := by
 refine merge_ok 1 0 0 0 2 0 2 0 1 c3 1 _ none _ _ ⟨#[]⟩ [exA] [exT] (fun i => if i = 0 then exG0 else exG1) (fun _ => 0) W hA hT rfl rfl (by decide) (fun i hi => ?_) (fun i => ?_) (fun i => ?_) (fun i => ?_) (fun i x hx => ?_) (fun i x hx => ?_) (fun i x hx => ?_) rfl rfl (fun i hi => ?_) (fun i hi => by omega)
 ·obtain rfl : i = 0 := by omega
  exact ⟨rfl, rfl, rfl, rfl, rfl, Or.inr rfl⟩
 ·rcases ex_at i with h | h <;> rw [h] <;> decide
 ·rcases ex_at i with h | h <;> rw [h] <;> decide
 ·rcases exT_at i with h | h <;> rw [h] <;> decide
 ·rcases ex_at i with h | h
  ·rw [h] at hx
   have : x ∈ [0, 1] := hx
   simp only [List.mem_cons, List.mem_nil_iff, or_false] at this
   omega
  ·rw [h] at hx; cases hx
 ·rcases ex_at i with h | h <;> (rw [h] at hx; cases hx)
 ·rcases exT_at i with h | h <;> (rw [h] at hx; cases hx)
 ·rcases i with _ | _ | i
  ·rfl
  ·rfl
  ·omega
set_option maxRecDepth 100000 in
set_option maxHeartbeats 8000000 in
theorem law28_works (w : World) (hm : MX w) : Calls Tryz.prog 8 #[] w fun e w' => e = .returned (.bool true) ∧ Below w.heap.size w w' := by
 have HF := Lib.hid (law28_world 0 0 (by decide) (by decide) w)
 have HM := Lib.hid hm
 clear hm
 go_enter Tryz.func8, Tryz.ntmps8
 go_wp2_with fail
 refine HF.out.mono ?_
 rintro e w1 ⟨m, r, sp, rfl, hMA, _, hS, hl, hb1⟩
 have HMA := Lib.hid hMA; have HS := Lib.hid hS; have HB1 := Lib.hid hb1; have HL := Lib.hid hl
 clear hMA hS hb1 hl HF
 go_upto_region 5 with fail
 obtain ⟨gR, hgR⟩ : ∃ gR, w1.heap.size = gR := ⟨_, rfl⟩
 obtain ⟨W2, hW2⟩ : ∃ W2, (w1.alloc (.cells #[.string ⟨#[98]⟩, .int .u64 0, .string ⟨#[97]⟩, .int .u64 0] 56)).alloc (.cells #[.int .u8 1, .slice (some ⟨w1.heap.size, 0, none⟩) 2 2, .slice none 0 0, .string ⟨#[]⟩, .int .u64 0, .int .u64 0, .int .u32 0] 30) = W2 := ⟨_, rfl⟩
 have hb2 : Below w1.heap.size w1 W2 := by rw [← hW2]; exact ((Below.refl _ _).alloc (Nat.le_refl _) _).alloc (by simp) _
 have hr2 : W2.heap[gR]? = some (.cells #[.string ⟨#[98]⟩, .int .u64 0, .string ⟨#[97]⟩, .int .u64 0] 56 (0, 0)) := by
  rw [← hW2, ← hgR]
  exact (Below.heap_alloc _ _ _ (by simp)).trans (MapKept.heap_alloc _ _).1
 have hc2 : W2.heap[gR + 1]? = some (.cells #[.int .u8 1, .slice (some ⟨gR, 0, none⟩) 2 2, .slice none 0 0, .string ⟨#[]⟩, .int .u64 0, .int .u64 0, .int .u32 0] 30 (0, 0)) := by
  rw [← hW2, ← hgR]
  have h := (MapKept.heap_alloc (w1.alloc (.cells #[.string ⟨#[98]⟩, .int .u64 0, .string ⟨#[97]⟩, .int .u64 0] 56)) (.cells #[.int .u8 1, .slice (some ⟨w1.heap.size, 0, none⟩) 2 2, .slice none 0 0, .string ⟨#[]⟩, .int .u64 0, .int .u64 0, .int .u32 0] 30)).1
  simpa using h
 rw [hW2, hgR]
 have HB2 := Lib.hid hb2; have HR2 := Lib.hid hr2; have HC2 := Lib.hid hc2; have HGR := Lib.hid hgR
 have hO1 : ∀ u, ownS (fewS 1) 1 u = 1 := one_owner
 have hS2 : SpI (ownS (fewS 1) 1) sp M64 := HS.out
 obtain ⟨O, hO⟩ : ∃ O, ownS (fewS 1) 1 = O := ⟨_, rfl⟩
 rw [hO] at hO1 hS2
 have hIR : IsRds W2 (.slice (some ⟨gR, 0, none⟩) 2 2) exR := by
  refine ⟨_, 2, rfl, Or.inr ⟨gR, 0, rfl, (Array.getElem?_eq_some_iff.1 hr2).1, fun i hi j u hu => ?_⟩⟩
  have hj : j < 2 := by have := (List.getElem?_eq_some_iff.1 hu).1; rw [rdC_len] at this; exact this
  have hi' : i < 2 := hi
  rcases i with _ | _ | i
  ·rcases j with _ | _ | j
   ·exact (cell_of hr2 0).trans hu
   ·exact (cell_of hr2 1).trans hu
   ·omega
  ·rcases j with _ | _ | j
   ·exact (cell_of hr2 2).trans hu
   ·exact (cell_of hr2 3).trans hu
   ·omega
  ·omega
 have HASK := Lib.hid (asks_ops m 1 sp O exR [] (.slice (some ⟨gR, 0, none⟩) 2 2) (.slice none 0 0) ⟨#[]⟩ 0 0 0 W2 (HMA.out.below hb2) (by have := HL.out; omega) hS2 (fun u => by rw [hO1]; decide) hIR (IsL.nil _ _ _ _) ((HM.out.below HB1.out (Nat.le_refl _)).below hb2 (Nat.le_refl _))
  (fun r hr => by simp only [exR, List.mem_cons, List.mem_nil_iff, or_false] at hr; rcases hr with rfl | rfl <;> exact ⟨by decide⟩) (fun x hx => by cases hx) (by decide) (by decide) exR_bad rfl rfl (fun r hr => by simp only [exR, List.mem_cons, List.mem_nil_iff, or_false] at hr; rcases hr with rfl | rfl <;> decide) (fun x hx => by cases hx))
 have HO1 := Lib.hid hO1
 have k0 : W2.cell? ⟨gR + 1, 0, none⟩ = some (.int .u8 1) := cell_of hc2 0
 have k1 : W2.cell? ⟨gR + 1, 1, none⟩ = some (.slice (some ⟨gR, 0, none⟩) 2 2) := cell_of hc2 1
 have k2 : W2.cell? ⟨gR + 1, 2, none⟩ = some (.slice none 0 0) := cell_of hc2 2
 have k3 : W2.cell? ⟨gR + 1, 3, none⟩ = some (.string ⟨#[]⟩) := cell_of hc2 3
 have k4 : W2.cell? ⟨gR + 1, 4, none⟩ = some (.int .u64 0) := cell_of hc2 4
 have k5 : W2.cell? ⟨gR + 1, 5, none⟩ = some (.int .u64 0) := cell_of hc2 5
 have k6 : W2.cell? ⟨gR + 1, 6, none⟩ = some (.int .u32 0) := cell_of hc2 6
 clear hb2 hr2 hc2 hgR hW2 hO hO1 hS2 hIR
 go_wp2_with fail
 refine HASK.out.mono ?_
 rintro e w3 ⟨v3, ss, rfl, h1, h2, h3, hb3⟩
 have h2' : ∀ s, s ∈ ss ↔ s = 1 := fun s => (h2 s).trans ⟨fun h => by
   rcases h with ⟨i, _, e⟩ | ⟨i, _, e⟩
   ·rw [← e]; exact HO1.out _
   ·rw [← e]; exact HO1.out _, fun h => Or.inl ⟨0, by decide, by rw [h]; exact HO1.out _⟩⟩
 obtain rfl := ss_one h1 h2'
 have h4 : IsAsks w3 v3 [{ Ask.new 1 with reads := exR, readAt := [0, 1] }] := by
  have := exR_ask O HO1.out
  rw [show ([1] : List Nat).map (askTo O exR [] exR.length ([] : List Ed).length) = [askTo O exR [] 2 0 1] from rfl, this] at h3
  exact h3
 have H4 := Lib.hid h4
 obtain ⟨a3, c3, rfl, h5⟩ := h4
 obtain ⟨bL, oL, rfl, hbL, hcL⟩ := h5.resolve_left (by simp)
 obtain ⟨u1, u2, u3, u4, hc, i1, i2, i3, i4⟩ := hcL 0 (by decide)
 obtain ⟨e1, d1, rfl, i1⟩ := i1
 obtain ⟨e2, d2, rfl, i2⟩ := i2
 obtain ⟨e3, d3, rfl, _⟩ := i3
 obtain ⟨e4, d4, rfl, _⟩ := i4
 obtain ⟨b1, o1, rfl, _, hc1⟩ := i1.resolve_left (by simp [exR, dAsk, Ask.new])
 obtain ⟨b2, o2, rfl, _, hc2⟩ := i2.resolve_left (by simp)
 have l1 : w3.cell? ⟨bL, oL + 1, none⟩ = some (.slice (some ⟨b1, o1, none⟩) 2 d1) := by have h := hc 1 _ rfl; simp only [Nat.zero_mul, Nat.add_zero] at h; exact h
 have l2 : w3.cell? ⟨bL, oL + 2, none⟩ = some (.slice (some ⟨b2, o2, none⟩) 2 d2) := by have h := hc 2 _ rfl; simp only [Nat.zero_mul, Nat.add_zero] at h; exact h
 have r0 : w3.cell? ⟨b1, o1, none⟩ = some (.string ⟨#[98]⟩) := by have h := hc1 0 (by decide) 0 _ rfl; simp only [Nat.zero_mul, Nat.add_zero] at h; exact h
 have x1 : w3.cell? ⟨b2, o2 + 1, none⟩ = some (.int .i64 1) := by have h := hc2 1 (by decide) 0 _ rfl; simp only [Nat.mul_one, Nat.add_zero] at h; exact h
 have HB3 := Lib.hid hb3
 have HKC : Hid (∀ U : World, Below W2.heap.size W2 U → U.heap[gR + 1]? = some (.cells #[.int .u8 1, .slice (some ⟨gR, 0, none⟩) 2 2, .slice none 0 0, .string ⟨#[]⟩, .int .u64 0, .int .u64 0, .int .u32 0] 30 (0, 0))) := Lib.hid (fun U h => (h.block _ (Array.getElem?_eq_some_iff.1 HC2.out).1).trans HC2.out)
 clear h1 h2 h2' h3 h5 hcL hc hc1 hc2 i1 i2 hb3 HASK k0 k1 k2 k3 k4 k5 k6
 go_upto_region 8 with fail
 have hk := HKC.out w3 HB3.out
 have k0 : w3.cell? ⟨gR + 1, 0, none⟩ = some (.int .u8 1) := cell_of hk 0
 have k1 : w3.cell? ⟨gR + 1, 1, none⟩ = some (.slice (some ⟨gR, 0, none⟩) 2 2) := cell_of hk 1
 have k2 : w3.cell? ⟨gR + 1, 2, none⟩ = some (.slice none 0 0) := cell_of hk 2
 have k3 : w3.cell? ⟨gR + 1, 3, none⟩ = some (.string ⟨#[]⟩) := cell_of hk 3
 have k4 : w3.cell? ⟨gR + 1, 4, none⟩ = some (.int .u64 0) := cell_of hk 4
 have k5 : w3.cell? ⟨gR + 1, 5, none⟩ = some (.int .u64 0) := cell_of hk 5
 have k6 : w3.cell? ⟨gR + 1, 6, none⟩ = some (.int .u32 0) := cell_of hk 6
 obtain ⟨W4, hW4⟩ : ∃ W4, (w3.alloc (.cells #[.int .u64 0, .int .u8 0, .string ⟨#[]⟩, .int .i64 3, .int .u64 4, .int .u8 0, .string ⟨#[]⟩, .int .i64 0] 61)).alloc (.cells #[.int .u32 1, .slice (some ⟨w3.heap.size, 0, none⟩) 2 2, .slice none 0 0, .slice none 0 0] 54) = W4 := ⟨_, rfl⟩
 have hb4 : Below w3.heap.size w3 W4 := by rw [← hW4]; exact ((Below.refl _ _).alloc (Nat.le_refl _) _).alloc (by simp) _
 have hg4 : W4.heap[w3.heap.size]? = some (.cells #[.int .u64 0, .int .u8 0, .string ⟨#[]⟩, .int .i64 3, .int .u64 4, .int .u8 0, .string ⟨#[]⟩, .int .i64 0] 61 (0, 0)) := by
  rw [← hW4]; exact (Below.heap_alloc _ _ _ (by simp)).trans (MapKept.heap_alloc _ _).1
 have ht4 : W4.heap[w3.heap.size + 1]? = some (.cells #[.int .u32 1, .slice (some ⟨w3.heap.size, 0, none⟩) 2 2, .slice none 0 0, .slice none 0 0] 54 (0, 0)) := by
  rw [← hW4]
  have h := (MapKept.heap_alloc (w3.alloc (.cells #[.int .u64 0, .int .u8 0, .string ⟨#[]⟩, .int .i64 3, .int .u64 4, .int .u8 0, .string ⟨#[]⟩, .int .i64 0] 61)) (.cells #[.int .u32 1, .slice (some ⟨w3.heap.size, 0, none⟩) 2 2, .slice none 0 0, .slice none 0 0] 54)).1
  simpa using h
 have hT4 : IsTold W4 (.slice (some ⟨w3.heap.size + 1, 0, none⟩) 1 1) [exT] := by
  refine ⟨_, 1, rfl, Or.inr ⟨_, 0, rfl, (Array.getElem?_eq_some_iff.1 ht4).1, fun i hi => ?_⟩⟩
  obtain rfl : i = 0 := by have : i < 1 := hi; omega
  refine ⟨.slice (some ⟨w3.heap.size, 0, none⟩) 2 2, .slice none 0 0, .slice none 0 0, fun j u hu => ?_, ?_, IsL.nil _ _ _ _, IsL.nil _ _ _ _⟩
  ·simp only [Nat.zero_mul, Nat.zero_add]
   exact (cell_of ht4 j).trans hu
  ·refine ⟨_, 2, rfl, Or.inr ⟨_, 0, rfl, (Array.getElem?_eq_some_iff.1 hg4).1, fun i hi j u hu => ?_⟩⟩
   have hj : j < 4 := by have := (List.getElem?_eq_some_iff.1 hu).1; rw [gtC_len] at this; exact this
   have hi' : i < 2 := hi
   rcases i with _ | _ | i
   ·rcases j with _ | _ | _ | _ | j
    ·exact (cell_of hg4 0).trans hu
    ·exact (cell_of hg4 1).trans hu
    ·exact (cell_of hg4 2).trans hu
    ·exact (cell_of hg4 3).trans hu
    ·omega
   ·rcases j with _ | _ | _ | _ | j
    ·exact (cell_of hg4 4).trans hu
    ·exact (cell_of hg4 5).trans hu
    ·exact (cell_of hg4 6).trans hu
    ·exact (cell_of hg4 7).trans hu
    ·omega
   ·omega
 have HMG := Lib.hid (ex_merge gR c3 bL oL (w3.heap.size + 1) W4 (H4.out.below hb4 (Nat.le_refl _)) hT4)
 have HB4 : Hid (Below w.heap.size w W4) := Lib.hid (by
  have h12 : Below w.heap.size w W2 := HB1.out.trans (HB2.out.mono HB1.out.size)
  have h13 := h12.trans (HB3.out.mono h12.size)
  exact h13.trans (hb4.mono h13.size))
 clear hk l1 l2 r0 x1 hb4 hg4 ht4 hT4 H4
 go_wp2_with fail
 refine HMG.out.mono ?_
 rintro e w5 ⟨u5, u6, u7, nm5, rfl, hg5, hn5, hs5, _, hb5⟩
 obtain ⟨a5, c5, rfl, hg5⟩ := hg5
 obtain ⟨a6, c6, rfl, _⟩ := hn5
 obtain ⟨a7, c7, rfl, _⟩ := hs5
 obtain ⟨b5, o5, rfl, hl5, hc5⟩ := hg5.resolve_left (by simp)
 have z1 : w5.cell? ⟨b5, o5 + 4, none⟩ = some (.int .u64 4) := by have h := hc5 1 (by decide) 0 _ rfl; simp only [Nat.one_mul, Nat.add_zero] at h; exact h
 have HB5 : Hid (Below w.heap.size w w5) := Lib.hid (HB4.out.trans (hb5.mono HB4.out.size))
 have HMAY := Lib.hid (fun (W : World) (hW : Below w.heap.size w W) => may_list (.slice none 0 0) (.slice none 0 0) ⟨#[47, 47]⟩ 0 0 0 W (HM.out.below hW (Nat.le_refl _)) (by decide) rfl rfl)
 clear hb5 hc5 hg5 k0 k1 k2 k3 k4 k5 k6 HMG
 go_wp2_with fail
 have hb6 : Below w.heap.size w (w5.alloc (.cells #[.slice (some ⟨b5, o5, none⟩) 2 c5, .slice a6 0 c6, .slice a7 nm5.length c7] 67)) := HB5.out.alloc HB5.out.size _
 refine (HMAY.out _ hb6).mono ?_
 rintro e w6 ⟨rfl, hb7⟩
 have HB7 := Lib.hid (hb6.trans (hb7.mono hb6.size))
 rw [show (if prefL (⟨#[47, 47]⟩ : ByteArray).data.toList = true then (0 : Int) else 2) = 2 from by decide]
 clear hb6 hb7 HMAY
 go_wp2_with fail
 go_ret
 exact ⟨rfl, HB7.out⟩
end Go.Proofs.YtggdkfijioeijaaGreatDoor
