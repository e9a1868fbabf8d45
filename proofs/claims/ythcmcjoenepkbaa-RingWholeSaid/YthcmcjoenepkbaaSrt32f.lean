/- Contracts for the library's sort at uint32: order2, median, medianAdjacent, choosePivot. -/
import Derived.Test.YthcmcjoenepkbaaSrt32e
namespace Go.Proofs.Ythcmcjoenepkbaa
open Go Go.RowKit Go.Sort

set_option maxHeartbeats 4000000 in
set_option maxRecDepth 1000000 in
theorem uint32_order2 {S : Nat → Prop} {blk off N cap x y sb : Nat} {d : Array Int} {w0 w : World} (hsb : S sb) (hne : sb ≠ blk) (h : SR .u32 S w0 blk off d w) (h1 : ∃ s : Int, One sb #[.int .i64 s] w) (hd : d.size = N) (hx : x < N) (hy : y < N) :
    Calls Try.prog 81 #[.slice (some ⟨blk, off, none⟩) N cap, .int .i64 x, .int .i64 y, .pointer (some ⟨sb, 0, none⟩)] w fun e w' => ∃ p q : Nat, e = .returned (.tuple #[.int .i64 p, .int .i64 q]) ∧ ((p = x ∧ q = y) ∨ (p = y ∧ q = x)) ∧ SR .u32 S w0 blk off d w' ∧ ∃ s : Int, One sb #[.int .i64 s] w' := by
  obtain ⟨G, hG, hcw, hfw⟩ := h.cells
  rw [hd] at hcw hfw
  obtain ⟨s, h1⟩ := h1
  have cs : w.cell? ⟨sb, 0, none⟩ = some (.int .i64 s) := by rw [h1.c]; rfl
  have fs := h1.f 0
  have H := Lib.hid h; have H1 := Lib.hid h1; have Hsb := Lib.hid hsb; have Hne := Lib.hid hne
  clear h h1 hsb hne hG
  go_enter Try.func81, Try.ntmps81
  go_wp2
  go_big_quiet (first | (go_at_call 53; refine Calls.quiet_of_same (uint32_less _ _ _)))
  go_wp2
  · go_ret2
    have h2 := fun u => (H1.out.drewN nq).set (i := 0) (by simp) u
    exact ⟨y, x, rfl, Or.inr ⟨rfl, rfl⟩, (H.out.drewN nq).set (p := ⟨sb, 0, none⟩) Hsb.out Hne.out _, ⟨_, h2 (.int .i64 _)⟩⟩
  · go_ret2
    exact ⟨x, y, rfl, Or.inl ⟨rfl, rfl⟩, H.out.drewN nq, ⟨s, H1.out.drewN nq⟩⟩

set_option maxHeartbeats 4000000 in
set_option maxRecDepth 1000000 in
theorem uint32_median {S : Nat → Prop} {blk off N cap x y z sb : Nat} {d : Array Int} {w0 w : World} (hsb : S sb) (hne : sb ≠ blk) (h : SR .u32 S w0 blk off d w) (h1 : ∃ s : Int, One sb #[.int .i64 s] w) (hd : d.size = N) (hx : x < N) (hy : y < N) (hz : z < N) :
    Calls Try.prog 72 #[.slice (some ⟨blk, off, none⟩) N cap, .int .i64 x, .int .i64 y, .int .i64 z, .pointer (some ⟨sb, 0, none⟩)] w fun e w' => ∃ p : Nat, e = .returned (.int .i64 p) ∧ (p = x ∨ p = y ∨ p = z) ∧ SR .u32 S w0 blk off d w' ∧ ∃ s : Int, One sb #[.int .i64 s] w' := by
  have H := Lib.hid h; have H1 := Lib.hid h1; have Hsb := Lib.hid hsb; have Hne := Lib.hid hne; have Hd := Lib.hid hd
  clear h h1 hsb hne hd
  go_enter Try.func72, Try.ntmps72
  go_wp2_with fail
  refine (uint32_order2 Hsb.out Hne.out H.out H1.out Hd.out hx hy).mono ?_
  rintro e w1 ⟨p1, q1, rfl, hpq1, h, h1⟩
  clear H H1
  have H := Lib.hid h; have H1 := Lib.hid h1; clear h h1
  go_wp2_with fail
  refine (uint32_order2 Hsb.out Hne.out H.out H1.out Hd.out (by omega) hz).mono ?_
  rintro e w2 ⟨p2, q2, rfl, hpq2, h, h1⟩
  clear H H1
  have H := Lib.hid h; have H1 := Lib.hid h1; clear h h1
  go_wp2_with fail
  refine (uint32_order2 Hsb.out Hne.out H.out H1.out Hd.out (by omega) (by omega)).mono ?_
  rintro e w3 ⟨p3, q3, rfl, hpq3, h, h1⟩
  clear H H1
  have H := Lib.hid h; have H1 := Lib.hid h1; clear h h1
  go_wp2_with fail
  go_ret
  exact ⟨q3, rfl, by omega, H.out, H1.out⟩

set_option maxHeartbeats 4000000 in
set_option maxRecDepth 1000000 in
theorem uint32_medianAdjacent {S : Nat → Prop} {blk off N cap x sb : Nat} {d : Array Int} {w0 w : World} (hsb : S sb) (hne : sb ≠ blk) (h : SR .u32 S w0 blk off d w) (h1 : ∃ s : Int, One sb #[.int .i64 s] w) (hd : d.size = N) (hx : 1 ≤ x) (hy : x + 1 < N) (hN : N < 4611686018427387904) :
    Calls Try.prog 71 #[.slice (some ⟨blk, off, none⟩) N cap, .int .i64 x, .pointer (some ⟨sb, 0, none⟩)] w fun e w' => ∃ p : Nat, e = .returned (.int .i64 p) ∧ x - 1 ≤ p ∧ p ≤ x + 1 ∧ SR .u32 S w0 blk off d w' ∧ ∃ s : Int, One sb #[.int .i64 s] w' := by
  have H := Lib.hid h; have H1 := Lib.hid h1; have Hsb := Lib.hid hsb; have Hne := Lib.hid hne; have Hd := Lib.hid hd
  clear h h1 hsb hne hd
  have hm := uint32_median (cap := cap) (x := x - 1) (y := x) (z := x + 1) Hsb.out Hne.out H.out H1.out Hd.out (by omega) (by omega) hy
  rw [show ((x - 1 : Nat) : Int) = (x : Int) - 1 by omega, show ((x + 1 : Nat) : Int) = (x : Int) + 1 by omega] at hm
  have HM := Lib.hid hm; clear hm
  go_enter Try.func71, Try.ntmps71
  go_wp2_with fail
  refine HM.out.mono ?_
  rintro e w1 ⟨p, rfl, hp, h, h1⟩
  have H := Lib.hid h; have H1 := Lib.hid h1; clear h h1
  go_wp2_with fail
  go_ret
  exact ⟨p, rfl, by omega, by omega, H.out, H1.out⟩

set_option maxHeartbeats 8000000 in
set_option maxRecDepth 1000000 in
theorem uint32_choosePivot {S : Nat → Prop} {blk off N cap a b : Nat} {d : Array Int} {w0 w : World} (h : SR .u32 S w0 blk off d w) (hlt : blk < w.heap.size) (hd : d.size = N) (hab : a + 12 < b) (hb : b ≤ N) (hN : N < 4611686018427387904) :
    Calls Try.prog 50 #[.slice (some ⟨blk, off, none⟩) N cap, .int .i64 a, .int .i64 b] w fun e w' => ∃ (p : Nat) (c : Int), e = .returned (.tuple #[.int .i64 p, .int .i64 c]) ∧ a ≤ p ∧ p < b ∧ SR .u32 S w0 blk off d w' := by
  have H : Hid (SR .u32 (fun k => S k ∨ k = w.heap.size) w0 blk off d (w.alloc (.cells #[.int .i64 0] 3))) := Lib.hid (h.alloc hlt _)
  have H1 : Hid (∃ s : Int, One w.heap.size #[.int .i64 s] (w.alloc (.cells #[.int .i64 0] 3))) := Lib.hid ⟨0, One.of w _ _⟩
  have Hd := Lib.hid hd
  have Hw : Hid (w0.heap.size ≤ w.heap.size) := Lib.hid h.but.size
  have Hne : Hid (w.heap.size ≠ blk) := Lib.hid (by omega)
  clear h hd hlt
  obtain ⟨I, hI⟩ : ∃ I : Nat, a + (b - a) / 4 = I := ⟨_, rfl⟩
  obtain ⟨J, hJ⟩ : ∃ J : Nat, a + (b - a) / 4 * 2 = J := ⟨_, rfl⟩
  obtain ⟨K, hK⟩ : ∃ K : Nat, a + (b - a) / 4 * 3 = K := ⟨_, rfl⟩
  have eI : ((a : Int) + ((b : Int) - (a : Int)) / 4) = (I : Int) := by omega
  have eJ : ((a : Int) + ((b : Int) - (a : Int)) / 4 * 2) = (J : Int) := by omega
  have eK : ((a : Int) + ((b : Int) - (a : Int)) / 4 * 3) = (K : Int) := by omega
  have fI : Hid (a ≤ I ∧ I < b) := Lib.hid (by omega)
  have fJ : Hid (a ≤ J ∧ J < b) := Lib.hid (by omega)
  have fK : Hid (a ≤ K ∧ K < b) := Lib.hid (by omega)
  have f50 : Hid (¬ b - a < 50 → (a < I ∧ I + 1 < b) ∧ (a < J ∧ J + 1 < b) ∧ (a < K ∧ K + 1 < b)) := Lib.hid (fun _ => by omega)
  clear hI hJ hK
  go_enter Try.func50, Try.ntmps50
  go_upto_if 34 with fail
  clear eI eJ eK
  go_cut [10, 11, 12] (fun s10 s11 s12 wx => ∃ i j k : Nat, s10 = .int .i64 i ∧ s11 = .int .i64 j ∧ s12 = .int .i64 k ∧ (a ≤ i ∧ i < b) ∧ (a ≤ j ∧ j < b) ∧ (a ≤ k ∧ k < b) ∧ Hid (SR .u32 (fun k => S k ∨ k = w.heap.size) w0 blk off d wx) ∧ Hid (∃ s : Int, One w.heap.size #[.int .i64 s] wx))
  case first =>
    by_cases h50 : b - a < 50
    · have h50z : ¬ ((50 : Int) ≤ (b : Int) - (a : Int)) := by omega
      go_wp2_with fail
      go_meet
      exact ⟨I, J, K, rfl, rfl, rfl, fI.out, fJ.out, fK.out, H, H1⟩
    · have h50z : (50 : Int) ≤ (b : Int) - (a : Int) := by omega
      obtain ⟨g1, g2, g3⟩ := f50.out h50
      have G1 := Lib.hid g1; have G2 := Lib.hid g2; have G3 := Lib.hid g3
      clear g1 g2 g3 f50 fI fJ fK
      go_wp2_with fail
      refine (uint32_medianAdjacent (Or.inr rfl) Hne.out H.out H1.out Hd.out (by have := G1.out; omega) (by have := G1.out; omega) hN).mono ?_
      rintro e w1 ⟨i, rfl, hi1, hi2, h, h1⟩
      clear H H1
      have Hi1 := Lib.hid hi1; have Hi2 := Lib.hid hi2; clear hi1 hi2
      have H := Lib.hid h; have H1 := Lib.hid h1; clear h h1
      go_wp2_with fail
      refine (uint32_medianAdjacent (Or.inr rfl) Hne.out H.out H1.out Hd.out (by have := G2.out; omega) (by have := G2.out; omega) hN).mono ?_
      rintro e w2 ⟨j, rfl, hj1, hj2, h, h1⟩
      clear H H1
      have Hj1 := Lib.hid hj1; have Hj2 := Lib.hid hj2; clear hj1 hj2
      have H := Lib.hid h; have H1 := Lib.hid h1; clear h h1
      go_wp2_with fail
      refine (uint32_medianAdjacent (Or.inr rfl) Hne.out H.out H1.out Hd.out (by have := G3.out; omega) (by have := G3.out; omega) hN).mono ?_
      rintro e w3 ⟨k, rfl, hk1, hk2, h, h1⟩
      clear H H1
      have H := Lib.hid h; have H1 := Lib.hid h1; clear h h1
      go_wp2_with fail
      go_meet
      have := G1.out; have := G2.out; have := G3.out; have := Hi1.out; have := Hi2.out; have := Hj1.out; have := Hj2.out
      exact ⟨i, j, k, rfl, rfl, rfl, ⟨by omega, by omega⟩, ⟨by omega, by omega⟩, ⟨by omega, by omega⟩, H, H1⟩
  case rest =>
    obtain ⟨i, j, k, rfl, rfl, rfl, hi, hj, hk, HR, HO⟩ := hcut
    clear H H1 fI fJ fK f50
    have Hi := Lib.hid hi; have Hj := Lib.hid hj; have Hk := Lib.hid hk
    clear hi hj hk
    go_wp2_with fail
    refine (uint32_median (Or.inr rfl) Hne.out HR.out HO.out Hd.out (by have := Hi.out; omega) (by have := Hj.out; omega) (by have := Hk.out; omega)).mono ?_
    rintro e w1 ⟨p, rfl, hp, h, h1⟩
    have hp2 : a ≤ p ∧ p < b := by have := Hi.out; have := Hj.out; have := Hk.out; omega
    have HP := Lib.hid hp2; have HF := Lib.hid (h.drop Hw.out)
    obtain ⟨s, h1⟩ := h1
    have cs : w1.cell? ⟨w.heap.size, 0, none⟩ = some (.int .i64 s) := by rw [h1.c]; rfl
    clear hp hp2 h h1 HR HO Hi Hj Hk
    go_wp2_with fail
    all_goals go_ret2
    all_goals exact ⟨p, _, rfl, HP.out.1, HP.out.2, HF.out⟩
end Go.Proofs.Ythcmcjoenepkbaa
