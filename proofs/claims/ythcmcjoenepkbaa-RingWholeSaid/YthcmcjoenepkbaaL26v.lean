/- Law 26: RingWhole, the walk. -/
import Derived.Test.YthcmcjoenepkbaaL26m
namespace Go.Proofs.Ythcmcjoenepkbaa
open Go Go.RowKit Go.Maps

theorem NumV.loads {K : IntKind} {w : World} {B e g n c : Nat} {S : List Nat} (h : w.ownsRow B e 1 (.slice (some ⟨g, 0, none⟩) n c) n (S.map (fun s : Nat => Value.int K (s : Int)))) (hn : S.length = n) (i : Nat) (hi : i < n) : g < w.heap.size ∧ w.cell? ⟨g, i, none⟩ = some (.int K ((S.getD i 0 : Nat) : Int)) := by
  have h2 : w.cell? ⟨g, i, none⟩ = some (.int K ((S.getD i 0 : Nat) : Int)) := by
    rw [World.ownsRow.cellAt h i (by omega), List.getElem?_map, List.getD_eq_getElem?_getD, List.getElem?_eq_getElem (by omega)]; rfl
  exact ⟨block_lt_of_cell h2, h2⟩
theorem find_of_perm {srt S : List Nat} (hp : srt.Perm S) (i : Nat) (hi : i < S.length) : ∃ j, j < srt.length ∧ srt.getD j 0 = S.getD i 0 := by
  have hm : S.getD i 0 ∈ srt := hp.mem_iff.2 (by rw [List.getD_eq_getElem?_getD, List.getElem?_eq_getElem hi]; exact List.getElem_mem _)
  obtain ⟨j, hj, he⟩ := List.mem_iff_getElem.1 hm
  exact ⟨j, hj, by rw [List.getD_eq_getElem?_getD, List.getElem?_eq_getElem hj]; exact he⟩

set_option maxRecDepth 100000 in
set_option maxHeartbeats 16000000 in
theorem law26_whole (l : List Nat) (v0 : Value) (p : Nat) (al : List Nat) (v2 : Value) (w : World) (h0 : NumV .u8 v0 l w) (hl : ∀ z ∈ l, z < 256) (hp : p < 256) (h2 : NumV .u64 v2 al w) (hal : ∀ z ∈ al, z < M64) :
    Calls Try.prog 4 #[v0, .int .u8 (p : Int), v2] w fun e w' => e = .returned (.bool true) ∧ Below w.heap.size w w' := by
  obtain ⟨a0, c0, rfl⟩ := h0.shape
  obtain ⟨a2, c2, rfl⟩ := h2.shape
  obtain ⟨N0, hN0⟩ : ∃ N, l.length = N := ⟨_, rfl⟩
  obtain ⟨N2, hN2⟩ : ∃ N, al.length = N := ⟨_, rfl⟩
  rw [hN0] at h0 ⊢; rw [hN2] at h2 ⊢
  by_cases hA : 40 < N0 ∨ 60 < N2
  · by_cases hA0 : 40 < N0
    · have hA1 : ((40 : Int) < (N0 : Int)) = True := by simp; omega
      go_enter Try.func4, Try.ntmps4
      go_wp2_with fail
      refine (law26_works w).mono ?_
      rintro e w1 ⟨rfl, hb1⟩
      go_wp2_with fail
      go_ret
      exact ⟨rfl, hb1⟩
    · have hA1 : ((40 : Int) < (N0 : Int)) = False := by simp; omega
      have hA2 : ((60 : Int) < (N2 : Int)) = True := by simp; omega
      go_enter Try.func4, Try.ntmps4
      go_wp2_with fail
      refine (law26_works w).mono ?_
      rintro e w1 ⟨rfl, hb1⟩
      go_wp2_with fail
      go_ret
      exact ⟨rfl, hb1⟩
  · have hA1 : ((40 : Int) < (N0 : Int)) = False := by simp; omega
    have hA2 : ((60 : Int) < (N2 : Int)) = False := by simp; omega
    have hfew := law26_few _ l w h0 hl (by omega)
    have HFEW := Lib.hid hfew; have H2 := Lib.hid h2; have HAL := Lib.hid hal; have HN2 := Lib.hid hN2
    obtain ⟨k, hk⟩ : ∃ k, 1 + p % 12 = k := ⟨_, rfl⟩
    have hkk : Hid (1 ≤ k ∧ k ≤ 12) := Lib.hid (by omega)
    have hk2 : (1 : Int) + (p : Int) % 12 = (k : Int) := by omega
    have hN2l : N2 ≤ 60 := by omega
    clear hfew h0 hl hN0 h2 hal hN2 hA hk
    go_enter Try.func4, Try.ntmps4
    go_wp2_with fail
    refine HFEW.out.mono ?_
    rintro e w1 ⟨g1, c1, S, rfl, hF, hS1, hrow1, hb1⟩
    obtain ⟨m, hm⟩ : ∃ m, S.length = m := ⟨_, rfl⟩
    rw [hm] at hrow1 hS1 ⊢
    have hm5 : m ≤ 5 := hm ▸ hF.le
    have HF := Lib.hid hF; have HM := Lib.hid hm; have HR1 := Lib.hid hrow1; have HB1 := Lib.hid hb1
    have hfx := (hF.facts (n := 2) (by omega)).1
    have HFX := Lib.hid hfx
    clear hF hm hrow1 hb1 hfx
    go_wp2_with fail
    refine (ringNewRow S m k g1 c1 _ w1 HM.out HR1.out hkk.out hS1 (by omega) HF.out.nd HFX.out).mono ?_
    rintro e w2 ⟨rr, rfl, hRr, hb2⟩
    have HR2 := Lib.hid hRr
    have hb12 := HB1.out.trans (hb2.mono HB1.out.size)
    have HB2 := Lib.hid hb12
    have HRow2 := Lib.hid (ownBelow HR1.out hb2)
    clear hb2 hRr hb12 HR1 HB1
    go_wp2_with fail
    refine (ringSpans rr S k w2 HR2.out).mono ?_
    rintro e w3 ⟨gs, cs, sp, rfl, hrows, hsp, hlsp, hb3⟩
    obtain ⟨L, hL⟩ : ∃ L, sp.length = L := ⟨_, rfl⟩
    have hgs : ∀ i, i < L → w3.cell? ⟨gs, i * 2, none⟩ = some (.int .u64 ((sp.getD i d0).1 : Int)) ∧ w3.cell? ⟨gs, i * 2 + 1, none⟩ = some (.int .u32 ((sp.getD i d0).2 : Int)) := fun i hi => by
      obtain ⟨s1, s2⟩ := spV_at sp i (by omega)
      exact ⟨(World.ownsRow.cellAt hrows (i * 2) (by omega)).trans s1, (World.ownsRow.cellAt hrows (i * 2 + 1) (by omega)).trans s2⟩
    have hlL : L ≤ 100 := by
      have := Nat.mul_le_mul hm5 hkk.out.2
      rw [HM.out] at hlsp; omega
    have hL1 : 0 < L := hL ▸ List.length_pos_iff.2 hsp.ne
    have hgw := fun (w' : World) (h : Below w3.heap.size w3 w') (i : Nat) (hi : i < L) => show w'.cell? ⟨gs, i * 2, none⟩ = some (.int .u64 ((sp.getD i d0).1 : Int)) ∧ w'.cell? ⟨gs, i * 2 + 1, none⟩ = some (.int .u32 ((sp.getD i d0).2 : Int)) from ⟨(h.cell (p := ⟨gs, i * 2, none⟩) (block_lt_of_cell (hgs i hi).1)).trans (hgs i hi).1, (h.cell (p := ⟨gs, i * 2 + 1, none⟩) (block_lt_of_cell (hgs i hi).2)).trans (hgs i hi).2⟩
    have hof := fun (z : Nat) (w' : World) (h : Below w3.heap.size w3 w') => law26_of gs cs z sp w' (by omega) (fun i hi => hgw w' h i (by omega))
    rw [hL] at hof ⊢
    have hrg := fun (w' : World) (h : Below w3.heap.size w3 w') => HR2.out.below (hb3.trans (h.mono hb3.size))
    have hb23 := HB2.out.trans (hb3.mono HB2.out.size)
    have HRow3 := Lib.hid (ownBelow HRow2.out hb3)
    have HOFA := Lib.hid hof; have HGW := Lib.hid hgw; have HRG := Lib.hid hrg; have HB3 := Lib.hid hb23; have HSP := Lib.hid hsp; have HL := Lib.hid hL; have HGS := Lib.hid hgs
    have hz0 := (hgs 0 hL1).1
    rw [hsp.zero, Nat.zero_mul] at hz0
    have hL0 : ((L : Int) == 0) = false := by simp; omega
    clear hof hgw hrg hb23 hsp hL hgs hrows hlsp hb3 HRow2 HB2 HR2
    go_wp2_with fail
    go_loopw [11] (fun v wx => ∃ i : Nat, i ≤ L ∧ v = .int .i64 i ∧ Hid (Below w3.heap.size w3 wx)) (fun v _ => L - (intOf v).toNat)
    case atStart => exact ⟨0, Nat.zero_le _, rfl, Lib.hid (Below.refl _ _)⟩
    case round =>
      obtain ⟨i, hi, rfl, HBx⟩ := hrel
      by_cases hlt : i < L
      · obtain ⟨g1', g2'⟩ := HGW.out wr HBx.out i hlt
        obtain ⟨pi, hpi⟩ : ∃ x, (sp.getD i d0).1 = x := ⟨_, rfl⟩
        obtain ⟨si, hsi⟩ : ∃ x, (sp.getD i d0).2 = x := ⟨_, rfl⟩
        have hpm : pi < M64 := by
          rw [← hpi]; refine HSP.out.lt _ ?_
          rw [List.getD_eq_getElem?_getD, List.getElem?_eq_getElem (by rw [HL.out]; exact hlt)]; exact List.getElem_mem _
        have hnxt : i + 1 < L → pi < (sp.getD (i + 1) d0).1 ∧ (sp.getD (i + 1) d0).1 < M64 ∧ (sp.getD (i + 1) d0).2 ≠ si := fun h1 => by
          have hr := List.pairwise_iff_getElem.1 HSP.out.rise i (i + 1) (by rw [HL.out]; exact hlt) (by rw [HL.out]; exact h1) (by omega)
          have hm2 : sp.getD (i + 1) d0 ∈ sp := by
            rw [List.getD_eq_getElem?_getD, List.getElem?_eq_getElem (by rw [HL.out]; exact h1)]; exact List.getElem_mem _
          refine ⟨?_, HSP.out.lt _ hm2, by rw [← hsi]; exact HSP.out.adj i (by rw [HL.out]; exact h1)⟩
          rw [← hpi, List.getD_eq_getElem?_getD, List.getD_eq_getElem?_getD, List.getElem?_eq_getElem (by rw [HL.out]; exact hlt), List.getElem?_eq_getElem (by rw [HL.out]; exact h1)]
          exact hr
        have hown : ∀ u, pi ≤ u → u < M64 → (i + 1 < L → u < (sp.getD (i + 1) d0).1) → ownS S k u = si := fun u a b c => by
          rw [← hsi]; exact HSP.out.from_ i (by rw [HL.out]; exact hlt) u (by rw [hpi]; exact a) b (fun h => c (by rw [← HL.out]; exact h))
        rw [hpi] at g1'; rw [hsi] at g2'
        have hl1 := block_lt_of_cell g1'
        have HOWN := Lib.hid hown
        have HC := Lib.hid (fun u (hu : u < M64) (ho : ownS S k u = si) w' (h : Below wr.heap.size wr w') => by
          have h1 := ringOwner rr S k u hu w' (HRG.out w' (HBx.out.trans (h.mono HBx.out.size)))
          rw [ho] at h1; exact h1)
        clear hpi hsi hown
        by_cases hn : i + 1 < L
        · obtain ⟨n1, n2, n3⟩ := hnxt hn
          obtain ⟨g3, g4⟩ := HGW.out wr HBx.out (i + 1) hn
          obtain ⟨pj, hpj⟩ : ∃ x, (sp.getD (i + 1) d0).1 = x := ⟨_, rfl⟩
          obtain ⟨sj, hsj⟩ : ∃ x, (sp.getD (i + 1) d0).2 = x := ⟨_, rfl⟩
          rw [hpj] at g3 n1 n2; rw [hsj] at g4 n3
          obtain ⟨la, hla⟩ : ∃ la, pj - 1 = la := ⟨_, rfl⟩
          have hw1 : IntKind.u64.wrap ((pj : Int) - 1) = (la : Int) := by rw [IntKind.wrap_u64]; simp only [M64] at *; omega
          have HO1 := Lib.hid (HC.out pi hpm (HOWN.out pi (Nat.le_refl _) hpm (fun _ => by rw [hpj]; exact n1)))
          have HO2 := Lib.hid (HC.out la (by omega) (HOWN.out la (by omega) (by omega) (fun _ => by rw [hpj]; omega)))
          have hle : ((pj : Int) ≤ (pi : Int)) = False := by simp; omega
          have hled : decide ((pj : Int) ≤ (pi : Int)) = false := by simp; omega
          have heq : ((sj : Int) == (si : Int)) = false := by simp; omega
          obtain ⟨i1, hi1e⟩ : ∃ i1, i + 1 = i1 := ⟨_, rfl⟩
          have hi1 : ((i : Int) + 1) = (i1 : Int) := by omega
          have hi1L : i1 < L := by omega
          rw [hi1e] at g3 g4
          clear hnxt HOWN HC n1 n2 n3 hpj hsj hla hi1e hn
          go_wp2_with fail
          go_big_quiet (fail)
          go_wp2_with fail
          have KEEP := Lib.hid (fun w' (h : Below wr.heap.size wr w') => show w'.cell? ⟨gs, i * 2, none⟩ = some (.int .u64 (pi : Int)) ∧ w'.cell? ⟨gs, i * 2 + 1, none⟩ = some (.int .u32 (si : Int)) ∧ Hid (Below wr.heap.size wr w') from ⟨(h.cell (p := ⟨gs, i * 2, none⟩) hl1).trans g1', (h.cell (p := ⟨gs, i * 2 + 1, none⟩) hl1).trans g2', Lib.hid h⟩)
          have KEEPB := Lib.hid (fun (w' : World) (h : w'.cell? ⟨gs, i * 2, none⟩ = some (.int .u64 (pi : Int)) ∧ w'.cell? ⟨gs, i * 2 + 1, none⟩ = some (.int .u32 (si : Int)) ∧ Hid (Below wr.heap.size wr w')) => h.2.2.out)
          refine wp_region_quiet (C := fun w' => w'.cell? ⟨gs, i * 2, none⟩ = some (.int .u64 (pi : Int)) ∧ w'.cell? ⟨gs, i * 2 + 1, none⟩ = some (.int .u32 (si : Int)) ∧ Hid (Below wr.heap.size wr w')) (by kernel_rfl) (by kernel_rfl) (KEEP.out _ (Below.drew (below_dr (Below.refl _ _) _))) ?_
          clear g1' g2' g3 g4
          refine quiet_plain rfl (Value.pointer (some ⟨rr, 0, none⟩)) (fun w' hw' => ?_) ?_
          · obtain ⟨f1, f2, f3⟩ := hw'
            go_simp
          go_frame
          refine quiet_plain rfl (Value.slice (some ⟨gs, 0, none⟩) L cs) (fun w' hw' => ?_) ?_
          · obtain ⟨f1, f2, f3⟩ := hw'
            go_simp
          go_frame
          refine quiet_plain rfl (Value.int .i64 i) (fun w' hw' => ?_) ?_
          · obtain ⟨f1, f2, f3⟩ := hw'
            go_simp
          go_frame
          refine quiet_plain rfl (Value.pointer (some ⟨gs, i * 2, none⟩)) (fun w' hw' => ?_) ?_
          · obtain ⟨f1, f2, f3⟩ := hw'
            go_simp
          go_frame
          refine quiet_plain rfl (Value.pointer (some ⟨gs, i * 2, none⟩)) (fun w' hw' => ?_) ?_
          · obtain ⟨f1, f2, f3⟩ := hw'
            go_simp
          go_frame
          refine quiet_plain rfl (Value.int .u64 (pi : Int)) (fun w' hw' => ?_) ?_
          · obtain ⟨f1, f2, f3⟩ := hw'
            go_simp
          go_frame
          refine quiet_call rfl (Value.int .u32 (si : Int)) 9 #[.pointer (some ⟨rr, 0, none⟩), .int .u64 (pi : Int)] (fun w' hw' => ⟨?_, ?_⟩) ?_
          · obtain ⟨f1, f2, f3⟩ := hw'
            go_simp
          · exact (HO1.out w' (KEEPB.out _ hw')).mono (fun e w6 ⟨he, hb⟩ => ⟨he, KEEP.out _ ((KEEPB.out _ hw').trans (hb.mono (KEEPB.out _ hw').size))⟩)
          go_frame
          refine quiet_plain rfl (Value.slice (some ⟨gs, 0, none⟩) L cs) (fun w' hw' => ?_) ?_
          · obtain ⟨f1, f2, f3⟩ := hw'
            go_simp
          go_frame
          refine quiet_plain rfl (Value.int .i64 i) (fun w' hw' => ?_) ?_
          · obtain ⟨f1, f2, f3⟩ := hw'
            go_simp
          go_frame
          refine quiet_plain rfl (Value.pointer (some ⟨gs, i * 2, none⟩)) (fun w' hw' => ?_) ?_
          · obtain ⟨f1, f2, f3⟩ := hw'
            go_simp
          go_frame
          refine quiet_plain rfl (Value.pointer (some ⟨gs, i * 2 + 1, none⟩)) (fun w' hw' => ?_) ?_
          · obtain ⟨f1, f2, f3⟩ := hw'
            go_simp
          go_frame
          refine quiet_plain rfl (Value.int .u32 (si : Int)) (fun w' hw' => ?_) ?_
          · obtain ⟨f1, f2, f3⟩ := hw'
            go_simp
          go_frame
          refine quiet_plain rfl (Value.bool false) (fun w' hw' => ?_) ?_
          · obtain ⟨f1, f2, f3⟩ := hw'
            go_simp
          go_frame
          refine quiet_plain rfl (Value.bool false) (fun w' hw' => ?_) ?_
          · obtain ⟨f1, f2, f3⟩ := hw'
            go_simp
          go_frame
          refine quiet_plain rfl (Value.pointer (some ⟨rr, 0, none⟩)) (fun w' hw' => ?_) ?_
          · obtain ⟨f1, f2, f3⟩ := hw'
            go_simp
          go_frame
          refine quiet_plain rfl (Value.int .u64 (la : Int)) (fun w' hw' => ?_) ?_
          · obtain ⟨f1, f2, f3⟩ := hw'
            go_simp
          go_frame
          refine quiet_call rfl (Value.int .u32 (si : Int)) 9 #[.pointer (some ⟨rr, 0, none⟩), .int .u64 (la : Int)] (fun w' hw' => ⟨?_, ?_⟩) ?_
          · obtain ⟨f1, f2, f3⟩ := hw'
            go_simp
          · exact (HO2.out w' (KEEPB.out _ hw')).mono (fun e w6 ⟨he, hb⟩ => ⟨he, KEEP.out _ ((KEEPB.out _ hw').trans (hb.mono (KEEPB.out _ hw').size))⟩)
          go_frame
          refine quiet_plain rfl (Value.slice (some ⟨gs, 0, none⟩) L cs) (fun w' hw' => ?_) ?_
          · obtain ⟨f1, f2, f3⟩ := hw'
            go_simp
          go_frame
          refine quiet_plain rfl (Value.int .i64 i) (fun w' hw' => ?_) ?_
          · obtain ⟨f1, f2, f3⟩ := hw'
            go_simp
          go_frame
          refine quiet_plain rfl (Value.pointer (some ⟨gs, i * 2, none⟩)) (fun w' hw' => ?_) ?_
          · obtain ⟨f1, f2, f3⟩ := hw'
            go_simp
          go_frame
          refine quiet_plain rfl (Value.pointer (some ⟨gs, i * 2 + 1, none⟩)) (fun w' hw' => ?_) ?_
          · obtain ⟨f1, f2, f3⟩ := hw'
            go_simp
          go_frame
          refine quiet_plain rfl (Value.int .u32 (si : Int)) (fun w' hw' => ?_) ?_
          · obtain ⟨f1, f2, f3⟩ := hw'
            go_simp
          go_frame
          refine quiet_plain rfl (Value.bool false) (fun w' hw' => ?_) ?_
          · obtain ⟨f1, f2, f3⟩ := hw'
            go_simp
          go_frame
          refine quiet_plain rfl (Value.bool false) (fun w' hw' => ?_) ?_
          · obtain ⟨f1, f2, f3⟩ := hw'
            go_simp
          go_frame
          refine wpQuiet_nil ?_
          intro wq hwq
          have HBq := Lib.hid (HBx.out.trans (hwq.2.2.out.mono HBx.out.size))
          clear hwq
          go_wp2_with fail
          go_roundw
          case rel => exact ⟨i1, by omega, rfl, HBq⟩
          case measure => simp [intOf]; omega
        · have HO1 := Lib.hid (HC.out pi hpm (HOWN.out pi (Nat.le_refl _) hpm (fun h => absurd h hn)))
          have ho2 := HC.out 18446744073709551615 (by decide) (HOWN.out 18446744073709551615 (by have : pi < 18446744073709551616 := hpm; omega) (by decide) (fun h => absurd h hn))
          have HO2 := Lib.hid (show ∀ w', Below wr.heap.size wr w' → Calls Try.prog 9 #[.pointer (some ⟨rr, 0, none⟩), .int .u64 18446744073709551615] w' fun e w'' => e = .returned (.int .u32 (si : Int)) ∧ Below w'.heap.size w' w'' from ho2)
          obtain ⟨i1, hi1e⟩ : ∃ i1, i + 1 = i1 := ⟨_, rfl⟩
          have hi1 : ((i : Int) + 1) = (i1 : Int) := by omega
          have hi1L : ((i1 : Int) < (L : Int)) = False := by simp; omega
          have KEEP := Lib.hid (fun w' (h : Below wr.heap.size wr w') => show w'.cell? ⟨gs, i * 2, none⟩ = some (.int .u64 (pi : Int)) ∧ w'.cell? ⟨gs, i * 2 + 1, none⟩ = some (.int .u32 (si : Int)) ∧ Hid (Below wr.heap.size wr w') from ⟨(h.cell (p := ⟨gs, i * 2, none⟩) hl1).trans g1', (h.cell (p := ⟨gs, i * 2 + 1, none⟩) hl1).trans g2', Lib.hid h⟩)
          have KEEPB := Lib.hid (fun (w' : World) (h : w'.cell? ⟨gs, i * 2, none⟩ = some (.int .u64 (pi : Int)) ∧ w'.cell? ⟨gs, i * 2 + 1, none⟩ = some (.int .u32 (si : Int)) ∧ Hid (Below wr.heap.size wr w')) => h.2.2.out)
          clear hnxt HOWN HC hi1e hn ho2
          go_wp2_with fail
          refine wp_region_quiet (C := fun w' => w'.cell? ⟨gs, i * 2, none⟩ = some (.int .u64 (pi : Int)) ∧ w'.cell? ⟨gs, i * 2 + 1, none⟩ = some (.int .u32 (si : Int)) ∧ Hid (Below wr.heap.size wr w')) (by kernel_rfl) (by kernel_rfl) (KEEP.out _ (Below.drew (Below.refl _ _))) ?_
          clear g1' g2'
          refine quiet_plain rfl (Value.pointer (some ⟨rr, 0, none⟩)) (fun w' hw' => ?_) ?_
          · obtain ⟨f1, f2, f3⟩ := hw'
            go_simp
          go_frame
          refine quiet_plain rfl (Value.slice (some ⟨gs, 0, none⟩) L cs) (fun w' hw' => ?_) ?_
          · obtain ⟨f1, f2, f3⟩ := hw'
            go_simp
          go_frame
          refine quiet_plain rfl (Value.int .i64 i) (fun w' hw' => ?_) ?_
          · obtain ⟨f1, f2, f3⟩ := hw'
            go_simp
          go_frame
          refine quiet_plain rfl (Value.pointer (some ⟨gs, i * 2, none⟩)) (fun w' hw' => ?_) ?_
          · obtain ⟨f1, f2, f3⟩ := hw'
            go_simp
          go_frame
          refine quiet_plain rfl (Value.pointer (some ⟨gs, i * 2, none⟩)) (fun w' hw' => ?_) ?_
          · obtain ⟨f1, f2, f3⟩ := hw'
            go_simp
          go_frame
          refine quiet_plain rfl (Value.int .u64 (pi : Int)) (fun w' hw' => ?_) ?_
          · obtain ⟨f1, f2, f3⟩ := hw'
            go_simp
          go_frame
          refine quiet_call rfl (Value.int .u32 (si : Int)) 9 #[.pointer (some ⟨rr, 0, none⟩), .int .u64 (pi : Int)] (fun w' hw' => ⟨?_, ?_⟩) ?_
          · obtain ⟨f1, f2, f3⟩ := hw'
            go_simp
          · exact (HO1.out w' (KEEPB.out _ hw')).mono (fun e w6 ⟨he, hb⟩ => ⟨he, KEEP.out _ ((KEEPB.out _ hw').trans (hb.mono (KEEPB.out _ hw').size))⟩)
          go_frame
          refine quiet_plain rfl (Value.slice (some ⟨gs, 0, none⟩) L cs) (fun w' hw' => ?_) ?_
          · obtain ⟨f1, f2, f3⟩ := hw'
            go_simp
          go_frame
          refine quiet_plain rfl (Value.int .i64 i) (fun w' hw' => ?_) ?_
          · obtain ⟨f1, f2, f3⟩ := hw'
            go_simp
          go_frame
          refine quiet_plain rfl (Value.pointer (some ⟨gs, i * 2, none⟩)) (fun w' hw' => ?_) ?_
          · obtain ⟨f1, f2, f3⟩ := hw'
            go_simp
          go_frame
          refine quiet_plain rfl (Value.pointer (some ⟨gs, i * 2 + 1, none⟩)) (fun w' hw' => ?_) ?_
          · obtain ⟨f1, f2, f3⟩ := hw'
            go_simp
          go_frame
          refine quiet_plain rfl (Value.int .u32 (si : Int)) (fun w' hw' => ?_) ?_
          · obtain ⟨f1, f2, f3⟩ := hw'
            go_simp
          go_frame
          refine quiet_plain rfl (Value.bool false) (fun w' hw' => ?_) ?_
          · obtain ⟨f1, f2, f3⟩ := hw'
            go_simp
          go_frame
          refine quiet_plain rfl (Value.bool false) (fun w' hw' => ?_) ?_
          · obtain ⟨f1, f2, f3⟩ := hw'
            go_simp
          go_frame
          refine quiet_plain rfl (Value.pointer (some ⟨rr, 0, none⟩)) (fun w' hw' => ?_) ?_
          · obtain ⟨f1, f2, f3⟩ := hw'
            go_simp
          go_frame
          refine quiet_plain rfl (Value.int .u64 18446744073709551615) (fun w' hw' => ?_) ?_
          · obtain ⟨f1, f2, f3⟩ := hw'
            go_simp
          go_frame
          refine quiet_call rfl (Value.int .u32 (si : Int)) 9 #[.pointer (some ⟨rr, 0, none⟩), .int .u64 18446744073709551615] (fun w' hw' => ⟨?_, ?_⟩) ?_
          · obtain ⟨f1, f2, f3⟩ := hw'
            go_simp
          · exact (HO2.out w' (KEEPB.out _ hw')).mono (fun e w6 ⟨he, hb⟩ => ⟨he, KEEP.out _ ((KEEPB.out _ hw').trans (hb.mono (KEEPB.out _ hw').size))⟩)
          go_frame
          refine quiet_plain rfl (Value.slice (some ⟨gs, 0, none⟩) L cs) (fun w' hw' => ?_) ?_
          · obtain ⟨f1, f2, f3⟩ := hw'
            go_simp
          go_frame
          refine quiet_plain rfl (Value.int .i64 i) (fun w' hw' => ?_) ?_
          · obtain ⟨f1, f2, f3⟩ := hw'
            go_simp
          go_frame
          refine quiet_plain rfl (Value.pointer (some ⟨gs, i * 2, none⟩)) (fun w' hw' => ?_) ?_
          · obtain ⟨f1, f2, f3⟩ := hw'
            go_simp
          go_frame
          refine quiet_plain rfl (Value.pointer (some ⟨gs, i * 2 + 1, none⟩)) (fun w' hw' => ?_) ?_
          · obtain ⟨f1, f2, f3⟩ := hw'
            go_simp
          go_frame
          refine quiet_plain rfl (Value.int .u32 (si : Int)) (fun w' hw' => ?_) ?_
          · obtain ⟨f1, f2, f3⟩ := hw'
            go_simp
          go_frame
          refine quiet_plain rfl (Value.bool false) (fun w' hw' => ?_) ?_
          · obtain ⟨f1, f2, f3⟩ := hw'
            go_simp
          go_frame
          refine quiet_plain rfl (Value.bool false) (fun w' hw' => ?_) ?_
          · obtain ⟨f1, f2, f3⟩ := hw'
            go_simp
          go_frame
          refine wpQuiet_nil ?_
          intro wq hwq
          have HBq := Lib.hid (HBx.out.trans (hwq.2.2.out.mono HBx.out.size))
          clear hwq
          go_wp2_with fail
          go_roundw
          case rel => exact ⟨i1, by omega, rfl, HBq⟩
          case measure => simp [intOf]; omega
      · have hiL : ((i : Int) < (L : Int)) = False := by simp; omega
        clear hlt
        have HOW := Lib.hid (fun (z : Nat) (hz : z < M64) w' (h : Below w3.heap.size w3 w') => ringOwner rr S k z hz w' (HRG.out w' h))
        have H2w := Lib.hid (fun w' (h : Below w3.heap.size w3 w') => H2.out.below (HB3.out.trans (h.mono HB3.out.size)))
        have hspi := HSP.out.is
        have HIS := Lib.hid hspi
        clear hspi
        go_wp2_with fail
        go_loopw [13] (fun v wx => ∃ u : Nat, u ≤ N2 ∧ v = .int .i64 u ∧ Hid (Below w3.heap.size w3 wx)) (fun v _ => N2 - (intOf v).toNat)
        case atStart => exact ⟨0, Nat.zero_le _, rfl, HBx⟩
        case round =>
          clear HBx
          obtain ⟨u, hu, rfl, HBx⟩ := hrel
          by_cases hlt2 : u < N2
          · obtain ⟨bz, oz, rfl, hbz, hcz⟩ := (H2w.out wr HBx.out).at u (by rw [HN2.out]; exact hlt2)
            obtain ⟨z, hz⟩ : ∃ z, al.getD u 0 = z := ⟨_, rfl⟩
            have hzm : z < M64 := by
              rw [← hz]; refine HAL.out _ ?_
              rw [List.getD_eq_getElem?_getD, List.getElem?_eq_getElem (by rw [HN2.out]; exact hlt2)]; exact List.getElem_mem _
            rw [hz] at hcz
            obtain ⟨x, hx⟩ : ∃ x, ownS S k z = x := ⟨_, rfl⟩
            have ho1 := fun w' (h : Below wr.heap.size wr w') => HOW.out z hzm w' (HBx.out.trans (h.mono HBx.out.size))
            have ho2 := fun w' (h : Below wr.heap.size wr w') => HOFA.out z w' (HBx.out.trans (h.mono HBx.out.size))
            rw [hx] at ho1; rw [HIS.out z hzm, hx] at ho2
            have HO1 := Lib.hid ho1; have HOF := Lib.hid ho2
            have KEEP := Lib.hid (fun w' (h : Below wr.heap.size wr w') => show w'.cell? ⟨bz, oz + u, none⟩ = some (.int .u64 (z : Int)) ∧ Hid (Below wr.heap.size wr w') from ⟨(h.cell (p := ⟨bz, oz + u, none⟩) hbz).trans hcz, Lib.hid h⟩)
            have KEEPB := Lib.hid (fun (w' : World) (h : w'.cell? ⟨bz, oz + u, none⟩ = some (.int .u64 (z : Int)) ∧ Hid (Below wr.heap.size wr w')) => h.2.out)
            have hbz' := hbz
            clear ho1 ho2 hx hz hzm hcz hbz
            go_wp2_with fail
            refine wp_region_quiet (C := fun w' => w'.cell? ⟨bz, oz + u, none⟩ = some (.int .u64 (z : Int)) ∧ Hid (Below wr.heap.size wr w')) (by kernel_rfl) (by kernel_rfl) (KEEP.out _ (Below.drew (Below.refl _ _))) ?_
            refine quiet_plain rfl (Value.pointer (some ⟨rr, 0, none⟩)) (fun w' hw' => ?_) ?_
            · obtain ⟨f1, f2⟩ := hw'
              go_simp
            go_frame
            refine quiet_plain rfl (Value.slice (some ⟨bz, oz, none⟩) N2 c2) (fun w' hw' => ?_) ?_
            · obtain ⟨f1, f2⟩ := hw'
              go_simp
            go_frame
            refine quiet_plain rfl (Value.int .i64 u) (fun w' hw' => ?_) ?_
            · obtain ⟨f1, f2⟩ := hw'
              go_simp
            go_frame
            refine quiet_plain rfl (Value.pointer (some ⟨bz, oz + u, none⟩)) (fun w' hw' => ?_) ?_
            · obtain ⟨f1, f2⟩ := hw'
              go_simp
            go_frame
            refine quiet_plain rfl (Value.int .u64 (z : Int)) (fun w' hw' => ?_) ?_
            · obtain ⟨f1, f2⟩ := hw'
              go_simp
            go_frame
            refine quiet_call rfl (Value.int .u32 (x : Int)) 9 #[.pointer (some ⟨rr, 0, none⟩), .int .u64 (z : Int)] (fun w' hw' => ⟨?_, ?_⟩) ?_
            · obtain ⟨f1, f2⟩ := hw'
              go_simp
            · exact (HO1.out w' (KEEPB.out _ hw')).mono (fun e w6 ⟨he, hb⟩ => ⟨he, KEEP.out _ ((KEEPB.out _ hw').trans (hb.mono (KEEPB.out _ hw').size))⟩)
            go_frame
            refine quiet_plain rfl (Value.slice (some ⟨gs, 0, none⟩) L cs) (fun w' hw' => ?_) ?_
            · obtain ⟨f1, f2⟩ := hw'
              go_simp
            go_frame
            refine quiet_plain rfl (Value.slice (some ⟨bz, oz, none⟩) N2 c2) (fun w' hw' => ?_) ?_
            · obtain ⟨f1, f2⟩ := hw'
              go_simp
            go_frame
            refine quiet_plain rfl (Value.int .i64 u) (fun w' hw' => ?_) ?_
            · obtain ⟨f1, f2⟩ := hw'
              go_simp
            go_frame
            refine quiet_plain rfl (Value.pointer (some ⟨bz, oz + u, none⟩)) (fun w' hw' => ?_) ?_
            · obtain ⟨f1, f2⟩ := hw'
              go_simp
            go_frame
            refine quiet_plain rfl (Value.int .u64 (z : Int)) (fun w' hw' => ?_) ?_
            · obtain ⟨f1, f2⟩ := hw'
              go_simp
            go_frame
            refine quiet_call rfl (Value.int .u32 (x : Int)) 12 #[.slice (some ⟨gs, 0, none⟩) L cs, .int .u64 (z : Int)] (fun w' hw' => ⟨?_, ?_⟩) ?_
            · obtain ⟨f1, f2⟩ := hw'
              go_simp
            · exact (HOF.out w' (KEEPB.out _ hw')).mono (fun e w6 ⟨he, hb⟩ => ⟨he, KEEP.out _ ((KEEPB.out _ hw').trans (hb.mono (KEEPB.out _ hw').size))⟩)
            go_frame
            refine quiet_plain rfl (Value.bool false) (fun w' hw' => ?_) ?_
            · obtain ⟨f1, f2⟩ := hw'
              go_simp
            go_frame
            refine wpQuiet_nil ?_
            intro wq hwq
            have HBq := Lib.hid (HBx.out.trans (hwq.2.out.mono HBx.out.size))
            clear hwq
            go_wp2_with fail
            go_roundw
            case rel => exact ⟨u + 1, by omega, rfl, HBq⟩
            case measure => simp [intOf]; omega
          · obtain rfl : u = N2 := by omega
            have HSH := Lib.hid (ringShards rr S k wr (HRG.out wr HBx.out))
            have HLEN := Lib.hid (fun w' (h : Below wr.heap.size wr w') => ringLen rr S k w' (HRG.out w' (HBx.out.trans (h.mono HBx.out.size))))
            have HRowx := Lib.hid (ownBelow HRow3.out HBx.out)
            have HBX := Lib.hid (HB3.out.trans (HBx.out.mono HB3.out.size))
            clear HOW H2w HIS HOFA HRG HGW HBx HRow3 HB3 HSP HL HGS
            go_wp2_with fail
            refine HSH.out.mono ?_
            rintro e w4 ⟨v4, srt, rfl, hperm, hsrt, hrow4, hb4⟩
            have hsl : srt.length = m := by rw [hperm.length_eq, HM.out]
            rw [hsl] at hrow4
            obtain ⟨g4, c4, rfl⟩ : ∃ g4 c4, v4 = .slice (some ⟨g4, 0, none⟩) m c4 := by
              rcases hrow4.2 with ⟨h', hn⟩ | ⟨g, cap, cur, h', _⟩
              · omega
              · exact ⟨g, cap, h'⟩
            obtain ⟨K2, hK2⟩ : ∃ K2, m * k = K2 := ⟨_, rfl⟩
            have hK2l : K2 ≤ 60 := by
              have : m * k ≤ 5 * 12 := Nat.mul_le_mul hm5 hkk.out.2
              omega
            have hmk : (m : Int) * (k : Int) = (K2 : Int) := by rw [← hK2]; push_cast; rfl
            have hwk : wrap64 (K2 : Int) = (K2 : Int) := by unfold wrap64; omega
            have hmm : ((m : Int) != (m : Int)) = false := by simp
            have HRS := Lib.hid hrow4; have HSL := Lib.hid hsl; have HPM := Lib.hid hperm; have HST := Lib.hid hsrt; have HB4 := Lib.hid hb4; have HK2 := Lib.hid hK2
            clear hrow4 hsl hperm hsrt hb4 hK2
            go_wp2_with fail
            refine (HLEN.out w4 HB4.out).mono ?_
            rintro e w5 ⟨n1, rfl, _, a2, _, _, hb5⟩
            have HB5 := Lib.hid hb5; have HB45 := Lib.hid (HB4.out.trans (hb5.mono HB4.out.size))
            have hn1 : ((K2 : Int) < (n1 : Int)) = False := by
              rw [HM.out, HK2.out] at a2
              simp; omega
            clear a2 hb5
            go_wp2_with fail
            refine (HLEN.out w5 HB45.out).mono ?_
            rintro e w6 ⟨n2, rfl, a1, _, _, _, hb6⟩
            have HB56 := Lib.hid (HB5.out.trans (hb6.mono HB5.out.size))
            have HB6 := Lib.hid (HB45.out.trans (hb6.mono HB45.out.size))
            have hn2 : ((n2 : Int) < 1) = False := by simp; omega
            clear a1 hb6
            have HRS6 := Lib.hid (ownBelow HRS.out HB56.out); have HRow6 := Lib.hid (ownBelow HRowx.out HB6.out)
            have HBW6 := Lib.hid (HBX.out.trans (HB6.out.mono HBX.out.size))
            clear HRS HRowx HBX HB6 HB56 HB45 HB5 HB4 HLEN HSH
            go_wp2_with fail
            go_loopw [15] (fun v wx => ∃ i : Nat, i ≤ m ∧ v = .int .i64 i ∧ Hid (Below w6.heap.size w6 wx)) (fun v _ => m - (intOf v).toNat)
            case atStart => exact ⟨0, Nat.zero_le _, rfl, Lib.hid (Below.refl _ _)⟩
            case round =>
              obtain ⟨i, hi, rfl, HBi⟩ := hrel
              by_cases hlt3 : i < m
              · obtain ⟨x, hx⟩ : ∃ x, S.getD i 0 = x := ⟨_, rfl⟩
                obtain ⟨j0, hj0, hj0e⟩ := find_of_perm HPM.out i (by rw [HM.out]; exact hlt3)
                rw [HSL.out] at hj0; rw [hx] at hj0e
                have HJ0 := Lib.hid hj0e
                have HX := Lib.hid (fun w' (h : Below w6.heap.size w6 w') => show w'.cell? ⟨g1, i, none⟩ = some (.int .u32 (x : Int)) from by
                  have h2 := (NumV.loads (ownBelow HRow6.out h) HM.out i hlt3).2
                  rwa [hx] at h2)
                have HS := Lib.hid (fun w' (h : Below w6.heap.size w6 w') j (hj : j < m) => show w'.cell? ⟨g4, j, none⟩ = some (.int .u32 ((srt.getD j 0 : Nat) : Int)) from (NumV.loads (ownBelow HRS6.out h) HSL.out j hj).2)
                clear hx hj0e
                go_wp2_with fail
                go_loopw [16, 17] (fun b v wx => ∃ (bb : Bool) (q : Nat), q ≤ m ∧ v = .int .i64 q ∧ b = .bool bb ∧ Hid (bb = true ↔ ∃ j, j < q ∧ srt.getD j 0 = x) ∧ Hid (Below w6.heap.size w6 wx)) (fun _ v _ => m - (intOf v).toNat)
                case atStart => exact ⟨false, 0, Nat.zero_le _, rfl, rfl, Lib.hid ⟨fun h => (nomatch h), fun ⟨j, h, _⟩ => by omega⟩, HBi⟩
                case round =>
                  clear HBi
                  obtain ⟨bb, q, hq, rfl, rfl, HBB, HBq⟩ := hrel
                  by_cases hlt4 : q < m
                  · have cx := HX.out wr HBq.out
                    have cq := HS.out wr HBq.out q hlt4
                    obtain ⟨y, hy⟩ : ∃ y, srt.getD q 0 = y := ⟨_, rfl⟩
                    rw [hy] at cq
                    cases bb with
                    | true =>
                      have HNB := Lib.hid (show ∃ j, j < q + 1 ∧ srt.getD j 0 = x from by obtain ⟨j, a, b⟩ := HBB.out.1 rfl; exact ⟨j, by omega, b⟩)
                      clear hy
                      go_wp2_with fail
                      go_quiet (fail)
                      go_wp2_with fail
                      go_roundw
                      case rel => exact ⟨true, q + 1, by omega, rfl, rfl, Lib.hid ⟨fun _ => HNB.out, fun _ => rfl⟩, Lib.hid (below_dr HBq.out _)⟩
                      case measure => simp [intOf]; omega
                    | false =>
                      by_cases hyx : y = x
                      · have hyb : ((y : Int) == (x : Int)) = true := by simp [hyx]
                        have HNB := Lib.hid (show ∃ j, j < q + 1 ∧ srt.getD j 0 = x from ⟨q, by omega, hy.trans hyx⟩)
                        clear hyx
                        by_cases hq0 : q = 0
                        · have hqb : ((q : Int) == 0) = true := by simp [hq0]
                          clear hy hq0
                          go_wp2_with fail
                          go_quiet (fail)
                          go_wp2_with fail
                          go_roundw
                          case rel => exact ⟨true, q + 1, by omega, rfl, rfl, Lib.hid ⟨fun _ => HNB.out, fun _ => rfl⟩, Lib.hid (below_dr HBq.out _)⟩
                          case measure => simp [intOf]; omega
                        · have hqb : ((q : Int) == 0) = false := by simp; omega
                          obtain ⟨qp, hqp⟩ : ∃ qp, q - 1 = qp := ⟨_, rfl⟩
                          have hqi : (q : Int) - 1 = (qp : Int) := by omega
                          have cp := HS.out wr HBq.out qp (by omega)
                          have hzy : srt.getD qp 0 < y := by
                            rw [← hy]
                            have hr := List.pairwise_iff_getElem.1 HST.out qp q (by rw [HSL.out]; omega) (by rw [HSL.out]; exact hlt4) (by omega)
                            rw [List.getD_eq_getElem?_getD, List.getD_eq_getElem?_getD, List.getElem?_eq_getElem (by rw [HSL.out]; omega), List.getElem?_eq_getElem (by rw [HSL.out]; exact hlt4)]
                            exact hr
                          obtain ⟨z, hz⟩ : ∃ z, srt.getD qp 0 = z := ⟨_, rfl⟩
                          rw [hz] at cp hzy
                          have hzb : decide ((z : Int) < (y : Int)) = true := by simp; omega
                          have hqpm : qp < m := by omega
                          clear hy hz hqp
                          go_wp2_with fail
                          go_quiet (fail)
                          go_wp2_with fail
                          go_roundw
                          case rel => exact ⟨true, q + 1, by omega, rfl, rfl, Lib.hid ⟨fun _ => HNB.out, fun _ => rfl⟩, Lib.hid (below_dr HBq.out _)⟩
                          case measure => simp [intOf]; omega
                      · have hyb : ((y : Int) == (x : Int)) = false := by simp; omega
                        have HNB := Lib.hid (show ¬ ∃ j, j < q + 1 ∧ srt.getD j 0 = x from fun ⟨j, a, b⟩ => by
                          by_cases e : j = q
                          · subst e; exact hyx (hy.symm.trans b)
                          · exact absurd (HBB.out.2 ⟨j, by omega, b⟩) (by simp))
                        clear hy hyx
                        go_wp2_with fail
                        go_quiet (fail)
                        go_wp2_with fail
                        go_roundw
                        case rel => exact ⟨false, q + 1, by omega, rfl, rfl, Lib.hid ⟨fun h => (nomatch h), fun h => absurd h HNB.out⟩, Lib.hid (below_dr HBq.out _)⟩
                        case measure => simp [intOf]; omega
                  · have hqm : ((q : Int) < (m : Int)) = False := by simp; omega
                    have hbb : bb = true := HBB.out.2 ⟨j0, by omega, HJ0.out⟩
                    subst hbb
                    clear hlt4
                    go_wp2_with fail
                    go_roundw
                    case rel => exact ⟨i + 1, by omega, rfl, HBq⟩
                    case measure => simp [intOf]; omega
              · have him : ((i : Int) < (m : Int)) = False := by simp; omega
                have HBE := Lib.hid (HBW6.out.trans (HBi.out.mono HBW6.out.size))
                clear hlt3
                go_wp2_with fail
                refine (law26_works wr).mono ?_
                rintro e w7 ⟨rfl, hb7⟩
                have HB7 := Lib.hid (HBE.out.trans (hb7.mono HBE.out.size))
                clear hb7
                go_wp2_with fail
                go_ret
                exact ⟨rfl, HB7.out⟩
end Go.Proofs.Ythcmcjoenepkbaa
