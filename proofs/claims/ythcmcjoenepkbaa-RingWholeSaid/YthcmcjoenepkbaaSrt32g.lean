/- Contracts for the library's sort at uint32: pdqsort, Sort. -/
import Derived.Test.YthcmcjoenepkbaaSrt32f
namespace Go.Proofs.Ythcmcjoenepkbaa
open Go Go.RowKit Go.Sort

set_option maxHeartbeats 16000000 in
set_option maxRecDepth 1000000 in
theorem uint32_pdqsort {S : Nat → Prop} {blk off N cap : Nat} {w0 : World} (hS : S blk) (hblk : blk < w0.heap.size) (hN : N < 4611686018427387904) : ∀ (n a b lim : Nat) (d : Array Int) (w : World), b - a ≤ n → SR .u32 S w0 blk off d w → d.size = N → a ≤ b → b ≤ N → lim < 4611686018427387904 → Below ltInt a b d →
    Calls Try.prog 38 #[.slice (some ⟨blk, off, none⟩) N cap, .int .i64 a, .int .i64 b, .int .i64 lim] w fun e w' => e = .returned (.tuple #[]) ∧ ∃ d', PermIn a b d d' ∧ SortedIn ltInt a b d' ∧ SR .u32 S w0 blk off d' w' := by
  intro n
  induction n using Nat.strongRecOn with
  | ind n ih =>
  intro a b lim d w hn h hd hab hb hlim hB
  have IH := Lib.hid ih; have H := Lib.hid h; have HS := Lib.hid hS; have Hd := Lib.hid hd; have HB := Lib.hid hB; have Hblk := Lib.hid hblk; have Hn := Lib.hid hn
  clear ih h hS hd hB hblk hn
  go_enter Try.func38, Try.ntmps38
  go_wp2_with fail
  go_loopg [1, 2, 3, 8, 9] (b - a) (fun k s1 s2 s3 s8 s9 wr => ∃ (a' b' l : Nat) (wb wp : Bool) (dk : Array Int), s1 = .int .i64 a' ∧ s2 = .int .i64 b' ∧ s3 = .int .i64 l ∧ s8 = .bool wb ∧ s9 = .bool wp ∧
    a' ≤ b' ∧ b' ≤ N ∧ b' - a' ≤ k ∧ l < 4611686018427387904 ∧ Hid (b' - a' ≤ b - a) ∧ Hid (dk.size = N) ∧ Hid (SR .u32 S w0 blk off dk wr) ∧ Hid (Below ltInt a' b' dk) ∧
    Hid (∀ R, PermIn a' b' dk R → SortedIn ltInt a' b' R → PermIn a b d R ∧ SortedIn ltInt a b R))
  case atStart => exact ⟨a, b, lim, true, true, d, rfl, rfl, rfl, rfl, rfl, hab, hb, Nat.le_refl _, hlim, Lib.hid (Nat.le_refl _), Hd, H, HB, Lib.hid (fun R h1 h2 => ⟨h1, h2⟩)⟩
  case round =>
    clear H Hd HB hlim hab hb
    obtain ⟨a', b', l, wb, wp, dk, rfl, rfl, rfl, rfl, rfl, hab, hb, hk, hl, Hsub, Hs, HR, HB, HG⟩ := hrel
    by_cases h12 : b' - a' ≤ 12
    · have h12z : (b' : Int) - (a' : Int) ≤ 12 := by omega
      go_wp2_with fail
      refine (uint32_insertionSort HS.out HR.out Hs.out hab hb hN).mono ?_
      rintro e w1 ⟨rfl, h1⟩
      have H1 := Lib.hid h1; clear h1
      go_wp2_with fail
      (try simp only [Exit.inBlock, Exit.then]); refine bodyPost_ret (results_none rfl _ _ _) rfl ?_
      have hi := insertionSort_holds swo_ltInt dk a' b' hab (by rw [Hs.out]; exact hb)
      have hg := HG.out _ hi.1 hi.2
      exact ⟨rfl, _, hg.1, hg.2, H1.out⟩
    · have h12z : ¬ ((b' : Int) - (a' : Int) ≤ 12) := by omega
      by_cases hl0 : l = 0
      · subst hl0
        go_wp2_with fail
        refine (uint32_heapSort HS.out HR.out Hs.out (by omega) hb hN).mono ?_
        rintro e w1 ⟨rfl, h1⟩
        have H1 := Lib.hid h1; clear h1
        go_wp2_with fail
        (try simp only [Exit.inBlock, Exit.then]); refine bodyPost_ret (results_none rfl _ _ _) rfl ?_
        have hi := heapSort_holds swo_ltInt dk a' b' hab (by rw [Hs.out]; exact hb)
        have hg := HG.out _ hi.1 hi.2
        exact ⟨rfl, _, hg.1, hg.2, H1.out⟩
      · have hl0z : ¬ ((l : Int) = 0) := by omega
        go_upto_if 35 with fail
        go_cut [3] (fun s3 wx => ∃ (l1 : Nat) (d1 : Array Int), s3 = .int .i64 l1 ∧ l1 ≤ l ∧ Hid (PermIn a' b' dk d1) ∧ Hid (SR .u32 S w0 blk off d1 wx))
        case first =>
          cases wb with
          | true =>
            go_wp2_with fail
            go_meet
            exact ⟨l, dk, rfl, Nat.le_refl _, Lib.hid (permIn_refl _ _ _), HR⟩
          | false =>
            go_wp2_with fail
            refine (uint32_breakPatterns HS.out HR.out (Nat.lt_of_lt_of_le Hblk.out HR.out.but.size) Hs.out (by omega) hb hN).mono ?_
            rintro e w1 ⟨rfl, d1, h1, h2⟩
            have H1 := Lib.hid h1; have H2 := Lib.hid h2; clear h1 h2
            go_wp2_with fail
            go_meet
            exact ⟨l - 1, d1, by congr 1; omega, by omega, H1, H2⟩
        case rest =>
          obtain ⟨l1, d1, rfl, hl1, HP1, HR1⟩ := hcut
          have Hs1 : Hid (d1.size = N) := Lib.hid (HP1.out.1.trans Hs.out)
          clear HR
          go_wp2_with fail
          refine (uint32_choosePivot HR1.out (Nat.lt_of_lt_of_le Hblk.out HR1.out.but.size) Hs1.out (by omega) hb hN).mono ?_
          rintro e w1 ⟨p, c, rfl, hp1, hp2, h1⟩
          have H1 := Lib.hid h1; clear h1 HR1
          go_upto_if 50 with fail
          go_cut [11, 12] (fun s11 s12 wx => ∃ (p2 : Nat) (c2 : Int) (d2 : Array Int), s11 = .int .i64 p2 ∧ s12 = .int .i64 c2 ∧ a' ≤ p2 ∧ p2 < b' ∧ Hid (PermIn a' b' d1 d2) ∧ Hid (SR .u32 S w0 blk off d2 wx))
          case first =>
            by_cases hc : c = 2
            · subst hc
              go_wp2_with fail
              refine (uint32_reverseRange HS.out H1.out Hs1.out (by omega) hb hN).mono ?_
              rintro e w2 ⟨rfl, d2, _, h1, h2⟩
              have H2 := Lib.hid h1; have H3 := Lib.hid h2; clear h1 h2
              go_wp2_with fail
              go_meet
              exact ⟨(b' - 1) - (p - a'), 1, d2, by congr 1; omega, rfl, by omega, by omega, H2, H3⟩
            · have hcb : (c == 2) = false := by simpa using hc
              go_wp2_with fail
              go_meet
              exact ⟨p, c, d1, rfl, rfl, hp1, hp2, Lib.hid (permIn_refl _ _ _), H1⟩
          case rest =>
            obtain ⟨p2, c2, d2, rfl, rfl, hq1, hq2, HP2, HR2⟩ := hcut
            have Hs2 : Hid (d2.size = N) := Lib.hid (HP2.out.1.trans Hs1.out)
            clear H1 hp1 hp2
            go_upto_region 15 with fail
            go_cut [68] (fun s wx => ∃ q : Bool, s = .bool q ∧ wc = wx)
            case first =>
              cases wb <;> cases wp <;> (go_wp2_with fail; go_meet; exact ⟨_, rfl, rfl⟩)
            case rest =>
              obtain ⟨q, rfl, rfl⟩ := hcut
              go_upto_if 68 with fail
              go_cut [] (fun wx => ∃ d3 : Array Int, Hid (PermIn a' b' d2 d3) ∧ Hid (SR .u32 S w0 blk off d3 wx))
              case first =>
                cases q with
                | false =>
                  go_wp2_with fail
                  go_meet
                  exact ⟨d2, Lib.hid (permIn_refl _ _ _), HR2⟩
                | true =>
                  go_wp2_with fail
                  refine (uint32_partialInsertionSort HS.out HR2.out Hs2.out (by omega) hb hN).mono ?_
                  rintro e w2 ⟨d3, r, rfl, h1, h2⟩
                  have hpi := partialInsertionSort_holds swo_ltInt d2 a' b' (by omega) (by rw [Hs2.out]; exact hb) ((HB.out.perm (by rw [Hs.out]; exact hb) HP1.out).perm (by rw [Hs1.out]; exact hb) HP2.out)
                  rw [h1] at hpi
                  have HPI := Lib.hid hpi; have H2 := Lib.hid h2; clear h1 h2 hpi
                  cases r with
                  | true =>
                    go_wp2_with fail
                    (try simp only [Exit.inBlock, Exit.then]); refine bodyPost_ret (results_none rfl _ _ _) rfl ?_
                    have hg := HG.out d3 (permIn_trans _ _ _ _ _ (permIn_trans _ _ _ _ _ HP1.out HP2.out) HPI.out.1) (HPI.out.2 (by simp))
                    exact ⟨rfl, _, hg.1, hg.2, H2.out⟩
                  | false =>
                    go_wp2_with fail
                    go_meet
                    exact ⟨d3, Lib.hid HPI.out.1, H2⟩
              case rest =>
                obtain ⟨d3, HP3, HR3⟩ := hcut
                have Hs3 : Hid (d3.size = N) := Lib.hid (HP3.out.1.trans Hs2.out)
                have HPk : Hid (PermIn a' b' dk d3) := Lib.hid (permIn_trans _ _ _ _ _ (permIn_trans _ _ _ _ _ HP1.out HP2.out) HP3.out)
                have HB3 : Hid (Below ltInt a' b' d3) := Lib.hid (HB.out.perm (by rw [Hs.out]; exact hb) HPk.out)
                have HG3 : Hid (∀ R, PermIn a' b' d3 R → SortedIn ltInt a' b' R → PermIn a b d R ∧ SortedIn ltInt a b R) := Lib.hid (fun R h1 h2 => HG.out R (permIn_trans _ _ _ _ _ HPk.out h1) h2)
                clear HR2 HP1 HP2 HP3 HB HG HPk Hs Hs1 Hs2
                go_upto_region 17 with fail
                go_cut [87] (fun s wx => ∃ q : Bool, s = .bool q ∧ Hid (q = true → 0 < a' ∧ ltInt d3[a' - 1]! d3[p2]! = false) ∧ Hid (SR .u32 S w0 blk off d3 wx))
                case first =>
                  obtain ⟨G, hG, hcw, hfw⟩ := HR3.out.cells
                  rw [Hs3.out] at hcw hfw
                  have HGG := Lib.hid hG; clear hG
                  by_cases ha0 : 0 < a'
                  · go_wp2_with fail
                    go_big_quiet (first | (go_at_call 53; refine Calls.quiet_of_same (uint32_less _ _ _)))
                    go_wp2_with fail
                    go_meet
                    exact ⟨_, rfl, Lib.hid (fun h => ⟨ha0, by rw [← HGG.out, ← HGG.out]; simpa using h⟩), Lib.hid (HR3.out.drewN nq)⟩
                  · have ha0z : decide ((0 : Int) < (a' : Int)) = false := decide_eq_false (by omega)
                    go_wp2_with fail
                    go_big_quiet (first | (go_at_call 53; refine Calls.quiet_of_same (uint32_less _ _ _)))
                    go_wp2_with fail
                    go_meet
                    exact ⟨false, rfl, Lib.hid (fun h => by cases h), Lib.hid (HR3.out.drewN nq)⟩
                case rest =>
                  obtain ⟨q, rfl, HQ, HR4⟩ := hcut
                  clear HR3
                  cases q with
                  | true =>
                    go_wp2_with fail
                    refine (uint32_partitionEqual HS.out HR4.out Hs3.out hq1 hq2 hb hN).mono ?_
                    rintro e w2 ⟨mid, d4, rfl, h1, h2⟩
                    obtain ⟨g1, g2, g3, g4, g5⟩ := round_eq swo_ltInt (partitionEqual_holds _) (HQ.out (by simp)).1 hq1 hq2 (by rw [Hs3.out]; exact hb) HB3.out (HQ.out (by simp)).2 h1
                    have H2 := Lib.hid h2; have G3 := Lib.hid (g3.trans Hs3.out); have G4 := Lib.hid g4; have G5 := Lib.hid g5
                    clear h1 h2 g3 g4 g5
                    go_wp2_with fail
                    go_roundg (b' - mid)
                    case measure => omega
                    case rel => exact ⟨mid, b', l1, wb, wp, d4, rfl, rfl, rfl, rfl, rfl, g2, hb, Nat.le_refl _, by omega, Lib.hid (by have := Hsub.out; omega), G3, H2, G4, Lib.hid (fun R h1 h2 => (fun h3 => HG3.out R h3.1 h3.2) (G5.out R h1 h2))⟩
                  | false =>
                    go_wp2_with fail
                    refine (uint32_partition HS.out HR4.out Hs3.out hq1 hq2 hb hN).mono ?_
                    rintro e w2 ⟨mid, ap, ap', d4, rfl, h1, h2⟩
                    obtain ⟨g1, g2, g3, g4, g5, g6, g7⟩ := round_part swo_ltInt (partition_holds _) hq1 hq2 (by rw [Hs3.out]; exact hb) HB3.out h1
                    have H2 := Lib.hid h2; have G3 := Lib.hid (g3.trans Hs3.out); have G4 := Lib.hid g4; have G5 := Lib.hid g5; have G6 := Lib.hid g6; have G7 := Lib.hid g7
                    clear h1 h2 g3 g4 g5 g6 g7
                    by_cases hlr : mid - a' < b' - mid
                    · have hlrz : (mid : Int) - (a' : Int) < (b' : Int) - (mid : Int) := by omega
                      go_wp2_with fail
                      refine (IH.out (mid - a') (by have := Hsub.out; have := Hn.out; omega) a' mid l1 d4 w2 (Nat.le_refl _) H2.out G3.out g1 (by omega) (by omega) G4.out).mono ?_
                      rintro e w3 ⟨rfl, L, h1, h2, h3⟩
                      have hL := G6.out L h1 h2
                      have Hs5 : Hid (L.size = N) := Lib.hid (h1.1.trans G3.out)
                      have HL := Lib.hid hL; have H3 := Lib.hid h3
                      clear h1 h2 h3 hL
                      go_wp2_with fail
                      go_roundg (b' - (mid + 1))
                      case measure => omega
                      case rel => exact ⟨mid + 1, b', l1, _, ap, L, by go_num, rfl, rfl, rfl, rfl, by omega, hb, Nat.le_refl _, by omega, Lib.hid (by have := Hsub.out; omega), Hs5, H3, Lib.hid HL.out.1, Lib.hid (fun R h1 h2 => (fun h3 => HG3.out R h3.1 h3.2) (HL.out.2 R h1 h2))⟩
                    · have hlrz : ¬ ((mid : Int) - (a' : Int) < (b' : Int) - (mid : Int)) := by omega
                      have hih := IH.out (b' - (mid + 1)) (by have := Hsub.out; have := Hn.out; omega) (mid + 1) b' l1 d4 w2 (Nat.le_refl _) H2.out G3.out (by omega) hb (by omega) G5.out
                      rw [show ((mid + 1 : Nat) : Int) = (mid : Int) + 1 by omega] at hih
                      have HIH := Lib.hid hih; clear hih
                      go_wp2_with fail
                      refine HIH.out.mono ?_
                      rintro e w3 ⟨rfl, L, h1, h2, h3⟩
                      have hL := G7.out L h1 h2
                      have Hs5 : Hid (L.size = N) := Lib.hid (h1.1.trans G3.out)
                      have HL := Lib.hid hL; have H3 := Lib.hid h3
                      clear h1 h2 h3 hL HIH
                      go_wp2_with fail
                      go_roundg (mid - a')
                      case measure => omega
                      case rel => exact ⟨a', mid, l1, _, ap, L, rfl, rfl, rfl, rfl, rfl, g1, by omega, Nat.le_refl _, by omega, Lib.hid (by have := Hsub.out; omega), Hs5, H3, Lib.hid HL.out.1, Lib.hid (fun R h1 h2 => (fun h3 => HG3.out R h3.1 h3.2) (HL.out.2 R h1 h2))⟩
end Go.Proofs.Ythcmcjoenepkbaa
