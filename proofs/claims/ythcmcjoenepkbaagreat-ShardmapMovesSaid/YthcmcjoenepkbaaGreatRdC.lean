/- Contract: ref27's Read. -/
import Derived.Test.YthcmcjoenepkbaaGreatRdB
import Derived.Test.YthcmcjoenepkbaaGreatR27c
namespace Go.Proofs.YthcmcjoenepkbaaGreat
open Go Go.RowKit Go.Maps

def ReadD (s : ByteArray) (w : World) (en : Ending) (w' : World) : Prop := Below w.heap.size w w' ∧ ((¬ RdOk s ∧ en = .returned (.pointer none)) ∨ (RdOk s ∧ ∃ m, en = .returned (.pointer (some ⟨m, 0, none⟩)) ∧ DocAt w' m (rdE s) (upto (ent s) (rdN s))))
set_option maxRecDepth 100000 in
set_option maxHeartbeats 4000000 in
theorem d27_Read_bad (s : ByteArray) (hs : s.size ≤ 1000000) (hno : ¬ HdOk s) (w : World) : Calls Tryz.prog 16 #[.string s] w (ReadD s w) := by
  have HNO := Lib.hid (show ¬ RdOk s from fun h => hno h.1)
  by_cases c8 : s.size < 8
  · clear hno
    have H1 := Lib.hid (ref01_Get_none s 0 8 (by decide) (by omega) hs w)
    have H2 := Lib.hid (ref01_Get_none s 8 4 (by decide) (by omega) hs w)
    go_enter Tryz.func16, Tryz.ntmps16
    go_wp2_with fail
    refine H1.out.mono ?_
    rintro en w1 ⟨rfl, hw⟩
    subst w1
    go_wp2_with fail
    refine H2.out.mono ?_
    rintro en w1 ⟨rfl, hw⟩
    subst w1
    clear H1 H2
    go_wp2_with fail
    go_ret
    exact ⟨Below.refl _ _, Or.inl ⟨HNO.out, rfl⟩⟩
  · by_cases c12 : s.size < 12
    · clear hno
      have H1 := Lib.hid (ref01_Get s 0 8 (by decide) (by omega) hs w)
      have H2 := Lib.hid (ref01_Get_none s 8 4 (by decide) (by omega) hs w)
      obtain ⟨e, he⟩ : ∃ e, Sh.num (((nb s).drop 0).take 8) 0 = e := ⟨_, rfl⟩
      rw [he] at H1
      clear he
      go_enter Tryz.func16, Tryz.ntmps16
      go_wp2_with fail
      refine H1.out.mono ?_
      rintro en w1 ⟨rfl, hw⟩
      subst w1
      go_wp2_with fail
      refine H2.out.mono ?_
      rintro en w1 ⟨rfl, hw⟩
      subst w1
      clear H1 H2
      go_wp2_with fail
      go_ret
      exact ⟨Below.refl _ _, Or.inl ⟨HNO.out, rfl⟩⟩
    · have hg8 := ref01_Get s 0 8 (by decide) (by omega) hs w
      have hg4 := ref01_Get s 8 4 (by decide) (by omega) hs w
      obtain ⟨e, he⟩ : ∃ e, rdE s = e := ⟨_, rfl⟩
      obtain ⟨n, hn⟩ : ∃ n, rdN s = n := ⟨_, rfl⟩
      rw [show Sh.num (((nb s).drop 0).take 8) 0 = e from he] at hg8
      rw [show Sh.num (((nb s).drop 8).take 4) 0 = n from hn] at hg4
      have hn4 : n < 4294967296 := by rw [← hn]; exact num4_lt s 8
      have hbad : ¬ (e ≠ 0 ∧ 1 ≤ n ∧ n ≤ 2048 ∧ s.size = 12 + 12 * n) := fun h => hno ⟨by omega, by rw [he]; exact h.1, by rw [hn]; exact h.2.1, by rw [hn]; exact h.2.2.1, by rw [hn]; exact h.2.2.2⟩
      obtain ⟨y, hy⟩ : ∃ y, 12 * n = y := ⟨_, rfl⟩
      obtain ⟨z, hz⟩ : ∃ z, 12 + y = z := ⟨_, rfl⟩
      have hyi : (12 : Int) * (n : Int) = (y : Int) := by omega
      have hzi : (12 : Int) + (y : Int) = (z : Int) := by omega
      have hnw : IntKind.i64.wrap (n : Int) = (n : Int) := by rw [IntKind.wrap_i64]; omega
      by_cases x1 : e = 0
      · have h1 : ((e : Int) == 0) = true := by simp [x1]
        clear hno he hn hbad hy hz hyi hzi x1
        have H1 := Lib.hid (hg8)
        have H2 := Lib.hid (hg4)
        clear hg8 hg4
        go_enter Tryz.func16, Tryz.ntmps16
        go_wp2_with fail
        refine H1.out.mono ?_
        rintro en w1 ⟨rfl, hw⟩
        subst w1
        go_wp2_with fail
        refine H2.out.mono ?_
        rintro en w1 ⟨rfl, hw⟩
        subst w1
        clear H1 H2
        go_wp2_with fail
        go_ret
        exact ⟨Below.refl _ _, Or.inl ⟨HNO.out, rfl⟩⟩
      · have h1 : ((e : Int) == 0) = false := by simp; omega
        by_cases x2 : n < 1
        · have h2 : (n : Int) < 1 := by omega
          clear hno he hn hbad hy hz hyi hzi x1 x2
          have H1 := Lib.hid (hg8)
          have H2 := Lib.hid (hg4)
          clear hg8 hg4
          go_enter Tryz.func16, Tryz.ntmps16
          go_wp2_with fail
          refine H1.out.mono ?_
          rintro en w1 ⟨rfl, hw⟩
          subst w1
          go_wp2_with fail
          refine H2.out.mono ?_
          rintro en w1 ⟨rfl, hw⟩
          subst w1
          clear H1 H2
          go_wp2_with fail
          go_ret
          exact ⟨Below.refl _ _, Or.inl ⟨HNO.out, rfl⟩⟩
        · have h2 : ¬ (n : Int) < 1 := by omega
          by_cases x3 : 2048 < n
          · have h3 : (2048 : Int) < (n : Int) := by omega
            clear hno he hn hbad hy hz hyi hzi x1 x2 x3
            have H1 := Lib.hid (hg8)
            have H2 := Lib.hid (hg4)
            clear hg8 hg4
            go_enter Tryz.func16, Tryz.ntmps16
            go_wp2_with fail
            refine H1.out.mono ?_
            rintro en w1 ⟨rfl, hw⟩
            subst w1
            go_wp2_with fail
            refine H2.out.mono ?_
            rintro en w1 ⟨rfl, hw⟩
            subst w1
            clear H1 H2
            go_wp2_with fail
            go_ret
            exact ⟨Below.refl _ _, Or.inl ⟨HNO.out, rfl⟩⟩
          · have h3 : ¬ (2048 : Int) < (n : Int) := by omega
            have h4 : ((s.size : Int) != (z : Int)) = true := by simp; omega
            clear hno he hn hbad hy hz x1
            have H1 := Lib.hid (hg8)
            have H2 := Lib.hid (hg4)
            clear hg8 hg4
            go_enter Tryz.func16, Tryz.ntmps16
            go_wp2_with fail
            refine H1.out.mono ?_
            rintro en w1 ⟨rfl, hw⟩
            subst w1
            go_wp2_with fail
            refine H2.out.mono ?_
            rintro en w1 ⟨rfl, hw⟩
            subst w1
            clear H1 H2
            go_wp2_with fail
            go_ret
            exact ⟨Below.refl _ _, Or.inl ⟨HNO.out, rfl⟩⟩

set_option maxRecDepth 100000 in
set_option maxHeartbeats 4000000 in
theorem d27_Read_go (s : ByteArray) (hs : s.size ≤ 1000000) (hh : HdOk s) (w : World) : Calls Tryz.prog 16 #[.string s] w (ReadD s w) := by
  obtain ⟨i0, hi, hz0, hz1, hz2⟩ := info_parts infoSpan
  have hg8 := ref01_Get s 0 8 (by decide) (by have := hh.room; omega) hs w
  have hg4 := ref01_Get s 8 4 (by decide) (by have := hh.room; omega) hs w
  obtain ⟨e, he⟩ : ∃ e, rdE s = e := ⟨_, rfl⟩
  obtain ⟨n, hn⟩ : ∃ n, rdN s = n := ⟨_, rfl⟩
  rw [show Sh.num (((nb s).drop 0).take 8) 0 = e from he] at hg8
  rw [show Sh.num (((nb s).drop 8).take 4) 0 = n from hn] at hg4
  have he0 := hh.e; have hlo := hh.lo; have hhi := hh.hi; have hsz := hh.size
  rw [he] at he0; rw [hn] at hlo hhi hsz
  obtain ⟨y, hy⟩ : ∃ y, 12 * n = y := ⟨_, rfl⟩
  obtain ⟨z, hz⟩ : ∃ z, 12 + y = z := ⟨_, rfl⟩
  have hyi : (12 : Int) * (n : Int) = (y : Int) := by omega
  have hzi : (12 : Int) + (y : Int) = (z : Int) := by omega
  have hnw : IntKind.i64.wrap (n : Int) = (n : Int) := by rw [IntKind.wrap_i64]; omega
  have h1 : ((e : Int) == 0) = false := by simp; omega
  have h2 : ¬ (n : Int) < 1 := by omega
  have h3 : ¬ (2048 : Int) < (n : Int) := by omega
  have h4 : ((s.size : Int) != (z : Int)) = false := by simp; omega
  have HGET8 := Lib.hid (fun (a : Nat) (ha : a + 8 ≤ s.size) (w' : World) => ref01_Get s a 8 (by decide) ha hs w')
  have HGET4 := Lib.hid (fun (a : Nat) (ha : a + 4 ≤ s.size) (w' : World) => ref01_Get s a 4 (by decide) ha hs w')
  have H1 := Lib.hid hg8; have H2 := Lib.hid hg4; have HE := Lib.hid he; have HN := Lib.hid hn; have HH := Lib.hid hh; have HSZ := Lib.hid (show s.size = 12 + 12 * n from hsz)
  obtain ⟨B, hB⟩ : ∃ B, w.heap.size = B := ⟨_, rfl⟩
  obtain ⟨W1, hW1⟩ : ∃ W1, w.alloc (.cells #[.int .u64 (e : Int), .slice none 0 0] 71) = W1 := ⟨_, rfl⟩
  obtain ⟨hzW, gB, hbW⟩ := alloc_keep hW1
  rw [hB] at hzW gB hbW
  have HS0 := Lib.hid (show DpS B (B + 1) (.int .u64 (e : Int)) (upto (ent s) 0) W1 from ⟨none, 0, gB, World.ownsRow_nil _ _ _ _⟩)
  have HZW := Lib.hid hzW; have HBW := Lib.hid hbW
  have hnz : n ≤ 2048 := hhi
  clear hg8 hg4 he hn he0 hlo hhi hsz hh hz hy hzW gB hbW
  go_enter Tryz.func16, Tryz.ntmps16
  go_wp2_with fail
  refine H1.out.mono ?_
  rintro en w1 ⟨rfl, hw⟩
  subst w1
  go_wp2_with fail
  refine H2.out.mono ?_
  rintro en w1 ⟨rfl, hw⟩
  subst w1
  clear H1 H2
  go_upto_region 6 with fail
  clear hW1 hyi hzi h1 h2 h3 h4
  go_wp2_with fail
  go_loopw [8] (fun v wr => ∃ i : Nat, i ≤ n ∧ v = .int .i64 i ∧ Hid (DpS B (B + 1) (.int .u64 (e : Int)) (upto (ent s) i) wr) ∧ Hid (KX B (B + 1) W1 wr) ∧ Hid (∀ j, j < i → entOk s j)) (fun v _ => n - (intOf v).toNat)
  case atStart => exact ⟨0, Nat.zero_le _, rfl, HS0, Lib.hid (KX.refl _ _ _), Lib.hid (fun j hj => by omega)⟩
  case round =>
    obtain ⟨i, hin, rfl, HSP, HKX, HOK⟩ := hrel
    by_cases hlt : i < n
    · have hal : (i : Int) < (n : Int) := by omega
      have hg8 := HGET8.out (12 + 12 * i) (by have := HSZ.out; omega)
      have hg4 := HGET4.out (20 + 12 * i) (by have := HSZ.out; omega)
      obtain ⟨p, hp⟩ : ∃ p, (ent s i).1 = p := ⟨_, rfl⟩
      obtain ⟨q, hq⟩ : ∃ p, (ent s i).2 = p := ⟨_, rfl⟩
      have hq32 : q < 4294967296 := by rw [← hq]; exact num4_lt s _
      rw [show Sh.num (((nb s).drop (12 + 12 * i)).take 8) 0 = p from hp] at hg8; rw [show Sh.num (((nb s).drop (20 + 12 * i)).take 4) 0 = q from hq] at hg4
      obtain ⟨yi, hyi⟩ : ∃ x, 12 * i = x := ⟨_, rfl⟩
      have hyii : (12 : Int) * (i : Int) = (yi : Int) := by omega
      obtain ⟨a8, ha8⟩ : ∃ x, 12 + yi = x := ⟨_, rfl⟩
      have ha8i : (12 : Int) + (yi : Int) = (a8 : Int) := by omega
      obtain ⟨a4, ha4⟩ : ∃ x, 20 + yi = x := ⟨_, rfl⟩
      have ha4i : (20 : Int) + (yi : Int) = (a4 : Int) := by omega
      rw [hyi, ha8] at hg8; rw [hyi, ha4] at hg4
      have hqw : IntKind.u32.wrap (q : Int) = (q : Int) := by rw [IntKind.wrap_u32]; omega
      have hyb : yi ≤ 30000 := by omega
      have hxl := upto_length (ent s) i
      have hsp := HSP.out
      obtain ⟨av, cv, bq, rq⟩ := id hsp
      obtain ⟨sq, hsq⟩ : ∃ x, upto (ent s) i = x := ⟨_, rfl⟩
      have hadd := addS_ents s i
      rw [hp, hq, hsq] at hadd
      have hprev : 0 < i → sq.getD (i - 1) d0 = ent s (i - 1) := fun h0 => by rw [← hsq]; exact ents_get s i (i - 1) (by omega)
      have hent : entOk s i ↔ q ≠ 0 ∧ (i = 0 → p = 0) ∧ (0 < i → (sq.getD (i - 1) d0).1 < p ∧ q ≠ (sq.getD (i - 1) d0).2) := by
        unfold entOk; rw [hp, hq]
        constructor
        · rintro ⟨x1, x2, x3⟩; exact ⟨x1, x2, fun h0 => by rw [hprev h0]; exact x3 h0⟩
        · rintro ⟨x1, x2, x3⟩; exact ⟨x1, x2, fun h0 => by have := x3 h0; rw [hprev h0] at this; exact this⟩
      rw [hsq] at HSP hxl bq rq hsp
      rw [hxl] at bq rq
      have hXB : B + 1 ≤ wr.heap.size := by have := HKX.out.size; have := HZW.out; omega
      have mc1 : wr.cell? ⟨B, 1, none⟩ = some (.slice av i cv) := cell_of bq 1
      have mf1 : wr.frozen? ⟨B, 1, none⟩ = false := frozen_of bq 1
      have HBQ := Lib.hid bq; have HRQ := Lib.hid rq; have HADD := Lib.hid hadd; have HENT := Lib.hid hent; have HXL := Lib.hid hxl; have HSQ := Lib.hid hsq
      have HP := Lib.hid hp; have HQ := Lib.hid hq
      have HG8 := Lib.hid hg8; have HG4 := Lib.hid hg4
      have hbwc : Below w.heap.size w wr := by rw [hB]; exact HBW.out.trans (HKX.out.below (Nat.le_succ _) (Nat.le_refl _))
      have hnot : ¬ entOk s i → ¬ RdOk s := fun h1 h2 => h1 (h2.2 i (by rw [HN.out]; exact hlt))
      have HBWC := Lib.hid hbwc; have HNOT := Lib.hid hnot
      clear hp hq hg8 hg4 ha8 ha4 hyi hsp bq rq hadd hprev hent hxl hsq hbwc hnot hq32
      by_cases q0 : q = 0
      · have hqb : ((q : Int) == 0) = true := by simp [q0]
        have HBAD := Lib.hid (HNOT.out (fun h => (HENT.out.1 h).1 q0))
        clear q0
        go_wp2_with fail
        refine (HG8.out _).mono ?_
        rintro e8 w8 ⟨rfl, hw8⟩
        subst w8
        go_wp2_with fail
        refine (HG4.out _).mono ?_
        rintro e8 w8 ⟨rfl, hw8⟩
        subst w8
        clear HG8 HG4
        go_wp2_with fail
        go_ret
        exact ⟨HBWC.out, Or.inl ⟨HBAD.out, rfl⟩⟩
      · have hqb : ((q : Int) == 0) = false := by simp; omega
        by_cases i0' : i = 0
        · have hib : ((i : Int) == 0) = true := by simp [i0']
          have hig' : ¬ (0 : Int) < (i : Int) := by omega
          have hig3 : ¬ 0 < i := by omega
          by_cases p0 : p = 0
          · have hpb : ((p : Int) != 0) = false := by simp [p0]
            have HGOOD := Lib.hid (HENT.out.2 ⟨q0, fun _ => p0, fun h => by omega⟩)
            clear q0 p0 i0'
            have hsn : addS sq p q = sq ++ [(p, q)] := by
              have h1 := HADD.out HGOOD.out
              rw [upto_succ, HSQ.out] at h1
              rw [h1, show ent s i = (p, q) from Prod.ext HP.out HQ.out]
            have HSN := Lib.hid hsn
            clear hsn
            go_wp2_with fail
            refine (HG8.out _).mono ?_
            rintro e8 w8 ⟨rfl, hw8⟩
            subst w8
            go_wp2_with fail
            refine (HG4.out _).mono ?_
            rintro e8 w8 ⟨rfl, hw8⟩
            subst w8
            clear HG8 HG4
            go_wp2_with (
              at_builtin
              refine wpList_append_lies _ rfl (.tmp 120) (.tmp 125) 39 rfl (B + 1) 42 i0 (.agg #[.int .u64 0, .int .u32 0]) 2 16 Tryz.underlying39 hi hz0 hz1 hz2 rfl (by decide) _ i (spV sq) rfl (rowBelow HRQ.out ((Below.refl _ _).alloc (Nat.le_refl _) _)) ⟨wr.heap.size, 0, none⟩ 1 1 [.int .u64 (p : Int), .int .u32 (q : Int)] rfl rfl (World.news_of_block (MapKept.heap_alloc _ _).1) (two_one (p, q)) (by decide) (by unfold maxLen; omega) (by omega) (by simp; omega) (wr.heap.size + 1) (by simp) ?gga
              intro g8 cp8 w8 hown8 hg8 _hat _hlt8
              have hb8 : Below (B + 1) wr w8 := ((Below.refl (B + 1) wr).alloc hXB _).grown hg8 (by simp; omega) (own_above2 HRQ.out)
              replace hown8 : w8.ownsRow (B + 1) 42 2 (.slice (some ⟨g8, 0, none⟩) (addS sq p q).length cp8) (addS sq p q).length (spV (addS sq p q)) := (by rw [HSN.out, spV_snoc, List.length_append, HXL.out]; exact hown8)
              have hlen8 : (addS sq p q).length = i + 1 := (by rw [HSN.out, List.length_append, HXL.out]; rfl)
              obtain ⟨c8, f8, X8, hX8, hp8, hk8⟩ := dps_step HBQ.out (Nat.lt_succ_self B) hb8 hown8
              rw [hlen8] at hX8
              have HP8 := Lib.hid hp8; have HK8 := Lib.hid hk8
              clear hown8 hg8 _hat _hlt8 hb8 hlen8 hp8 hk8)
            go_roundw
            case rel =>
              refine ⟨i + 1, by omega, by go_num, Lib.hid ?_, Lib.hid (HKX.out.trans HK8.out), Lib.hid (fun j hj => ?_)⟩
              · have h1 := HP8.out
                rw [HADD.out HGOOD.out] at h1; exact h1
              · by_cases e : j = i
                · subst e; exact HGOOD.out
                · exact HOK.out j (by omega)
            case measure => simp [intOf]; omega
          · have hpb : ((p : Int) != 0) = true := by simp; omega
            have HBAD := Lib.hid (HNOT.out (fun h => p0 ((HENT.out.1 h).2.1 i0')))
            clear q0 p0 i0'
            go_wp2_with fail
            refine (HG8.out _).mono ?_
            rintro e8 w8 ⟨rfl, hw8⟩
            subst w8
            go_wp2_with fail
            refine (HG4.out _).mono ?_
            rintro e8 w8 ⟨rfl, hw8⟩
            subst w8
            clear HG8 HG4
            go_wp2_with fail
            go_ret
            exact ⟨HBWC.out, Or.inl ⟨HBAD.out, rfl⟩⟩
        · have hib : ((i : Int) == 0) = false := by simp; omega
          have hig' : (0 : Int) < (i : Int) := by omega
          have hig3 : 0 < i := by omega
          obtain ⟨il, hil⟩ : ∃ x, i - 1 = x := ⟨_, rfl⟩
          have hili : (i : Int) - 1 = (il : Int) := by omega
          have hill : (il : Int) < (i : Int) := by omega
          obtain ⟨gq, rfl⟩ : ∃ gq, av = some ⟨gq, 0, none⟩ := by
            rcases own_slice' HRQ.out with h | h
            · exact absurd h i0'
            · exact h
          obtain ⟨lp, hlp⟩ : ∃ x, (sq.getD (i - 1) d0).1 = x := ⟨_, rfl⟩
          obtain ⟨lq, hlq⟩ : ∃ x, (sq.getD (i - 1) d0).2 = x := ⟨_, rfl⟩
          obtain ⟨s1, s2⟩ := spV_at sq il (by rw [HXL.out]; omega)
          have l0 := (World.ownsRow.cellAt HRQ.out (il * 2) (by omega)).trans s1
          have l1 := (World.ownsRow.cellAt HRQ.out (il * 2 + 1) (by omega)).trans s2
          rw [← hil, hlp, hil] at l0; rw [← hil, hlq, hil] at l1
          have hent2 := HENT.out
          rw [hlp, hlq] at hent2
          have HENT2 := Lib.hid hent2
          clear hlp hlq hil s1 s2 hent2
          by_cases pl : p ≤ lp
          · have HBAD := Lib.hid (HNOT.out (fun h => by have := (HENT2.out.1 h).2.2 (by omega); omega))
            clear q0 i0'
            go_wp2_with fail
            refine (HG8.out _).mono ?_
            rintro e8 w8 ⟨rfl, hw8⟩
            subst w8
            go_wp2_with fail
            refine (HG4.out _).mono ?_
            rintro e8 w8 ⟨rfl, hw8⟩
            subst w8
            clear HG8 HG4
            go_wp2_with fail
            go_ret
            exact ⟨HBWC.out, Or.inl ⟨HBAD.out, rfl⟩⟩
          · by_cases ql : q = lq
            · have hqlb : ((q : Int) == (lq : Int)) = true := by simp [ql]
              have HBAD := Lib.hid (HNOT.out (fun h => ((HENT2.out.1 h).2.2 (by omega)).2 ql))
              clear q0 i0' ql
              go_wp2_with fail
              refine (HG8.out _).mono ?_
              rintro e8 w8 ⟨rfl, hw8⟩
              subst w8
              go_wp2_with fail
              refine (HG4.out _).mono ?_
              rintro e8 w8 ⟨rfl, hw8⟩
              subst w8
              clear HG8 HG4
              go_wp2_with fail
              go_ret
              exact ⟨HBWC.out, Or.inl ⟨HBAD.out, rfl⟩⟩
            · have hqlb : ((q : Int) == (lq : Int)) = false := by simp; omega
              have HGOOD := Lib.hid (HENT2.out.2 ⟨q0, fun h => by omega, fun _ => ⟨by omega, ql⟩⟩)
              clear q0 i0' ql
              have hsn : addS sq p q = sq ++ [(p, q)] := by
                have h1 := HADD.out HGOOD.out
                rw [upto_succ, HSQ.out] at h1
                rw [h1, show ent s i = (p, q) from Prod.ext HP.out HQ.out]
              have HSN := Lib.hid hsn
              clear hsn
              go_wp2_with fail
              refine (HG8.out _).mono ?_
              rintro e8 w8 ⟨rfl, hw8⟩
              subst w8
              go_wp2_with fail
              refine (HG4.out _).mono ?_
              rintro e8 w8 ⟨rfl, hw8⟩
              subst w8
              clear HG8 HG4
              go_wp2_with (
                at_builtin
                refine wpList_append_lies _ rfl (.tmp 120) (.tmp 125) 39 rfl (B + 1) 42 i0 (.agg #[.int .u64 0, .int .u32 0]) 2 16 Tryz.underlying39 hi hz0 hz1 hz2 rfl (by decide) _ i (spV sq) rfl (rowBelow HRQ.out ((Below.refl _ _).alloc (Nat.le_refl _) _)) ⟨wr.heap.size, 0, none⟩ 1 1 [.int .u64 (p : Int), .int .u32 (q : Int)] rfl rfl (World.news_of_block (MapKept.heap_alloc _ _).1) (two_one (p, q)) (by decide) (by unfold maxLen; omega) (by omega) (by simp; omega) (wr.heap.size + 1) (by simp) ?ggb
                intro g8 cp8 w8 hown8 hg8 _hat _hlt8
                have hb8 : Below (B + 1) wr w8 := ((Below.refl (B + 1) wr).alloc hXB _).grown hg8 (by simp; omega) (own_above2 HRQ.out)
                replace hown8 : w8.ownsRow (B + 1) 42 2 (.slice (some ⟨g8, 0, none⟩) (addS sq p q).length cp8) (addS sq p q).length (spV (addS sq p q)) := (by rw [HSN.out, spV_snoc, List.length_append, HXL.out]; exact hown8)
                have hlen8 : (addS sq p q).length = i + 1 := (by rw [HSN.out, List.length_append, HXL.out]; rfl)
                obtain ⟨c8, f8, X8, hX8, hp8, hk8⟩ := dps_step HBQ.out (Nat.lt_succ_self B) hb8 hown8
                rw [hlen8] at hX8
                have HP8 := Lib.hid hp8; have HK8 := Lib.hid hk8
                clear hown8 hg8 _hat _hlt8 hb8 hlen8 hp8 hk8)
              go_roundw
              case rel =>
                refine ⟨i + 1, by omega, by go_num, Lib.hid ?_, Lib.hid (HKX.out.trans HK8.out), Lib.hid (fun j hj => ?_)⟩
                · have h1 := HP8.out
                  rw [HADD.out HGOOD.out] at h1; exact h1
                · by_cases e : j = i
                  · subst e; exact HGOOD.out
                  · exact HOK.out j (by omega)
              case measure => simp [intOf]; omega
    · obtain rfl : i = n := by omega
      have hal : ¬ (i : Int) < (i : Int) := by omega
      go_wp2_with fail
      go_ret
      refine ⟨HBW.out.trans (HKX.out.below (Nat.le_succ _) (Nat.le_refl _)) |>.mono (Nat.le_of_eq hB), Or.inr ⟨⟨HH.out, fun j hj => HOK.out j (by rw [HN.out] at hj; exact hj)⟩, B, rfl, ?_⟩⟩
      rw [HE.out, HN.out]
      exact HSP.out.doc (fun h => by have h2 := upto_length (ent s) i; rw [h] at h2; have := HH.out.lo; rw [HN.out] at this; simp at h2; omega)
theorem map_Read (s : ByteArray) (hs : s.size ≤ 1000000) (w : World) : Calls Tryz.prog 15 #[.string s] w (ReadM s w) := by
  by_cases h : HdOk s
  · exact map_Read_go s hs h w
  · exact map_Read_bad s hs h w
theorem d27_Read (s : ByteArray) (hs : s.size ≤ 1000000) (w : World) : Calls Tryz.prog 16 #[.string s] w (ReadD s w) := by
  by_cases h : HdOk s
  · exact d27_Read_go s hs h w
  · exact d27_Read_bad s hs h w
end Go.Proofs.YthcmcjoenepkbaaGreat
