/- Contract: shardmap's Read. -/
import Derived.Test.YthcmcjoenepkbaaGreatRdA
import Derived.Test.YthcmcjoenepkbaaGreatSm8
namespace Go.Proofs.YthcmcjoenepkbaaGreat
open Go Go.RowKit Go.Maps

def ReadM (s : ByteArray) (w : World) (en : Ending) (w' : World) : Prop := Below w.heap.size w w' ∧ ((¬ RdOk s ∧ en = .returned (.tuple #[.pointer none, .int .i64 7])) ∨ (RdOk s ∧ ∃ m, en = .returned (.tuple #[.pointer (some ⟨m, 0, none⟩), .int .i64 0]) ∧ MapAt w' m (rdE s) (upto (ent s) (rdN s))))
set_option maxRecDepth 100000 in
set_option maxHeartbeats 4000000 in
theorem map_Read_bad (s : ByteArray) (hs : s.size ≤ 1000000) (hno : ¬ HdOk s) (w : World) : Calls Tryz.prog 15 #[.string s] w (ReadM s w) := by
  have HNO := Lib.hid (show ¬ RdOk s from fun h => hno h.1)
  by_cases c8 : s.size < 8
  · clear hno
    have H1 := Lib.hid (word_Get64_none s 0 (by omega) hs w)
    have H2 := Lib.hid (word_Get32_none s 8 (by omega) hs w)
    go_enter Tryz.func15, Tryz.ntmps15
    go_wp2_with fail
    refine H1.out.mono ?_
    rintro en w1 ⟨rfl, hw⟩
    subst w1
    go_wp2_with fail
    refine H2.out.mono ?_
    rintro en w1 ⟨rfl, hw⟩
    subst w1
    clear H1 H2
    go_wp2_with fail
    go_ret2
    exact ⟨Below.refl _ _, Or.inl ⟨HNO.out, rfl⟩⟩
  · by_cases c12 : s.size < 12
    · clear hno
      have H1 := Lib.hid (word_Get64 s 0 (by omega) hs w)
      have H2 := Lib.hid (word_Get32_none s 8 (by omega) hs w)
      obtain ⟨e, he⟩ : ∃ e, Sh.num (((nb s).drop 0).take 8) 0 = e := ⟨_, rfl⟩
      rw [he] at H1
      clear he
      go_enter Tryz.func15, Tryz.ntmps15
      go_wp2_with fail
      refine H1.out.mono ?_
      rintro en w1 ⟨rfl, hw⟩
      subst w1
      go_wp2_with fail
      refine H2.out.mono ?_
      rintro en w1 ⟨rfl, hw⟩
      subst w1
      clear H1 H2
      go_wp2_with fail
      go_ret2
      exact ⟨Below.refl _ _, Or.inl ⟨HNO.out, rfl⟩⟩
    · have hg8 := word_Get64 s 0 (by omega) hs w
      have hg4 := word_Get32 s 8 (by omega) hs w
      obtain ⟨e, he⟩ : ∃ e, rdE s = e := ⟨_, rfl⟩
      obtain ⟨n, hn⟩ : ∃ n, rdN s = n := ⟨_, rfl⟩
      rw [show Sh.num (((nb s).drop 0).take 8) 0 = e from he] at hg8
      rw [show Sh.num (((nb s).drop 8).take 4) 0 = n from hn] at hg4
      have hn4 : n < 4294967296 := by rw [← hn]; exact num4_lt s 8
      have hbad : ¬ (e ≠ 0 ∧ 1 ≤ n ∧ n ≤ 2048 ∧ s.size = 12 + 12 * n) := fun h => hno ⟨by omega, by rw [he]; exact h.1, by rw [hn]; exact h.2.1, by rw [hn]; exact h.2.2.1, by rw [hn]; exact h.2.2.2⟩
      obtain ⟨y, hy⟩ : ∃ y, 12 * n = y := ⟨_, rfl⟩
      obtain ⟨z, hz⟩ : ∃ z, 12 + y = z := ⟨_, rfl⟩
      have hyi : (12 : Int) * (n : Int) = (y : Int) := by omega
      have hzi : (12 : Int) + (y : Int) = (z : Int) := by omega
      by_cases x1 : e = 0
      · have h1 : ((e : Int) == 0) = true := by simp [x1]
        clear hno he hn hbad hy hz hyi hzi x1
        have H1 := Lib.hid (hg8)
        have H2 := Lib.hid (hg4)
        clear hg8 hg4
        go_enter Tryz.func15, Tryz.ntmps15
        go_wp2_with fail
        refine H1.out.mono ?_
        rintro en w1 ⟨rfl, hw⟩
        subst w1
        go_wp2_with fail
        refine H2.out.mono ?_
        rintro en w1 ⟨rfl, hw⟩
        subst w1
        clear H1 H2
        go_wp2_with fail
        go_ret2
        exact ⟨Below.refl _ _, Or.inl ⟨HNO.out, rfl⟩⟩
      · have h1 : ((e : Int) == 0) = false := by simp; omega
        by_cases x2 : n < 1
        · have h2 : (n : Int) < 1 := by omega
          clear hno he hn hbad hy hz hyi hzi x1 x2
          have H1 := Lib.hid (hg8)
          have H2 := Lib.hid (hg4)
          clear hg8 hg4
          go_enter Tryz.func15, Tryz.ntmps15
          go_wp2_with fail
          refine H1.out.mono ?_
          rintro en w1 ⟨rfl, hw⟩
          subst w1
          go_wp2_with fail
          refine H2.out.mono ?_
          rintro en w1 ⟨rfl, hw⟩
          subst w1
          clear H1 H2
          go_wp2_with fail
          go_ret2
          exact ⟨Below.refl _ _, Or.inl ⟨HNO.out, rfl⟩⟩
        · have h2 : ¬ (n : Int) < 1 := by omega
          by_cases x3 : 2048 < n
          · have h3 : (2048 : Int) < (n : Int) := by omega
            clear hno he hn hbad hy hz hyi hzi x1 x2 x3
            have H1 := Lib.hid (hg8)
            have H2 := Lib.hid (hg4)
            clear hg8 hg4
            go_enter Tryz.func15, Tryz.ntmps15
            go_wp2_with fail
            refine H1.out.mono ?_
            rintro en w1 ⟨rfl, hw⟩
            subst w1
            go_wp2_with fail
            refine H2.out.mono ?_
            rintro en w1 ⟨rfl, hw⟩
            subst w1
            clear H1 H2
            go_wp2_with fail
            go_ret2
            exact ⟨Below.refl _ _, Or.inl ⟨HNO.out, rfl⟩⟩
          · have h3 : ¬ (2048 : Int) < (n : Int) := by omega
            have h4 : ((s.size : Int) != (z : Int)) = true := by simp; omega
            clear hno he hn hbad hy hz x1
            have H1 := Lib.hid (hg8)
            have H2 := Lib.hid (hg4)
            clear hg8 hg4
            go_enter Tryz.func15, Tryz.ntmps15
            go_wp2_with fail
            refine H1.out.mono ?_
            rintro en w1 ⟨rfl, hw⟩
            subst w1
            go_wp2_with fail
            refine H2.out.mono ?_
            rintro en w1 ⟨rfl, hw⟩
            subst w1
            clear H1 H2
            go_wp2_with fail
            go_ret2
            exact ⟨Below.refl _ _, Or.inl ⟨HNO.out, rfl⟩⟩

theorem own_slice2 {w : World} {base k n cp : Nat} {Te : TypeId} {a : Option Addr} {xs : List Value} (h : w.ownsRow base Te k (.slice a n cp) n xs) : a = none ∨ ∃ g0, a = some ⟨g0, 0, none⟩ := by
  rcases h.2 with ⟨h', _⟩ | ⟨g', cap', cur, h', _⟩
  · simp only [Value.slice.injEq] at h'; exact Or.inl h'.1
  · simp only [Value.slice.injEq] at h'; exact Or.inr ⟨g', h'.1⟩
theorem own_slice' {w : World} {base k n cp : Nat} {Te : TypeId} {a : Option Addr} {xs : List Value} (h : w.ownsRow base Te k (.slice a n cp) n xs) : n = 0 ∨ ∃ g0, a = some ⟨g0, 0, none⟩ := by
  rcases h.2 with ⟨_, h0⟩ | ⟨g', cap', cur, h', _⟩
  · exact Or.inl h0
  · simp only [Value.slice.injEq] at h'; exact Or.inr ⟨g', h'.1⟩
theorem addS_ents (s : ByteArray) (i : Nat) (h : entOk s i) : addS (upto (ent s) i) (ent s i).1 (ent s i).2 = upto (ent s) (i + 1) := by
  rw [upto_succ]
  unfold addS
  rw [if_neg]
  rintro ⟨h1, h2⟩
  have hl : (upto (ent s) i).length = i := upto_length _ _
  have hi : 0 < i := by
    rcases Nat.eq_zero_or_pos i with rfl | h0
    · exact absurd rfl h1
    · exact h0
  rw [hl, ents_get s i (i - 1) (by omega)] at h2
  exact (h.2.2 hi).2 h2.symm
theorem infoSpan2 : (Tryz.prog.info? 42).map (fun i => (i.zero, i.size, i.bytes)) = some (some (.agg #[.int .u64 0, .int .u32 0]), 2, 16) := infoSpan

set_option maxRecDepth 100000 in
set_option maxHeartbeats 4000000 in
theorem map_Read_go (s : ByteArray) (hs : s.size ≤ 1000000) (hh : HdOk s) (w : World) : Calls Tryz.prog 15 #[.string s] w (ReadM s w) := by
  obtain ⟨i0, hi, hz0, hz1, hz2⟩ := info_parts infoSpan
  have hg8 := word_Get64 s 0 (by have := hh.room; omega) hs w
  have hg4 := word_Get32 s 8 (by have := hh.room; omega) hs w
  have hroom := hh.room
  obtain ⟨e, he⟩ : ∃ e, rdE s = e := ⟨_, rfl⟩
  obtain ⟨n, hn⟩ : ∃ n, rdN s = n := ⟨_, rfl⟩
  rw [show Sh.num (((nb s).drop 0).take 8) 0 = e from he] at hg8
  rw [show Sh.num (((nb s).drop 8).take 4) 0 = n from hn] at hg4
  have he0 := hh.e; have hlo := hh.lo; have hhi := hh.hi; have hsz := hh.size
  rw [he] at he0; rw [hn] at hlo hhi hsz
  obtain ⟨y, hy⟩ : ∃ y, 12 * n = y := ⟨_, rfl⟩
  obtain ⟨z, hz⟩ : ∃ z, 12 + y = z := ⟨_, rfl⟩
  have hyi : (12 : Int) * (n : Int) = (y : Int) := by omega
  have hzi : (12 : Int) + (y : Int) = (z : Int) := by omega
  have h1 : ((e : Int) == 0) = false := by simp; omega
  have h2 : ¬ (n : Int) < 1 := by omega
  have h3 : ¬ (2048 : Int) < (n : Int) := by omega
  have h4 : ((s.size : Int) != (z : Int)) = false := by simp; omega
  have HGET8 := Lib.hid (fun (a : Nat) (ha : a + 8 ≤ s.size) (w' : World) => word_Get64 s a ha hs w')
  have HGET4 := Lib.hid (fun (a : Nat) (ha : a + 4 ≤ s.size) (w' : World) => word_Get32 s a ha hs w')
  have H1 := Lib.hid hg8; have H2 := Lib.hid hg4; have HE := Lib.hid he; have HN := Lib.hid hn; have HH := Lib.hid hh; have HSZ := Lib.hid (show s.size = 12 + 12 * n from hsz)
  obtain ⟨B, hB⟩ : ∃ B, w.heap.size = B := ⟨_, rfl⟩
  obtain ⟨W1, hW1⟩ : ∃ W1, w.alloc (.cells #[.int .u64 (e : Int), .slice none 0 0] 73) = W1 := ⟨_, rfl⟩
  obtain ⟨hzW, gB, hbW⟩ := alloc_keep hW1
  rw [hB] at hzW gB hbW
  have HS0 := Lib.hid (show SpS B (B + 1) (.int .u64 (e : Int)) (upto (ent s) 0) W1 from ⟨none, 0, gB, World.ownsRow_nil _ _ _ _⟩)
  have HZW := Lib.hid hzW; have HBW := Lib.hid hbW
  have hnz : n ≤ 2048 := hhi
  clear hg8 hg4 he hn he0 hlo hhi hsz hh hz hy hzW gB hbW
  go_enter Tryz.func15, Tryz.ntmps15
  go_wp2_with fail
  refine H1.out.mono ?_
  rintro en w1 ⟨rfl, hw⟩
  subst w1
  go_wp2_with fail
  refine H2.out.mono ?_
  rintro en w1 ⟨rfl, hw⟩
  subst w1
  clear H1 H2
  go_upto_region 6 with fail
  clear hW1 hyi hzi h1 h2 h3 h4
  go_wp2_with fail
  go_loopw [9] (fun v wr => ∃ i a : Nat, i ≤ n ∧ v = .int .i64 a ∧ Hid (a = 12 + 12 * i) ∧ Hid (SpS B (B + 1) (.int .u64 (e : Int)) (upto (ent s) i) wr) ∧ Hid (KX B (B + 1) W1 wr) ∧ Hid (∀ j, j < i → entOk s j)) (fun v _ => 30000 - (intOf v).toNat)
  case atStart => exact ⟨0, 12, Nat.zero_le _, rfl, Lib.hid rfl, HS0, Lib.hid (KX.refl _ _ _), Lib.hid (fun j hj => by omega)⟩
  case round =>
    obtain ⟨i, a, hin, rfl, HA, HSP, HKX, HOK⟩ := hrel
    by_cases hlt : i < n
    · have hal : (a : Int) < (s.size : Int) := by have := HA.out; have := HSZ.out; omega
      have hg8 := HGET8.out a (by have := HA.out; have := HSZ.out; omega)
      have hg4 := HGET4.out (a + 8) (by have := HA.out; have := HSZ.out; omega)
      obtain ⟨p, hp⟩ : ∃ p, (ent s i).1 = p := ⟨_, rfl⟩
      obtain ⟨q, hq⟩ : ∃ p, (ent s i).2 = p := ⟨_, rfl⟩
      have hp' : Sh.num (((nb s).drop a).take 8) 0 = p := by rw [← hp, HA.out]; rfl
      have hq' : Sh.num (((nb s).drop (a + 8)).take 4) 0 = q := by rw [← hq, HA.out, show 12 + 12 * i + 8 = 20 + 12 * i by omega]; rfl
      rw [hp'] at hg8; rw [hq'] at hg4
      obtain ⟨a8, ha8⟩ : ∃ x, a + 8 = x := ⟨_, rfl⟩
      have ha8i : (a : Int) + 8 = (a8 : Int) := by omega
      rw [ha8] at hg4
      obtain ⟨a12, ha12⟩ : ∃ x, a + 12 = x := ⟨_, rfl⟩
      have ha12i : (a : Int) + 12 = (a12 : Int) := by omega
      have hab : a ≤ 30000 := by have := HA.out; omega
      have hxl := upto_length (ent s) i
      have hsp := HSP.out
      obtain ⟨av, cv, bq, rq⟩ := id hsp
      obtain ⟨sq, hsq⟩ : ∃ x, upto (ent s) i = x := ⟨_, rfl⟩
      have hadd := addS_ents s i
      rw [hp, hq, hsq] at hadd
      have hprev : 0 < i → sq.getD (i - 1) d0 = ent s (i - 1) := fun h0 => by rw [← hsq]; exact ents_get s i (i - 1) (by omega)
      have hent : entOk s i ↔ q ≠ 0 ∧ (i = 0 → p = 0) ∧ (0 < i → (sq.getD (i - 1) d0).1 < p ∧ q ≠ (sq.getD (i - 1) d0).2) := by
        unfold entOk; rw [hp, hq]
        constructor
        · rintro ⟨x1, x2, x3⟩; exact ⟨x1, x2, fun h0 => by rw [hprev h0]; exact x3 h0⟩
        · rintro ⟨x1, x2, x3⟩; exact ⟨x1, x2, fun h0 => by have := x3 h0; rw [hprev h0] at this; exact this⟩
      rw [hsq] at HSP hxl bq rq hsp
      rw [hxl] at bq rq
      obtain ⟨X, hX⟩ : ∃ X, wr.heap.size = X := ⟨_, rfl⟩
      have hXB : B + 1 ≤ X := by have := HKX.out.size; have := HZW.out; omega
      obtain ⟨Wa, hWa⟩ : ∃ Wa, wr.alloc (.cells #[.int .u64 0, .int .u32 0] 42) = Wa := ⟨_, rfl⟩
      obtain ⟨hza, ga, hba⟩ := alloc_keep hWa
      rw [hX] at hza ga hba
      have xa0 : Wa.cell? ⟨X, 0, none⟩ = some (.int .u64 0) := cell_of ga 0
      have fa0 : Wa.frozen? ⟨X, 0, none⟩ = false := frozen_of ga 0
      obtain ⟨Wb, hWb⟩ : ∃ Wb, Wa.setCell ⟨X, 0, none⟩ (.int .u64 (p : Int)) = Wb := ⟨_, rfl⟩
      have gb : Wb.heap[X]? = some (.cells #[.int .u64 (p : Int), .int .u32 0] 42 (0, 0)) := by rw [← hWb]; exact setCell_block (i := 0) ga _
      have xb1 : Wb.cell? ⟨X, 1, none⟩ = some (.int .u32 0) := cell_of gb 1
      have fb1 : Wb.frozen? ⟨X, 1, none⟩ = false := frozen_of gb 1
      have hbb : Below X wr Wb := by rw [← hWb]; exact hba.trans (below_set _ _ (Nat.le_refl _))
      obtain ⟨Wc, hWc⟩ : ∃ Wc, Wb.setCell ⟨X, 1, none⟩ (.int .u32 (q : Int)) = Wc := ⟨_, rfl⟩
      have gc : Wc.heap[X]? = some (.cells #[.int .u64 (p : Int), .int .u32 (q : Int)] 42 (0, 0)) := by rw [← hWc]; exact setCell_block (i := 1) gb _
      have hbc : Below X wr Wc := by rw [← hWc]; exact hbb.trans (below_set _ _ (Nat.le_refl _))
      have xc0 : Wc.cell? ⟨X, 0, none⟩ = some (.int .u64 (p : Int)) := cell_of gc 0
      have xc1 : Wc.cell? ⟨X, 1, none⟩ = some (.int .u32 (q : Int)) := cell_of gc 1
      have bqc := (hbc.block B (by omega)).trans bq
      have rqc := rowBelow rq (by rw [hX]; exact hbc)
      have mc1 : Wc.cell? ⟨B, 1, none⟩ = some (.slice av i cv) := cell_of bqc 1
      have hzc : X ≤ Wc.heap.size := by have := hbc.size; rw [hX] at this; exact this
      have HBC := Lib.hid hbc; have HBQ := Lib.hid bqc; have HRQ := Lib.hid rqc; have HADD := Lib.hid hadd; have HENT := Lib.hid hent; have HXL := Lib.hid hxl; have HSQ := Lib.hid hsq; have HXX := Lib.hid hX
      have HP := Lib.hid hp; have HQ := Lib.hid hq
      have HG8 := Lib.hid hg8; have HG4 := Lib.hid hg4; have HXC := Lib.hid gc
      clear hp hq hp' hq' hg8 hg4 ha8 ha12 hsp bq rq hadd hprev hent hxl hza ga hba gb hbb gc hbc bqc rqc hsq
      have HWA := Lib.hid hWa
      clear hWa
      go_wp2_with fail
      rw [HWA.out]
      refine (HG8.out _).mono ?_
      rintro e8 w8 ⟨rfl, hw8⟩
      subst w8
      go_wp2_with fail
      refine (HG4.out _).mono ?_
      rintro e8 w8 ⟨rfl, hw8⟩
      subst w8
      clear HG8 HG4 xa0 fa0
      go_upto_region 13 with fail
      clear HWA hWb hWc xb1 fb1 hX
      have hbwc : ∀ nd, Below w.heap.size w (Wc.drewN nd) := fun nd => below_dr (by rw [hB]; exact HBW.out.trans ((HKX.out.below (Nat.le_succ _) (Nat.le_refl _)).trans (HBC.out.mono (by omega)))) nd
      have hnot : ¬ entOk s i → ¬ RdOk s := fun h1 h2 => h1 (h2.2 i (by rw [HN.out]; exact hlt))
      have HBWC := Lib.hid hbwc; have HNOT := Lib.hid hnot
      clear hbwc hnot
      by_cases q0 : q = 0
      · have hqb : ((q : Int) == 0) = true := by simp [q0]
        have HBAD := Lib.hid (HNOT.out (fun h => (HENT.out.1 h).1 q0))
        clear q0
        go_quiet (fail)
        go_wp2_with fail
        go_ret2
        exact ⟨HBWC.out _, Or.inl ⟨HBAD.out, rfl⟩⟩
      · have hqb : ((q : Int) == 0) = false := by simp; omega
        by_cases i0' : i = 0
        · have hib : ((i : Int) == 0) = true := by simp [i0']
          have hig : decide ((0 : Int) < (i : Int)) = false := by simp; omega
          have hig' : ¬ (0 : Int) < (i : Int) := by omega
          have hig3 : ¬ 0 < i := by omega
          by_cases p0 : p = 0
          · have hpb : ((p : Int) != 0) = false := by simp [p0]
            have HGOOD := Lib.hid (HENT.out.2 ⟨q0, fun _ => p0, fun h => by omega⟩)
            clear q0 p0 i0'
            go_quiet (fail)
            obtain ⟨Wd, hWd⟩ : ∃ X, Wc.drewN nq = X := ⟨_, rfl⟩
            have hbd : Below X wr Wd := by rw [← hWd]; exact below_dr HBC.out _
            have hbcd : Below Wc.heap.size Wc Wd := by rw [← hWd]; exact below_dr (Below.refl _ _) _
            have gd : Wd.heap[X]? = some (.cells #[.int .u64 (p : Int), .int .u32 (q : Int)] 42 (0, 0)) := (hbcd.block X (lt_of_block HXC.out)).trans HXC.out
            have bqd := (hbcd.block B (lt_of_block HBQ.out)).trans HBQ.out
            have rqd := rowBelow HRQ.out hbcd
            rw [hWd]
            have x0d : Wd.cell? ⟨X, 0, none⟩ = some (.int .u64 (p : Int)) := cell_of gd 0
            have x1d : Wd.cell? ⟨X, 1, none⟩ = some (.int .u32 (q : Int)) := cell_of gd 1
            have mcd : Wd.cell? ⟨B, 1, none⟩ = some (.slice av i cv) := cell_of bqd 1
            have mfd : Wd.frozen? ⟨B, 1, none⟩ = false := frozen_of bqd 1
            have hzd : X + 1 ≤ Wd.heap.size := lt_of_block gd
            have mcda : (Wd.alloc (.cells #[.int .u64 (p : Int), .int .u32 (q : Int)] 42)).cell? ⟨B, 1, none⟩ = some (.slice av i cv) := (World.cell?_alloc_past _ _ _ (by show B < _; omega)).trans mcd
            have hsn : addS sq p q = sq ++ [(p, q)] := by
              have h1 := HADD.out HGOOD.out
              rw [upto_succ, HSQ.out] at h1
              rw [h1, show ent s i = (p, q) from Prod.ext HP.out HQ.out]
            have HSN := Lib.hid hsn; have HBD := Lib.hid hbd; have HBQD := Lib.hid bqd; have HRQD := Lib.hid rqd
            clear hWd hbd hbcd gd bqd rqd hsn xc0 xc1 mc1 hqb hib hig hig'
            go_wp2_with fail
            go_region_law (refine step_append_lies (hgd := rfl) (s := .tmp 127) (x := .tmp 129) (t := 39) (ho := rfl) (base := B + 1) (e := 42) (i := i0) (z := .agg #[.int .u64 0, .int .u32 0]) (size := 2) (bytes := 16) (ht := Tryz.underlying39) (hi := hi) (hz := hz0) (hsize := hz1) (hby := hz2) (hzs := rfl) (hsz := by decide) (v := _) (n := i) (xs := spV sq) (hs := rfl) (hown := rowBelow HRQD.out ((below_dr (Below.refl _ _) 1).alloc (Nat.le_refl _) _)) (ad := _) (m := 1) (c := _) (news := [.int .u64 (p : Int), .int .u32 (q : Int)]) (hx := rfl) (hl := rfl) (hnews := World.news_of_block (MapKept.heap_alloc _ _).1) (h1 := two_one (p, q)) (hm := Nat.zero_lt_one) (h63 := by unfold maxLen; omega) (hbytes := by omega) (hbase := by simp; omega) (H := _) (hH := rfl) (h := ?_); intro g8 cp8 w8 hown8 hg8 hat8 _hlt8; have hab := own_above2 HRQD.out; have hb8 : w8.heap[B]? = Wd.heap[B]? := (hg8.block B (by simp; omega) (fun e => by have := hab B e.symm; omega)).trans (Below.heap_alloc _ _ _ (show B < Wd.heap.size by omega)); have c8 := (World.cell?_of_block (w := Wd) (a := ⟨B, 1, none⟩) hb8).trans mcd; have f8 := (World.frozen?_of_block (w := Wd) (a := ⟨B, 1, none⟩) hb8).trans mfd; have HGO := Lib.hid (addG_of (d := 1) (Nat.lt_succ_self B) (by omega) HBQD.out (own_slice2 HRQD.out) hab hg8 hat8 hown8 HSN.out HXL.out (own_cells HRQD.out)); clear hown8 hg8 hat8 _hlt8 hb8 hab)
            all_goals (
              go_wp2_with fail
              go_roundw
              case rel =>
                refine ⟨i + 1, a12, by omega, rfl, Lib.hid (by have := HA.out; omega), Lib.hid ?_, Lib.hid ((HKX.out.trans (KX.of (HBD.out.mono (by omega)))).trans HGO.out.2.2.1), Lib.hid (fun j hj => ?_)⟩
                · have h1 := HGO.out.2.1
                  rw [HADD.out HGOOD.out] at h1; exact h1
                · by_cases e : j = i
                  · subst e; exact HGOOD.out
                  · exact HOK.out j (by omega)
              case measure => (have := HSZ.out; simp [intOf]; omega))
          · have hpb : ((p : Int) != 0) = true := by simp; omega
            have HBAD := Lib.hid (HNOT.out (fun h => p0 ((HENT.out.1 h).2.1 i0')))
            clear q0 p0 i0'
            go_quiet (fail)
            go_wp2_with fail
            go_ret2
            exact ⟨HBWC.out _, Or.inl ⟨HBAD.out, rfl⟩⟩
        · have hib : ((i : Int) == 0) = false := by simp; omega
          have hig : decide ((0 : Int) < (i : Int)) = true := by simp; omega
          have hig' : (0 : Int) < (i : Int) := by omega
          have hig3 : 0 < i := by omega
          obtain ⟨il, hil⟩ : ∃ x, i - 1 = x := ⟨_, rfl⟩
          have hili : (i : Int) - 1 = (il : Int) := by omega
          have hill : (il : Int) < (i : Int) := by omega
          obtain ⟨gq, rfl⟩ : ∃ gq, av = some ⟨gq, 0, none⟩ := by
            rcases own_slice' HRQ.out with h | h
            · exact absurd h i0'
            · exact h
          obtain ⟨lp, hlp⟩ : ∃ x, (sq.getD (i - 1) d0).1 = x := ⟨_, rfl⟩
          obtain ⟨lq, hlq⟩ : ∃ x, (sq.getD (i - 1) d0).2 = x := ⟨_, rfl⟩
          obtain ⟨s1, s2⟩ := spV_at sq il (by rw [HXL.out]; omega)
          have l0 := (World.ownsRow.cellAt HRQ.out (il * 2) (by omega)).trans s1
          have l1 := (World.ownsRow.cellAt HRQ.out (il * 2 + 1) (by omega)).trans s2
          rw [← hil, hlp, hil] at l0; rw [← hil, hlq, hil] at l1
          have hent2 := HENT.out
          rw [hlp, hlq] at hent2
          have HENT2 := Lib.hid hent2
          clear hlp hlq hil s1 s2 hent2
          by_cases pl : p ≤ lp
          · have hplb : decide ((p : Int) ≤ (lp : Int)) = true := by simp; omega
            have HBAD := Lib.hid (HNOT.out (fun h => by have := (HENT2.out.1 h).2.2 (by omega); omega))
            clear q0 i0'
            go_quiet (fail)
            go_wp2_with fail
            go_ret2
            exact ⟨HBWC.out _, Or.inl ⟨HBAD.out, rfl⟩⟩
          · have hplb : decide ((p : Int) ≤ (lp : Int)) = false := by simp; omega
            by_cases ql : q = lq
            · have hqlb : ((q : Int) == (lq : Int)) = true := by simp [ql]
              have HBAD := Lib.hid (HNOT.out (fun h => ((HENT2.out.1 h).2.2 (by omega)).2 ql))
              clear q0 i0' ql
              go_quiet (fail)
              go_wp2_with fail
              go_ret2
              exact ⟨HBWC.out _, Or.inl ⟨HBAD.out, rfl⟩⟩
            · have hqlb : ((q : Int) == (lq : Int)) = false := by simp; omega
              have HGOOD := Lib.hid (HENT2.out.2 ⟨q0, fun h => by omega, fun _ => ⟨by omega, ql⟩⟩)
              clear q0 i0' ql
              go_quiet (fail)
              obtain ⟨Wd, hWd⟩ : ∃ X, Wc.drewN nq = X := ⟨_, rfl⟩
              have hbd : Below X wr Wd := by rw [← hWd]; exact below_dr HBC.out _
              have hbcd : Below Wc.heap.size Wc Wd := by rw [← hWd]; exact below_dr (Below.refl _ _) _
              have gd : Wd.heap[X]? = some (.cells #[.int .u64 (p : Int), .int .u32 (q : Int)] 42 (0, 0)) := (hbcd.block X (lt_of_block HXC.out)).trans HXC.out
              have bqd := (hbcd.block B (lt_of_block HBQ.out)).trans HBQ.out
              have rqd := rowBelow HRQ.out hbcd
              rw [hWd]
              have x0d : Wd.cell? ⟨X, 0, none⟩ = some (.int .u64 (p : Int)) := cell_of gd 0
              have x1d : Wd.cell? ⟨X, 1, none⟩ = some (.int .u32 (q : Int)) := cell_of gd 1
              have mcd : Wd.cell? ⟨B, 1, none⟩ = some (.slice (some ⟨gq, 0, none⟩) i cv) := cell_of bqd 1
              have mfd : Wd.frozen? ⟨B, 1, none⟩ = false := frozen_of bqd 1
              have hzd : X + 1 ≤ Wd.heap.size := lt_of_block gd
              have mcda : (Wd.alloc (.cells #[.int .u64 (p : Int), .int .u32 (q : Int)] 42)).cell? ⟨B, 1, none⟩ = some (.slice (some ⟨gq, 0, none⟩) i cv) := (World.cell?_alloc_past _ _ _ (by show B < _; omega)).trans mcd
              have hsn : addS sq p q = sq ++ [(p, q)] := by
                have h1 := HADD.out HGOOD.out
                rw [upto_succ, HSQ.out] at h1
                rw [h1, show ent s i = (p, q) from Prod.ext HP.out HQ.out]
              have HSN := Lib.hid hsn; have HBD := Lib.hid hbd; have HBQD := Lib.hid bqd; have HRQD := Lib.hid rqd
              clear hWd hbd hbcd gd bqd rqd hsn xc0 xc1 mc1 hqb hib hig hig'
              go_wp2_with fail
              go_region_law (refine step_append_lies (hgd := rfl) (s := .tmp 127) (x := .tmp 129) (t := 39) (ho := rfl) (base := B + 1) (e := 42) (i := i0) (z := .agg #[.int .u64 0, .int .u32 0]) (size := 2) (bytes := 16) (ht := Tryz.underlying39) (hi := hi) (hz := hz0) (hsize := hz1) (hby := hz2) (hzs := rfl) (hsz := by decide) (v := _) (n := i) (xs := spV sq) (hs := rfl) (hown := rowBelow HRQD.out ((below_dr (Below.refl _ _) 1).alloc (Nat.le_refl _) _)) (ad := _) (m := 1) (c := _) (news := [.int .u64 (p : Int), .int .u32 (q : Int)]) (hx := rfl) (hl := rfl) (hnews := World.news_of_block (MapKept.heap_alloc _ _).1) (h1 := two_one (p, q)) (hm := Nat.zero_lt_one) (h63 := by unfold maxLen; omega) (hbytes := by omega) (hbase := by simp; omega) (H := _) (hH := rfl) (h := ?_); intro g8 cp8 w8 hown8 hg8 hat8 _hlt8; have hab := own_above2 HRQD.out; have hb8 : w8.heap[B]? = Wd.heap[B]? := (hg8.block B (by simp; omega) (fun e => by have := hab B e.symm; omega)).trans (Below.heap_alloc _ _ _ (show B < Wd.heap.size by omega)); have c8 := (World.cell?_of_block (w := Wd) (a := ⟨B, 1, none⟩) hb8).trans mcd; have f8 := (World.frozen?_of_block (w := Wd) (a := ⟨B, 1, none⟩) hb8).trans mfd; have HGO := Lib.hid (addG_of (d := 1) (Nat.lt_succ_self B) (by omega) HBQD.out (own_slice2 HRQD.out) hab hg8 hat8 hown8 HSN.out HXL.out (own_cells HRQD.out)); clear hown8 hg8 hat8 _hlt8 hb8 hab)
              all_goals (
                go_wp2_with fail
                go_roundw
                case rel =>
                  refine ⟨i + 1, a12, by omega, rfl, Lib.hid (by have := HA.out; omega), Lib.hid ?_, Lib.hid ((HKX.out.trans (KX.of (HBD.out.mono (by omega)))).trans HGO.out.2.2.1), Lib.hid (fun j hj => ?_)⟩
                  · have h1 := HGO.out.2.1
                    rw [HADD.out HGOOD.out] at h1; exact h1
                  · by_cases e : j = i
                    · subst e; exact HGOOD.out
                    · exact HOK.out j (by omega)
                case measure => (have := HSZ.out; simp [intOf]; omega))
    · obtain rfl : i = n := by omega
      have hal : ¬ (a : Int) < (s.size : Int) := by have := HA.out; have := HSZ.out; omega
      go_wp2_with fail
      go_ret2
      refine ⟨HBW.out.trans (HKX.out.below (Nat.le_succ _) (Nat.le_refl _)) |>.mono (Nat.le_of_eq hB), Or.inr ⟨⟨HH.out, fun j hj => HOK.out j (by rw [HN.out] at hj; exact hj)⟩, B, rfl, ?_⟩⟩
      rw [HE.out, HN.out]
      exact HSP.out.map (fun h => by have h2 := upto_length (ent s) i; rw [h] at h2; have := HH.out.lo; rw [HN.out] at this; simp at h2; omega) (fun k C T F _ _ => rfl) (Nat.le_succ _)
end Go.Proofs.YthcmcjoenepkbaaGreat
