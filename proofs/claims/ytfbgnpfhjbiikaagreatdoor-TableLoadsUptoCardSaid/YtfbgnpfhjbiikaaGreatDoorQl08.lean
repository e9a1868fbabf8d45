/- Contract: scriniumref18 Load. Contract: scriniumref18 Drop. Contract: scriniumref18 Drop: the walk. Contract: Table.Drop. -/
import Derived.Test.YtfbgnpfhjbiikaaGreatDoorQl07
namespace Go.Proofs.YtfbgnpfhjbiikaaGreatDoor
open Go Go.RowKit
open Pth
theorem IsRows.take {w : World} {a : Option Addr} {cap : Nat} {l : List Rw} (h : IsRows w (.slice a l.length cap) l) {k : Nat} (hk : k ≤ l.length) (cap' : Nat) : IsRows w (.slice a k cap') (l.take k) := by
  obtain ⟨a', c', he, hc⟩ := h
  cases he
  refine ⟨a, cap', by rw [List.length_take, Nat.min_eq_left hk], ?_⟩
  rcases hc with rfl | ⟨b, off, rfl, hb, hcc⟩
  · left; simp
  · right
    refine ⟨b, off, rfl, hb, fun i hi => ?_⟩
    rw [List.length_take, Nat.min_eq_left hk] at hi
    have hg : (l.take k).getD i dR = l.getD i dR := by rw [List.getD_eq_getElem?_getD, List.getD_eq_getElem?_getD, List.getElem?_take_of_lt hi]
    rw [hg]
    exact hcc i (by omega)
theorem take_mem {l : List Rw} {k : Nat} {x : Rw} (h : x ∈ l.take k) : ∃ j, j < k ∧ j < l.length ∧ l.getD j dR = x := by
  obtain ⟨j, hj, rfl⟩ := List.getElem_of_mem h
  rw [List.length_take] at hj
  refine ⟨j, by omega, by omega, ?_⟩
  rw [List.getD_eq_getElem?_getD, List.getElem?_eq_getElem (by omega)]
  simp
theorem mem_take {l : List Rw} {k j : Nat} (h : j < k) (hl : j < l.length) : l.getD j dR ∈ l.take k := by
  rw [List.getD_eq_getElem?_getD, List.getElem?_eq_getElem hl]
  exact List.mem_take_iff_getElem.2 ⟨j, by omega, rfl⟩
theorem foldl_take {l : List Rw} {R : List Rw} {k : Nat} (h : k < l.length) : (l.take (k + 1)).foldl withR R = withR ((l.take k).foldl withR R) (l.getD k dR) := by
  rw [List.take_succ_eq_append_getElem h, List.foldl_append, List.getD_eq_getElem?_getD, List.getElem?_eq_getElem h]; rfl
theorem RefAt.nostr {w : World} {t : Nat} {q1 q2 : Int} {R : List Rw} (h : RefAt w t q1 q2 R) : ∀ k, k = t → NoStr w k ∧ NoVers w k := fun k hk => by subst hk; exact ⟨h.bare.noStr, h.bare.noVers⟩
def RefLoad (R l : List Rw) (t : Nat) (q1 q2 : Int) (w : World) (e : Ending) (w' : World) : Prop :=
  ∃ (e0 : Int) (R' : List Rw), e = .returned (.int .i64 e0) ∧ LoadE R l e0 R' ∧ RefAt w' t q1 q2 R' ∧ OkR R' ∧ R'.length ≤ R.length + l.length ∧ ButS (fun k => k = t) w w'

set_option maxRecDepth 100000 in
set_option maxHeartbeats 8000000 in
theorem ref18_load (R : List Rw) (t : Nat) (q1 q2 : Int) (a : Option Addr) (cap : Nat) (l : List Rw) (w : World) (h : RefAt w t q1 q2 R) (hR : OkR R) (hv : IsRows w (.slice a l.length cap) l) (hcap : l.length ≤ cap) (hRl : R.length ≤ 500000) (hl : l.length ≤ 500000) (hwf : RowsWf l)
    (hp : ∀ i, i < l.length → (l.getD i dR).1.size ≤ 140737488351232 ∧ (l.getD i dR).2.l.length ≤ 8796093022208) :
    Calls Tryz.prog 41 #[.pointer (some ⟨t, 0, none⟩), .slice a l.length cap] w (RefLoad R l t q1 q2 w) := by
  have HT := Lib.hid h; have HOR := Lib.hid hR; have HP := Lib.hid hp; have HWF := Lib.hid hwf
  have HV := Lib.hid hv
  have HC : Hid (l = [] ∨ ∃ b off, a = some ⟨b, off, none⟩ ∧ b < w.heap.size ∧ ∀ i, i < l.length →
    w.cell? ⟨b, off + i * 3, none⟩ = some (.string (l.getD i dR).1) ∧ w.cell? ⟨b, off + i * 3 + 1, none⟩ = some (.int .u64 (l.getD i dR).2.last) ∧ ∃ s, w.cell? ⟨b, off + i * 3 + 2, none⟩ = some s ∧ IsVers w s (l.getD i dR).2.l) := Lib.hid (by
    obtain ⟨a', c', he, hc⟩ := hv
    cases he; exact hc)
  have hlt := h.lt
  clear h hR hv hwf hp
  go_enter Tryz.func41, Tryz.ntmps41
  go_wp2_with fail
  go_loopw [5] (fun i wr => ∃ (k : Nat), k ≤ l.length ∧ i = .int .i64 k ∧ Hid (∀ j, j < k → OkRow (l.getD j dR)) ∧ Hid (Below w.heap.size w wr)) (fun i _ => l.length - (intOf i).toNat)
  case atStart => exact ⟨0, Nat.zero_le _, rfl, Lib.hid (fun j hj => absurd hj (Nat.not_lt_zero _)), Lib.hid (Below.refl _ _)⟩
  case round =>
    obtain ⟨k, hk, rfl, hok, hbw⟩ := hrel
    by_cases hltk : k < l.length
    · rcases HC.out with hne | ⟨b, off, rfl, hbl, hcc⟩
      · subst hne; simp at hltk
      obtain ⟨f0, f1, s, f2, hs⟩ := hcc k hltk
      obtain ⟨hp1, hp2⟩ := HP.out k hltk
      obtain ⟨x, hx⟩ : ∃ x, l.getD k dR = x := ⟨_, rfl⟩
      rw [hx] at f0 f1 hs hp1 hp2
      have HX := Lib.hid hx
      obtain ⟨sa, sc, rfl, hsv⟩ := hs
      have HS : Hid (IsVers w (.slice sa x.2.l.length sc) x.2.l) := Lib.hid ⟨sa, sc, rfl, hsv⟩
      have HF := Lib.hid (fun (U : World) (h : Below w.heap.size w U) => (⟨(h.cell (p := ⟨b, off + k * 3, none⟩) hbl).trans f0, (h.cell (p := ⟨b, off + k * 3 + 1, none⟩) hbl).trans f1, (h.cell (p := ⟨b, off + k * 3 + 2, none⟩) hbl).trans f2⟩ : U.cell? ⟨b, off + k * 3, none⟩ = some (.string x.1) ∧ U.cell? ⟨b, off + k * 3 + 1, none⟩ = some (.int .u64 x.2.last) ∧ U.cell? ⟨b, off + k * 3 + 2, none⟩ = some (.slice sa x.2.l.length sc)))
      have HPI := Lib.hid (fun (w' : World) => ref16_pieces x.1 hp1 w')
      have HPZ := Lib.hid (fun (m : List ByteArray) (h : m.map (·.data.toList) = piecesL x.1.data.toList) => pieces_zero h)
      have HMY := Lib.hid (fun (w' : World) (hv : IsVers w' (.slice sa x.2.l.length sc) x.2.l) => ref17_may x.2 _ w' hv (by omega))
      have HBAD : Hid (¬ OkRow x → LoadE R l 2 R) := Lib.hid (fun hn => .arg ⟨k, hltk, by rw [hx]; exact hn⟩)
      have hki : (k : Int) < (l.length : Int) := by omega
      obtain ⟨y, hy⟩ : ∃ y, mayP x.1 = y := ⟨_, rfl⟩
      obtain ⟨z, hz⟩ : ∃ z, mayC x.2 = z := ⟨_, rfl⟩
      rw [hy] at HPZ
      rw [hz] at HMY
      have HY := Lib.hid hy; have HZ := Lib.hid hz
      clear f0 f1 f2 hcc hx hsv hp1 hp2 hy hz
      obtain ⟨e0, e1, e2⟩ := HF.out wr hbw.out
      go_wp2_with fail
      refine (HPI.out _).mono ?_
      rintro e w1 ⟨vp, m, rfl, hm1, hm2, hb1⟩
      have hpz := HPZ.out m hm2
      obtain ⟨ap, cp, rfl, _⟩ := hm1
      have HB1 := Lib.hid (hbw.out.trans (hb1.mono hbw.out.size))
      clear e0 e1 e2 hm2 hb1
      obtain ⟨e0, e1, e2⟩ := HF.out w1 HB1.out
      cases y with
      | false =>
        simp only [Bool.not_false] at hpz
        go_wp2_with fail
        go_ret
        exact ⟨2, R, rfl, HBAD.out (fun h => by have := h.1; rw [HY.out] at this; cases this), HT.out.below HB1.out, HOR.out, by omega, ButS.of HB1.out⟩
      | true =>
        simp only [Bool.not_true] at hpz
        go_wp2_with fail
        refine (HMY.out _ (HS.out.below HB1.out (Nat.le_refl _))).mono ?_
        rintro e w2 ⟨rfl, hb2⟩
        have HB2 := Lib.hid (HB1.out.trans (hb2.mono HB1.out.size))
        clear e0 e1 e2 hb2
        obtain ⟨e0, e1, e2⟩ := HF.out w2 HB2.out
        cases z with
        | false =>
          go_wp2_with fail
          go_ret
          exact ⟨2, R, rfl, HBAD.out (fun h => by have := h.2.1; rw [HZ.out] at this; cases this), HT.out.below HB2.out, HOR.out, by omega, ButS.of HB2.out⟩
        | true =>
          by_cases h0 : x.2.l.length = 0
          · have h0b : ((x.2.l.length : Int) == 0) = true := by simp [h0]
            have H0 := Lib.hid h0
            clear h0
            go_wp2_with fail
            go_ret
            exact ⟨2, R, rfl, HBAD.out (fun h => h.2.2 (List.length_eq_zero_iff.1 H0.out)), HT.out.below HB2.out, HOR.out, by omega, ButS.of HB2.out⟩
          · have h0b : ((x.2.l.length : Int) == 0) = false := by rw [beq_eq_false_iff_ne]; omega
            have HOKX : Hid (OkRow x) := Lib.hid ⟨HY.out, HZ.out, fun h => h0 (by rw [h]; rfl)⟩
            clear h0
            go_wp2_with fail
            go_roundw
            case rel => exact ⟨k + 1, by omega, by go_num, Lib.hid (fun j hj => by
              rcases Nat.lt_or_ge j k with h | h
              · exact hok.out j h
              · obtain rfl : j = k := by omega
                rw [HX.out]; exact HOKX.out), HB2⟩
            case measure => simp [intOf]; omega
    · have hge : (l.length : Int) ≤ (k : Int) := by omega
      have HOK : Hid (∀ j, j < l.length → OkRow (l.getD j dR)) := Lib.hid (fun j hj => hok.out j (by omega))
      clear hok
      obtain ⟨We, hWe⟩ : ∃ We, wr = We := ⟨_, rfl⟩
      subst wr
      go_wp2_with fail
      go_loopw [6] (fun i wr => ∃ (k : Nat), k ≤ l.length ∧ i = .int .i64 k ∧ Hid (∀ i, i < k → (∀ x ∈ R, x.1 ≠ (l.getD i dR).1) ∧ ∀ j, j < i → (l.getD j dR).1 ≠ (l.getD i dR).1) ∧ Hid (Below w.heap.size w wr)) (fun i _ => l.length - (intOf i).toNat)
      case atStart => exact ⟨0, Nat.zero_le _, rfl, Lib.hid (fun j hj => absurd hj (Nat.not_lt_zero _)), hbw⟩
      case round =>
        clear hbw
        obtain ⟨k, hk, rfl, hno, hbw⟩ := hrel
        by_cases hltk : k < l.length
        · rcases HC.out with hne | ⟨b, off, rfl, hbl, hcc⟩
          · subst hne; simp at hltk
          obtain ⟨f0, _, _, _, _⟩ := hcc k hltk
          obtain ⟨x, hx⟩ : ∃ x, l.getD k dR = x := ⟨_, rfl⟩
          rw [hx] at f0
          have HX := Lib.hid hx
          have hTr := HT.out.below hbw.out
          obtain ⟨aR, cR, hc2, hIR, _⟩ := hTr.c2
          have HF := Lib.hid (fun (U : World) (h : Below wr.heap.size wr U) => (⟨((hbw.out.trans (h.mono hbw.out.size)).cell (p := ⟨b, off + k * 3, none⟩) hbl).trans f0, (h.cell (p := ⟨t, 2, none⟩) hTr.lt).trans hc2⟩ : U.cell? ⟨b, off + k * 3, none⟩ = some (.string x.1) ∧ U.cell? ⟨t, 2, none⟩ = some (.slice aR R.length cR)))
          obtain ⟨z1, hz1⟩ := AtG.ex R x.1
          obtain ⟨z2, hz2⟩ := AtG.ex (l.take k) x.1
          have HA1 := Lib.hid (fun (U : World) (h : Below wr.heap.size wr U) => (ref18_at R (.slice aR R.length cR) x.1 U (hIR.below h (Nat.le_refl _)) (by omega)).mono (fun e w6 (hh : ∃ z : Int, e = .returned (.int .i64 z) ∧ AtG R x.1 z ∧ w6 = U) => show e = .returned (.int .i64 z1) ∧ Hid (Below wr.heap.size wr w6) from by obtain ⟨z', he, hz', hw⟩ := hh; exact ⟨by rw [he, hz'.uniq hz1], Lib.hid (by rw [hw]; exact h)⟩))
          have HA2 := Lib.hid (fun (U : World) (h : Below wr.heap.size wr U) => (ref18_at (l.take k) (.slice (some ⟨b, off, none⟩) k cap) x.1 U ((HV.out.take (Nat.le_of_lt hltk) cap).below (hbw.out.trans (h.mono hbw.out.size)) (Nat.le_refl _)) (by rw [List.length_take]; omega)).mono (fun e w6 (hh : ∃ z : Int, e = .returned (.int .i64 z) ∧ AtG (l.take k) x.1 z ∧ w6 = U) => show e = .returned (.int .i64 z2) ∧ Hid (Below wr.heap.size wr w6) from by obtain ⟨z', he, hz', hw⟩ := hh; exact ⟨by rw [he, hz'.uniq hz2], Lib.hid (by rw [hw]; exact h)⟩))
          have hki : (k : Int) < (l.length : Int) := by omega
          have HZ1 := Lib.hid hz1; have HZ2 := Lib.hid hz2
          have hkc : ¬ cap < k := by omega
          have hkc2 : k ≤ cap := by omega
          clear f0 hcc hx hTr hc2 hIR hz1 hz2
          go_upto_region 9 with fail
          by_cases h1 : 0 ≤ z1
          · have h1d : decide (0 ≤ z1) = true := by simp [h1]
            have h1i : ¬ z1 < 0 := by omega
            have HDUP : Hid (LoadE R l 8 R) := Lib.hid (by
              refine .dup HOK.out ⟨k, hltk, Or.inl ?_⟩
              rcases HZ1.out with ⟨j, hj, _, he, _⟩ | ⟨hz, _⟩
              · exact ⟨_, getD_memR hj, by rw [he, HX.out]⟩
              · omega)
            refine wp_region_quiet (C := fun w' => Hid (Below wr.heap.size wr w')) (by kernel_rfl) (by kernel_rfl) (Lib.hid (Below.drew (Below.refl _ _))) ?_
            refine (quiet_plain' ?_ (.pointer (some ⟨t, 0, none⟩)) (fun w' hw' => ?_) ?_ : _)
            · exact rfl
            · go_simp
            go_frame
            refine (quiet_plain' ?_ (.pointer (some ⟨t, 0, none⟩)) (fun w' hw' => ?_) ?_ : _)
            · exact rfl
            · go_simp
            go_frame
            refine (quiet_plain' ?_ (.pointer (some ⟨t, 2, none⟩)) (fun w' hw' => ?_) ?_ : _)
            · exact rfl
            · go_simp
            go_frame
            refine (quiet_plain' ?_ (.slice aR R.length cR) (fun w' hw' => ?_) ?_ : _)
            · exact rfl
            · obtain ⟨f0, f1⟩ := HF.out w' hw'.out
              go_simp
            go_frame
            refine (quiet_plain' ?_ (.slice (some ⟨b, off, none⟩) l.length cap) (fun w' hw' => ?_) ?_ : _)
            · exact rfl
            · go_simp
            go_frame
            refine (quiet_plain' ?_ (.int .i64 (k : Int)) (fun w' hw' => ?_) ?_ : _)
            · exact rfl
            · go_simp
            go_frame
            refine (quiet_plain' ?_ (.pointer (some ⟨b, off + k * 3, none⟩)) (fun w' hw' => ?_) ?_ : _)
            · exact rfl
            · go_simp
            go_frame
            refine (quiet_plain' ?_ (.pointer (some ⟨b, off + k * 3, none⟩)) (fun w' hw' => ?_) ?_ : _)
            · exact rfl
            · go_simp
            go_frame
            refine (quiet_plain' ?_ (.string x.1) (fun w' hw' => ?_) ?_ : _)
            · exact rfl
            · obtain ⟨f0, f1⟩ := HF.out w' hw'.out
              go_simp
            go_frame
            refine (quiet_call' ?_ (.int .i64 z1) 56 #[.slice aR R.length cR, .string x.1] (fun w' hw' => ⟨?_, ?_⟩) ?_ : _)
            · exact rfl
            · obtain ⟨f0, f1⟩ := HF.out w' hw'.out
              go_simp
            · exact HA1.out w' hw'.out
            go_frame
            refine (quiet_plain' ?_ (.bool true) (fun w' hw' => ?_) ?_ : _)
            · exact rfl
            · go_simp
            go_frame
            refine (quiet_plain' ?_ (.bool true) (fun w' hw' => ?_) ?_ : _)
            · exact rfl
            · go_simp
            go_frame
            refine (quiet_skip ?_ ?_ : _)
            · exact rfl
            go_frame
            refine (quiet_skip ?_ ?_ : _)
            · exact rfl
            go_frame
            refine (quiet_skip ?_ ?_ : _)
            · exact rfl
            go_frame
            refine (quiet_skip ?_ ?_ : _)
            · exact rfl
            go_frame
            refine (quiet_skip ?_ ?_ : _)
            · exact rfl
            go_frame
            refine (quiet_skip ?_ ?_ : _)
            · exact rfl
            go_frame
            refine (quiet_skip ?_ ?_ : _)
            · exact rfl
            go_frame
            refine (quiet_skip ?_ ?_ : _)
            · exact rfl
            go_frame
            refine (quiet_skip ?_ ?_ : _)
            · exact rfl
            go_frame
            refine (quiet_skip ?_ ?_ : _)
            · exact rfl
            go_frame
            refine (quiet_plain' ?_ (.bool true) (fun w' hw' => ?_) ?_ : _)
            · exact rfl
            · go_simp
            go_frame
            refine (wpQuiet_nil ?_ : _)
            intro W6 hW6
            go_wp2_with fail
            go_ret
            have hb6 := hbw.out.trans (hW6.out.mono hbw.out.size)
            exact ⟨8, R, rfl, HDUP.out, HT.out.below hb6, HOR.out, by omega, ButS.of hb6⟩
          · have h1d : decide (0 ≤ z1) = false := by simp; omega
            have h1i : z1 < 0 := by omega
            have HN1 : Hid (∀ y ∈ R, y.1 ≠ (l.getD k dR).1) := Lib.hid (by
              rcases HZ1.out with ⟨j, hj, he, _⟩ | ⟨_, hn⟩
              · omega
              · rw [HX.out]; exact hn)
            by_cases h2 : 0 ≤ z2
            · have h2d : decide (0 ≤ z2) = true := by simp [h2]
              have h2i : ¬ z2 < 0 := by omega
              have HDUP : Hid (LoadE R l 8 R) := Lib.hid (by
                refine .dup HOK.out ⟨k, hltk, Or.inr ?_⟩
                rcases HZ2.out with ⟨j, hj, _, he, _⟩ | ⟨hz, _⟩
                · obtain ⟨j', hj', hjl, hje⟩ := take_mem (getD_memR hj)
                  exact ⟨j', hj', by rw [hje, he, HX.out]⟩
                · omega)
              refine wp_region_quiet (C := fun w' => Hid (Below wr.heap.size wr w')) (by kernel_rfl) (by kernel_rfl) (Lib.hid (Below.drew (Below.refl _ _))) ?_
              refine (quiet_plain' ?_ (.pointer (some ⟨t, 0, none⟩)) (fun w' hw' => ?_) ?_ : _)
              · exact rfl
              · go_simp
              go_frame
              refine (quiet_plain' ?_ (.pointer (some ⟨t, 0, none⟩)) (fun w' hw' => ?_) ?_ : _)
              · exact rfl
              · go_simp
              go_frame
              refine (quiet_plain' ?_ (.pointer (some ⟨t, 2, none⟩)) (fun w' hw' => ?_) ?_ : _)
              · exact rfl
              · go_simp
              go_frame
              refine (quiet_plain' ?_ (.slice aR R.length cR) (fun w' hw' => ?_) ?_ : _)
              · exact rfl
              · obtain ⟨f0, f1⟩ := HF.out w' hw'.out
                go_simp
              go_frame
              refine (quiet_plain' ?_ (.slice (some ⟨b, off, none⟩) l.length cap) (fun w' hw' => ?_) ?_ : _)
              · exact rfl
              · go_simp
              go_frame
              refine (quiet_plain' ?_ (.int .i64 (k : Int)) (fun w' hw' => ?_) ?_ : _)
              · exact rfl
              · go_simp
              go_frame
              refine (quiet_plain' ?_ (.pointer (some ⟨b, off + k * 3, none⟩)) (fun w' hw' => ?_) ?_ : _)
              · exact rfl
              · go_simp
              go_frame
              refine (quiet_plain' ?_ (.pointer (some ⟨b, off + k * 3, none⟩)) (fun w' hw' => ?_) ?_ : _)
              · exact rfl
              · go_simp
              go_frame
              refine (quiet_plain' ?_ (.string x.1) (fun w' hw' => ?_) ?_ : _)
              · exact rfl
              · obtain ⟨f0, f1⟩ := HF.out w' hw'.out
                go_simp
              go_frame
              refine (quiet_call' ?_ (.int .i64 z1) 56 #[.slice aR R.length cR, .string x.1] (fun w' hw' => ⟨?_, ?_⟩) ?_ : _)
              · exact rfl
              · obtain ⟨f0, f1⟩ := HF.out w' hw'.out
                go_simp
              · exact HA1.out w' hw'.out
              go_frame
              refine (quiet_plain' ?_ (.bool false) (fun w' hw' => ?_) ?_ : _)
              · exact rfl
              · go_simp
              go_frame
              refine (quiet_plain' ?_ (.bool false) (fun w' hw' => ?_) ?_ : _)
              · exact rfl
              · go_simp
              go_frame
              refine (quiet_plain' ?_ (.slice (some ⟨b, off, none⟩) l.length cap) (fun w' hw' => ?_) ?_ : _)
              · exact rfl
              · go_simp
              go_frame
              refine (quiet_plain' ?_ (.int .i64 (k : Int)) (fun w' hw' => ?_) ?_ : _)
              · exact rfl
              · go_simp
              go_frame
              refine (quiet_plain' ?_ (.slice (some ⟨b, off, none⟩) k cap) (fun w' hw' => ?_) ?_ : _)
              · exact rfl
              · go_simp
              go_frame
              refine (quiet_plain' ?_ (.slice (some ⟨b, off, none⟩) l.length cap) (fun w' hw' => ?_) ?_ : _)
              · exact rfl
              · go_simp
              go_frame
              refine (quiet_plain' ?_ (.int .i64 (k : Int)) (fun w' hw' => ?_) ?_ : _)
              · exact rfl
              · go_simp
              go_frame
              refine (quiet_plain' ?_ (.pointer (some ⟨b, off + k * 3, none⟩)) (fun w' hw' => ?_) ?_ : _)
              · exact rfl
              · go_simp
              go_frame
              refine (quiet_plain' ?_ (.pointer (some ⟨b, off + k * 3, none⟩)) (fun w' hw' => ?_) ?_ : _)
              · exact rfl
              · go_simp
              go_frame
              refine (quiet_plain' ?_ (.string x.1) (fun w' hw' => ?_) ?_ : _)
              · exact rfl
              · obtain ⟨f0, f1⟩ := HF.out w' hw'.out
                go_simp
              go_frame
              refine (quiet_call' ?_ (.int .i64 z2) 56 #[.slice (some ⟨b, off, none⟩) k cap, .string x.1] (fun w' hw' => ⟨?_, ?_⟩) ?_ : _)
              · exact rfl
              · obtain ⟨f0, f1⟩ := HF.out w' hw'.out
                go_simp
              · exact HA2.out w' hw'.out
              go_frame
              refine (quiet_plain' ?_ (.bool true) (fun w' hw' => ?_) ?_ : _)
              · exact rfl
              · go_simp
              go_frame
              refine (quiet_plain' ?_ (.bool true) (fun w' hw' => ?_) ?_ : _)
              · exact rfl
              · go_simp
              go_frame
              refine (wpQuiet_nil ?_ : _)
              intro W6 hW6
              go_wp2_with fail
              go_ret
              have hb6 := hbw.out.trans (hW6.out.mono hbw.out.size)
              exact ⟨8, R, rfl, HDUP.out, HT.out.below hb6, HOR.out, by omega, ButS.of hb6⟩
            · have h2d : decide (0 ≤ z2) = false := by simp; omega
              have h2i : z2 < 0 := by omega
              have HN2 : Hid (∀ j, j < k → (l.getD j dR).1 ≠ (l.getD k dR).1) := Lib.hid (by
                rcases HZ2.out with ⟨j, hj, he, _⟩ | ⟨_, hn⟩
                · omega
                · intro j hj; rw [HX.out]; exact hn _ (mem_take hj (by omega)))
              refine wp_region_quiet (C := fun w' => Hid (Below wr.heap.size wr w')) (by kernel_rfl) (by kernel_rfl) (Lib.hid (Below.drew (Below.refl _ _))) ?_
              refine (quiet_plain' ?_ (.pointer (some ⟨t, 0, none⟩)) (fun w' hw' => ?_) ?_ : _)
              · exact rfl
              · go_simp
              go_frame
              refine (quiet_plain' ?_ (.pointer (some ⟨t, 0, none⟩)) (fun w' hw' => ?_) ?_ : _)
              · exact rfl
              · go_simp
              go_frame
              refine (quiet_plain' ?_ (.pointer (some ⟨t, 2, none⟩)) (fun w' hw' => ?_) ?_ : _)
              · exact rfl
              · go_simp
              go_frame
              refine (quiet_plain' ?_ (.slice aR R.length cR) (fun w' hw' => ?_) ?_ : _)
              · exact rfl
              · obtain ⟨f0, f1⟩ := HF.out w' hw'.out
                go_simp
              go_frame
              refine (quiet_plain' ?_ (.slice (some ⟨b, off, none⟩) l.length cap) (fun w' hw' => ?_) ?_ : _)
              · exact rfl
              · go_simp
              go_frame
              refine (quiet_plain' ?_ (.int .i64 (k : Int)) (fun w' hw' => ?_) ?_ : _)
              · exact rfl
              · go_simp
              go_frame
              refine (quiet_plain' ?_ (.pointer (some ⟨b, off + k * 3, none⟩)) (fun w' hw' => ?_) ?_ : _)
              · exact rfl
              · go_simp
              go_frame
              refine (quiet_plain' ?_ (.pointer (some ⟨b, off + k * 3, none⟩)) (fun w' hw' => ?_) ?_ : _)
              · exact rfl
              · go_simp
              go_frame
              refine (quiet_plain' ?_ (.string x.1) (fun w' hw' => ?_) ?_ : _)
              · exact rfl
              · obtain ⟨f0, f1⟩ := HF.out w' hw'.out
                go_simp
              go_frame
              refine (quiet_call' ?_ (.int .i64 z1) 56 #[.slice aR R.length cR, .string x.1] (fun w' hw' => ⟨?_, ?_⟩) ?_ : _)
              · exact rfl
              · obtain ⟨f0, f1⟩ := HF.out w' hw'.out
                go_simp
              · exact HA1.out w' hw'.out
              go_frame
              refine (quiet_plain' ?_ (.bool false) (fun w' hw' => ?_) ?_ : _)
              · exact rfl
              · go_simp
              go_frame
              refine (quiet_plain' ?_ (.bool false) (fun w' hw' => ?_) ?_ : _)
              · exact rfl
              · go_simp
              go_frame
              refine (quiet_plain' ?_ (.slice (some ⟨b, off, none⟩) l.length cap) (fun w' hw' => ?_) ?_ : _)
              · exact rfl
              · go_simp
              go_frame
              refine (quiet_plain' ?_ (.int .i64 (k : Int)) (fun w' hw' => ?_) ?_ : _)
              · exact rfl
              · go_simp
              go_frame
              refine (quiet_plain' ?_ (.slice (some ⟨b, off, none⟩) k cap) (fun w' hw' => ?_) ?_ : _)
              · exact rfl
              · go_simp
              go_frame
              refine (quiet_plain' ?_ (.slice (some ⟨b, off, none⟩) l.length cap) (fun w' hw' => ?_) ?_ : _)
              · exact rfl
              · go_simp
              go_frame
              refine (quiet_plain' ?_ (.int .i64 (k : Int)) (fun w' hw' => ?_) ?_ : _)
              · exact rfl
              · go_simp
              go_frame
              refine (quiet_plain' ?_ (.pointer (some ⟨b, off + k * 3, none⟩)) (fun w' hw' => ?_) ?_ : _)
              · exact rfl
              · go_simp
              go_frame
              refine (quiet_plain' ?_ (.pointer (some ⟨b, off + k * 3, none⟩)) (fun w' hw' => ?_) ?_ : _)
              · exact rfl
              · go_simp
              go_frame
              refine (quiet_plain' ?_ (.string x.1) (fun w' hw' => ?_) ?_ : _)
              · exact rfl
              · obtain ⟨f0, f1⟩ := HF.out w' hw'.out
                go_simp
              go_frame
              refine (quiet_call' ?_ (.int .i64 z2) 56 #[.slice (some ⟨b, off, none⟩) k cap, .string x.1] (fun w' hw' => ⟨?_, ?_⟩) ?_ : _)
              · exact rfl
              · obtain ⟨f0, f1⟩ := HF.out w' hw'.out
                go_simp
              · exact HA2.out w' hw'.out
              go_frame
              refine (quiet_plain' ?_ (.bool false) (fun w' hw' => ?_) ?_ : _)
              · exact rfl
              · go_simp
              go_frame
              refine (quiet_plain' ?_ (.bool false) (fun w' hw' => ?_) ?_ : _)
              · exact rfl
              · go_simp
              go_frame
              refine (wpQuiet_nil ?_ : _)
              intro W6 hW6
              go_wp2_with fail
              go_roundw
              case rel => exact ⟨k + 1, by omega, by go_num, Lib.hid (fun i hi => by
                rcases Nat.lt_or_ge i k with h | h
                · exact hno.out i h
                · obtain rfl : i = k := by omega
                  exact ⟨HN1.out, HN2.out⟩), Lib.hid (hbw.out.trans (hW6.out.mono hbw.out.size))⟩
              case measure => simp [intOf]; omega
        · have hge : (l.length : Int) ≤ (k : Int) := by omega
          have HNO : Hid (∀ i, i < l.length → (∀ x ∈ R, x.1 ≠ (l.getD i dR).1) ∧ ∀ j, j < i → (l.getD j dR).1 ≠ (l.getD i dR).1) := Lib.hid (fun i hi => hno.out i (by omega))
          clear hno
          obtain ⟨Wf, hWf⟩ : ∃ Wf, wr = Wf := ⟨_, rfl⟩
          subst wr
          have HTf := Lib.hid (HT.out.below hbw.out)
          have HVf := Lib.hid (HV.out.below hbw.out (Nat.le_refl _))
          go_wp2_with fail
          go_loopw [7] (fun i wr => ∃ (k : Nat), k ≤ l.length ∧ i = .int .i64 k ∧ Hid (RefAt wr t q1 q2 ((l.take k).foldl withR R)) ∧ Hid (OkR ((l.take k).foldl withR R)) ∧ Hid (((l.take k).foldl withR R).length ≤ R.length + k) ∧ Hid (IsRows wr (.slice a l.length cap) l) ∧ Hid (ButS (fun k => k = t) Wf wr)) (fun i _ => l.length - (intOf i).toNat)
          case atStart => exact ⟨0, Nat.zero_le _, rfl, HTf, HOR, Lib.hid (Nat.le_refl _), HVf, Lib.hid (ButS.of (Below.refl _ _))⟩
          case round =>
            obtain ⟨k, hk, rfl, hT, hO, hL, hVr, hbut⟩ := hrel
            by_cases hltk : k < l.length
            · obtain ⟨a', c', he, hcr⟩ := hVr.out
              cases he
              rcases hcr with hne | ⟨b, off, rfl, hbl, hcc⟩
              · subst hne; simp at hltk
              obtain ⟨f0, f1, s, f2, hs⟩ := hcc k hltk
              have hokx := HOK.out k hltk
              have hwfx := HWF.out k hltk
              have hfold := foldl_take (R := R) hltk
              obtain ⟨x, hx⟩ : ∃ x, l.getD k dR = x := ⟨_, rfl⟩
              rw [hx] at f0 f1 hs hokx hwfx hfold
              obtain ⟨Rk, hRk⟩ : ∃ Rk, (l.take k).foldl withR R = Rk := ⟨_, rfl⟩
              rw [hRk] at hT hO hL hfold
              obtain ⟨sa, sc, rfl, hsv⟩ := hs
              have hsx : IsVers wr (.slice sa x.2.l.length sc) x.2.l := ⟨sa, sc, rfl, hsv⟩
              obtain ⟨aR, cR, c2, hIR, _⟩ := hT.out.c2
              have hTl := hT.out.lt
              have ft := hT.out.f2
              have hRkl : Rk.length ≤ 1000000 := by have := hL.out; omega
              have HWT := Lib.hid (fun (U : World) (h : Below wr.heap.size wr U) => ref18_with Rk (.slice aR Rk.length cR) (.slice sa x.2.l.length sc) x U (hIR.below h (Nat.le_refl _)) (hsx.below h (Nat.le_refl _)) (by omega))
              have keepS : Hid (∀ U, Below wr.heap.size wr U → U.cell? ⟨t, 2, none⟩ = some (.slice aR Rk.length cR) ∧ U.frozen? ⟨t, 2, none⟩ = false ∧ U.cell? ⟨b, off + k * 3, none⟩ = some (.string x.1) ∧ U.cell? ⟨b, off + k * 3 + 1, none⟩ = some (.int .u64 x.2.last) ∧ U.cell? ⟨b, off + k * 3 + 2, none⟩ = some (.slice sa x.2.l.length sc) ∧ Hid (Below wr.heap.size wr U)) := Lib.hid (fun U h => ⟨(h.cell (p := ⟨t, 2, none⟩) hTl).trans c2, (h.frozen (p := ⟨t, 2, none⟩) hTl).trans ft, (h.cell (p := ⟨b, off + k * 3, none⟩) hbl).trans f0, (h.cell (p := ⟨b, off + k * 3 + 1, none⟩) hbl).trans f1, (h.cell (p := ⟨b, off + k * 3 + 2, none⟩) hbl).trans f2, Lib.hid h⟩)
              have hki : (k : Int) < (l.length : Int) := by omega
              have HFO := Lib.hid hfold; have HOX := Lib.hid hokx; have HWX := Lib.hid hwfx; have HXX := Lib.hid hx
              clear hcc hx hsv hsx hIR hokx hwfx hfold hRk
              go_upto_region 14 with fail
              go_region_with (go_at_call 74; refine (HWT.out _ (Below.drew (Below.refl _ _))).mono ?_; rintro e w8 ⟨v8, rfl, hr8, hcp8, hb8⟩; have HB8 := Lib.hid ((Below.drew (Below.refl wr.heap.size wr)).trans (hb8.mono (Nat.le_refl _))); obtain ⟨c2, ft, f0, f1, f2, _⟩ := keepS.out w8 HB8.out; have HR8 := Lib.hid hr8; have HCP8 := Lib.hid hcp8; obtain ⟨a8, c8, rfl, _⟩ := hr8; clear hcp8 hb8)
              all_goals go_wp2_with fail
              all_goals go_roundw
              all_goals first
                | (simp [intOf]; omega)
                | (have hT8 := hT.out.below HB8.out
                   have hS8 : ButS (fun k => k = t) wr (w8.setCell ⟨t, 2, none⟩ (.slice a8 (withR Rk x).length c8)) := (ButS.of HB8.out).trans (ButS.set (S := fun k => k = t) w8 (p := ⟨t, 2, none⟩) rfl _)
                   refine ⟨k + 1, by omega, by go_num, Lib.hid ?_, Lib.hid ?_, Lib.hid ?_, Lib.hid ?_, Lib.hid (hbut.out.trans hS8)⟩
                   · rw [HFO.out]; exact hT8.store HR8.out HCP8.out
                   · rw [HFO.out]; exact hO.out.with ⟨HOX.out, HWX.out⟩
                   · rw [HFO.out]; have := with_len hO.out.up x; have := hL.out; omega
                   · exact hVr.out.but2 hS8 (hT.out.nostr))
            · have hge : (l.length : Int) ≤ (k : Int) := by omega
              have HKL : Hid (l.take k = l) := Lib.hid (List.take_of_length_le (by omega))
              go_wp2_with fail
              go_ret
              have h1 := hT.out; have h2 := hO.out; have h3 := hL.out
              rw [HKL.out] at h1 h2 h3
              exact ⟨0, l.foldl withR R, rfl, .ok HOK.out HNO.out, h1, h2, by omega, (ButS.of hbw.out).trans hbut.out⟩
end Go.Proofs.YtfbgnpfhjbiikaaGreatDoor

namespace Go.Proofs.YtfbgnpfhjbiikaaGreatDoor
open Go Go.RowKit
open Pth
def hasR (R : List Rw) (p : ByteArray) : Bool := R.any (fun x => decide (x.1 = p))
theorem hasR_no {R : List Rw} {p : ByteArray} (h : ∀ x ∈ R, x.1 ≠ p) : hasR R p = false := by
  unfold hasR
  rw [List.any_eq_false]
  intro x hx
  simpa using h x hx
theorem hasR_yes {R : List Rw} {p : ByteArray} {x : Rw} (hx : x ∈ R) (h : x.1 = p) : hasR R p = true := by
  unfold hasR
  rw [List.any_eq_true]
  exact ⟨x, hx, by simpa using h⟩
def offR (R : List Rw) (p : ByteArray) : List Rw := R.filter (fun x => decide (x.1 ≠ p))
def dropR (R : List Rw) (n : Nat) : List ByteArray → Nat × List Rw
  | [] => (n, R)
  | p :: t => if hasR R p then dropR (offR R p) (n + 1) t else dropR R n t
theorem off_at {R : List Rw} (h : Up R) {k : Nat} (hk : k < R.length) : offR R (R.getD k dR).1 = R.take k ++ R.drop (k + 1) := by
  have hd : R = R.take k ++ R.getD k dR :: R.drop (k + 1) := by
    rw [List.getD_eq_getElem?_getD, List.getElem?_eq_getElem hk]
    conv => lhs; rw [← List.take_append_drop k R, List.drop_eq_getElem_cons hk]
    rfl
  obtain ⟨x, hx⟩ : ∃ x, R.getD k dR = x := ⟨_, rfl⟩
  rw [hx] at hd ⊢
  unfold Up at h
  rw [hd, List.pairwise_append, List.pairwise_cons] at h
  obtain ⟨_, ⟨h2, _⟩, h3⟩ := h
  unfold offR
  conv => lhs; rw [hd]
  rw [List.filter_append, List.filter_cons, if_neg (by simp), filter_all (fun y hy => by
    have := lt_ne (h3 y hy x (by simp)); simpa using this), filter_all (fun y hy => by
    have := (lt_ne (h2 y hy)).symm; simpa using this)]
theorem OkR.off {R : List Rw} (h : OkR R) (p : ByteArray) : OkR (offR R p) := ⟨h.up.filter _, fun x hx => h.ok x (List.mem_filter.1 hx).1⟩
theorem off_len (R : List Rw) (p : ByteArray) : (offR R p).length ≤ R.length := List.length_filter_le _ _
theorem IsRows.cells {w : World} {b off cap : Nat} {l : List Rw} (h : IsRows w (.slice (some ⟨b, off, none⟩) l.length cap) l) : ∃ T : List (Rw × Value), T.map (·.1) = l ∧ (∀ x ∈ T, IsVers w x.2 x.1.2.l) ∧ ∀ j u, (rowCells T)[j]? = some u → w.cell? ⟨b, off + j, none⟩ = some u := by
  obtain ⟨a', c', he, hc⟩ := h
  cases he
  rcases hc with rfl | ⟨b', off', he, _, hcc⟩
  · exact ⟨[], rfl, fun x hx => (by cases hx), fun j u hu => (by cases hu)⟩
  · cases he
    have hS : ∀ i, ∃ s, i < l.length → w.cell? ⟨b, off + i * 3 + 2, none⟩ = some s ∧ IsVers w s (l.getD i dR).2.l := fun i => by
      by_cases hi : i < l.length
      · obtain ⟨_, _, s, h1, h2⟩ := hcc i hi
        exact ⟨s, fun _ => ⟨h1, h2⟩⟩
      · exact ⟨.slice none 0 0, fun h => absurd h hi⟩
    obtain ⟨S, hS⟩ := Classical.axiomOfChoice hS
    have hlen : ((List.range l.length).map (fun i => (l.getD i dR, S i))).length = l.length := by simp
    have hget : ∀ i, i < l.length → ((List.range l.length).map (fun i => (l.getD i dR, S i))).getD i dRV = (l.getD i dR, S i) := fun i hi => by simp [List.getD_eq_getElem?_getD, hi]
    refine ⟨(List.range l.length).map (fun i => (l.getD i dR, S i)), ?_, ?_, ?_⟩
    · rw [List.map_map]
      refine List.ext_getElem (by simp) fun i h1 h2 => ?_
      simp [List.getD_eq_getElem?_getD, h2]
    · intro x hx
      obtain ⟨i, hi, rfl⟩ := List.mem_map.1 hx
      exact (hS i (List.mem_range.1 hi)).2
    · intro j u hu
      have hj : j < l.length * 3 := by
        have := (List.getElem?_eq_some_iff.1 hu).1
        rwa [rowCells_length, hlen] at this
      obtain ⟨r0, r1, r2⟩ := rowCells_at _ (j / 3) (by rw [hlen]; omega)
      rw [hget _ (by omega)] at r0 r1 r2
      obtain ⟨g0, g1, _⟩ := hcc (j / 3) (by omega)
      obtain ⟨g2, _⟩ := hS (j / 3) (by omega)
      rcases (show j = j / 3 * 3 ∨ j = j / 3 * 3 + 1 ∨ j = j / 3 * 3 + 2 by omega) with e | e | e
      · rw [← e] at r0 g0; rw [r0] at hu; rw [← hu]; exact g0
      · rw [← e] at r1; rw [r1] at hu; rw [← hu]
        have e2 : off + j / 3 * 3 + 1 = off + j := by omega
        rw [e2] at g1; exact g1
      · rw [← e] at r2; rw [r2] at hu; rw [← hu]
        have e2 : off + j / 3 * 3 + 2 = off + j := by omega
        rw [e2] at g2; exact g2
theorem rowCells_one (T : List (Rw × Value)) (h : ∀ x ∈ T, x.2.oneCell' = true) : ∀ u ∈ rowCells T, u.oneCell' = true := by
  induction T with
  | nil => intro u hu; cases hu
  | cons x t ih =>
    intro u hu
    simp only [rowCells, List.mem_cons] at hu
    rcases hu with rfl | rfl | rfl | hu
    · rfl
    · rfl
    · exact h x (by simp)
    · exact ih (fun y hy => h y (List.mem_cons_of_mem _ hy)) u hu
theorem IsVers.one {w : World} {v : Value} {l : List Ver} (h : IsVers w v l) : v.oneCell' = true := by
  obtain ⟨a, c, rfl, _⟩ := h; rfl
end Go.Proofs.YtfbgnpfhjbiikaaGreatDoor

namespace Go.Proofs.YtfbgnpfhjbiikaaGreatDoor
open Go Go.RowKit
open Pth
theorem rowCells_take {T : List (Rw × Value)} {k j : Nat} {u : Value} (h : (rowCells (T.take k))[j]? = some u) : (rowCells T)[j]? = some u := by
  have e : rowCells T = rowCells (T.take k) ++ rowCells (T.drop k) := by rw [← rowCells_append, List.take_append_drop]
  rw [e, List.getElem?_append_left ((List.getElem?_eq_some_iff.1 h).1)]; exact h
theorem rowCells_drop {T : List (Rw × Value)} {k j : Nat} {u : Value} (hk : k ≤ T.length) (h : (rowCells (T.drop k))[j]? = some u) : (rowCells T)[k * 3 + j]? = some u := by
  have e : rowCells T = rowCells (T.take k) ++ rowCells (T.drop k) := by rw [← rowCells_append, List.take_append_drop]
  have hl : (rowCells (T.take k)).length = k * 3 := by rw [rowCells_length, List.length_take, Nat.min_eq_left hk]
  rw [e, List.getElem?_append_right (by omega), hl, show k * 3 + j - k * 3 = j by omega]; exact h
theorem strs_but {S : Nat → Prop} {w w' : World} {v : Value} {l : List ByteArray} (h : IsStrs w v l) (hb : ButS S w w') (hS : ∀ k, S k → NoStr w k) : IsStrs w' v l := by
  obtain ⟨a, cap, hv, h⟩ := h
  refine ⟨a, cap, hv, ?_⟩
  rcases h with h | ⟨b, off, ha, hlt, hc⟩
  · exact Or.inl h
  · by_cases hl : l = []
    · exact Or.inl hl
    have hne : ¬ S b := fun hs => hS b hs _ _ (hc 0 (List.length_pos_iff.2 hl))
    exact Or.inr ⟨b, off, ha, Nat.lt_of_lt_of_le hlt hb.size, fun i hi => (hb.cell (p := ⟨b, off + i, none⟩) hlt hne).trans (hc i hi)⟩
def RefDrop (R : List Rw) (ps : List ByteArray) (t : Nat) (q1 q2 : Int) (w : World) (e : Ending) (w' : World) : Prop :=
  e = .returned (.int .i64 ((dropR R 0 ps).1 : Int)) ∧ RefAt w' t q1 q2 (dropR R 0 ps).2 ∧ OkR (dropR R 0 ps).2 ∧ (dropR R 0 ps).2.length ≤ R.length ∧ ButS (fun k => k = t) w w'

set_option maxRecDepth 100000 in
set_option maxHeartbeats 8000000 in
theorem ref18_drop (R : List Rw) (t : Nat) (q1 q2 : Int) (v : Value) (ps : List ByteArray) (w : World) (h : RefAt w t q1 q2 R) (hR : OkR R) (hv : IsStrs w v ps) (hRl : R.length ≤ 500000) (hl : ps.length ≤ 500000) :
    Calls Tryz.prog 42 #[.pointer (some ⟨t, 0, none⟩), v] w (RefDrop R ps t q1 q2 w) := by
  have HT := Lib.hid h; have HOR := Lib.hid hR
  have hlt := h.lt
  unfold RefDrop
  obtain ⟨D, hD⟩ : ∃ D, dropR R 0 ps = D := ⟨_, rfl⟩
  rw [hD]
  have HD := Lib.hid hD
  have HV := Lib.hid hv
  obtain ⟨a, cap, rfl, _⟩ := hv
  obtain ⟨i0, hi, hz0, hz1, hz2⟩ := info_parts infoRow
  clear h hR hD
  go_enter Tryz.func42, Tryz.ntmps42
  go_wp2_with fail
  go_loopw [5, 6] (fun s5 i wr => ∃ (k n : Nat) (Rk : List Rw), k ≤ ps.length ∧ i = .int .i64 k ∧ s5 = .int .i64 n ∧ Hid (n ≤ k) ∧ Hid (D = dropR Rk n (ps.drop k)) ∧ Hid (RefAt wr t q1 q2 Rk) ∧ Hid (OkR Rk) ∧ Hid (Rk.length ≤ R.length) ∧ Hid (IsStrs wr (.slice a ps.length cap) ps) ∧ Hid (ButS (fun k => k = t) w wr)) (fun _ i _ => ps.length - (intOf i).toNat)
  case atStart => exact ⟨0, 0, R, Nat.zero_le _, rfl, rfl, Lib.hid (Nat.le_refl _), Lib.hid (by rw [List.drop_zero]; exact HD.out.symm), HT, HOR, Lib.hid (Nat.le_refl _), HV, Lib.hid (ButS.of (Below.refl _ _))⟩
  case round =>
    obtain ⟨k, n, Rk, hk, rfl, rfl, hnk, hrun, hT, hO, hL, hVr, hbut⟩ := hrel
    have hRkl : Rk.length ≤ 500000 := by have := hL.out; omega
    have hnl : n ≤ 500000 := by have := hnk.out; omega
    by_cases hltk : k < ps.length
    · obtain ⟨a', c', he, hcr⟩ := hVr.out
      cases he
      rcases hcr with hne | ⟨b, off, rfl, hbl, hcc⟩
      · subst hne; simp at hltk
      have g0 := hcc k hltk
      have hdrop : ps.drop k = ps.getD k ByteArray.empty :: ps.drop (k + 1) := by
        rw [List.drop_eq_getElem_cons hltk, List.getD_eq_getElem?_getD, List.getElem?_eq_getElem hltk]; rfl
      obtain ⟨p, hp⟩ : ∃ p, ps.getD k ByteArray.empty = p := ⟨_, rfl⟩
      rw [hp] at g0 hdrop
      have hrun2 := hrun.out
      rw [hdrop] at hrun2
      have HRUN := Lib.hid hrun2
      obtain ⟨aR, cR, hc2, hIR, hcpR⟩ := hT.out.c2
      have hTl := hT.out.lt
      obtain ⟨z, hz⟩ := AtG.ex Rk p
      have HZ := Lib.hid hz
      have HF := Lib.hid (fun (U : World) (h : Below wr.heap.size wr U) => (⟨(h.cell (p := ⟨t, 2, none⟩) hTl).trans hc2, (h.cell (p := ⟨b, off + k, none⟩) hbl).trans g0⟩ : U.cell? ⟨t, 2, none⟩ = some (.slice aR Rk.length cR) ∧ U.cell? ⟨b, off + k, none⟩ = some (.string p)))
      have HA1 := Lib.hid (fun (U : World) (h : Below wr.heap.size wr U) => (ref18_at Rk (.slice aR Rk.length cR) p U (hIR.below h (Nat.le_refl _)) (by omega)).mono (fun e w6 (hh : ∃ z : Int, e = .returned (.int .i64 z) ∧ AtG Rk p z ∧ w6 = U) => show e = .returned (.int .i64 z) ∧ Hid (Below wr.heap.size wr w6) from by obtain ⟨z', he, hz', hw⟩ := hh; exact ⟨by rw [he, hz'.uniq hz], Lib.hid (by rw [hw]; exact h)⟩))
      have HIR := Lib.hid hIR
      have hki : (k : Int) < (ps.length : Int) := by omega
      clear hcc hdrop hp hrun2 hz hIR hc2 g0 hrun
      go_upto_region 5 with fail
      go_cut [7] (fun s7 wx => s7 = .int .i64 z ∧ Hid (Below wr.heap.size wr wx))
      case first =>
        refine wp_region_quiet (C := fun w' => Hid (Below wr.heap.size wr w')) (by kernel_rfl) (by kernel_rfl) (Lib.hid (Below.drew (Below.refl _ _))) ?_
        refine (quiet_plain' ?_ (.pointer (some ⟨t, 0, none⟩)) (fun w' hw' => ?_) ?_ : _)
        · exact rfl
        · go_simp
        go_frame
        refine (quiet_plain' ?_ (.pointer (some ⟨t, 0, none⟩)) (fun w' hw' => ?_) ?_ : _)
        · exact rfl
        · go_simp
        go_frame
        refine (quiet_plain' ?_ (.pointer (some ⟨t, 2, none⟩)) (fun w' hw' => ?_) ?_ : _)
        · exact rfl
        · go_simp
        go_frame
        refine (quiet_plain' ?_ (.slice aR Rk.length cR) (fun w' hw' => ?_) ?_ : _)
        · exact rfl
        · obtain ⟨f0, f1⟩ := HF.out w' hw'.out
          go_simp
        go_frame
        refine (quiet_plain' ?_ (.slice (some ⟨b, off, none⟩) ps.length cap) (fun w' hw' => ?_) ?_ : _)
        · exact rfl
        · go_simp
        go_frame
        refine (quiet_plain' ?_ (.int .i64 (k : Int)) (fun w' hw' => ?_) ?_ : _)
        · exact rfl
        · go_simp
        go_frame
        refine (quiet_plain' ?_ (.pointer (some ⟨b, off + k, none⟩)) (fun w' hw' => ?_) ?_ : _)
        · exact rfl
        · go_simp
        go_frame
        refine (quiet_plain' ?_ (.string p) (fun w' hw' => ?_) ?_ : _)
        · exact rfl
        · obtain ⟨f0, f1⟩ := HF.out w' hw'.out
          go_simp
        go_frame
        refine (quiet_call' ?_ (.int .i64 z) 56 #[.slice aR Rk.length cR, .string p] (fun w' hw' => ⟨?_, ?_⟩) ?_ : _)
        · exact rfl
        · obtain ⟨f0, f1⟩ := HF.out w' hw'.out
          go_simp
        · exact HA1.out w' hw'.out
        go_frame
        refine (quiet_plain' ?_ (.int .i64 z) (fun w' hw' => ?_) ?_ : _)
        · exact rfl
        · go_simp
        go_frame
        refine (wpQuiet_nil ?_ : _)
        intro W6 hW6
        go_wp2_with fail
        go_meet
        case rel => exact ⟨rfl, hW6⟩
      case rest =>
        obtain ⟨rfl, HX⟩ := hcut
        obtain ⟨X, hX⟩ : ∃ X, X = wc := ⟨_, rfl⟩
        subst wc
        have HTX := Lib.hid (hT.out.below HX.out)
        have HVX := Lib.hid (hVr.out.below HX.out (Nat.le_refl _))
        have HIX := Lib.hid (HIR.out.below HX.out (Nat.le_refl _))
        have HBX := Lib.hid (hbut.out.trans (ButS.of HX.out))
        have hlX := HTX.out.lt
        obtain ⟨c2, _⟩ := HF.out X HX.out
        have f2 := HTX.out.f2
        rcases HZ.out with ⟨j, hj, rfl, he, _⟩ | ⟨rfl, hno⟩
        · have hji : ¬ ((j : Nat) : Int) < 0 := by omega
          have HRN : Hid (D = dropR (offR Rk p) (n + 1) (ps.drop (k + 1))) := Lib.hid (by rw [HRUN.out, dropR, if_pos (hasR_yes (getD_memR hj) he)])
          have hoff := off_at hO.out.up hj
          rw [he] at hoff
          have HOFF := Lib.hid hoff
          obtain ⟨bR, oR, rfl⟩ : ∃ bR oR, aR = some ⟨bR, oR, none⟩ := by
            obtain ⟨a', c', he, hc⟩ := HIX.out
            cases he
            rcases hc with h | ⟨b', o', h, _⟩
            · rw [h] at hj; simp at hj
            · exact ⟨b', o', h⟩
          obtain ⟨T, hT1, hT2, hT3⟩ := HIX.out.cells
          have hTl2 : T.length = Rk.length := by rw [← hT1, List.length_map]
          have HT1 := Lib.hid hT1; have HT2 := Lib.hid hT2; have HT3 := Lib.hid hT3
          have hjc : ¬ cR < j := by omega
          have hjc2 : j ≤ cR := by omega
          have HNW1 : Hid (∀ i u, (rowCells (T.take j))[i]? = some u → X.cell? ((⟨bR, oR, none⟩ : Addr).add i) = some u) := Lib.hid (fun i u hu => by rw [addrAdd]; exact hT3 i u (rowCells_take hu))
          have HON1 : Hid (∀ u ∈ rowCells (T.take j), u.oneCell' = true) := Lib.hid (rowCells_one _ (fun x hx => (hT2 x (List.mem_of_mem_take hx)).one))
          have HLN1 : Hid ((rowCells (T.take j)).length = j * 3) := Lib.hid (by rw [rowCells_length, List.length_take, hTl2, Nat.min_eq_left (Nat.le_of_lt hj)])
          have HTX2 : Hid (X.cell? ⟨t, 2, none⟩ = some (.slice (some ⟨bR, oR, none⟩) Rk.length cR)) := Lib.hid c2
          clear hT1 hT2 hT3 hoff he
          go_upto_region 9 with (
            at_builtin
            refine wpList_append_own _ rfl (.tmp 26) (.tmp 32) 26 rfl X.heap.size 48 i0 (.agg #[.string ByteArray.empty, .int .u64 0, .slice none 0 0]) 3 48 Tryz.underlying26 hi hz0 hz1 hz2 rfl (by decide) _ 0 [] rfl (World.ownsRow_nil _ _ _ _) ⟨bR, oR, none⟩ j cR (rowCells (T.take j)) rfl HLN1.out HNW1.out HON1.out (by unfold maxLen; omega) (by omega) (Nat.le_refl _) ?go
            intro v9 W9 hown9 hg9 _
            obtain ⟨a9, c9, rfl⟩ := ownShape hown9
            have HO9 := Lib.hid hown9; have HG9 := Lib.hid hg9
            clear hown9 hg9)
          have HB9 := Lib.hid ((Below.refl X.heap.size X).grown HG9.out (Nat.le_refl _) (fun k hk => by cases hk))
          have c2X := HTX2.out; have f2X := HTX.out.f2
          clear c2 f2
          have c2 : W9.cell? ⟨t, 2, none⟩ = some (.slice (some ⟨bR, oR, none⟩) Rk.length cR) := (HB9.out.cell (p := ⟨t, 2, none⟩) hlX).trans c2X
          have f2 : W9.frozen? ⟨t, 2, none⟩ = false := (HB9.out.frozen (p := ⟨t, 2, none⟩) hlX).trans f2X
          have hj1 : IntKind.i64.wrap ((j : Int) + 1) = (j : Int) + 1 := by rw [IntKind.wrap_i64]; omega
          have hj2 : (j : Int) + 1 ≤ (Rk.length : Int) := by omega
          have hj3 : j + 1 ≤ Rk.length := by omega
          have hj4 : ¬ Rk.length < j + 1 := by omega
          have hj5 : ¬ cR < Rk.length := by omega
          simp only [Nat.zero_add, List.nil_append] at HO9
          by_cases hce : cR = j + 1
          · have hrl : Rk.length = j + 1 := by omega
            have HRL := Lib.hid hrl
            go_wp2_with (
              at_builtin
              refine wpList_append_own _ rfl (.tmp 35) (.tmp 42) 26 rfl X.heap.size 48 i0 (.agg #[.string ByteArray.empty, .int .u64 0, .slice none 0 0]) 3 48 Tryz.underlying26 hi hz0 hz1 hz2 rfl (by decide) _ j (rowCells (T.take j)) rfl HO9.out ⟨bR, oR, none⟩ 0 0 [] rfl rfl (fun i u hu => by cases hu) (fun u hu => by cases hu) (by unfold maxLen; omega) (by omega) HB9.out.size ?goA
              intro v8 W8 hown8 hg8 _
              obtain ⟨a8, c8, rfl⟩ := ownShape hown8
              have hb8 : Below X.heap.size X W8 := HB9.out.grown hg8 HB9.out.size (fun k hk => ownAbove HO9.out k hk)
              have c2 : W8.cell? ⟨t, 2, none⟩ = some (.slice (some ⟨bR, oR, none⟩) (j + 1) cR) := by rw [← HRL.out]; exact (hb8.cell (p := ⟨t, 2, none⟩) hlX).trans HTX2.out
              have f2 : W8.frozen? ⟨t, 2, none⟩ = false := (hb8.frozen (p := ⟨t, 2, none⟩) hlX).trans HTX.out.f2
              have HO8 := Lib.hid hown8
              have HB8 := Lib.hid hb8
              clear hown8 hg8 hb8)
            go_roundw
            case rel =>
              have hT8 := HTX.out.below HB8.out
              have hS8 : ButS (fun k => k = t) X (W8.setCell ⟨t, 2, none⟩ (.slice a8 (j + 0) c8)) := (ButS.of HB8.out).trans (ButS.set (S := fun k => k = t) W8 (p := ⟨t, 2, none⟩) rfl _)
              have hlen : (T.take j ++ ([] : List (Rw × Value))).length = j + 0 := by rw [List.length_append, List.length_take]; simp; omega
              have hI8 : IsRows W8 (.slice a8 (j + 0) c8) (offR Rk p) := by
                have h1 := IsRows.own (T := T.take j ++ ([] : List (Rw × Value))) (v := .slice a8 (j + 0) c8) (B := X.heap.size) (e := 48) (w := W8) (o := none) (by
                  rw [rowCells_append, hlen]
                  exact HO8.out) (fun x hx => ⟨(HT2.out x (List.mem_of_mem_take (by simpa using hx))).below HB8.out (Nat.le_refl _), fun _ kb _ e => by cases e⟩)
                rw [List.map_append, List.map_take, HT1.out] at h1
                rw [HOFF.out]
                rw [List.drop_of_length_le (by omega)]
                simpa using h1
              have hlo : (offR Rk p).length = j + 0 := by
                obtain ⟨_, _, he, _⟩ := hI8
                injection he with _ he _
                exact he.symm
              have hcap8 : CapV (.slice a8 (j + 0) c8) := CapV.own HO8.out
              refine ⟨k + 1, n + 1, offR Rk p, by omega, by go_num, by go_num, Lib.hid (by have := hnk.out; omega), HRN, Lib.hid (hT8.store hI8 hcap8), Lib.hid (hO.out.off p), Lib.hid (Nat.le_trans (off_len Rk p) hL.out), Lib.hid ?_, Lib.hid (HBX.out.trans hS8)⟩
              exact strs_but HVX.out hS8 (fun k hk => (HTX.out.nostr k hk).1)
            case measure => simp [intOf]; omega
          · have hce2 : ¬ j + 1 = cR := by omega
            have HNW2 : Hid (∀ i u, (rowCells (T.drop (j + 1)))[i]? = some u → W9.cell? ((⟨bR, oR + (j + 1) * 3, none⟩ : Addr).add i) = some u) := Lib.hid (fun i u hu => by
              rw [addrAdd]
              have h1 := HT3.out _ u (rowCells_drop (by omega) hu)
              rw [show oR + (j + 1) * 3 + i = oR + ((j + 1) * 3 + i) by omega]
              exact (HB9.out.cell (p := ⟨bR, oR + ((j + 1) * 3 + i), none⟩) (cell_lt h1)).trans h1)
            have HON2 : Hid (∀ u ∈ rowCells (T.drop (j + 1)), u.oneCell' = true) := Lib.hid (rowCells_one _ (fun x hx => (HT2.out x (List.mem_of_mem_drop hx)).one))
            have HLN2 : Hid ((rowCells (T.drop (j + 1))).length = (Rk.length - (j + 1)) * 3) := Lib.hid (by rw [rowCells_length, List.length_drop, hTl2])
            go_wp2_with (
              at_builtin
              refine wpList_append_own _ rfl (.tmp 35) (.tmp 42) 26 rfl X.heap.size 48 i0 (.agg #[.string ByteArray.empty, .int .u64 0, .slice none 0 0]) 3 48 Tryz.underlying26 hi hz0 hz1 hz2 rfl (by decide) _ j (rowCells (T.take j)) rfl HO9.out ⟨bR, oR + (j + 1) * 3, none⟩ (Rk.length - (j + 1)) (cR - (j + 1)) (rowCells (T.drop (j + 1))) rfl HLN2.out HNW2.out HON2.out (by unfold maxLen; omega) (by omega) HB9.out.size ?goB
              intro v8 W8 hown8 hg8 _
              obtain ⟨a8, c8, rfl⟩ := ownShape hown8
              have hb8 : Below X.heap.size X W8 := HB9.out.grown hg8 HB9.out.size (fun k hk => ownAbove HO9.out k hk)
              have c2 : W8.cell? ⟨t, 2, none⟩ = some (.slice (some ⟨bR, oR, none⟩) Rk.length cR) := (hb8.cell (p := ⟨t, 2, none⟩) hlX).trans HTX2.out
              have f2 : W8.frozen? ⟨t, 2, none⟩ = false := (hb8.frozen (p := ⟨t, 2, none⟩) hlX).trans HTX.out.f2
              have HO8 := Lib.hid hown8
              have HB8 := Lib.hid hb8
              clear hown8 hg8 hb8)
            go_roundw
            case rel =>
              have hT8 := HTX.out.below HB8.out
              have hS8 : ButS (fun k => k = t) X (W8.setCell ⟨t, 2, none⟩ (.slice a8 (j + (Rk.length - (j + 1))) c8)) := (ButS.of HB8.out).trans (ButS.set (S := fun k => k = t) W8 (p := ⟨t, 2, none⟩) rfl _)
              have hlen : (T.take j ++ T.drop (j + 1)).length = j + (Rk.length - (j + 1)) := by rw [List.length_append, List.length_take]; simp; omega
              have hI8 : IsRows W8 (.slice a8 (j + (Rk.length - (j + 1))) c8) (offR Rk p) := by
                have h1 := IsRows.own (T := T.take j ++ T.drop (j + 1)) (v := .slice a8 (j + (Rk.length - (j + 1))) c8) (B := X.heap.size) (e := 48) (w := W8) (o := none) (by
                  rw [rowCells_append, hlen]
                  exact HO8.out) (fun x hx => ⟨(HT2.out x (by rcases List.mem_append.1 hx with h | h; (· exact List.mem_of_mem_take h); (· exact List.mem_of_mem_drop h))).below HB8.out (Nat.le_refl _), fun _ kb _ e => by cases e⟩)
                rw [List.map_append, List.map_take, HT1.out] at h1
                rw [HOFF.out]
                rw [List.map_drop, HT1.out] at h1
                exact h1
              have hlo : (offR Rk p).length = j + (Rk.length - (j + 1)) := by
                obtain ⟨_, _, he, _⟩ := hI8
                injection he with _ he _
                exact he.symm
              have hcap8 : CapV (.slice a8 (j + (Rk.length - (j + 1))) c8) := CapV.own HO8.out
              refine ⟨k + 1, n + 1, offR Rk p, by omega, by go_num, by go_num, Lib.hid (by have := hnk.out; omega), HRN, Lib.hid (hT8.store hI8 hcap8), Lib.hid (hO.out.off p), Lib.hid (Nat.le_trans (off_len Rk p) hL.out), Lib.hid ?_, Lib.hid (HBX.out.trans hS8)⟩
              exact strs_but HVX.out hS8 (fun k hk => (HTX.out.nostr k hk).1)
            case measure => simp [intOf]; omega
        · have HRN : Hid (D = dropR Rk n (ps.drop (k + 1))) := Lib.hid (by rw [HRUN.out, dropR, if_neg (by rw [hasR_no hno]; decide)])
          clear hno
          go_wp2_with fail
          go_roundw
          case rel => exact ⟨k + 1, n, Rk, by omega, by go_num, rfl, Lib.hid (by have := hnk.out; omega), HRN, HTX, hO, hL, HVX, HBX⟩
          case measure => simp [intOf]; omega
    · have hge : (ps.length : Int) ≤ (k : Int) := by omega
      obtain rfl : D = (n, Rk) := by rw [hrun.out, List.drop_of_length_le (by omega)]; rfl
      go_wp2_with fail
      go_ret
      exact ⟨rfl, hT.out, hO.out, hL.out, hbut.out⟩
end Go.Proofs.YtfbgnpfhjbiikaaGreatDoor

namespace Go.Proofs.YtfbgnpfhjbiikaaGreatDoor
open Go Go.RowKit
open Pth
open Go.Maps (has size Canon CanonK Tidy IsMap KeysOf Keyed Merged)
def dropT (M : DataW Cel) (B : Int) (n : Nat) : List ByteArray → Nat × DataW Cel × Int
  | [] => (n, M, B)
  | p :: t => if has M (kS p) = true then dropT (M.del (kS p)) (B - (weightE p (cellAt M p) : Int)) (n + 1) t else dropT M B n t
theorem Good.del {M : DataW Cel} (h : Good Tryz.prog 9 M) (p : ByteArray) : Good Tryz.prog 9 (M.del (kS p)) := by
  refine ⟨canonK_del h.canon _, fun k hk => ?_⟩
  by_cases e : k = kS p
  · subst e; rw [Maps.has_del_same] at hk; cases hk
  · rw [Maps.has_del_other e] at hk
    rw [Maps.atKey_del_other e]; exact h.cells k hk
theorem hasR_rows {M : DataW Cel} (c : CanonK (KeysOf Tryz.prog 9) M) (p : ByteArray) : hasR (rowsL M) p = has M (kS p) := by
  cases h : has M (kS p) with
  | true => exact hasR_yes ((rows_mem c (p, cellAt M p)).2 ⟨h, rfl⟩) rfl
  | false =>
    refine hasR_no fun x hx e => ?_
    have := ((rows_mem c x).1 hx).1
    rw [e, h] at this; cases this
theorem drop_rows (l : List ByteArray) : ∀ {M : DataW Cel} {B : Int} {n : Nat}, Good Tryz.prog 9 M → B = bytesR (rowsL M) →
    dropR (rowsL M) n l = ((dropT M B n l).1, rowsL (dropT M B n l).2.1) ∧ (dropT M B n l).2.2 = bytesR (rowsL (dropT M B n l).2.1) := by
  induction l with
  | nil => intro M B n _ hB; exact ⟨rfl, hB⟩
  | cons p t ih =>
    intro M B n hg hB
    rw [dropR, dropT, hasR_rows hg.canon]
    cases h : has M (kS p) with
    | true =>
      rw [if_pos rfl, if_pos rfl]
      have e1 : offR (rowsL M) p = rowsL (M.del (kS p)) := (rows_del hg.canon p).symm
      rw [e1]
      exact ih (hg.del p) (by rw [bytes_del hg, hB])
    | false =>
      rw [if_neg (by simp), if_neg (by simp)]
      exact ih hg hB
theorem CelMap.del {w : World} {b : Nat} {X : DataW Cel} (h : CelMap w b X) : ∃ D, w.ownsMap Tryz.prog 9 heldR b (size X) D ∧
    ∀ (w' : World) (n : Nat) (p : ByteArray), w'.ownsMap Tryz.prog 9 heldR b n (D.del (kS p)) → w.grownBy w' (some b) → CelMap w' b (X.del (kS p)) := by
  obtain ⟨D, ho, ha⟩ := h
  refine ⟨D, ho, fun w' n p ho' hg => ?_⟩
  have hnone := ownsMap_none ho
  exact HoldsMap.of ho' ((ha.mono (fun v c hs => hs.grown hg hnone)).del (ho.tidy strKeyed) _)
def DropGives (r : Nat × DataW Cel × Int) (M : DataW Cel) (B : Int) (l : List ByteArray) (t b : Nat) (q1 q2 : Int) (w : World) (e : Ending) (w' : World) : Prop :=
  e = .returned (.int .i64 (r.1 : Int)) ∧ TabAt w' t b q1 q2 r.2.1 r.2.2 ∧ Good Tryz.prog 9 r.2.1 ∧ size r.2.1 ≤ size M ∧ B - l.length * 33000 ≤ r.2.2 ∧ r.2.2 ≤ B ∧ ButS (fun k => k = t ∨ k = b) w w'

set_option maxRecDepth 100000 in
set_option maxHeartbeats 4000000 in
theorem tab_drop (w : World) {t b : Nat} {q1 q2 B : Int} {M : DataW Cel} (h : TabAt w t b q1 q2 M B) (hg : Good Tryz.prog 9 M) (v : Value) (ps : List ByteArray) (hv : IsStrs w v ps) (hl : ps.length ≤ 1048576)
    (hps : ∀ i, i < ps.length → (ps.getD i ByteArray.empty).size ≤ 140737488351232) (hB0 : -1125899906842624 ≤ B) (hB1 : B ≤ 1125899906842624) :
    Calls Tryz.prog 18 #[.pointer (some ⟨t, 0, none⟩), v] w (DropGives (dropT M B 0 ps) M B ps t b q1 q2 w) := by
  have HG : Hid (∀ r, DropGives r M B ps t b q1 q2 w = fun e w' => e = .returned (.int .i64 (r.1 : Int)) ∧ TabAt w' t b q1 q2 r.2.1 r.2.2 ∧ Good Tryz.prog 9 r.2.1 ∧ size r.2.1 ≤ size M ∧ B - ps.length * 33000 ≤ r.2.2 ∧ r.2.2 ≤ B ∧ ButS (fun k => k = t ∨ k = b) w w') := Lib.hid (fun _ => rfl)
  obtain ⟨r, hr⟩ : ∃ r, dropT M B 0 ps = r := ⟨_, rfl⟩
  rw [hr]
  have HR := Lib.hid hr
  have Hmade := Lib.hid (tab_made w h)
  have HT := Lib.hid h; have HGM := Lib.hid hg; have HV := Lib.hid hv; have HPS := Lib.hid hps
  obtain ⟨a, cap, rfl, _⟩ := hv
  clear hr h hg hps
  go_enter Tryz.func18, Tryz.ntmps18
  go_wp2_with fail
  refine Hmade.out.mono ?_
  rintro e w1 ⟨rfl, hb1⟩
  have HT1 := Lib.hid (HT.out.below hb1); have HV1 := Lib.hid (HV.out.below hb1 (Nat.le_refl _)); have HB1 := Lib.hid (ButS.of (S := fun k => k = t ∨ k = b) hb1)
  clear hb1
  go_wp2_with fail
  go_loopw [4, 14] (fun s4 i wr => ∃ (k n : Nat) (M' : DataW Cel) (B' : Int), k ≤ ps.length ∧ i = .int .i64 k ∧ s4 = .int .i64 n ∧ Hid (n ≤ k) ∧ Hid (r = dropT M' B' n (ps.drop k)) ∧ Hid (TabAt wr t b q1 q2 M' B') ∧ Hid (Good Tryz.prog 9 M') ∧ Hid (size M' ≤ size M ∧ B - k * 33000 ≤ B' ∧ B' ≤ B) ∧ Hid (IsStrs wr (.slice a ps.length cap) ps) ∧ Hid (ButS (fun k => k = t ∨ k = b) w wr)) (fun _ i _ => ps.length - (intOf i).toNat)
  case atStart => exact ⟨0, 0, M, B, Nat.zero_le _, rfl, rfl, Lib.hid (Nat.le_refl _), Lib.hid (by rw [List.drop_zero]; exact HR.out.symm), HT1, HGM, Lib.hid ⟨Nat.le_refl _, by omega, Int.le_refl _⟩, HV1, HB1⟩
  case round =>
    obtain ⟨k, n, M', B', hk, rfl, rfl, hnk, hrun, hT, hGM, hbd, hVr, hbut⟩ := hrel
    have hnl : n ≤ 1048576 := by have := hnk.out; omega
    by_cases hltk : k < ps.length
    · obtain ⟨a', c', he, hcr⟩ := hVr.out
      cases he
      rcases hcr with hne | ⟨bs0, off, rfl, hbl, hcc⟩
      · subst hne; simp at hltk
      have g0 := hcc k hltk
      have hpz := HPS.out k hltk
      have hdrop : ps.drop k = ps.getD k ByteArray.empty :: ps.drop (k + 1) := by
        rw [List.drop_eq_getElem_cons hltk, List.getD_eq_getElem?_getD, List.getElem?_eq_getElem hltk]; rfl
      obtain ⟨p, hp⟩ : ∃ p, ps.getD k ByteArray.empty = p := ⟨_, rfl⟩
      rw [hp] at g0 hdrop hpz
      have hrun2 := hrun.out
      rw [hdrop, dropT] at hrun2
      have HRUN := Lib.hid hrun2
      have hki : (k : Int) < (ps.length : Int) := by omega
      have c2 := hT.out.c2
      obtain ⟨s, is, hise, hs, hl1, _⟩ := hT.out.m.look2 p (by unfold maxLen; omega)
      have HS := Lib.hid hs
      obtain ⟨hcm, hcl⟩ := hGM.out.cellAt p
      obtain ⟨C, hC⟩ : ∃ C, cellAt M' p = C := ⟨_, rfl⟩
      rw [hC] at hl1 HS hs hcm HRUN
      obtain ⟨sa, sc, rfl, _⟩ := hs
      have HIS := Lib.hid hise
      have HCM := Lib.hid hcm
      have HCC := Lib.hid hC
      have HPZ := Lib.hid hpz
      clear hcc hdrop hp hrun2 hrun hise hcm hcl hC hpz
      go_upto_region 7 with fail
      refine wp_abs (F := fun X => One wr.heap.size #[.int .u64 C.last, .slice sa C.l.length sc] X ∧ Below wr.heap.size wr X) ⟨One.of _ _ _, (Below.refl _ _).alloc (Nat.le_refl _) _⟩ ?_
      rintro X ⟨ho, hbX⟩
      have HTX := Lib.hid (hT.out.below hbX); have HVX := Lib.hid (hVr.out.below hbX (Nat.le_refl _)); have HBX := Lib.hid (hbut.out.trans (ButS.of hbX)); have HSX := Lib.hid (HS.out.below hbX (Nat.le_refl _))
      have HO := Lib.hid ho
      have hXt : t < X.heap.size := HTX.out.lt
      have hwt : t < wr.heap.size := hT.out.lt
      have hwb : b < wr.heap.size := HoldsMap.lt hT.out.m
      clear c2 hl1 g0 ho hbX
      cases is with
      | false =>
        have HRN : Hid (r = dropT M' B' n (ps.drop (k + 1))) := Lib.hid (by rw [HRUN.out, if_neg (by rw [← HIS.out]; decide)])
        go_wp2_with fail
        go_roundw
        case rel => exact ⟨k + 1, n, M', B', by omega, by go_num, rfl, Lib.hid (by have := hnk.out; omega), HRN, HTX, hGM, Lib.hid (by have := hbd.out; exact ⟨this.1, by push_cast; omega, this.2.2⟩), HVX, HBX⟩
        case measure => simp [intOf]; omega
      | true =>
        have hhas : has M' (kS p) = true := HIS.out.symm
        have hpm : mayP p = true := by
          obtain ⟨p', c', e, _, _, _, _, h4⟩ := hGM.out.cells _ hhas
          rw [kS_inj e]; exact h4
        have hp128 := mayP_size hpm
        have hwd := weight_le (p := p) HCM.out hp128
        obtain ⟨wd, hwdE⟩ : ∃ z, z = weightE p C := ⟨_, rfl⟩
        have HRN : Hid (r = dropT (M'.del (kS p)) (B' - (wd : Int)) (n + 1) (ps.drop (k + 1))) := Lib.hid (by rw [HRUN.out, if_pos hhas, hwdE])
        have hl8 := may_len HCM.out
        have HW := Lib.hid (tab_weight p C _ X.drew (HSX.out.below (Below.drew (Below.refl _ _)) (Nat.le_refl _)) (by omega) (may_sizes HCM.out) (by have := may_size HCM.out; omega) (by omega))
        rw [← hwdE] at hwd HW
        have hb1 := hbd.out.2.1; have hb2 := hbd.out.2.2
        have hwr : IntKind.i64.wrap (B' - (wd : Int)) = B' - (wd : Int) := by rw [IntKind.wrap_i64]; omega
        have c3 := HTX.out.c3; have f3 := HTX.out.f3
        have y0 := HO.out.c 0; have y1 := HO.out.c 1
        simp at y0 y1
        have hlO := HO.out.lt
        have hbox : wr.heap.size ≠ t := by omega
        have HHAS := Lib.hid hhas
        have HBD := Lib.hid (And.intro hb1 hb2); have HWD := Lib.hid hwd
        clear hwdE hhas hpm hb1 hb2
        go_upto_region 8 with fail
        go_cut [] (fun wx => Hid (TabAt wx t b q1 q2 M' (B' - (wd : Int)) ∧ ButS (fun k => k = t) X wx))
        case first =>
          go_region_with (go_at_call 49; refine HW.out.mono ?_; rintro e w5 ⟨rfl, hb5⟩; have c3 : w5.cell? ⟨t, 3, none⟩ = some (.int .i64 B') := (hb5.cell (p := ⟨t, 3, none⟩) hXt).trans c3; have f3 : w5.frozen? ⟨t, 3, none⟩ = false := (hb5.frozen (p := ⟨t, 3, none⟩) hXt).trans f3; have y0 : w5.cell? ⟨wr.heap.size, 0, none⟩ = some (.int .u64 C.last) := (hb5.cell (p := ⟨wr.heap.size, 0, none⟩) hlO).trans y0; have y1 : w5.cell? ⟨wr.heap.size, 1, none⟩ = some (.slice sa C.l.length sc) := (hb5.cell (p := ⟨wr.heap.size, 1, none⟩) hlO).trans y1; have Hb5 := Lib.hid hb5; clear hb5)
          all_goals go_wp2_with fail
          all_goals go_meet
          all_goals (
            have hb5 : Below X.heap.size X w5 := (Below.drew (Below.refl _ _)).trans (Hb5.out.mono (Nat.le_refl _))
            exact Lib.hid ⟨HTX.out.setBytes (fun j => hb5.cell (p := ⟨t, j, none⟩) hXt) f3 (HTX.out.m.below hb5), (ButS.of hb5).trans (ButS.set (S := fun k => k = t) w5 (p := ⟨t, 3, none⟩) rfl _)⟩)
        case rest =>
          obtain ⟨hTY, hBY⟩ := hcut.out
          obtain ⟨Y, hY⟩ : ∃ Y, Y = wc := ⟨_, rfl⟩
          subst wc
          have HTY := Lib.hid hTY; have HBY := Lib.hid hBY
          have c2 := hTY.c2
          obtain ⟨D, hownD, hdel⟩ := hTY.m.del
          have HDEL := Lib.hid hdel
          have hkey := keyS (s := p) Tryz.underlying9 (by unfold maxLen; omega)
          clear hTY hBY hcut c3 f3 y0 y1 hdel
          go_wp2_with (first
            | (at_delete; refine wpList_delete_own _ rfl _ _ 103 9 rfl 46 strKeyed Tryz.underlying103 heldR b (size M') D rfl hownD _ _ rfl hkey ?_; intro w7 hown7 hturn7)
            | fail)
          go_roundw
          case rel =>
            have hg7 := hturn7.grown
            have hCM := HDEL.out w7 _ p hown7 hg7
            have hnt : t ≠ b := HTY.out.ne
            have hb7 : ButS (fun k => k = b) Y w7 := ButS.grown hg7 rfl
            have hlY := HTY.out.lt
            have hT7 : TabAt w7 t b q1 q2 (M'.del (kS p)) (B' - (wd : Int)) := ⟨(hb7.cell (p := ⟨t, 0, none⟩) hlY hnt).trans HTY.out.c0, (hb7.cell (p := ⟨t, 1, none⟩) hlY hnt).trans HTY.out.c1, (hb7.cell (p := ⟨t, 2, none⟩) hlY hnt).trans HTY.out.c2, (hb7.cell (p := ⟨t, 3, none⟩) hlY hnt).trans HTY.out.c3, fun j => (hb7.cell (p := ⟨t, j + 4, none⟩) hlY hnt).trans (HTY.out.c4 j), (hb7.frozen (p := ⟨t, 3, none⟩) hlY hnt).trans HTY.out.f3, hCM⟩
            have hsd := Maps.size_del (k := kS p) (canonK_tidy hGM.out.canon)
            have hB := HBD.out
            refine ⟨k + 1, n + 1, M'.del (kS p), B' - (wd : Int), by omega, by go_num, by go_num, Lib.hid (by have := hnk.out; omega), HRN, Lib.hid hT7, Lib.hid (hGM.out.del p), Lib.hid ⟨by have := hbd.out.1; omega, by push_cast; have := HWD.out; omega, by omega⟩, Lib.hid ?_, Lib.hid ?_⟩
            · exact strs_but (strs_but HVX.out HBY.out (fun k hk => by subst hk; exact HTX.out.bare.noStr)) hb7 (fun k hk => by subst hk; exact HTY.out.m.bare.noStr)
            · exact (HBX.out.trans (HBY.out.mono (fun k hk => Or.inl hk))).trans (hb7.mono (fun k hk => Or.inr hk))
          case measure => simp [intOf]; omega
    · have hge : (ps.length : Int) ≤ (k : Int) := by omega
      obtain rfl : r = (n, M', B') := by rw [hrun.out, List.drop_of_length_le (by omega)]; rfl
      have HK : Hid (k ≤ ps.length) := Lib.hid hk
      go_wp2_with fail
      go_ret
      have h1 := hbd.out
      exact ⟨rfl, hT.out, hGM.out, h1.1, (by have := HK.out; show B - (ps.length : Int) * 33000 ≤ B'; omega), h1.2.2, hbut.out⟩
end Go.Proofs.YtfbgnpfhjbiikaaGreatDoor
