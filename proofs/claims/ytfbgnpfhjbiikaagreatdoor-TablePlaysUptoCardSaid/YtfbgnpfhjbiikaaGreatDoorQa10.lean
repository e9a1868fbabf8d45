/- Contract: Table.Load, told exactly. Plain laws of scriniumlaw18.TablePlays: the table's answers are the document's. Contracts of scriniumlaw18: numbers over any two lists; edits kept beside what else is written. Contract: scriniumlaw18.does: one act, done by the table and by the document's. Drawn regions over a frame of which some slots alone turn. -/
import Derived.Test.YtfbgnpfhjbiikaaGreatDoorQa09
import Derived.OrdersIn
namespace Go.Proofs.YtfbgnpfhjbiikaaGreatDoor
open Go Go.RowKit
open Pth
open Go.Maps (has size Canon CanonK Tidy IsMap KeysOf Keyed Merged)
def LoadX (l : List Rw) (M : DataW Cel) (B : Int) (t b : Nat) (q1 q2 : Int) (w : World) (e : Ending) (w' : World) : Prop :=
  ∃ (e0 : Int) (M' : DataW Cel) (B' : Int), e = .returned (.int .i64 e0) ∧ LoadE (rowsL M) l e0 (rowsL M') ∧ TabAt w' t b q1 q2 M' B' ∧ Good Tryz.prog 9 M' ∧ B' - bytesR (rowsL M') = B - bytesR (rowsL M) ∧ size M' ≤ size M + l.length ∧ B ≤ B' ∧ B' ≤ B + l.length * 33000 ∧ ButS (fun k => k = t ∨ k = b) w w'
theorem LoadX.same {l : List Rw} {M : DataW Cel} {B : Int} {t b : Nat} {q1 q2 : Int} {w w' : World} (h : TabAt w t b q1 q2 M B) (hg : Good Tryz.prog 9 M) (hb : Below w.heap.size w w') (e0 : Int) (hl : LoadE (rowsL M) l e0 (rowsL M)) : LoadX l M B t b q1 q2 w (.returned (.int .i64 e0)) w' :=
  ⟨e0, M, B, rfl, hl, h.below hb, hg, rfl, by omega, by omega, by omega, ButS.of hb⟩
def seenN (l : List Rw) (k : Nat) (q : ByteArray) : Int := if (l.take k).any (fun x => decide (x.1 = q)) then 1 else 0
def SeenRel (l : List Rw) (k : Nat) (D : DataW Unit) : Prop := IsMap D ∧ ∀ q : ByteArray, D.atKey (kS q) (.lit (.int .i64 0)) = .lit (.int .i64 (seenN l k q))
theorem seen_pos {l : List Rw} {k : Nat} {q : ByteArray} (h : 0 < seenN l k q) : ∃ j, j < k ∧ j < l.length ∧ (l.getD j dR).1 = q := by
  unfold seenN at h
  split at h
  · rename_i h1
    obtain ⟨x, hx, he⟩ := List.any_eq_true.1 h1
    obtain ⟨j, hj, hl, rfl⟩ := take_mem hx
    exact ⟨j, hj, hl, by simpa using he⟩
  · omega
theorem seen_not {l : List Rw} {k : Nat} {q : ByteArray} (h : ¬ 0 < seenN l k q) (hk : k ≤ l.length) : ∀ j, j < k → (l.getD j dR).1 ≠ q := by
  intro j hj he
  apply h
  unfold seenN
  rw [if_pos (List.any_eq_true.2 ⟨_, mem_take hj (by omega), by simpa using he⟩)]
  decide
theorem SeenRel.start (l : List Rw) : SeenRel l 0 (.map []) := ⟨Maps.isMap_empty, fun _q => rfl⟩
theorem SeenRel.step {l : List Rw} {k : Nat} {D : DataW Unit} (h : SeenRel l k D) (hk : k < l.length) {x : Rw} (hx : l.getD k dR = x) {cc : Int} (hcc : D.atKey (kS x.1) (.lit (.int .i64 0)) = .lit (.int .i64 cc)) (h0 : ¬ 0 < cc) : SeenRel l (k + 1) (D.put (kS x.1) (.lit (.int .i64 (wrap64 (cc + 1))))) := by
  have he : cc = seenN l k x.1 := by
    have := (h.2 x.1).symm.trans hcc
    injection this with this
    injection this with _ this
    exact this.symm
  have hc0 : cc = 0 := by
    unfold seenN at he
    split at he <;> omega
  have hs : ∀ q, seenN l (k + 1) q = if x.1 = q then 1 else seenN l k q := by
    intro q
    unfold seenN
    rw [List.take_succ_eq_append_getElem hk, List.any_append, List.any_cons, List.any_nil]
    have hg : l[k] = x := by rw [← hx, List.getD_eq_getElem?_getD, List.getElem?_eq_getElem hk]; rfl
    rw [hg]
    by_cases e : x.1 = q
    · rw [if_pos e]; simp [e]
    · have hd : decide (x.1 = q) = false := decide_eq_false e
      rw [if_neg e, hd, Bool.or_false, Bool.or_false]
  refine ⟨h.1.put _ _, fun q => ?_⟩
  rw [hs q]
  by_cases e : x.1 = q
  · subst e
    rw [if_pos rfl, Maps.atKey_put_same h.1 (kS_key _), hc0]
    exact congrArg (fun z => DataW.lit (.int .i64 z)) (by unfold wrap64; omega)
  · rw [if_neg e, Maps.atKey_put_other (kS_ne (fun h => e h.symm))]
    exact h.2 q

set_option maxRecDepth 100000 in
set_option maxHeartbeats 4000000 in
theorem tab_loadX (w : World) {t b : Nat} {q1 q2 B : Int} {M : DataW Cel} (h : TabAt w t b q1 q2 M B) (hg : Good Tryz.prog 9 M) (hm : MX w) (v : Value) (l : List (ByteArray × Cel)) (hv : IsRows w v l) (hl : l.length ≤ 1048576)
    (hwf : RowsWf l) (hp : ∀ i, i < l.length → (l.getD i dR).1.size ≤ 140737488351232 ∧ (l.getD i dR).2.l.length ≤ 8796093022208) (hsM : size M ≤ 1073741824) (hB0 : -1125899906842624 ≤ B) (hB1 : B ≤ 1125899906842624) :
    Calls Tryz.prog 13 #[.pointer (some ⟨t, 0, none⟩), v] w (LoadX l M B t b q1 q2 w) := by
  obtain ⟨a, cap, rfl, hcc⟩ := hv
  have Hmade := Lib.hid (tab_made w h)
  have HC := Lib.hid hcc; have Hp := Lib.hid hp; have HG := Lib.hid hg; have HM := Lib.hid hm; have HT := Lib.hid h; have Hwf := Lib.hid hwf; clear hcc hp hg hm h hwf
  have hmm := @run_makeMap Tryz.prog
  go_enter Tryz.func13, Tryz.ntmps13
  go_wp2_with fail
  refine Hmade.out.mono ?_
  rintro e w1 ⟨rfl, hb1⟩
  have Hb1 := Lib.hid hb1; clear hb1
  go_wp2_with fail
  go_loopw [19] (fun i wr => ∃ k : Nat, k ≤ l.length ∧ i = .int .i64 k ∧ Hid (∀ j, j < k → OkRow (l.getD j dR)) ∧ Hid (Below w.heap.size w wr)) (fun i _ => l.length - (intOf i).toNat)
  case atStart => exact ⟨0, Nat.zero_le _, rfl, Lib.hid (fun j hj => by omega), Hb1⟩
  case round =>
    obtain ⟨k, hk, rfl, hok, hbw⟩ := hrel
    by_cases hlt : k < l.length
    · rcases HC.out with hn | ⟨bl, off, rfl, hbl, hcc⟩
      · subst hn; simp at hlt
      have hltI : (k : Int) < (l.length : Int) := by omega
      obtain ⟨g0, g1, s, g2, hs⟩ := hcc k hlt
      have e0 := (hbw.out.cell (p := ⟨bl, off + k * 3, none⟩) hbl).trans g0
      have e1 := (hbw.out.cell (p := ⟨bl, off + k * 3 + 1, none⟩) hbl).trans g1
      have e2 := (hbw.out.cell (p := ⟨bl, off + k * 3 + 2, none⟩) hbl).trans g2
      have hs' := hs.below hbw.out (Nat.le_refl _)
      obtain ⟨hp1, hp2⟩ := Hp.out k hlt
      obtain ⟨x, hx⟩ : ∃ x, x = l.getD k dR := ⟨_, rfl⟩
      rw [← hx] at e0 e1 hs' hp1 hp2
      have Hx := Lib.hid hx
      clear hx g0 g1 g2 hs hcc
      have Hs := Lib.hid hs'
      obtain ⟨va, vc, rfl, _⟩ := hs'
      go_upto_region 6 with fail
      refine wp_abs (F := fun W => One wr.heap.size #[.string x.1, .int .u64 x.2.last, .slice va x.2.l.length vc] W ∧ Below wr.heap.size wr W) ⟨One.of _ _ _, (Below.refl _ _).alloc (Nat.le_refl _) _⟩ ?_
      rintro WB ⟨hB, hbB⟩
      have y0 := hB.c 0; have y1 := hB.c 1; have y2 := hB.c 2
      simp at y0 y1 y2
      have hbW := hbw.out.trans (hbB.mono hbw.out.size)
      have HB := Lib.hid hB; have HbB := Lib.hid hbB; have HbW := Lib.hid hbW; clear hB hbB hbW e0 e1 e2
      go_wp2_with fail
      refine (path_may x.1 hp1 _ (HM.out.below HbW.out (Nat.le_refl _))).mono ?_
      rintro e w2 ⟨rfl, hb2⟩
      have hB2 := HB.out.step hb2
      clear y0 y1 y2
      have y0 := hB2.c 0; have y1 := hB2.c 1; have y2 := hB2.c 2
      simp at y0 y1 y2
      have Hb2 := Lib.hid (HbW.out.trans (hb2.mono HbW.out.size)); have HB2 := Lib.hid hB2
      have Hs2 := Lib.hid (Hs.out.below (HbB.out.trans (hb2.mono HbB.out.size)) (Nat.le_refl _)); clear hb2 hB2
      cases hpm : mayL x.1.data.toList with
      | false =>
        have HPM := Lib.hid hpm
        go_wp2_with fail
        go_ret
        exact LoadX.same HT.out HG.out Hb2.out 2 (.arg ⟨k, hlt, fun h => by
          have h1 := h.1
          rw [← Hx.out] at h1
          unfold mayP at h1
          rw [HPM.out] at h1; cases h1⟩)
      | true =>
        go_wp2_with fail
        refine (cell_may x.2 _ _ Hs2.out (by omega)).mono ?_
        rintro e w3 ⟨rfl, hb3⟩
        have hB3 := HB2.out.step hb3
        clear y0 y1 y2
        have y2 := hB3.c 2
        simp at y2
        have Hb3 := Lib.hid (Hb2.out.trans (hb3.mono Hb2.out.size)); clear hb3 hB3
        cases hcm : mayC x.2 with
        | false =>
          have HCM := Lib.hid hcm
          go_wp2_with fail
          go_ret
          exact LoadX.same HT.out HG.out Hb3.out 2 (.arg ⟨k, hlt, fun h => by
            have h1 := h.2.1
            rw [← Hx.out, HCM.out] at h1; cases h1⟩)
        | true =>
          by_cases h0 : x.2.l.length = 0
          · have hB0' : ((x.2.l.length : Int) == 0) = true := by simp [h0]
            have H0 := Lib.hid h0
            clear h0
            go_wp2_with fail
            go_ret
            exact LoadX.same HT.out HG.out Hb3.out 2 (.arg ⟨k, hlt, fun h => h.2.2 (by rw [← Hx.out]; exact List.length_eq_zero_iff.1 H0.out)⟩)
          · have hB0' : ((x.2.l.length : Int) == 0) = false := by rw [beq_eq_false_iff_ne]; omega
            have hok1 : OkRow x := ⟨hpm, hcm, fun e => h0 (by rw [e]; rfl)⟩
            have Hok1 := Lib.hid hok1; clear h0 hok1
            go_wp2_with fail
            go_roundw
            case rel => exact ⟨k + 1, by omega, by go_num, Lib.hid (fun j hj => by
              rcases Nat.lt_or_ge j k with h | h
              · exact hok.out j h
              · obtain rfl : j = k := by omega
                rw [← Hx.out]; exact Hok1.out), Hb3⟩
            case measure => simp [intOf]; omega
    · have hge : (l.length : Int) ≤ (k : Int) := by omega
      have hkl : k = l.length := by omega
      have Hall : Hid (∀ j, j < l.length → OkRow (l.getD j dR)) := Lib.hid (by rw [← hkl]; exact hok.out)
      clear hkl
      obtain ⟨We, hWe⟩ : ∃ We, We = wr := ⟨_, rfl⟩
      subst hWe
      go_wp2_with fail
      go_loopw [44] (fun i wx => ∃ (k : Nat) (D : DataW Unit), k ≤ l.length ∧ i = .int .i64 k ∧ Hid (wx.ownsMap Tryz.prog 9 (plainElem Tryz.prog 3) We.heap.size k D) ∧ Hid (SeenRel l k D) ∧ Hid (∀ i, i < k → has M (kS (l.getD i dR).1) = false ∧ ∀ j, j < i → (l.getD j dR).1 ≠ (l.getD i dR).1) ∧ Hid (Below We.heap.size We wx)) (fun i _ => l.length - (intOf i).toNat)
      case atStart => exact ⟨0, .map [], Nat.zero_le _, rfl, Lib.hid (World.ownsMap_made _ _ _ _), Lib.hid (SeenRel.start l), Lib.hid (fun i hi => absurd hi (Nat.not_lt_zero _)), Lib.hid ((Below.refl _ _).alloc (Nat.le_refl _) _)⟩
      case round =>
        obtain ⟨k, D, hk, rfl, hown, hseen, hno, hbx⟩ := hrel
        have hbw2 : Below w.heap.size w wr := hbw.out.trans (hbx.out.mono hbw.out.size)
        have Hbw2 := Lib.hid hbw2
        by_cases hlt : k < l.length
        · rcases HC.out with hn | ⟨bl, off, rfl, hbl, hcc⟩
          · subst hn; simp at hlt
          have hltI : (k : Int) < (l.length : Int) := by omega
          obtain ⟨g0, g1, s, g2, hs⟩ := hcc k hlt
          have e0 := (hbw2.cell (p := ⟨bl, off + k * 3, none⟩) hbl).trans g0
          have e1 := (hbw2.cell (p := ⟨bl, off + k * 3 + 1, none⟩) hbl).trans g1
          have e2 := (hbw2.cell (p := ⟨bl, off + k * 3 + 2, none⟩) hbl).trans g2
          obtain ⟨hp1, hp2⟩ := Hp.out k hlt
          obtain ⟨x, hx⟩ : ∃ x, x = l.getD k dR := ⟨_, rfl⟩
          rw [← hx] at e0 e1 hs hp1 hp2
          have Hx2 := Lib.hid hx
          clear hx g0 g1 g2 hcc hbw2
          obtain ⟨va, vc, rfl, _⟩ := hs
          go_upto_region 13 with fail
          refine wp_abs (F := fun W => One wr.heap.size #[.string x.1, .int .u64 x.2.last, .slice va x.2.l.length vc] W ∧ Below wr.heap.size wr W) ⟨One.of _ _ _, (Below.refl _ _).alloc (Nat.le_refl _) _⟩ ?_
          rintro WB ⟨hB, hbB⟩
          have y0 := hB.c 0
          simp at y0
          have hTB := HT.out.below (Hbw2.out.trans (hbB.mono Hbw2.out.size))
          have d2 := hTB.c2
          obtain ⟨s11, is1, hi1, hs11, hl11, _⟩ := (hTB.below (w' := WB.drew) (Below.drew (Below.refl _ _))).m.look2 x.1 (by unfold maxLen; omega)
          obtain ⟨a11, c11, rfl, _⟩ := hs11
          have hbZ : Below WB.heap.size WB (WB.alloc (.cells #[.int .u64 0, .slice none 0 0] 46)).drew := Below.drew ((Below.refl _ _).alloc (Nat.le_refl _) _)
          obtain ⟨s12, is2, hi2, hs12, hl12, _⟩ := (hTB.below hbZ).m.look2 x.1 (by unfold maxLen; omega)
          obtain ⟨a12, c12, rfl, _⟩ := hs12
          have hbA : Below WB.heap.size WB (WB.alloc (.cells #[.int .u64 0, .slice none 0 0] 46)) := (Below.refl _ _).alloc (Nat.le_refl _) _
          have d2z := (hTB.below hbA).c2
          have y0z := (hB.step hbA).c 0
          simp at y0z
          have hne : ¬ wr.heap.size = WB.heap.size := by have := hB.lt; omega
          have hne2 : ¬ WB.heap.size = wr.heap.size := by have := hB.lt; omega
          have hbl2 := hB.lt
          have HB := Lib.hid hB; have HbB := Lib.hid hbB; clear hB hbB e0 e1 e2 hTB
          obtain ⟨hx0, hhx0⟩ : ∃ b, has M (kS x.1) = b := ⟨_, rfl⟩
          have HHX := Lib.hid hhx0
          rw [hhx0] at hi1 hi2
          subst is1 is2
          clear hhx0
          go_cut [11] (fun s11 wx => s11 = .bool hx0 ∧ Hid (One wr.heap.size #[.string x.1, .int .u64 x.2.last, .slice va x.2.l.length vc] wx ∧ Below wr.heap.size wr wx))
          case first =>
            go_region
            all_goals go_wp2_with fail
            all_goals go_meet
            all_goals refine ⟨rfl, Lib.hid ⟨?_, ?_⟩⟩
            all_goals first
              | exact (HB.out.step (Below.drew (Below.refl _ _))).step ((Below.refl _ _).alloc (Nat.le_refl _) _)
              | exact HB.out.step (Below.drew ((Below.refl _ _).alloc (Nat.le_refl _) _))
              | exact (HbB.out.trans ((Below.drew (Below.refl _ _)).mono HbB.out.size)).alloc (HbB.out.trans ((Below.drew (Below.refl _ _)).mono HbB.out.size)).size _
              | exact (HbB.out.alloc HbB.out.size _).drew
              | exact (((HB.out.step hbA).far (p := ⟨WB.heap.size, 0, none⟩) (by dsimp only; omega) _).far (p := ⟨WB.heap.size, 1, none⟩) (by dsimp only; omega) _).step (Below.drew (Below.refl _ _))
              | exact (((HbB.out.alloc HbB.out.size _).setCell (p := ⟨WB.heap.size, 0, none⟩) (by dsimp only; omega) _).setCell (p := ⟨WB.heap.size, 1, none⟩) (by dsimp only; omega) _).drew
              | skip
          case rest =>
            obtain ⟨rfl, HX⟩ := hcut
            have y0 := HX.out.1.c 0
            simp at y0
            have hownc := ownsMap_below hown.out HX.out.2 hown.out.lt
            have hkey := keyS (s := x.1) Tryz.underlying9 (by unfold maxLen; omega)
            have hbc := Hbw2.out.trans (HX.out.2.mono Hbw2.out.size)
            have Hbc := Lib.hid hbc; clear hbc d2 hl11
            cases hx0 with
            | true =>
              go_wp2_with fail
              go_ret
              exact LoadX.same HT.out HG.out Hbc.out 8 (.dup Hall.out ⟨k, hlt, Or.inl ⟨(x.1, cellAt M x.1), (rows_mem HG.out.canon _).2 ⟨HHX.out, rfl⟩, by rw [← Hx2.out]⟩⟩)
            | false =>
              obtain ⟨cc, hrunc, hccd, _⟩ := hownc.lookup_int strKeyed (t := 116) Tryz.underlying116 Tryz.underlying3 (zeroIntM _) hkey
              go_upto_if 65 with fail
              by_cases hcc : 0 < cc
              · have HCC := Lib.hid hcc
                have HCD := Lib.hid hccd
                clear hccd
                go_wp2_with fail
                go_ret
                refine LoadX.same HT.out HG.out Hbc.out 8 (.dup Hall.out ⟨k, hlt, Or.inr ?_⟩)
                have he : cc = seenN l k x.1 := by
                  have := (hseen.out.2 x.1).symm.trans HCD.out
                  injection this with this
                  injection this with _ this
                  exact this.symm
                obtain ⟨j, hj, _, hje⟩ := seen_pos (by rw [← he]; exact HCC.out)
                exact ⟨j, hj, by rw [← Hx2.out]; exact hje⟩
              · have hkl2 : k < maxLen := by unfold maxLen; omega
                have HCC := Lib.hid hcc
                have HCD := Lib.hid hccd
                clear hccd
                go_wp2_with (first
                  | (at_mapUpdate; refine wpList_mapUpdate_own _ rfl _ _ _ 116 rfl 9 3 strKeyed Tryz.underlying116 _ We.heap.size k _ rfl hownc hkl2 _ _ _ rfl rfl hkey _ [] (plainElem_int Tryz.underlying3 (wrap64_wf _)) ?_; intro w7 hown7 hg7)
                  | fail)
                go_roundw
                case rel => exact ⟨k + 1, _, by omega, by go_num, Lib.hid hown7, Lib.hid (hseen.out.step hlt Hx2.out.symm HCD.out HCC.out), Lib.hid (fun i hi => by
                  have he : cc = seenN l k x.1 := by
                    have := (hseen.out.2 x.1).symm.trans HCD.out
                    injection this with this
                    injection this with _ this
                    exact this.symm
                  rcases Nat.lt_or_ge i k with h | h
                  · exact hno.out i h
                  · obtain rfl : i = k := by omega
                    rw [← Hx2.out]
                    exact ⟨HHX.out, seen_not (by rw [← he]; exact HCC.out) hk⟩), Lib.hid ((hbx.out.trans (HX.out.2.mono hbx.out.size)).grown hg7 (hbx.out.trans (HX.out.2.mono hbx.out.size)).size (fun j hj => by cases hj; exact Nat.le_refl _))⟩
                case measure => simp [intOf]; omega
        · have hge : (l.length : Int) ≤ (k : Int) := by omega
          have HNO : Hid (∀ i, i < l.length → has M (kS (l.getD i dR).1) = false ∧ ∀ j, j < i → (l.getD j dR).1 ≠ (l.getD i dR).1) := Lib.hid (fun i hi => hno.out i (by omega))
          clear hno hseen
          obtain ⟨Wf, hWf⟩ : ∃ Wf, Wf = wr := ⟨_, rfl⟩
          subst hWf
          have HTf := Lib.hid (HT.out.below Hbw2.out)
          have HCf : Hid (IsRows Wf (.slice a l.length cap) l) := Lib.hid (IsRows.below ⟨a, cap, rfl, HC.out⟩ Hbw2.out (Nat.le_refl _))
          clear hbw2
          go_wp2_with fail
          go_loopw [74] (fun i wx => ∃ (k : Nat) (M' : DataW Cel) (B' : Int), k ≤ l.length ∧ i = .int .i64 k ∧ Hid (TabAt wx t b q1 q2 M' B') ∧ Hid (Good Tryz.prog 9 M') ∧ Hid (rowsL M' = (l.take k).foldl withR (rowsL M) ∧ B' - bytesR (rowsL M') = B - bytesR (rowsL M) ∧ ∀ q : ByteArray, has M' (kS q) = true → has M (kS q) = true ∨ ∃ j, j < k ∧ (l.getD j dR).1 = q) ∧ Hid (size M' ≤ size M + k ∧ B ≤ B' ∧ B' ≤ B + k * 33000) ∧ Hid (ButS (fun k => k = t ∨ k = b) Wf wx)) (fun i _ => l.length - (intOf i).toNat)
          case atStart => exact ⟨0, M, B, Nat.zero_le _, rfl, HTf, HG, Lib.hid ⟨rfl, rfl, fun q hq => Or.inl hq⟩, Lib.hid ⟨by omega, by omega, by omega⟩, Lib.hid (ButS.of (Below.refl _ _))⟩
          case round =>
            obtain ⟨k, M', B', hk, rfl, hT, hGM, hrel2, hbd, hbut⟩ := hrel
            by_cases hlt : k < l.length
            · obtain ⟨a', cap', ha', hcc⟩ := HCf.out.but hbut.out (fun k hk => by rcases hk with rfl | rfl; exact HTf.out.bare; exact HTf.out.m.bare)
              obtain ⟨rfl, rfl⟩ : a' = a ∧ cap' = cap := by injection ha' with h1 h2 h3; exact ⟨h1.symm, h3.symm⟩
              rcases hcc with hn | ⟨bl, off, rfl, hbl, hcc⟩
              · subst hn; simp at hlt
              have hltI : (k : Int) < (l.length : Int) := by omega
              obtain ⟨e0, e1, s, e2, hs⟩ := hcc k hlt
              have hokx := Hall.out k hlt
              have hwfx := Hwf.out k hlt
              have hnox := HNO.out k hlt
              have hfold := foldl_take (R := rowsL M) hlt
              obtain ⟨x, hx⟩ : ∃ x, x = l.getD k dR := ⟨_, rfl⟩
              rw [← hx] at e0 e1 hs hokx hwfx hnox hfold
              have Hx3 := Lib.hid hx
              have hnew : has M' (kS x.1) = false := by
                cases hh : has M' (kS x.1) with
                | false => rfl
                | true =>
                  rcases hrel2.out.2.2 _ hh with h | ⟨j, hj, he⟩
                  · rw [hnox.1] at h; cases h
                  · exact absurd he (hnox.2 j hj)
              have hKx := keysOf_path hokx.1
              have hputr := rows_put hGM.out.canon hKx x.2
              have hputb := bytes_put hGM.out hKx (d := x.2) hokx.2.2
              rw [cellAt_none hnew] at hputb
              have HFX : Hid (rowsL (M'.put (kS x.1) (.held x.2)) = (l.take (k + 1)).foldl withR (rowsL M)) := Lib.hid (by rw [hputr, hfold, hrel2.out.1])
              have HPB : Hid ((bytesR (rowsL (M'.put (kS x.1) (.held x.2))) : Int) = bytesR (rowsL M') + (weightE x.1 x.2 : Int)) := Lib.hid (by
                have h0 : weightE x.1 (⟨0, []⟩ : Cel) = 0 := rfl
                rw [hputb, h0]; simp)
              have HNX : Hid (∀ q : ByteArray, has (M'.put (kS x.1) (.held x.2)) (kS q) = true → has M (kS q) = true ∨ ∃ j, j < k + 1 ∧ (l.getD j dR).1 = q) := Lib.hid (fun q hq => by
                by_cases e : q = x.1
                · exact Or.inr ⟨k, Nat.lt_succ_self k, by rw [← Hx3.out, e]⟩
                · rw [Maps.has_put_other (kS_ne e)] at hq
                  rcases hrel2.out.2.2 _ hq with h | ⟨j, hj, he⟩
                  · exact Or.inl h
                  · exact Or.inr ⟨j, by omega, he⟩)
              clear hx hcc hnox hfold hnew hKx hputr hputb
              have Hs := Lib.hid hs
              obtain ⟨va, vc, rfl, _⟩ := hs
              obtain ⟨o1, o2, o3⟩ := hokx
              have hp128 := mayP_size o1
              have hl8 := may_len o2
              have hGP := Lib.hid (hGM.out.putRow ⟨o1, o2, o3⟩ hwfx)
              go_upto_region 21 with fail
              refine wp_abs (F := fun W => One wr.heap.size #[.string x.1, .int .u64 x.2.last, .slice va x.2.l.length vc] W ∧ Below wr.heap.size wr W) ⟨One.of _ _ _, (Below.refl _ _).alloc (Nat.le_refl _) _⟩ ?_
              rintro WB ⟨hB, hbB⟩
              have y0 := hB.c 0; have y1 := hB.c 1; have y2 := hB.c 2
              simp at y0 y1 y2
              have hTB := hT.out.below hbB
              have d2 := hTB.c2
              have hlB := hB.lt
              have hlT := hTB.lt
              have hlW := hT.out.lt
              have hlWb := HoldsMap.lt hT.out.m
              have hne0 := hT.out.ne
              have hkey := keyS (s := x.1) Tryz.underlying9 (by unfold maxLen; omega)
              have hlen : size M' < maxLen := by have := hbd.out.1; unfold maxLen; omega
              have HsB := Lib.hid (Hs.out.below hbB (Nat.le_refl _))
              have HsD := Lib.hid (HsB.out.below (w' := WB.drew) (Below.drew (Below.refl _ _)) (Nat.le_refl _))
              have HB := Lib.hid hB; have HbB := Lib.hid hbB; have HTB := Lib.hid hTB; clear hB hbB hTB e0 e1 e2
              go_cut [] (fun wx => Hid (One wr.heap.size #[.string x.1, .int .u64 x.2.last, .slice va x.2.l.length vc] wx ∧ ButS (fun k => k = b) WB wx ∧ CelMap wx b (M'.put (kS x.1) (.held x.2))))
              case first =>
                go_region_with (first
                  | (go_at_call 46; refine (tab_copied x.2 _ _ HsD.out (by omega)).mono ?_; rintro e w4 ⟨v4, rfl, hown4, hb4⟩; obtain ⟨a4, c4, rfl⟩ := ownShape hown4; have d2 : w4.cell? ⟨t, 2, none⟩ = some (.map (some b)) := (hb4.cell hlT).trans d2; have y0 : w4.cell? ⟨wr.heap.size, 0, none⟩ = some (.string x.1) := (hb4.cell hlB).trans y0; have hC4 := (HTB.out.m.below (w' := WB.drew) (Below.drew (Below.refl _ _))).below hb4; obtain ⟨DX, hownX, hputX⟩ := hC4.put; have Hown4 := Lib.hid hown4; have Hb4 := Lib.hid hb4; obtain ⟨w7, hrun7, hown7, hg7⟩ := hownX.update (t := 103) (e := 46) strKeyed Tryz.underlying103 hlen (key := .string x.1) (val := .agg #[.int .u64 x.2.last, .slice a4 x.2.l.length c4]) (d := .held (.agg #[.int .u64 x.2.last, .slice a4 x.2.l.length c4])) (ps := []) hkey rfl; clear hown4 hb4 hC4))
                all_goals go_wp2_with fail
                all_goals go_meet
                all_goals (
                  have hbd4 : Below WB.heap.size WB w4 := (Below.drew (Below.refl _ _)).trans (Hb4.out.mono (Nat.le_refl _))
                  exact Lib.hid ⟨((HB.out.step hbd4).grown hg7 (by have := hlWb; omega)), (ButS.of hbd4).trans (ButS.grown hg7 rfl), hputX w7 _ x.1 x.2 _ (by unfold maxLen; omega) ⟨_, rfl, IsVers.own Hown4.out⟩ hown7 hg7⟩)
              case rest =>
                obtain ⟨hO, hbu, hN⟩ := hcut.out
                have hnb : t ≠ b := hne0
                have hTc : ∀ j, wc.cell? ⟨t, j, none⟩ = WB.cell? ⟨t, j, none⟩ := fun j => hbu.cell (p := ⟨t, j, none⟩) hlT hnb
                have c3 := (hTc 3).trans HTB.out.c3
                have f3 : wc.frozen? ⟨t, 3, none⟩ = false := (hbu.frozen (p := ⟨t, 3, none⟩) hlT hnb).trans HTB.out.f3
                have y0 := hO.c 0; have y1 := hO.c 1; have y2 := hO.c 2
                simp at y0 y1 y2
                have hlO := hO.lt
                have hltc : t < wc.heap.size := Nat.lt_of_lt_of_le hlT hbu.size
                have hbox : wr.heap.size ≠ t := by omega
                have HsC := Lib.hid ((HsB.out.but hbu (fun k hk => by subst hk; exact HTB.out.m.noVers)).below (w' := wc.drew) (Below.drew (Below.refl _ _)) (Nat.le_refl _))
                have hwd := weight_le (p := x.1) o2 hp128
                have HW := Lib.hid (tab_weight x.1 x.2 _ wc.drew HsC.out (by omega) (may_sizes o2) (by have := may_size o2; omega) (by omega))
                obtain ⟨wd, hwdE⟩ : ∃ z, z = weightE x.1 x.2 := ⟨_, rfl⟩
                rw [← hwdE] at hwd HW
                have hb1 := hbd.out.2.1; have hb2 := hbd.out.2.2
                have hwr : IntKind.i64.wrap (B' + (wd : Int)) = B' + (wd : Int) := by rw [IntKind.wrap_i64]; omega
                have hTc3 := Lib.hid hTc; have Hbu := Lib.hid hbu; have HN := Lib.hid hN; have HO := Lib.hid hO; have Hbd := Lib.hid (And.intro hb1 hb2)
                have HPB2 : Hid ((bytesR (rowsL (M'.put (kS x.1) (.held x.2))) : Int) = bytesR (rowsL M') + (wd : Int)) := Lib.hid (by rw [hwdE]; exact HPB.out)
                clear hTc hbu hN hO hcut hb1 hb2 hwdE
                go_wp2_with fail
                go_region_with (go_at_call 49; refine HW.out.mono ?_; rintro e w5 ⟨rfl, hb5⟩; have c3 : w5.cell? ⟨t, 3, none⟩ = some (.int .i64 B') := (hb5.cell (p := ⟨t, 3, none⟩) hltc).trans c3; have f3 : w5.frozen? ⟨t, 3, none⟩ = false := (hb5.frozen (p := ⟨t, 3, none⟩) hltc).trans f3; have y0 : w5.cell? ⟨wr.heap.size, 0, none⟩ = some (.string x.1) := (hb5.cell (p := ⟨wr.heap.size, 0, none⟩) hlO).trans y0; have Hb5 := Lib.hid hb5; clear hb5)
                all_goals go_wp2_with fail
                all_goals go_roundw
                all_goals first
                  | (simp [intOf]; omega)
                  | (have hb5f : Below wc.heap.size wc w5 := (Below.drew (Below.refl _ _)).trans (Hb5.out.mono (Nat.le_refl _))
                     have hs1 := Maps.size_put (k := kS x.1) (canonK_tidy hGM.out.canon) (.held x.2)
                     have hs2 : size (M'.put (kS x.1) (.held x.2)) ≤ size M' + 1 := by rw [hs1]; split <;> omega
                     have h0 := hbd.out.1; have h1 := Hbd.out.1; have h2 := Hbd.out.2
                     refine ⟨k + 1, M'.put (kS x.1) (.held x.2), B' + (wd : Int), by omega, by go_num, Lib.hid (hT.out.setBytes (fun j => (hb5f.cell (p := ⟨t, j, none⟩) hltc).trans ((hTc3.out j).trans (HbB.out.cell (p := ⟨t, j, none⟩) hlW))) f3 (HN.out.below hb5f)), hGP, Lib.hid ⟨HFX.out, by rw [HPB2.out]; have := hrel2.out.2.1; omega, HNX.out⟩, Lib.hid ⟨by omega, by omega, by push_cast; omega⟩, Lib.hid ?_⟩
                     exact (((hbut.out.trans (ButS.of HbB.out)).trans (Hbu.out.mono (fun k hk => Or.inr hk))).trans (ButS.of hb5f)).trans (ButS.set w5 (p := ⟨t, 3, none⟩) (Or.inl rfl) _))
            · have hge : (l.length : Int) ≤ (k : Int) := by omega
              have Hkl : Hid (k = l.length) := Lib.hid (by omega)
              go_wp2_with fail
              go_ret
              have h1 := hbd.out
              have h2 := hrel2.out
              rw [Hkl.out] at h1 h2
              rw [List.take_length] at h2
              refine ⟨0, M', B', rfl, ?_, hT.out, hGM.out, h2.2.1, h1.1, h1.2.1, h1.2.2, (ButS.of Hbw2.out).trans hbut.out⟩
              rw [h2.1]
              exact .ok Hall.out (fun i hi => ⟨fun y hy he => (by
                have h3 := ((rows_mem HG.out.canon y).1 hy).1
                rw [he, (HNO.out i hi).1] at h3; cases h3), (HNO.out i hi).2⟩)
end Go.Proofs.YtfbgnpfhjbiikaaGreatDoor

namespace Go.Proofs.YtfbgnpfhjbiikaaGreatDoor
open Go Go.RowKit
open Pth
open Go.Maps (has size Canon CanonK Tidy IsMap KeysOf Keyed Merged)
theorem sorted_ext : ∀ (a b : List (List UInt8)), a.Pairwise (· < ·) → b.Pairwise (· < ·) → (∀ x, x ∈ a ↔ x ∈ b) → a = b
  | [], [], _, _, _ => rfl
  | [], y :: t, _, _, h => by have := (h y).2 (by simp); simp at this
  | x :: t, [], _, _, h => by have := (h x).1 (by simp); simp at this
  | x :: s, y :: t, ha, hb, h => by
    rw [List.pairwise_cons] at ha hb
    have hxy : x = y := by
      rcases List.mem_cons.1 ((h x).1 (by simp)) with e | h1
      · exact e
      · rcases List.mem_cons.1 ((h y).2 (by simp)) with e | h2
        · exact e.symm
        · exact absurd (List.lt_trans (ha.1 y h2) (hb.1 x h1)) (List.lt_irrefl _)
    subst hxy
    congr 1
    refine sorted_ext s t ha.2 hb.2 fun z => ?_
    constructor
    · intro hz
      rcases List.mem_cons.1 ((h z).1 (List.mem_cons_of_mem _ hz)) with e | h1
      · subst e; exact absurd (ha.1 z hz) (List.lt_irrefl _)
      · exact h1
    · intro hz
      rcases List.mem_cons.1 ((h z).2 (List.mem_cons_of_mem _ hz)) with e | h1
      · subst e; exact absurd (hb.1 z hz) (List.lt_irrefl _)
      · exact h1
theorem mem_kids (p x : List UInt8) (l : List (List UInt8)) : x ∈ kidsR p l ↔ x ∈ kidsL p l := by
  unfold kidsR kidsL
  rw [List.mem_filter, List.mem_map, List.mem_map]
  constructor
  · rintro ⟨⟨s, hs, rfl⟩, hne⟩
    rw [child_eq] at hne ⊢
    refine ⟨s, List.mem_filter.2 ⟨hs, ?_⟩, rfl⟩
    cases h : underL p s with
    | true => rfl
    | false => rw [child_none _ _ h] at hne; simp at hne
  · rintro ⟨s, hs, rfl⟩
    obtain ⟨hs, hu⟩ := List.mem_filter.1 hs
    refine ⟨⟨s, hs, child_eq p s⟩, ?_⟩
    have := child_ne p s hu
    simpa using this
theorem names_sorted (p : List UInt8) (l : List (List UInt8)) : (namesL p l).Pairwise (· < ·) := by
  unfold namesL
  have h1 := List.pairwise_mergeSort (le := fun x y : List UInt8 => decide (x ≤ y)) (fun a b c h1 h2 => by simp only [decide_eq_true_eq] at *; exact List.le_trans h1 h2) (fun a b => by simp only [Bool.or_eq_true, decide_eq_true_eq]; exact List.le_total a b) (nub (kidsL p l))
  have h2 : ((nub (kidsL p l)).mergeSort (fun x y => decide (x ≤ y))).Nodup := (List.mergeSort_perm _ _).nodup_iff.2 (nub_nodup _)
  have h3 := h1.and h2
  refine h3.imp ?_
  rintro a b ⟨hab, hne⟩
  simp only [decide_eq_true_eq] at hab
  rcases List.le_iff_lt_or_eq.1 hab with h | h
  · exact h
  · exact absurd h hne
theorem names_mem (p x : List UInt8) (l : List (List UInt8)) : x ∈ namesL p l ↔ x ∈ kidsL p l := by
  unfold namesL; rw [(List.mergeSort_perm _ _).mem_iff, mem_nub]
theorem ins_names {p : List UInt8} {l Z : List ByteArray} (h : InsRel p l l.length Z) : Z.map (·.data.toList) = namesL p (l.map (·.data.toList)) := by
  refine sorted_ext _ _ h.sorted (names_sorted _ _) fun x => ?_
  rw [h.mem, List.take_length, mem_kids, names_mem]
theorem names_len (p : List UInt8) (l : List (List UInt8)) : (namesL p l).length ≤ l.length := by
  unfold namesL
  rw [List.length_mergeSort]
  have h1 : ∀ m : List (List UInt8), (nub m).length ≤ m.length := by
    intro m; induction m with
    | nil => simp [nub]
    | cons a t ih => unfold nub; split <;> simp <;> omega
  refine Nat.le_trans (h1 _) ?_
  unfold kidsL; rw [List.length_map]; exact List.length_filter_le _ _
theorem kids_mem (p x : List UInt8) (l : List (List UInt8)) : x ∈ kidsL p l ↔ ∃ s ∈ l, underL p s = true ∧ childL p s = x := by
  unfold kidsL
  rw [List.mem_map]
  constructor
  · rintro ⟨s, hs, rfl⟩
    obtain ⟨hs, hu⟩ := List.mem_filter.1 hs
    exact ⟨s, hs, hu, rfl⟩
  · rintro ⟨s, hs, hu, rfl⟩
    exact ⟨s, List.mem_filter.2 ⟨hs, hu⟩, rfl⟩
theorem names_same {p : List UInt8} {L L' : List ByteArray} (h : ∀ s, s ∈ L ↔ s ∈ L') : namesL p (L.map (·.data.toList)) = namesL p (L'.map (·.data.toList)) := by
  refine sorted_ext _ _ (names_sorted _ _) (names_sorted _ _) fun x => ?_
  rw [names_mem, names_mem, kids_mem, kids_mem]
  constructor
  · rintro ⟨s, hs, h1⟩
    obtain ⟨y, hy, rfl⟩ := List.mem_map.1 hs
    exact ⟨_, List.mem_map.2 ⟨y, (h y).1 hy, rfl⟩, h1⟩
  · rintro ⟨s, hs, h1⟩
    obtain ⟨y, hy, rfl⟩ := List.mem_map.1 hs
    exact ⟨_, List.mem_map.2 ⟨y, (h y).2 hy, rfl⟩, h1⟩
theorem map_tl_bs (l : List ByteArray) : (l.map (·.data.toList)).map bs = l := by
  induction l with
  | nil => rfl
  | cons a t ih => rw [List.map_cons, List.map_cons, ih, bs_of_toList]
theorem ins_eq {p : List UInt8} {L L' Z : List ByteArray} (h : InsRel p L' L'.length Z) (hm : ∀ s, s ∈ L ↔ s ∈ L') : Z = (namesL p (L.map (·.data.toList))).map bs := by
  rw [names_same hm, ← ins_names h, map_tl_bs]
theorem live_mem {M : DataW Cel} (c : CanonK (KeysOf Tryz.prog 9) M) (s : ByteArray) : s ∈ liveR (rowsL M) ↔ (has M (kS s) = true ∧ 0 < nowC (cellAt M s)) := by
  unfold liveR
  rw [List.mem_map]
  constructor
  · rintro ⟨x, hx, rfl⟩
    obtain ⟨hx, hn⟩ := List.mem_filter.1 hx
    obtain ⟨h1, h2⟩ := (rows_mem c x).1 hx
    rw [h2]
    exact ⟨h1, by simpa using hn⟩
  · rintro ⟨h1, h2⟩
    exact ⟨(s, cellAt M s), List.mem_filter.2 ⟨(rows_mem c _).2 ⟨h1, rfl⟩, by simpa using h2⟩, rfl⟩
theorem Good.okR {M : DataW Cel} (h : Good Tryz.prog 9 M) : OkR (rowsL M) := ⟨rows_up h.canon, fun x hx => by
  obtain ⟨h1, h2⟩ := (rows_mem h.canon x).1 hx
  obtain ⟨p, c, e, hc, k1, k2, k3, k4⟩ := h.cells _ h1
  have hp : p = x.1 := by
    by_cases e2 : p = x.1
    · exact e2
    · exact absurd e.symm (kS_ne e2)
  subst hp
  rw [cellAt_of hc] at h2
  subst h2
  exact ⟨⟨k4, k1, k2⟩, k3⟩⟩
theorem tried_rows {M : DataW Cel} {B q1 q2 : Int} {l : List Edt} (hg : Good Tryz.prog 9 M) (hB : B = bytesR (rowsL M)) :
    triedR (rowsL M) q1 q2 l = ((triedT M B q1 q2 l).1, rowsL (triedT M B q1 q2 l).2.1, (triedT M B q1 q2 l).2.2.1) ∧ (triedT M B q1 q2 l).2.2.2 = bytesR (rowsL (triedT M B q1 q2 l).2.1) := by
  obtain ⟨a1, a2⟩ := run_rows l (vs := []) (B := B) (i := 0) hg hB
  obtain ⟨g1, _, _, _⟩ := runT_facts Tryz.underlying9 l (vs := []) (B := B) (i := 0) hg
  have ho : overR (rowsL (runT M [] B 0 l).2.1) (rowsL M) q1 q2 = overT ((runT M [] B 0 l).2.1, (runT M [] B 0 l).2.2.2) M B q1 q2 := by
    unfold overR overT
    simp only
    rw [rows_length g1.canon, rows_length hg.canon, a2]
    subst hB
    have e : decide (bytesR (rowsL M) < bytesR (rowsL (runT M [] (bytesR (rowsL M)) 0 l).2.1)) = decide ((bytesR (rowsL M) : Int) < (bytesR (rowsL (runT M [] (bytesR (rowsL M)) 0 l).2.1) : Int)) := decide_eq_decide.2 (by omega)
    rw [e]
  have e1 : (triedT M B q1 q2 l).2 = (runT M [] B 0 l).2 := tried_eq M B q1 q2 l
  refine ⟨?_, by rw [e1]; exact a2⟩
  rw [e1]
  unfold triedR triedT
  simp only
  rw [a1]
  simp only
  rw [ho]
  split
  · rfl
  · split <;> rfl
theorem read_rows {M : DataW Cel} (c : CanonK (KeysOf Tryz.prog 9) M) (p : ByteArray) (n : Nat) : readR (rowsL M) p n = readT M p n := by
  unfold readR readT
  rw [cellR_rows c]
  cases h : has M (kS p) with
  | true => rw [if_neg (fun h2 : ∀ x ∈ rowsL M, x.1 ≠ p => h2 (p, cellAt M p) ((rows_mem c _).2 ⟨h, rfl⟩) rfl), if_neg (c := true = false) (by decide)]
  | false =>
    have h2 : ∀ x ∈ rowsL M, x.1 ≠ p := by
      intro x hx e
      have := ((rows_mem c x).1 hx).1
      rw [e, h] at this; cases this
    rw [if_pos h2, if_pos rfl]
end Go.Proofs.YtfbgnpfhjbiikaaGreatDoor

namespace Go.Proofs.YtfbgnpfhjbiikaaGreatDoor
open Go Go.RowKit
open Pth
open Go.Maps (has size Canon CanonK Tidy IsMap KeysOf Keyed Merged)
theorem IsEdts.but2 {S : Nat → Prop} {w w' : World} {v : Value} {l : List Edt} (h : IsEdts w v l) (hb : ButS S w w') (hS : ∀ k, S k → NoStr w k) : IsEdts w' v l := by
  obtain ⟨a, cap, hv, h⟩ := h
  refine ⟨a, cap, hv, ?_⟩
  rcases h with h | ⟨b, off, ha, hlt, hc⟩
  · exact Or.inl h
  · by_cases hl : l = []
    · exact Or.inl hl
    have hn : ¬ S b := fun hs => hS b hs _ _ (hc 0 (List.length_pos_iff.2 hl)).2.1
    refine Or.inr ⟨b, off, ha, by have := hb.size; omega, fun i hi => ?_⟩
    obtain ⟨h0, h1, h2, h3, h4, h5⟩ := hc i hi
    exact ⟨(hb.cell hlt hn).trans h0, (hb.cell hlt hn).trans h1, (hb.cell hlt hn).trans h2, (hb.cell hlt hn).trans h3, (hb.cell hlt hn).trans h4, (hb.cell hlt hn).trans h5⟩

set_option maxRecDepth 100000 in
set_option maxHeartbeats 1000000 in
theorem law_numbersG (v1 v2 : Value) (l1 l2 : List Nat) (w : World) (h1 : IsNums w v1 l1) (h2 : IsNums w v2 l2) (hl : l1.length ≤ 1099511627776) :
    Calls Tryz.prog 17 #[v1, v2] w fun e w' => ∃ x, e = .returned (.bool x) ∧ (l1 = l2 → x = true) ∧ Below w.heap.size w w' := by
  by_cases he : l1 = l2
  · subst he
    refine (law_numbers v1 v2 l1 w h1 h2 hl).mono ?_
    rintro e w1 ⟨rfl, hb⟩
    exact ⟨true, rfl, fun _ => rfl, hb⟩
  have HE := Lib.hid he; clear he
  obtain ⟨a1, cap1, rfl, hc1⟩ := h1
  obtain ⟨a2, cap2, rfl, hc2⟩ := h2
  have Hc1 := Lib.hid hc1; have Hc2 := Lib.hid hc2; clear hc1 hc2
  go_enter Tryz.func17, Tryz.ntmps17
  by_cases hlen : l1.length = l2.length
  · rw [hlen] at hl ⊢
    have Hlen := Lib.hid hlen; clear hlen
    have hLB : ((l2.length : Int) != (l2.length : Int)) = false := by simp
    go_wp2
    go_loopw [5] (fun i wr => ∃ k : Nat, k ≤ l2.length ∧ i = .int .i64 k ∧ Hid (Below w.heap.size w wr)) (fun i _ => l2.length - (intOf i).toNat)
    case atStart => exact ⟨0, Nat.zero_le _, rfl, Lib.hid (Below.refl _ _)⟩
    case round =>
      obtain ⟨k, hk, rfl, Hbw⟩ := hrel
      by_cases hlt : k < l2.length
      · have hlt1 : k < l1.length := by rw [Hlen.out]; exact hlt
        rcases Hc1.out with hn | ⟨b1, o1, rfl, hl1, hcc1⟩
        · subst hn; simp at hlt1
        rcases Hc2.out with hn | ⟨b2, o2, rfl, hl2, hcc2⟩
        · subst hn; simp at hlt
        have hcell1 := (Hbw.out.cell (p := ⟨b1, o1 + k, none⟩) hl1).trans (hcc1 k hlt1)
        have hcell2 := (Hbw.out.cell (p := ⟨b2, o2 + k, none⟩) hl2).trans (hcc2 k hlt)
        clear hcc1 hcc2 hlt1
        obtain ⟨x, hx⟩ : ∃ x, x = l1.getD k 0 := ⟨_, rfl⟩
        obtain ⟨y, hy⟩ : ∃ y, y = l2.getD k 0 := ⟨_, rfl⟩
        rw [← hx] at hcell1
        rw [← hy] at hcell2
        clear hx hy
        cases hB : ((x : Int) != (y : Int)) with
        | true =>
          go_wp2
          go_quiet (fail)
          go_wp2
          go_ret
          exact ⟨false, rfl, fun h => absurd h HE.out, below_dr Hbw.out _⟩
        | false =>
          go_wp2
          go_quiet (fail)
          go_wp2
          go_roundw
          case rel => exact ⟨k + 1, by omega, by go_num, Lib.hid (below_dr Hbw.out _)⟩
          case measure => simp [intOf]; omega
      · have hge : (l2.length : Int) ≤ (k : Int) := by omega
        go_wp2
        go_ret
        exact ⟨true, rfl, fun _ => rfl, Hbw.out⟩
  · have hLB : ((l1.length : Int) != (l2.length : Int)) = true := by simp [bne]; omega
    go_wp2
    go_ret
    exact ⟨false, rfl, fun h => absurd h HE.out, Below.refl _ _⟩

structure ActX where
  dd : Nat
  es : List Edt
  rs : List Rw
  pp : List ByteArray
def dX : ActX := ⟨0, [], [], []⟩
structure ActIs (w : World) (ve vr vp : Value) (x : ActX) : Prop where
  e : IsEdts w ve x.es
  r : ∃ a c, vr = .slice a x.rs.length c ∧ x.rs.length ≤ c ∧ IsRows w vr x.rs
  p : IsStrs w vp x.pp
structure ActSz (x : ActX) : Prop where
  d : x.dd < 256
  e : x.es.length ≤ 2048
  r : x.rs.length ≤ 2048
  p : x.pp.length ≤ 2048
  wf : RowsWf x.rs
  es : ∀ i, i < x.es.length → (x.es.getD i dE).path.size ≤ 140737488351232 ∧ (x.es.getD i dE).text.size ≤ 9223372036854775807
  rs : ∀ i, i < x.rs.length → (x.rs.getD i dR).1.size ≤ 140737488351232 ∧ (x.rs.getD i dR).2.l.length ≤ 4398046511104
  pz : ∀ i, i < x.pp.length → (x.pp.getD i ByteArray.empty).size ≤ 140737488351232
theorem ActIs.but {S : Nat → Prop} {w w' : World} {ve vr vp : Value} {x : ActX} (h : ActIs w ve vr vp x) (hb : ButS S w w') (hS : ∀ k, S k → NoStr w k ∧ NoVers w k) : ActIs w' ve vr vp x :=
  ⟨h.e.but2 hb (fun k hk => (hS k hk).1), (let ⟨a, c, h1, h2, h3⟩ := h.r; ⟨a, c, h1, h2, h3.but2 hb hS⟩), strs_but h.p hb (fun k hk => (hS k hk).1)⟩
theorem ActIs.below {w w' : World} {ve vr vp : Value} {x : ActX} (h : ActIs w ve vr vp x) (hb : Below w.heap.size w w') : ActIs w' ve vr vp x :=
  ⟨h.e.below hb (Nat.le_refl _), (let ⟨a, c, h1, h2, h3⟩ := h.r; ⟨a, c, h1, h2, h3.below hb (Nat.le_refl _)⟩), h.p.below hb (Nat.le_refl _)⟩
structure Duo (w : World) (t b r : Nat) (q1 q2 p1 p2 : Int) (M : DataW Cel) (R : List Rw) : Prop where
  hT : TabAt w t b q1 q2 M (bytesR (rowsL M))
  hG : Good Tryz.prog 9 M
  hR : RefAt w r p1 p2 R
  hO : OkR R
  n1 : t ≠ r
  n2 : b ≠ r
abbrev S3 (t b r : Nat) : Nat → Prop := fun k => k = t ∨ k = b ∨ k = r
theorem Duo.below {w w' : World} {t b r : Nat} {q1 q2 p1 p2 : Int} {M : DataW Cel} {R : List Rw} (h : Duo w t b r q1 q2 p1 p2 M R) (hb : Below w.heap.size w w') : Duo w' t b r q1 q2 p1 p2 M R :=
  ⟨h.hT.below hb, h.hG, h.hR.below hb, h.hO, h.n1, h.n2⟩
theorem Duo.bareT {w : World} {t b r : Nat} {q1 q2 p1 p2 : Int} {M : DataW Cel} {R : List Rw} (h : Duo w t b r q1 q2 p1 p2 M R) : ∀ k, (k = t ∨ k = b) → NoStr w k ∧ NoVers w k := by
  rintro k (rfl | rfl)
  · exact ⟨h.hT.bare.noStr, h.hT.bare.noVers⟩
  · exact ⟨h.hT.m.bare.noStr, h.hT.m.bare.noVers⟩
theorem Duo.bareR {w : World} {t b r : Nat} {q1 q2 p1 p2 : Int} {M : DataW Cel} {R : List Rw} (h : Duo w t b r q1 q2 p1 p2 M R) : ∀ k, k = r → NoStr w k ∧ NoVers w k := h.hR.nostr
theorem Duo.tab {w w' : World} {t b r : Nat} {q1 q2 p1 p2 : Int} {M M' : DataW Cel} {R : List Rw} (h : Duo w t b r q1 q2 p1 p2 M R) (hb : ButS (fun k => k = t ∨ k = b) w w') {B : Int} (hT : TabAt w' t b q1 q2 M' B) (hB : B = bytesR (rowsL M')) (hG : Good Tryz.prog 9 M') : Duo w' t b r q1 q2 p1 p2 M' R :=
  ⟨hB ▸ hT, hG, h.hR.but hb h.bareT (fun e => e.elim (fun e => h.n1 e.symm) (fun e => h.n2 e.symm)), h.hO, h.n1, h.n2⟩
theorem Duo.ref {w w' : World} {t b r : Nat} {q1 q2 p1 p2 : Int} {M : DataW Cel} {R R' : List Rw} (h : Duo w t b r q1 q2 p1 p2 M R) (hb : ButS (fun k => k = r) w w') (hR : RefAt w' r p1 p2 R') (hO : OkR R') : Duo w' t b r q1 q2 p1 p2 M R' :=
  ⟨h.hT.but hb (fun k hk => (h.bareR k hk).2) h.n1 h.n2, h.hG, hR, hO, h.n1, h.n2⟩
def DoesG (g : Nat) (t b r : Nat) (q1 q2 p1 p2 : Int) (M : DataW Cel) (R : List Rw) (w : World) (e : Ending) (w' : World) : Prop :=
  ∃ (x : Bool) (M' : DataW Cel) (R' : List Rw), e = .returned (.bool x) ∧ Duo w' t b r q1 q2 p1 p2 M' R' ∧ size M' ≤ size M + g ∧ R'.length ≤ R.length + g ∧
    (R = rowsL M → p1 = q1 → p2 = q2 → x = true ∧ R' = rowsL M') ∧ ButS (S3 t b r) w w'
theorem good_bytes {M : DataW Cel} (h : Good Tryz.prog 9 M) : bytesR (rowsL M) ≤ size M * 33000 := by
  have := h.okR.bytes
  rw [rows_length h.canon] at this
  exact this
end Go.Proofs.YtfbgnpfhjbiikaaGreatDoor

namespace Go.Proofs.YtfbgnpfhjbiikaaGreatDoor
open Go Go.RowKit
open Pth
open Go.Maps (has size Canon CanonK Tidy IsMap KeysOf Keyed Merged)
theorem runR_len (l : List Edt) : ∀ {R : List Rw} {vs : List Nat} {i : Nat}, (runR R vs i l).2.2.length ≤ vs.length + l.length := by
  induction l with
  | nil => intro R vs i; simp [runR]
  | cons x t ih =>
    intro R vs i
    rw [runR]
    split
    · simp
    · refine Nat.le_trans ih ?_
      simp; omega
theorem triedR_len (R : List Rw) (q1 q2 : Int) (l : List Edt) : (triedR R q1 q2 l).2.2.length ≤ l.length := by
  have h := runR_len l (R := R) (vs := []) (i := 0)
  simp only [List.length_nil, Nat.zero_add] at h
  unfold triedR
  simp only
  split
  · exact h
  · split <;> exact h
theorem next_bytes {M : DataW Cel} {q1 q2 : Int} {l : List Edt} (hg : Good Tryz.prog 9 M) : nextB (triedT M (bytesR (rowsL M)) q1 q2 l) (bytesR (rowsL M)) = bytesR (rowsL (nextM (triedT M (bytesR (rowsL M)) q1 q2 l) M)) := by
  have h := (tried_rows (q1 := q1) (q2 := q2) (l := l) hg rfl).2
  unfold nextB nextM
  split
  · exact h
  · rfl
def AfterR (keep : Bool) (r : (Nat × Nat) × List Rw × List Nat) (R : List Rw) : List Rw := if keep = true ∧ r.1.2 = 0 then r.2.1 else R
def ListR (r : (Nat × Nat) × List Rw × List Nat) : List Nat := if r.1.2 = 0 then r.2.2 else []
def RefApp2 (r : (Nat × Nat) × List Rw × List Nat) (keep : Bool) (R : List Rw) (t : Nat) (q1 q2 : Int) (w : World) (e : Ending) (w' : World) : Prop :=
  ∃ v, e = .returned (.tuple #[v, .int .i64 r.1.1, .int .i64 r.1.2]) ∧ IsNums w' v (ListR r) ∧ RefAt w' t q1 q2 (AfterR keep r R) ∧ OkR (AfterR keep r R) ∧ (AfterR keep r R).length ≤ R.length + r.2.2.length ∧ ButS (fun k => k = t) w w'
theorem next_len {M : DataW Cel} {B q1 q2 : Int} {l : List Edt} : (nextV (triedT M B q1 q2 l)).length ≤ l.length := by
  unfold nextV
  split
  · rw [tried_eq]; have := (runT_zero l (N := M) (vs := []) (B := B) (i := 0)).2; simpa using this
  · simp
theorem after_eq {M : DataW Cel} {R : List Rw} {q1 q2 p1 p2 : Int} {l : List Edt} (hg : Good Tryz.prog 9 M) (h : R = rowsL M) (h1 : p1 = q1) (h2 : p2 = q2) :
    AfterR true (triedR R p1 p2 l) R = rowsL (nextM (triedT M (bytesR (rowsL M)) q1 q2 l) M) ∧ (triedR R p1 p2 l).1 = (triedT M (bytesR (rowsL M)) q1 q2 l).1 ∧
    ListR (triedR R p1 p2 l) = nextV (triedT M (bytesR (rowsL M)) q1 q2 l) := by
  subst h h1 h2
  have h := (tried_rows (q1 := p1) (q2 := p2) (l := l) hg rfl).1
  rw [h]
  refine ⟨?_, rfl, rfl⟩
  unfold AfterR nextM
  simp only [true_and]
  split <;> rfl

set_option maxRecDepth 100000 in
set_option maxHeartbeats 8000000 in
theorem law_does (t b r : Nat) (q1 q2 p1 p2 : Int) (M : DataW Cel) (R : List Rw) (x : ActX) (ve vr vp : Value) (w : World) (h : Duo w t b r q1 q2 p1 p2 M R) (hmx : ∀ w', ButS (S3 t b r) w w' → MX w') (ha : ActIs w ve vr vp x) (hz : ActSz x) (hsM : size M ≤ 400000) (hsR : R.length ≤ 400000) :
    Calls Tryz.prog 11 #[.pointer (some ⟨t, 0, none⟩), .pointer (some ⟨r, 0, none⟩), .agg #[.int .u8 x.dd, ve, vr, vp]] w (DoesG (x.es.length + x.rs.length) t b r q1 q2 p1 p2 M R w) := by
  obtain ⟨W0, hW0⟩ : ∃ W0, W0 = w.alloc (.cells #[.int .u8 x.dd, ve, vr, vp] 28) := ⟨_, rfl⟩
  have hbW : Below w.heap.size w W0 := by rw [hW0]; exact (Below.refl _ _).alloc (Nat.le_refl _) _
  have HBW := Lib.hid hbW
  have HO : Hid (One w.heap.size #[.int .u8 x.dd, ve, vr, vp] W0) := Lib.hid (by rw [hW0]; exact One.of w _ _)
  have htl := h.hT.lt
  have hrl := h.hR.lt
  have hbl : b < w.heap.size := h.hT.m.lt
  have HKeep : Hid (∀ W, ButS (S3 t b r) W0 W → W.cell? ⟨w.heap.size, 0, none⟩ = some (.int .u8 x.dd) ∧ W.cell? ⟨w.heap.size, 1, none⟩ = some ve ∧ W.cell? ⟨w.heap.size, 2, none⟩ = some vr ∧ W.cell? ⟨w.heap.size, 3, none⟩ = some vp) := Lib.hid (by
    intro W hW
    have hlt : w.heap.size < W0.heap.size := cell_lt (HO.out.c 0)
    have hn : ¬ S3 t b r w.heap.size := by rintro (e | e | e) <;> omega
    exact ⟨(hW.cell hlt hn).trans (HO.out.c 0), (hW.cell hlt hn).trans (HO.out.c 1), (hW.cell hlt hn).trans (HO.out.c 2), (hW.cell hlt hn).trans (HO.out.c 3)⟩)
  have HMX : Hid (∀ W, ButS (S3 t b r) W0 W → MX W) := Lib.hid (fun W hW => hmx W ((ButS.of hbW).trans hW))
  have HDu : Hid (Duo W0 t b r q1 q2 p1 p2 M R) := Lib.hid (h.below hbW)
  have HAct : Hid (ActIs W0 ve vr vp x) := Lib.hid (ha.below hbW)
  have HActW : Hid (∀ W, ButS (S3 t b r) W0 W → ActIs W ve vr vp x) := Lib.hid (fun W hW => HAct.out.but hW (by
    rintro k (e | e | e)
    · exact HDu.out.bareT k (Or.inl e)
    · exact HDu.out.bareT k (Or.inr e)
    · exact HDu.out.bareR k e))
  have HZ := Lib.hid hz
  have HG := Lib.hid h.hG
  have HBy : Hid (bytesR (rowsL M) ≤ 13200000000) := Lib.hid (by have := good_bytes h.hG; omega)
  have HB0 : Hid (ButS (S3 t b r) W0 W0) := Lib.hid (ButS.of (Below.refl _ _))
  have HL1 : Hid (∀ W, ButS (fun k => k = t ∨ k = b) W0 W → ButS (S3 t b r) W0 W) := Lib.hid (fun W h => h.mono (fun k hk => by rcases hk with e | e; exact Or.inl e; exact Or.inr (Or.inl e)))
  have HRG : Hid (∀ e M' R' w', Duo w' t b r q1 q2 p1 p2 M' R' → size M' ≤ size M + (x.es.length + x.rs.length) → R'.length ≤ R.length + (x.es.length + x.rs.length) → (R = rowsL M → p1 = q1 → p2 = q2 → e = true ∧ R' = rowsL M') → ButS (S3 t b r) W0 w' → DoesG (x.es.length + x.rs.length) t b r q1 q2 p1 p2 M R w (.returned (.bool e)) w') :=
    Lib.hid (fun e M' R' w' h1 h2 h3 h4 h5 => ⟨e, M', R', rfl, h1, h2, h3, h4, (ButS.of HBW.out).trans h5⟩)
  clear hmx ha hz h hbW
  go_enter Tryz.func11, Tryz.ntmps11
  go_upto_region 1 with fail
  try rw [← hW0]
  clear hW0
  obtain ⟨k0, k1, k2, k3⟩ := HKeep.out W0 HB0.out
  by_cases h0 : x.dd % 4 = 0
  · have hm0 : (((x.dd : Int) % 4) == 0) = true := by simp; omega
    clear h0
    have HApp : Hid (Calls Tryz.prog 16 #[.pointer (some ⟨t, 0, none⟩), ve] W0 (AppGives (triedT M (bytesR (rowsL M)) q1 q2 x.es) M (bytesR (rowsL M)) t b q1 q2 W0)) :=
      Lib.hid (tab_app W0 HDu.out.hT HG.out (HMX.out _ HB0.out) ve x.es HAct.out.e (by have := HZ.out.e; omega) (by omega) (by omega) (by have := HBy.out; omega) HZ.out.es)
    have HNG := Lib.hid (next_good (q1 := q1) (q2 := q2) (l := x.es) (B := (bytesR (rowsL M) : Int)) HG.out)
    have HNB := Lib.hid (next_bytes (q1 := q1) (q2 := q2) (l := x.es) HG.out)
    have HAE := Lib.hid (fun (hh : R = rowsL M) (hh1 : p1 = q1) (hh2 : p2 = q2) => after_eq (l := x.es) HG.out hh hh1 hh2)
    have HTL := Lib.hid (triedR_len R p1 p2 x.es)
    have HVL := Lib.hid (next_len (q1 := q1) (q2 := q2) (M := M) (B := (bytesR (rowsL M) : Int)) (l := x.es))
    obtain ⟨r1, hr1⟩ : ∃ r1, triedT M (bytesR (rowsL M)) q1 q2 x.es = r1 := ⟨_, rfl⟩
    rw [hr1] at HApp HNG HNB HAE HVL
    clear hr1
    have HRef : Hid (∀ W M', Duo W t b r q1 q2 p1 p2 M' R → ButS (S3 t b r) W0 W → Calls Tryz.prog 40 #[.pointer (some ⟨r, 0, none⟩), ve, .bool true] W (RefApp2 (triedR R p1 p2 x.es) true R r p1 p2 W)) :=
      Lib.hid (fun W M' hD hB => ref18_apply R r p1 p2 ve x.es true W hD.hR hD.hO (HActW.out W hB).e (by omega) (by have := HZ.out.e; omega) HZ.out.es)
    obtain ⟨r2, hr2⟩ : ∃ r2, triedR R p1 p2 x.es = r2 := ⟨_, rfl⟩
    rw [hr2] at HRef HAE HTL
    clear hr2
    go_wp2_with fail
    refine HApp.out.mono ?_
    rintro e w1 ⟨v1, rfl, hown, hT1, hb1⟩
    have HDu1 := Lib.hid (HDu.out.tab hb1 hT1 HNB.out HNG.out.1)
    have HB1 := Lib.hid (HL1.out _ hb1)
    have HN1 := Lib.hid (IsNums.own hown)
    clear hown hT1 hb1
    obtain ⟨k0, k1, k2, k3⟩ := HKeep.out w1 HB1.out
    go_wp2_with fail
    refine (HRef.out _ _ HDu1.out HB1.out).mono ?_
    rintro e w2 ⟨v2, rfl, hn2, hR2, hO2, hl2, hb2⟩
    have HN2 := Lib.hid hn2
    have HN12 := Lib.hid (HN1.out.but hb2 (fun k hk => by subst hk; exact HDu1.out.hR.bare))
    have HDu2 := Lib.hid (HDu1.out.ref hb2 hR2 hO2)
    have HB2 : Hid (ButS (S3 t b r) W0 w2) := Lib.hid (HB1.out.trans (hb2.mono (fun k hk => Or.inr (Or.inr hk))))
    have HL2 := Lib.hid hl2
    clear hn2 hR2 hO2 hl2 hb2
    obtain ⟨k0, k1, k2, k3⟩ := HKeep.out w2 HB2.out
    go_wp2_with fail
    refine (law_numbersG v1 v2 _ _ _ HN12.out HN2.out (by have := HVL.out; have := HZ.out.e; omega)).mono ?_
    rintro e w3 ⟨xx, rfl, hxx, hb3⟩
    have HXX := Lib.hid hxx
    have HDu3 := Lib.hid (HDu2.out.below hb3)
    have HB3 : Hid (ButS (S3 t b r) W0 w3) := Lib.hid (HB2.out.trans (ButS.of hb3))
    clear hxx hb3
    have HEnd : Hid (∀ e : Bool, (R = rowsL M → p1 = q1 → p2 = q2 → e = true) → DoesG (x.es.length + x.rs.length) t b r q1 q2 p1 p2 M R w (.returned (.bool e)) w3) := Lib.hid (fun e he =>
      HRG.out e _ _ _ HDu3.out (by have := HNG.out.2.1; omega) (by have := HL2.out; have := HTL.out; omega) (fun a1 a2 a3 => ⟨he a1 a2 a3, (HAE.out a1 a2 a3).1⟩) HB3.out)
    clear HDu HDu1 HDu2 HDu3 HN1 HN2 HN12 HRef HApp
    cases xx with
    | false =>
      go_wp2_with fail
      go_ret
      exact HEnd.out _ (fun a1 a2 a3 => HXX.out ((HAE.out a1 a2 a3).2.2.symm))
    | true =>
      cases hq1 : ((r1.1.1 : Int) == (r2.1.1 : Int)) with
      | false =>
        go_wp2_with fail
        go_ret
        exact HEnd.out _ (fun a1 a2 a3 => by rw [(HAE.out a1 a2 a3).2.1] at hq1; simp at hq1)
      | true =>
        cases hq2 : ((r1.1.2 : Int) == (r2.1.2 : Int)) with
        | false =>
          go_wp2_with fail
          go_ret
          exact HEnd.out _ (fun a1 a2 a3 => by rw [(HAE.out a1 a2 a3).2.1] at hq2; simp at hq2)
        | true =>
          go_wp2_with fail
          go_ret
          exact HEnd.out _ (fun a1 a2 a3 => rfl)
  by_cases h1 : x.dd % 4 = 1
  · have hm0 : (((x.dd : Int) % 4) == 0) = false := by simp; omega
    have hm1 : (((x.dd : Int) % 4) == 1) = true := by simp; omega
    clear h1
    have HTry : Hid (Calls Tryz.prog 38 #[.pointer (some ⟨t, 0, none⟩), ve] W0 (TryGives (triedT M (bytesR (rowsL M)) q1 q2 x.es).1 W0)) :=
      Lib.hid (tab_try W0 HDu.out.hT HG.out (HMX.out _ HB0.out) ve x.es HAct.out.e (by have := HZ.out.e; omega) (by omega) (by omega) (by have := HBy.out; omega) HZ.out.es)
    have HAE := Lib.hid (fun (hh : R = rowsL M) (hh1 : p1 = q1) (hh2 : p2 = q2) => (after_eq (l := x.es) HG.out hh hh1 hh2).2.1)
    obtain ⟨r1, hr1⟩ : ∃ r1, (triedT M (bytesR (rowsL M)) q1 q2 x.es).1 = r1 := ⟨_, rfl⟩
    rw [hr1] at HTry HAE
    clear hr1
    have HRef : Hid (∀ W M', Duo W t b r q1 q2 p1 p2 M' R → ButS (S3 t b r) W0 W → Calls Tryz.prog 40 #[.pointer (some ⟨r, 0, none⟩), ve, .bool false] W (RefApp2 (triedR R p1 p2 x.es) false R r p1 p2 W)) :=
      Lib.hid (fun W M' hD hB => ref18_apply R r p1 p2 ve x.es false W hD.hR hD.hO (HActW.out W hB).e (by omega) (by have := HZ.out.e; omega) HZ.out.es)
    obtain ⟨r2, hr2⟩ : ∃ r2, triedR R p1 p2 x.es = r2 := ⟨_, rfl⟩
    rw [hr2] at HRef HAE
    clear hr2
    have HAF : Hid (AfterR false r2 R = R) := Lib.hid (by unfold AfterR; simp)
    go_wp2_with fail
    refine HTry.out.mono ?_
    rintro e w1 ⟨rfl, hb1⟩
    have HDu1 := Lib.hid (HDu.out.below hb1)
    have HB1 : Hid (ButS (S3 t b r) W0 w1) := Lib.hid (ButS.of hb1)
    clear hb1
    obtain ⟨k0, k1, k2, k3⟩ := HKeep.out w1 HB1.out
    go_wp2_with fail
    refine (HRef.out _ _ HDu1.out HB1.out).mono ?_
    rintro e w2 ⟨v2, rfl, _, hR2, hO2, hl2, hb2⟩
    rw [HAF.out] at hR2 hO2
    have HDu2 := Lib.hid (HDu1.out.ref hb2 hR2 hO2)
    have HB2 : Hid (ButS (S3 t b r) W0 w2) := Lib.hid (HB1.out.trans (hb2.mono (fun k hk => Or.inr (Or.inr hk))))
    clear hR2 hO2 hl2 hb2
    have HEnd : Hid (∀ e : Bool, (R = rowsL M → p1 = q1 → p2 = q2 → e = true) → DoesG (x.es.length + x.rs.length) t b r q1 q2 p1 p2 M R w (.returned (.bool e)) w2) := Lib.hid (fun e he =>
      HRG.out e _ _ _ HDu2.out (by omega) (by omega) (fun a1 a2 a3 => ⟨he a1 a2 a3, a1⟩) HB2.out)
    clear HDu HDu1 HDu2 HRef HTry
    cases hq1 : ((r1.1 : Int) == (r2.1.1 : Int)) with
    | false =>
      go_wp2_with fail
      go_ret
      exact HEnd.out _ (fun a1 a2 a3 => by rw [HAE.out a1 a2 a3] at hq1; simp at hq1)
    | true =>
      cases hq2 : ((r1.2 : Int) == (r2.1.2 : Int)) with
      | false =>
        go_wp2_with fail
        go_ret
        exact HEnd.out _ (fun a1 a2 a3 => by rw [HAE.out a1 a2 a3] at hq2; simp at hq2)
      | true =>
        go_wp2_with fail
        go_ret
        exact HEnd.out _ (fun a1 a2 a3 => rfl)
  by_cases h2 : x.dd % 4 = 2
  · have hm0 : (((x.dd : Int) % 4) == 0) = false := by simp; omega
    have hm1 : (((x.dd : Int) % 4) == 1) = false := by simp; omega
    have hm2 : (((x.dd : Int) % 4) == 2) = true := by simp; omega
    clear h2
    have HCP : Hid (∀ W, ButS (S3 t b r) W0 W → Calls Tryz.prog 14 #[vr] W (fun e w' => ∃ v', e = .returned v' ∧ IsRows w' v' x.rs ∧ Below W.heap.size W w')) := Lib.hid (fun W hW => by
      obtain ⟨_, _, _, _, hv⟩ := (HActW.out W hW).r
      exact law_copied x.rs vr W hv (by have := HZ.out.r; omega) (fun i hi => by have := (HZ.out.rs i hi).2; omega))
    have HLT : Hid (∀ W R' v, Duo W t b r q1 q2 p1 p2 M R' → ButS (S3 t b r) W0 W → IsRows W v x.rs → Calls Tryz.prog 13 #[.pointer (some ⟨t, 0, none⟩), v] W (LoadX x.rs M (bytesR (rowsL M)) t b q1 q2 W)) := Lib.hid (fun W R' v hD hW hv =>
      tab_loadX W hD.hT HG.out (HMX.out W hW) v x.rs hv (by have := HZ.out.r; omega) HZ.out.wf (fun i hi => ⟨(HZ.out.rs i hi).1, by have := (HZ.out.rs i hi).2; omega⟩) (by omega) (by omega) (by have := HBy.out; omega))
    have HLR : Hid (∀ W M', Duo W t b r q1 q2 p1 p2 M' R → ButS (S3 t b r) W0 W → Calls Tryz.prog 41 #[.pointer (some ⟨r, 0, none⟩), vr] W (RefLoad R x.rs r p1 p2 W)) := Lib.hid (fun W M' hD hW => by
      obtain ⟨a, c, e, hc, hv⟩ := (HActW.out W hW).r
      subst e
      exact ref18_load R r p1 p2 a c x.rs W hD.hR hD.hO hv hc (by omega) (by have := HZ.out.r; omega) HZ.out.wf (fun i hi => ⟨(HZ.out.rs i hi).1, by have := (HZ.out.rs i hi).2; omega⟩))
    have HDr : Hid (Below W0.heap.size W0 W0.drew) := Lib.hid (Below.drew (Below.refl _ _))
    have HDuD : Hid (Duo W0.drew t b r q1 q2 p1 p2 M R) := Lib.hid (HDu.out.below HDr.out)
    have HBD : Hid (ButS (S3 t b r) W0 W0.drew) := Lib.hid (ButS.of HDr.out)
    clear HDu HB0 HL1
    go_upto_region 11 with fail
    go_region_with (first
      | (go_at_call 14; (first | refine (HCP.out _ HB.out).mono ?_ | refine (HCP.out _ HBD.out).mono ?_); rintro e w4 ⟨v4, rfl, hr4, hb4⟩; have HV := Lib.hid hr4; (first | (have HDu := Lib.hid (HDu.out.below hb4)) | (have HDu := Lib.hid (HDuD.out.below hb4))); (first | (have HB := Lib.hid (HB.out.trans (ButS.of hb4))) | (have HB := Lib.hid (HBD.out.trans (ButS.of hb4)))); clear hr4 hb4; obtain ⟨k0, k1, k2, k3⟩ := HKeep.out _ HB.out)
      | (go_at_call 13; refine (HLT.out _ _ _ HDu.out HB.out HV.out).mono ?_; rintro e w5 ⟨e5, M5, B5, rfl, hle5, hT5, hG5, hbb5, hsz5, _, _, hb5⟩; have HLE1 := Lib.hid hle5; have HSZ1 := Lib.hid hsz5; have HDu := Lib.hid (HDu.out.tab hb5 hT5 (by omega) hG5); have HB := Lib.hid (HB.out.trans (hb5.mono (fun k hk => Or.elim hk (fun e => Or.inl e) (fun e => Or.inr (Or.inl e))))); clear hle5 hT5 hG5 hbb5 hsz5 hb5; obtain ⟨k0, k1, k2, k3⟩ := HKeep.out _ HB.out)
      | (go_at_call 41; (first | refine (HLR.out _ _ HDu.out HB.out).mono ?_ | refine (HLR.out _ _ HDuD.out HBD.out).mono ?_); rintro e w6 ⟨e6, R6, rfl, hle6, hR6, hO6, hsz6, hb6⟩; have HLE2 := Lib.hid hle6; have HSZ2 := Lib.hid hsz6; (first | (have HDu0 := HDu) | (have HDu0 := HDuD)); (first | (have HB0 := HB) | (have HB0 := HBD)); (try (have HV := Lib.hid (HV.out.but2 hb6 HDu0.out.bareR))); have HDu := Lib.hid (HDu0.out.ref hb6 hR6 hO6); have HB := Lib.hid (HB0.out.trans (hb6.mono (fun k hk => Or.inr (Or.inr hk)))); clear HDu0 HB0 hle6 hR6 hO6 hsz6 hb6; obtain ⟨k0, k1, k2, k3⟩ := HKeep.out _ HB.out))
    all_goals go_wp2_with fail
    all_goals go_ret
    all_goals exact HRG.out _ _ _ _ HDu.out (by have := HSZ1.out; omega) (by have := HSZ2.out; omega) (fun a1 a2 a3 => by
      have h1 := HLE1.out; have h2 := HLE2.out
      rw [a1] at h2
      obtain ⟨e1, e2⟩ := h1.uniq h2
      rw [e1, e2]; exact ⟨by simp, rfl⟩) HB.out
  · have hm0 : (((x.dd : Int) % 4) == 0) = false := by simp; omega
    have hm1 : (((x.dd : Int) % 4) == 1) = false := by simp; omega
    have hm2 : (((x.dd : Int) % 4) == 2) = false := by simp; omega
    clear h0 h1 h2
    have HDB := Lib.hid (drop_rows x.pp (n := 0) HG.out rfl).2
    have HDE : Hid (R = rowsL M → dropR R 0 x.pp = ((dropT M (bytesR (rowsL M)) 0 x.pp).1, rowsL (dropT M (bytesR (rowsL M)) 0 x.pp).2.1)) := Lib.hid (fun e => by subst e; exact (drop_rows x.pp (n := 0) HG.out rfl).1)
    have HLT : Hid (∀ W R', Duo W t b r q1 q2 p1 p2 M R' → ButS (S3 t b r) W0 W → Calls Tryz.prog 18 #[.pointer (some ⟨t, 0, none⟩), vp] W (DropGives (dropT M (bytesR (rowsL M)) 0 x.pp) M (bytesR (rowsL M)) x.pp t b q1 q2 W)) := Lib.hid (fun W R' hD hW =>
      tab_drop W hD.hT HG.out vp x.pp (HActW.out W hW).p (by have := HZ.out.p; omega) HZ.out.pz (by omega) (by have := HBy.out; omega))
    have HLR : Hid (∀ W M', Duo W t b r q1 q2 p1 p2 M' R → ButS (S3 t b r) W0 W → Calls Tryz.prog 42 #[.pointer (some ⟨r, 0, none⟩), vp] W (RefDrop R x.pp r p1 p2 W)) := Lib.hid (fun W M' hD hW =>
      ref18_drop R r p1 p2 vp x.pp W hD.hR hD.hO (HActW.out W hW).p (by omega) (by have := HZ.out.p; omega))
    obtain ⟨d1, hd1⟩ : ∃ d1, dropT M (bytesR (rowsL M)) 0 x.pp = d1 := ⟨_, rfl⟩
    rw [hd1] at HDB HDE HLT
    clear hd1
    have HDr : Hid (Below W0.heap.size W0 W0.drew) := Lib.hid (Below.drew (Below.refl _ _))
    have HDuD : Hid (Duo W0.drew t b r q1 q2 p1 p2 M R) := Lib.hid (HDu.out.below HDr.out)
    have HBD : Hid (ButS (S3 t b r) W0 W0.drew) := Lib.hid (ButS.of HDr.out)
    clear HDu HB0 HL1
    go_upto_region 12 with fail
    go_region_with (first
      | (go_at_call 18; (first | refine (HLT.out _ _ HDu.out HB.out).mono ?_ | refine (HLT.out _ _ HDuD.out HBD.out).mono ?_); rintro e w5 ⟨rfl, hT5, hG5, hsz5, _, _, hb5⟩; (first | (have HDu0 := HDu) | (have HDu0 := HDuD)); (first | (have HB0 := HB) | (have HB0 := HBD)); have HDu := Lib.hid (HDu0.out.tab hb5 hT5 HDB.out hG5); have HB := Lib.hid (HB0.out.trans (hb5.mono (fun k hk => Or.elim hk (fun e => Or.inl e) (fun e => Or.inr (Or.inl e))))); have HSZ1 := Lib.hid hsz5; clear HDu0 HB0 hT5 hG5 hsz5 hb5; obtain ⟨k0, k1, k2, k3⟩ := HKeep.out _ HB.out)
      | (go_at_call 42; (first | refine (HLR.out _ _ HDu.out HB.out).mono ?_ | refine (HLR.out _ _ HDuD.out HBD.out).mono ?_); rintro e w6 ⟨rfl, hR6, hO6, hsz6, hb6⟩; have HSZ2 := Lib.hid hsz6; (first | (have HDu0 := HDu) | (have HDu0 := HDuD)); (first | (have HB0 := HB) | (have HB0 := HBD)); have HDu := Lib.hid (HDu0.out.ref hb6 hR6 hO6); have HB := Lib.hid (HB0.out.trans (hb6.mono (fun k hk => Or.inr (Or.inr hk)))); clear HDu0 HB0 hR6 hO6 hsz6 hb6; obtain ⟨k0, k1, k2, k3⟩ := HKeep.out _ HB.out))
    all_goals go_wp2_with fail
    all_goals go_ret
    all_goals exact HRG.out _ _ _ _ HDu.out (by have := HSZ1.out; omega) (by have := HSZ2.out; omega) (fun a1 a2 a3 => by
      rw [HDE.out a1]; exact ⟨by simp, rfl⟩) HB.out
end Go.Proofs.YtfbgnpfhjbiikaaGreatDoor

namespace Go.Proofs.YtfbgnpfhjbiikaaGreatDoor
open Go Go.RowKit
theorem ready_mem {md : Region.Mode} {ops : Array Oper} {l : Array Bool} {i : Nat} (h : i ∈ Region.ready md ops l) :
    ∃ o : Oper, ops[i]? = some o ∧ l.getD i true = false ∧ ∀ e ∈ o.after, Region.binds md e = true → l.getD e.on false = true := by
  unfold Region.ready at h
  obtain ⟨h1, h2⟩ := List.mem_filter.1 h
  have hi : i < ops.size := by simpa using h1
  simp only [Bool.and_eq_true, Bool.not_eq_true'] at h2
  refine ⟨ops[i], Array.getElem?_eq_getElem hi, h2.1, fun e he hb => ?_⟩
  have h3 := h2.2
  rw [Array.getElem?_eq_getElem hi] at h3
  simp only [Option.map_some, Option.getD_some, Array.all_eq_true_iff_forall_mem, Bool.or_eq_true, Bool.not_eq_true'] at h3
  rcases h3 e he with h4 | h4
  · rw [hb] at h4; cases h4
  · exact h4
theorem getD_in {l : Array Bool} {i : Nat} (h : i < l.size) (a b : Bool) : l.getD i a = l.getD i b := by simp [h]
def unl (l : Array Bool) : Nat := (l.toList.filter (! ·)).length
theorem filter_set : ∀ (l : List Bool) (i : Nat), l[i]? = some false → ((l.set i true).filter (! ·)).length + 1 = (l.filter (! ·)).length
  | [], i, h => by simp at h
  | x :: l, 0, h => by simp at h; subst h; simp
  | x :: l, i + 1, h => by
    have ih := filter_set l i (by simpa using h)
    cases x
    · simp at ih ⊢; omega
    · simp at ih ⊢; omega
theorem unl_set {l : Array Bool} {i : Nat} (h : l.getD i true = false) : unl (l.setIfInBounds i true) + 1 = unl l := by
  unfold unl
  have hi : i < l.size := by
    rcases Nat.lt_or_ge i l.size with h1 | h1
    · exact h1
    · simp [h1] at h
  have h2 : l.toList[i]? = some false := by
    simp [hi] at h
    simp [hi, h]
  rw [Array.toList_setIfInBounds]
  exact filter_set _ _ h2
theorem unl_zero {l : Array Bool} (h : unl l = 0) {i : Nat} : l.getD i true = true := by
  cases hl : l.getD i true with
  | true => rfl
  | false => have := unl_set hl; omega
abbrev fPut (f : Nat → Value) (o : Nat) (v : Value) : Nat → Value := fun j => if j = o then v else f j
theorem fPut_ne {f : Nat → Value} {o j : Nat} {v : Value} (h : j ≠ o) : fPut f o v j = f j := if_neg h
theorem fPut_eq {f : Nat → Value} {o : Nat} {v : Value} : fPut f o v o = v := if_pos rfl
def FsO (base : Array Value) (lo n : Nat) (f : Nat → Value) : Array Value := base.mapIdx fun i v => if lo ≤ i ∧ i < lo + n then f (i - lo) else v
theorem FsO_self (base : Array Value) (lo n : Nat) : base = FsO base lo n (fun o => base.getD (lo + o) undef) := by
  refine Array.ext_getElem? fun k => ?_
  simp only [FsO, Array.getElem?_mapIdx]
  cases h : base[k]? with
  | none => rfl
  | some v =>
    simp only [Option.map_some, Array.getD_eq_getD_getElem?]
    split
    · rename_i h2
      rw [show lo + (k - lo) = k by omega, h]; rfl
    · rfl
theorem FsO_in {base : Array Value} {lo n : Nat} {f : Nat → Value} (o : Nat) (h : lo + n ≤ base.size) (h1 : o < n) {v : Value} (hv : f o = v) : (FsO base lo n f).getD (lo + o) undef = v := by
  subst hv
  simp [FsO, Array.getD_eq_getD_getElem?, show lo + o < base.size by omega, h1]
theorem FsO_set {base : Array Value} {lo n o : Nat} {f : Nat → Value} {v : Value} (h : o < n) : (FsO base lo n f).setIfInBounds (lo + o) v = FsO base lo n (fPut f o v) := by
  refine Array.ext_getElem? fun i => ?_
  simp only [FsO, Array.getElem?_mapIdx, Array.getElem?_setIfInBounds, Array.size_mapIdx]
  by_cases e : lo + o = i
  · subst e
    by_cases hk : lo + o < base.size
    · simp [hk, h]
    · simp [hk]
  · rw [if_neg e]
    cases base[i]? with
    | none => rfl
    | some x =>
      simp only [Option.map_some]
      by_cases h2 : lo ≤ i ∧ i < lo + n
      · rw [if_pos h2, if_pos h2, fPut_ne (by omega)]
      · rw [if_neg h2, if_neg h2]
theorem ready_nil' {md : Region.Mode} {ops : Array Oper} {l : Array Bool} (hsz : l.size = ops.size) (hlex : ∀ (i : Nat) (o : Oper), ops[i]? = some o → ∀ e ∈ o.after, Region.binds md e = true → e.on < i) (h : Region.ready md ops l = []) : ∀ i, i < ops.size → l.getD i false = true := by
  intro i
  induction i using Nat.strongRecOn with
  | ind i ih =>
    intro hi
    cases hl : l.getD i false with
    | true => rfl
    | false =>
      exfalso
      have : i ∈ Region.ready md ops l := by
        unfold Region.ready
        refine List.mem_filter.2 ⟨by simpa using hi, ?_⟩
        rw [getD_in (by omega) true false, hl, Array.getElem?_eq_getElem hi]
        simp only [Bool.not_false, Bool.true_and, Option.map_some, Option.getD_some, Array.all_eq_true_iff_forall_mem, Bool.or_eq_true, Bool.not_eq_true']
        intro e he
        cases hb : Region.binds md e with
        | false => exact Or.inl rfl
        | true =>
          right
          have hlt := hlex i ops[i] (Array.getElem?_eq_getElem hi) e he hb
          exact ih e.on hlt (by omega)
      rw [h] at this; cases this
theorem wpAny_each' {P : Program} {md : Region.Mode} {ops : Array Oper} {Q : Exit → Act → World → Prop} (Inv : Array Bool → Act → World → Prop)
    (hsz : ∀ l a w, Inv l a w → l.size = ops.size) (hlex : ∀ (i : Nat) (o : Oper), ops[i]? = some o → ∀ e ∈ o.after, Region.binds md e = true → e.on < i)
    (hstep : ∀ l a w i, Inv l a w → i ∈ Region.ready md ops l → ∀ K : Act → World → Prop, (∀ a' w', Inv (l.setIfInBounds i true) a' w' → K a' w') → wpOp P ops Q i K a w)
    (hfin : ∀ l a w, (∀ i, i < ops.size → l.getD i false = true) → Inv l a w → Q .normal a w) : ∀ (fuel : Nat) (l : Array Bool) (a : Act) (w : World), unl l ≤ fuel → Inv l a w → wpAny P md ops Q fuel l a w
  | 0, l, a, w, hf, hI => by
    have hr : Region.ready md ops l = [] := by
      cases hc : Region.ready md ops l with
      | nil => rfl
      | cons i r =>
        exfalso
        obtain ⟨o, _, h1, _⟩ := ready_mem (md := md) (ops := ops) (l := l) (i := i) (by rw [hc]; simp)
        rw [unl_zero (by omega)] at h1; cases h1
    exact ⟨hr, hfin l a w (ready_nil' (hsz l a w hI) hlex hr) hI⟩
  | fuel + 1, l, a, w, hf, hI => by
    refine ⟨fun hr => hfin l a w (ready_nil' (hsz l a w hI) hlex hr) hI, fun i hi => ?_⟩
    obtain ⟨o, _, h1, _⟩ := ready_mem hi
    exact hstep l a w i hI hi _ (fun a' w' hI' => wpAny_each' Inv hsz hlex hstep hfin fuel _ a' w' (by have := unl_set h1; omega) hI')
abbrev AF (base : Array Value) (lo n : Nat) (f : Nat → Value) : Act := { tmps := FsO base lo n f, defers := [] }
theorem AF_put {base : Array Value} {lo n k : Nat} {f : Nat → Value} (v : Value) (hk : k < n) : (AF base lo n f).put (some (lo + k)) v = AF base lo n (fPut f k v) := by
  show ({ tmps := (FsO base lo n f).setIfInBounds (lo + k) v, defers := [] } : Act) = _
  rw [FsO_set hk]
theorem FsO_get? {base : Array Value} {lo n : Nat} {f : Nat → Value} (o : Nat) (h : lo + n ≤ base.size) (h1 : o < n) : (FsO base lo n f)[lo + o]? = some (f o) := by
  simp [FsO, show lo + o < base.size by omega, h1]
theorem yield_in {ops : Array Oper} {base : Array Value} {lo n : Nat} {f : Nat → Value} {j o : Nat} {b : Bool} {op : Oper} (hop : ops[j]? = some op) (hd : op.dst = some (lo + o)) (h : lo + n ≤ base.size) (ho : o < n) (hv : f o = .bool b) : yielded ops (FsO base lo n f) j = some b := by
  unfold yielded
  rw [hop]
  simp only [Option.bind_some, hd]
  rw [FsO_get? o h ho, hv]
theorem wanted_none {o : Oper} {y : Nat → Option Bool} (h : o.guard = none) : Region.wanted o y = true := by unfold Region.wanted; rw [h]
theorem wanted_some {o : Oper} {y : Nat → Option Bool} {j : Nat} {b b' r : Bool} (h : o.guard = some (j, b')) (hy : y j = some b) (e : (b == b') = r) : Region.wanted o y = r := by
  unfold Region.wanted; rw [h]; simp only [hy]; subst e; cases b <;> cases b' <;> rfl
theorem AF_eval {base : Array Value} {lo n : Nat} {f : Nat → Value} (h : lo + n ≤ base.size) (k : Nat) : (AF base lo n f).eval (.tmp k) = if lo ≤ k ∧ k < lo + n then f (k - lo) else base.getD k undef := by
  show (FsO base lo n f).getD k undef = _
  by_cases e : lo ≤ k ∧ k < lo + n
  · rw [if_pos e]
    have := FsO_in (f := f) (k - lo) h (by omega) rfl
    rwa [show lo + (k - lo) = k by omega] at this
  · rw [if_neg e]
    simp only [FsO, Array.getD_eq_getD_getElem?, Array.getElem?_mapIdx, if_neg e]
    cases base[k]? <;> rfl
def splice : List Value → Nat → Nat → (Nat → Value) → Nat → List Value
  | [], _, _, _, _ => []
  | v :: r, 0, 0, _, _ => v :: r
  | _ :: r, 0, n + 1, f, o => f o :: splice r 0 n f (o + 1)
  | v :: r, lo + 1, n, f, o => v :: splice r lo n f o
theorem splice_get (l : List Value) : ∀ (lo n : Nat) (f : Nat → Value) (o i : Nat), (splice l lo n f o)[i]? = l[i]?.map (fun v => if lo ≤ i ∧ i < lo + n then f (i - lo + o) else v) := by
  induction l with
  | nil => intro lo n f o i; simp [splice]
  | cons v r ih =>
    intro lo n f o i
    match lo, n with
    | 0, 0 => 
      rw [splice]
      cases i with
      | zero => simp
      | succ i => 
        simp only [List.getElem?_cons_succ]
        cases r[i]? with
        | none => rfl
        | some x => simp
    | 0, n + 1 =>
      rw [splice]
      cases i with
      | zero => simp
      | succ i =>
        simp only [List.getElem?_cons_succ, ih]
        cases r[i]? with
        | none => rfl
        | some x =>
          simp only [Option.map_some, Nat.zero_le, true_and, Nat.zero_add, Nat.sub_zero, Nat.add_lt_add_iff_right]
          rw [show i + (o + 1) = i + 1 + o by omega]
    | lo + 1, n =>
      rw [splice]
      cases i with
      | zero => simp
      | succ i =>
        simp only [List.getElem?_cons_succ, ih]
        cases r[i]? with
        | none => rfl
        | some x =>
          simp only [Option.map_some, Nat.add_le_add_iff_right, show (i + 1 < lo + 1 + n) = (i < lo + n) from propext (by omega), show i + 1 - (lo + 1) = i - lo by omega]
theorem AF_splice (l : List Value) (lo n : Nat) (f : Nat → Value) : AF l.toArray lo n f = ⟨(splice l lo n f 0).toArray, []⟩ := by
  show ({ tmps := FsO l.toArray lo n f, defers := [] } : Act) = _
  congr 1
  apply Array.ext_getElem?
  intro i
  simp only [FsO, Array.getElem?_mapIdx, List.getElem?_toArray, splice_get, Nat.add_zero]

theorem wp_region_told {P : Program} {id : Nat} {ops : Array Oper} {Q : Exit → Act → World → Prop} {base : Array Value} {w : World} (hm : P.follows .mixedOrders = true) (C : World → Prop) (Val : Nat → Value → World → Prop) (pos : Nat → Nat) (lo n : Nat)
    (hlex : ∀ (i : Nat) (o : Oper), ops[i]? = some o → ∀ e ∈ o.after, Region.binds .any e = true → e.on < i) (hC : C { w with drawn := w.drawn + 1 }) (hpos : ∀ i j, i < ops.size → j < ops.size → pos i = pos j → i = j)
    (hstep : ∀ (i : Nat) (o : Oper) (f : Nat → Value) (w : World), ops[i]? = some o → (∀ e ∈ o.after, Region.binds .any e = true → Val e.on (f (pos e.on)) w) → C w → (∀ j, (∀ k, pos k ≠ j) → f j = base.getD (lo + j) undef) →
      o.dst = some (lo + pos i) ∧ pos i < n ∧ Region.wanted o (yielded ops (FsO base lo n f)) = true ∧ ∀ (K : Act → World → Prop), (∀ v w', Val i v w' → C w' → (∀ j u, Val j u w → Val j u w') → K ((AF base lo n f).put o.dst v) w') → Oper.wp P o (AF base lo n f) w K Q)
    (hfin : ∀ f w, (∀ i, i < ops.size → Val i (f (pos i)) w) → C w → (∀ j, (∀ k, pos k ≠ j) → f j = base.getD (lo + j) undef) → Q .normal (AF base lo n f) w) : (Code.region id ops true).wp P Q ⟨base, []⟩ w := by
  refine wp_region_any hm (wpAny_each' (fun l a w => l.size = ops.size ∧ ∃ f, a = AF base lo n f ∧ (∀ i, l.getD i false = true → Val i (f (pos i)) w) ∧ C w ∧ (∀ j, (∀ k, pos k ≠ j) → f j = base.getD (lo + j) undef)) (fun l a w h => h.1) hlex ?_ ?_ _ _ _ _ ?_ ⟨by simp, fun o => base.getD (lo + o) undef, ?_, ?_, hC, fun _ _ => rfl⟩)
  · rintro l a' w' i ⟨hs, f, rfl, hv, hCw, hfx⟩ hi K hK
    obtain ⟨o, ho, h1, h2⟩ := ready_mem hi
    have hil : i < ops.size := (Array.getElem?_eq_some_iff.1 ho).1
    obtain ⟨g1, g2, g3, g4⟩ := hstep i o f w' ho (fun e he hb => hv e.on (h2 e he hb)) hCw hfx
    have next : ∀ v w'', Val i v w'' → C w'' → (∀ j u, Val j u w' → Val j u w'') → K ((AF base lo n f).put o.dst v) w'' := fun v w'' hvv hcc hmo => hK _ _ ⟨by simpa using hs, fPut f (pos i) v, by rw [g1]; exact AF_put v g2, fun j hj => by
      by_cases e : j = i
      · subst e; rw [fPut_eq]; exact hvv
      · have hj2 : l.getD j false = true := by simpa only [Array.getD_eq_getD_getElem?, Array.getElem?_setIfInBounds, if_neg (Ne.symm e)] using hj
        have hjl : j < ops.size := by
          rw [← hs]
          rcases Nat.lt_or_ge j l.size with h | h
          · exact h
          · simp [Array.getD_eq_getD_getElem?, Array.getElem?_eq_none h] at hj2
        rw [fPut_ne (fun h => e (hpos j i hjl hil h))]
        exact hmo _ _ (hv j hj2), hcc, fun j hj => by rw [fPut_ne (fun h => hj i h.symm)]; exact hfx j hj⟩
    unfold wpOp
    rw [ho]
    show if Region.wanted o (yielded ops (FsO base lo n f)) = true then _ else _
    rw [if_pos g3]
    exact Or.inl (g4 K next)
  · rintro l a' w' hall ⟨hs, f, rfl, hv, hCw, hfx⟩
    exact hfin f w' (fun i hi => hv i (hall i hi)) hCw hfx
  · unfold unl
    refine Nat.le_trans (List.length_filter_le _ _) ?_
    simp
  · show (⟨base, []⟩ : Act) = ⟨FsO base lo n _, []⟩
    rw [← FsO_self]
  · intro i hi
    simp only [Array.getD_eq_getD_getElem?, Array.getElem?_replicate] at hi
    split at hi <;> cases hi
end Go.Proofs.YtfbgnpfhjbiikaaGreatDoor
