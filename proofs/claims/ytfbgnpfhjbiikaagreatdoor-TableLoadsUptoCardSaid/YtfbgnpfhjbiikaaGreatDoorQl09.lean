/- Contract: Table.Load, told exactly. Plain laws of scriniumlaw18.TablePlays: the table's answers are the document's. Contracts of scriniumlaw18: numbers over any two lists; edits kept beside what else is written. Contract: Table.Load of a table whose versions all lie in new blocks: they do so behind it too. Contract: Table.Rows: what it tells lies in blocks of the call's own. -/
import Derived.Test.YtfbgnpfhjbiikaaGreatDoorQl08
namespace Go.Proofs.YtfbgnpfhjbiikaaGreatDoor
open Go Go.RowKit
open Pth
open Go.Maps (has size Canon CanonK Tidy IsMap KeysOf Keyed Merged)
def LoadX (l : List Rw) (M : DataW Cel) (B : Int) (t b : Nat) (q1 q2 : Int) (w : World) (e : Ending) (w' : World) : Prop :=
  ∃ (e0 : Int) (M' : DataW Cel) (B' : Int), e = .returned (.int .i64 e0) ∧ LoadE (rowsL M) l e0 (rowsL M') ∧ TabAt w' t b q1 q2 M' B' ∧ Good Tryz.prog 9 M' ∧ B' - bytesR (rowsL M') = B - bytesR (rowsL M) ∧ size M' ≤ size M + l.length ∧ B ≤ B' ∧ B' ≤ B + l.length * 33000 ∧ ButS (fun k => k = t ∨ k = b) w w'
theorem LoadX.same {l : List Rw} {M : DataW Cel} {B : Int} {t b : Nat} {q1 q2 : Int} {w w' : World} (h : TabAt w t b q1 q2 M B) (hg : Good Tryz.prog 9 M) (hb : Below w.heap.size w w') (e0 : Int) (hl : LoadE (rowsL M) l e0 (rowsL M)) : LoadX l M B t b q1 q2 w (.returned (.int .i64 e0)) w' :=
  ⟨e0, M, B, rfl, hl, h.below hb, hg, rfl, by omega, by omega, by omega, ButS.of hb⟩
def seenN (l : List Rw) (k : Nat) (q : ByteArray) : Int := if (l.take k).any (fun x => decide (x.1 = q)) then 1 else 0
def SeenRel (l : List Rw) (k : Nat) (D : DataW Unit) : Prop := IsMap D ∧ ∀ q : ByteArray, D.atKey (kS q) (.lit (.int .i64 0)) = .lit (.int .i64 (seenN l k q))
theorem seen_pos {l : List Rw} {k : Nat} {q : ByteArray} (h : 0 < seenN l k q) : ∃ j, j < k ∧ j < l.length ∧ (l.getD j dR).1 = q := by
  unfold seenN at h
  split at h
  · rename_i h1
    obtain ⟨x, hx, he⟩ := List.any_eq_true.1 h1
    obtain ⟨j, hj, hl, rfl⟩ := take_mem hx
    exact ⟨j, hj, hl, by simpa using he⟩
  · omega
theorem seen_not {l : List Rw} {k : Nat} {q : ByteArray} (h : ¬ 0 < seenN l k q) (hk : k ≤ l.length) : ∀ j, j < k → (l.getD j dR).1 ≠ q := by
  intro j hj he
  apply h
  unfold seenN
  rw [if_pos (List.any_eq_true.2 ⟨_, mem_take hj (by omega), by simpa using he⟩)]
  decide
theorem SeenRel.start (l : List Rw) : SeenRel l 0 (.map []) := ⟨Maps.isMap_empty, fun _q => rfl⟩
theorem SeenRel.step {l : List Rw} {k : Nat} {D : DataW Unit} (h : SeenRel l k D) (hk : k < l.length) {x : Rw} (hx : l.getD k dR = x) {cc : Int} (hcc : D.atKey (kS x.1) (.lit (.int .i64 0)) = .lit (.int .i64 cc)) (h0 : ¬ 0 < cc) : SeenRel l (k + 1) (D.put (kS x.1) (.lit (.int .i64 (wrap64 (cc + 1))))) := by
  have he : cc = seenN l k x.1 := by
    have := (h.2 x.1).symm.trans hcc
    injection this with this
    injection this with _ this
    exact this.symm
  have hc0 : cc = 0 := by
    unfold seenN at he
    split at he <;> omega
  have hs : ∀ q, seenN l (k + 1) q = if x.1 = q then 1 else seenN l k q := by
    intro q
    unfold seenN
    rw [List.take_succ_eq_append_getElem hk, List.any_append, List.any_cons, List.any_nil]
    have hg : l[k] = x := by rw [← hx, List.getD_eq_getElem?_getD, List.getElem?_eq_getElem hk]; rfl
    rw [hg]
    by_cases e : x.1 = q
    · rw [if_pos e]; simp [e]
    · have hd : decide (x.1 = q) = false := decide_eq_false e
      rw [if_neg e, hd, Bool.or_false, Bool.or_false]
  refine ⟨h.1.put _ _, fun q => ?_⟩
  rw [hs q]
  by_cases e : x.1 = q
  · subst e
    rw [if_pos rfl, Maps.atKey_put_same h.1 (kS_key _), hc0]
    exact congrArg (fun z => DataW.lit (.int .i64 z)) (by unfold wrap64; omega)
  · rw [if_neg e, Maps.atKey_put_other (kS_ne (fun h => e h.symm))]
    exact h.2 q

set_option maxRecDepth 100000 in
set_option maxHeartbeats 4000000 in
theorem tab_loadX (w : World) {t b : Nat} {q1 q2 B : Int} {M : DataW Cel} (h : TabAt w t b q1 q2 M B) (hg : Good Tryz.prog 9 M) (hm : MX w) (v : Value) (l : List (ByteArray × Cel)) (hv : IsRows w v l) (hl : l.length ≤ 1048576)
    (hwf : RowsWf l) (hp : ∀ i, i < l.length → (l.getD i dR).1.size ≤ 140737488351232 ∧ (l.getD i dR).2.l.length ≤ 8796093022208) (hsM : size M ≤ 1073741824) (hB0 : -1125899906842624 ≤ B) (hB1 : B ≤ 1125899906842624) :
    Calls Tryz.prog 13 #[.pointer (some ⟨t, 0, none⟩), v] w (LoadX l M B t b q1 q2 w) := by
  obtain ⟨a, cap, rfl, hcc⟩ := hv
  have Hmade := Lib.hid (tab_made w h)
  have HC := Lib.hid hcc; have Hp := Lib.hid hp; have HG := Lib.hid hg; have HM := Lib.hid hm; have HT := Lib.hid h; have Hwf := Lib.hid hwf; clear hcc hp hg hm h hwf
  have hmm := @run_makeMap Tryz.prog
  go_enter Tryz.func13, Tryz.ntmps13
  go_wp2_with fail
  refine Hmade.out.mono ?_
  rintro e w1 ⟨rfl, hb1⟩
  have Hb1 := Lib.hid hb1; clear hb1
  go_wp2_with fail
  go_loopw [19] (fun i wr => ∃ k : Nat, k ≤ l.length ∧ i = .int .i64 k ∧ Hid (∀ j, j < k → OkRow (l.getD j dR)) ∧ Hid (Below w.heap.size w wr)) (fun i _ => l.length - (intOf i).toNat)
  case atStart => exact ⟨0, Nat.zero_le _, rfl, Lib.hid (fun j hj => by omega), Hb1⟩
  case round =>
    obtain ⟨k, hk, rfl, hok, hbw⟩ := hrel
    by_cases hlt : k < l.length
    · rcases HC.out with hn | ⟨bl, off, rfl, hbl, hcc⟩
      · subst hn; simp at hlt
      have hltI : (k : Int) < (l.length : Int) := by omega
      obtain ⟨g0, g1, s, g2, hs⟩ := hcc k hlt
      have e0 := (hbw.out.cell (p := ⟨bl, off + k * 3, none⟩) hbl).trans g0
      have e1 := (hbw.out.cell (p := ⟨bl, off + k * 3 + 1, none⟩) hbl).trans g1
      have e2 := (hbw.out.cell (p := ⟨bl, off + k * 3 + 2, none⟩) hbl).trans g2
      have hs' := hs.below hbw.out (Nat.le_refl _)
      obtain ⟨hp1, hp2⟩ := Hp.out k hlt
      obtain ⟨x, hx⟩ : ∃ x, x = l.getD k dR := ⟨_, rfl⟩
      rw [← hx] at e0 e1 hs' hp1 hp2
      have Hx := Lib.hid hx
      clear hx g0 g1 g2 hs hcc
      have Hs := Lib.hid hs'
      obtain ⟨va, vc, rfl, _⟩ := hs'
      go_upto_region 6 with fail
      refine wp_abs (F := fun W => One wr.heap.size #[.string x.1, .int .u64 x.2.last, .slice va x.2.l.length vc] W ∧ Below wr.heap.size wr W) ⟨One.of _ _ _, (Below.refl _ _).alloc (Nat.le_refl _) _⟩ ?_
      rintro WB ⟨hB, hbB⟩
      have y0 := hB.c 0; have y1 := hB.c 1; have y2 := hB.c 2
      simp at y0 y1 y2
      have hbW := hbw.out.trans (hbB.mono hbw.out.size)
      have HB := Lib.hid hB; have HbB := Lib.hid hbB; have HbW := Lib.hid hbW; clear hB hbB hbW e0 e1 e2
      go_wp2_with fail
      refine (path_may x.1 hp1 _ (HM.out.below HbW.out (Nat.le_refl _))).mono ?_
      rintro e w2 ⟨rfl, hb2⟩
      have hB2 := HB.out.step hb2
      clear y0 y1 y2
      have y0 := hB2.c 0; have y1 := hB2.c 1; have y2 := hB2.c 2
      simp at y0 y1 y2
      have Hb2 := Lib.hid (HbW.out.trans (hb2.mono HbW.out.size)); have HB2 := Lib.hid hB2
      have Hs2 := Lib.hid (Hs.out.below (HbB.out.trans (hb2.mono HbB.out.size)) (Nat.le_refl _)); clear hb2 hB2
      cases hpm : mayL x.1.data.toList with
      | false =>
        have HPM := Lib.hid hpm
        go_wp2_with fail
        go_ret
        exact LoadX.same HT.out HG.out Hb2.out 2 (.arg ⟨k, hlt, fun h => by
          have h1 := h.1
          rw [← Hx.out] at h1
          unfold mayP at h1
          rw [HPM.out] at h1; cases h1⟩)
      | true =>
        go_wp2_with fail
        refine (cell_may x.2 _ _ Hs2.out (by omega)).mono ?_
        rintro e w3 ⟨rfl, hb3⟩
        have hB3 := HB2.out.step hb3
        clear y0 y1 y2
        have y2 := hB3.c 2
        simp at y2
        have Hb3 := Lib.hid (Hb2.out.trans (hb3.mono Hb2.out.size)); clear hb3 hB3
        cases hcm : mayC x.2 with
        | false =>
          have HCM := Lib.hid hcm
          go_wp2_with fail
          go_ret
          exact LoadX.same HT.out HG.out Hb3.out 2 (.arg ⟨k, hlt, fun h => by
            have h1 := h.2.1
            rw [← Hx.out, HCM.out] at h1; cases h1⟩)
        | true =>
          by_cases h0 : x.2.l.length = 0
          · have hB0' : ((x.2.l.length : Int) == 0) = true := by simp [h0]
            have H0 := Lib.hid h0
            clear h0
            go_wp2_with fail
            go_ret
            exact LoadX.same HT.out HG.out Hb3.out 2 (.arg ⟨k, hlt, fun h => h.2.2 (by rw [← Hx.out]; exact List.length_eq_zero_iff.1 H0.out)⟩)
          · have hB0' : ((x.2.l.length : Int) == 0) = false := by rw [beq_eq_false_iff_ne]; omega
            have hok1 : OkRow x := ⟨hpm, hcm, fun e => h0 (by rw [e]; rfl)⟩
            have Hok1 := Lib.hid hok1; clear h0 hok1
            go_wp2_with fail
            go_roundw
            case rel => exact ⟨k + 1, by omega, by go_num, Lib.hid (fun j hj => by
              rcases Nat.lt_or_ge j k with h | h
              · exact hok.out j h
              · obtain rfl : j = k := by omega
                rw [← Hx.out]; exact Hok1.out), Hb3⟩
            case measure => simp [intOf]; omega
    · have hge : (l.length : Int) ≤ (k : Int) := by omega
      have hkl : k = l.length := by omega
      have Hall : Hid (∀ j, j < l.length → OkRow (l.getD j dR)) := Lib.hid (by rw [← hkl]; exact hok.out)
      clear hkl
      obtain ⟨We, hWe⟩ : ∃ We, We = wr := ⟨_, rfl⟩
      subst hWe
      go_wp2_with fail
      go_loopw [44] (fun i wx => ∃ (k : Nat) (D : DataW Unit), k ≤ l.length ∧ i = .int .i64 k ∧ Hid (wx.ownsMap Tryz.prog 9 (plainElem Tryz.prog 3) We.heap.size k D) ∧ Hid (SeenRel l k D) ∧ Hid (∀ i, i < k → has M (kS (l.getD i dR).1) = false ∧ ∀ j, j < i → (l.getD j dR).1 ≠ (l.getD i dR).1) ∧ Hid (Below We.heap.size We wx)) (fun i _ => l.length - (intOf i).toNat)
      case atStart => exact ⟨0, .map [], Nat.zero_le _, rfl, Lib.hid (World.ownsMap_made _ _ _ _), Lib.hid (SeenRel.start l), Lib.hid (fun i hi => absurd hi (Nat.not_lt_zero _)), Lib.hid ((Below.refl _ _).alloc (Nat.le_refl _) _)⟩
      case round =>
        obtain ⟨k, D, hk, rfl, hown, hseen, hno, hbx⟩ := hrel
        have hbw2 : Below w.heap.size w wr := hbw.out.trans (hbx.out.mono hbw.out.size)
        have Hbw2 := Lib.hid hbw2
        by_cases hlt : k < l.length
        · rcases HC.out with hn | ⟨bl, off, rfl, hbl, hcc⟩
          · subst hn; simp at hlt
          have hltI : (k : Int) < (l.length : Int) := by omega
          obtain ⟨g0, g1, s, g2, hs⟩ := hcc k hlt
          have e0 := (hbw2.cell (p := ⟨bl, off + k * 3, none⟩) hbl).trans g0
          have e1 := (hbw2.cell (p := ⟨bl, off + k * 3 + 1, none⟩) hbl).trans g1
          have e2 := (hbw2.cell (p := ⟨bl, off + k * 3 + 2, none⟩) hbl).trans g2
          obtain ⟨hp1, hp2⟩ := Hp.out k hlt
          obtain ⟨x, hx⟩ : ∃ x, x = l.getD k dR := ⟨_, rfl⟩
          rw [← hx] at e0 e1 hs hp1 hp2
          have Hx2 := Lib.hid hx
          clear hx g0 g1 g2 hcc hbw2
          obtain ⟨va, vc, rfl, _⟩ := hs
          go_upto_region 13 with fail
          refine wp_abs (F := fun W => One wr.heap.size #[.string x.1, .int .u64 x.2.last, .slice va x.2.l.length vc] W ∧ Below wr.heap.size wr W) ⟨One.of _ _ _, (Below.refl _ _).alloc (Nat.le_refl _) _⟩ ?_
          rintro WB ⟨hB, hbB⟩
          have y0 := hB.c 0
          simp at y0
          have hTB := HT.out.below (Hbw2.out.trans (hbB.mono Hbw2.out.size))
          have d2 := hTB.c2
          obtain ⟨s11, is1, hi1, hs11, hl11, _⟩ := (hTB.below (w' := WB.drew) (Below.drew (Below.refl _ _))).m.look2 x.1 (by unfold maxLen; omega)
          obtain ⟨a11, c11, rfl, _⟩ := hs11
          have hbZ : Below WB.heap.size WB (WB.alloc (.cells #[.int .u64 0, .slice none 0 0] 46)).drew := Below.drew ((Below.refl _ _).alloc (Nat.le_refl _) _)
          obtain ⟨s12, is2, hi2, hs12, hl12, _⟩ := (hTB.below hbZ).m.look2 x.1 (by unfold maxLen; omega)
          obtain ⟨a12, c12, rfl, _⟩ := hs12
          have hbA : Below WB.heap.size WB (WB.alloc (.cells #[.int .u64 0, .slice none 0 0] 46)) := (Below.refl _ _).alloc (Nat.le_refl _) _
          have d2z := (hTB.below hbA).c2
          have y0z := (hB.step hbA).c 0
          simp at y0z
          have hne : ¬ wr.heap.size = WB.heap.size := by have := hB.lt; omega
          have hne2 : ¬ WB.heap.size = wr.heap.size := by have := hB.lt; omega
          have hbl2 := hB.lt
          have HB := Lib.hid hB; have HbB := Lib.hid hbB; clear hB hbB e0 e1 e2 hTB
          obtain ⟨hx0, hhx0⟩ : ∃ b, has M (kS x.1) = b := ⟨_, rfl⟩
          have HHX := Lib.hid hhx0
          rw [hhx0] at hi1 hi2
          subst is1 is2
          clear hhx0
          go_cut [11] (fun s11 wx => s11 = .bool hx0 ∧ Hid (One wr.heap.size #[.string x.1, .int .u64 x.2.last, .slice va x.2.l.length vc] wx ∧ Below wr.heap.size wr wx))
          case first =>
            go_region
            all_goals go_wp2_with fail
            all_goals go_meet
            all_goals refine ⟨rfl, Lib.hid ⟨?_, ?_⟩⟩
            all_goals first
              | exact (HB.out.step (Below.drew (Below.refl _ _))).step ((Below.refl _ _).alloc (Nat.le_refl _) _)
              | exact HB.out.step (Below.drew ((Below.refl _ _).alloc (Nat.le_refl _) _))
              | exact (HbB.out.trans ((Below.drew (Below.refl _ _)).mono HbB.out.size)).alloc (HbB.out.trans ((Below.drew (Below.refl _ _)).mono HbB.out.size)).size _
              | exact (HbB.out.alloc HbB.out.size _).drew
              | exact (((HB.out.step hbA).far (p := ⟨WB.heap.size, 0, none⟩) (by dsimp only; omega) _).far (p := ⟨WB.heap.size, 1, none⟩) (by dsimp only; omega) _).step (Below.drew (Below.refl _ _))
              | exact (((HbB.out.alloc HbB.out.size _).setCell (p := ⟨WB.heap.size, 0, none⟩) (by dsimp only; omega) _).setCell (p := ⟨WB.heap.size, 1, none⟩) (by dsimp only; omega) _).drew
              | skip
          case rest =>
            obtain ⟨rfl, HX⟩ := hcut
            have y0 := HX.out.1.c 0
            simp at y0
            have hownc := ownsMap_below hown.out HX.out.2 hown.out.lt
            have hkey := keyS (s := x.1) Tryz.underlying9 (by unfold maxLen; omega)
            have hbc := Hbw2.out.trans (HX.out.2.mono Hbw2.out.size)
            have Hbc := Lib.hid hbc; clear hbc d2 hl11
            cases hx0 with
            | true =>
              go_wp2_with fail
              go_ret
              exact LoadX.same HT.out HG.out Hbc.out 8 (.dup Hall.out ⟨k, hlt, Or.inl ⟨(x.1, cellAt M x.1), (rows_mem HG.out.canon _).2 ⟨HHX.out, rfl⟩, by rw [← Hx2.out]⟩⟩)
            | false =>
              obtain ⟨cc, hrunc, hccd, _⟩ := hownc.lookup_int strKeyed (t := 116) Tryz.underlying116 Tryz.underlying3 (zeroIntM _) hkey
              go_upto_if 65 with fail
              by_cases hcc : 0 < cc
              · have HCC := Lib.hid hcc
                have HCD := Lib.hid hccd
                clear hccd
                go_wp2_with fail
                go_ret
                refine LoadX.same HT.out HG.out Hbc.out 8 (.dup Hall.out ⟨k, hlt, Or.inr ?_⟩)
                have he : cc = seenN l k x.1 := by
                  have := (hseen.out.2 x.1).symm.trans HCD.out
                  injection this with this
                  injection this with _ this
                  exact this.symm
                obtain ⟨j, hj, _, hje⟩ := seen_pos (by rw [← he]; exact HCC.out)
                exact ⟨j, hj, by rw [← Hx2.out]; exact hje⟩
              · have hkl2 : k < maxLen := by unfold maxLen; omega
                have HCC := Lib.hid hcc
                have HCD := Lib.hid hccd
                clear hccd
                go_wp2_with (first
                  | (at_mapUpdate; refine wpList_mapUpdate_own _ rfl _ _ _ 116 rfl 9 3 strKeyed Tryz.underlying116 _ We.heap.size k _ rfl hownc hkl2 _ _ _ rfl rfl hkey _ [] (plainElem_int Tryz.underlying3 (wrap64_wf _)) ?_; intro w7 hown7 hg7)
                  | fail)
                go_roundw
                case rel => exact ⟨k + 1, _, by omega, by go_num, Lib.hid hown7, Lib.hid (hseen.out.step hlt Hx2.out.symm HCD.out HCC.out), Lib.hid (fun i hi => by
                  have he : cc = seenN l k x.1 := by
                    have := (hseen.out.2 x.1).symm.trans HCD.out
                    injection this with this
                    injection this with _ this
                    exact this.symm
                  rcases Nat.lt_or_ge i k with h | h
                  · exact hno.out i h
                  · obtain rfl : i = k := by omega
                    rw [← Hx2.out]
                    exact ⟨HHX.out, seen_not (by rw [← he]; exact HCC.out) hk⟩), Lib.hid ((hbx.out.trans (HX.out.2.mono hbx.out.size)).grown hg7 (hbx.out.trans (HX.out.2.mono hbx.out.size)).size (fun j hj => by cases hj; exact Nat.le_refl _))⟩
                case measure => simp [intOf]; omega
        · have hge : (l.length : Int) ≤ (k : Int) := by omega
          have HNO : Hid (∀ i, i < l.length → has M (kS (l.getD i dR).1) = false ∧ ∀ j, j < i → (l.getD j dR).1 ≠ (l.getD i dR).1) := Lib.hid (fun i hi => hno.out i (by omega))
          clear hno hseen
          obtain ⟨Wf, hWf⟩ : ∃ Wf, Wf = wr := ⟨_, rfl⟩
          subst hWf
          have HTf := Lib.hid (HT.out.below Hbw2.out)
          have HCf : Hid (IsRows Wf (.slice a l.length cap) l) := Lib.hid (IsRows.below ⟨a, cap, rfl, HC.out⟩ Hbw2.out (Nat.le_refl _))
          clear hbw2
          go_wp2_with fail
          go_loopw [74] (fun i wx => ∃ (k : Nat) (M' : DataW Cel) (B' : Int), k ≤ l.length ∧ i = .int .i64 k ∧ Hid (TabAt wx t b q1 q2 M' B') ∧ Hid (Good Tryz.prog 9 M') ∧ Hid (rowsL M' = (l.take k).foldl withR (rowsL M) ∧ B' - bytesR (rowsL M') = B - bytesR (rowsL M) ∧ ∀ q : ByteArray, has M' (kS q) = true → has M (kS q) = true ∨ ∃ j, j < k ∧ (l.getD j dR).1 = q) ∧ Hid (size M' ≤ size M + k ∧ B ≤ B' ∧ B' ≤ B + k * 33000) ∧ Hid (ButS (fun k => k = t ∨ k = b) Wf wx)) (fun i _ => l.length - (intOf i).toNat)
          case atStart => exact ⟨0, M, B, Nat.zero_le _, rfl, HTf, HG, Lib.hid ⟨rfl, rfl, fun q hq => Or.inl hq⟩, Lib.hid ⟨by omega, by omega, by omega⟩, Lib.hid (ButS.of (Below.refl _ _))⟩
          case round =>
            obtain ⟨k, M', B', hk, rfl, hT, hGM, hrel2, hbd, hbut⟩ := hrel
            by_cases hlt : k < l.length
            · obtain ⟨a', cap', ha', hcc⟩ := HCf.out.but hbut.out (fun k hk => by rcases hk with rfl | rfl; exact HTf.out.bare; exact HTf.out.m.bare)
              obtain ⟨rfl, rfl⟩ : a' = a ∧ cap' = cap := by injection ha' with h1 h2 h3; exact ⟨h1.symm, h3.symm⟩
              rcases hcc with hn | ⟨bl, off, rfl, hbl, hcc⟩
              · subst hn; simp at hlt
              have hltI : (k : Int) < (l.length : Int) := by omega
              obtain ⟨e0, e1, s, e2, hs⟩ := hcc k hlt
              have hokx := Hall.out k hlt
              have hwfx := Hwf.out k hlt
              have hnox := HNO.out k hlt
              have hfold := foldl_take (R := rowsL M) hlt
              obtain ⟨x, hx⟩ : ∃ x, x = l.getD k dR := ⟨_, rfl⟩
              rw [← hx] at e0 e1 hs hokx hwfx hnox hfold
              have Hx3 := Lib.hid hx
              have hnew : has M' (kS x.1) = false := by
                cases hh : has M' (kS x.1) with
                | false => rfl
                | true =>
                  rcases hrel2.out.2.2 _ hh with h | ⟨j, hj, he⟩
                  · rw [hnox.1] at h; cases h
                  · exact absurd he (hnox.2 j hj)
              have hKx := keysOf_path hokx.1
              have hputr := rows_put hGM.out.canon hKx x.2
              have hputb := bytes_put hGM.out hKx (d := x.2) hokx.2.2
              rw [cellAt_none hnew] at hputb
              have HFX : Hid (rowsL (M'.put (kS x.1) (.held x.2)) = (l.take (k + 1)).foldl withR (rowsL M)) := Lib.hid (by rw [hputr, hfold, hrel2.out.1])
              have HPB : Hid ((bytesR (rowsL (M'.put (kS x.1) (.held x.2))) : Int) = bytesR (rowsL M') + (weightE x.1 x.2 : Int)) := Lib.hid (by
                have h0 : weightE x.1 (⟨0, []⟩ : Cel) = 0 := rfl
                rw [hputb, h0]; simp)
              have HNX : Hid (∀ q : ByteArray, has (M'.put (kS x.1) (.held x.2)) (kS q) = true → has M (kS q) = true ∨ ∃ j, j < k + 1 ∧ (l.getD j dR).1 = q) := Lib.hid (fun q hq => by
                by_cases e : q = x.1
                · exact Or.inr ⟨k, Nat.lt_succ_self k, by rw [← Hx3.out, e]⟩
                · rw [Maps.has_put_other (kS_ne e)] at hq
                  rcases hrel2.out.2.2 _ hq with h | ⟨j, hj, he⟩
                  · exact Or.inl h
                  · exact Or.inr ⟨j, by omega, he⟩)
              clear hx hcc hnox hfold hnew hKx hputr hputb
              have Hs := Lib.hid hs
              obtain ⟨va, vc, rfl, _⟩ := hs
              obtain ⟨o1, o2, o3⟩ := hokx
              have hp128 := mayP_size o1
              have hl8 := may_len o2
              have hGP := Lib.hid (hGM.out.putRow ⟨o1, o2, o3⟩ hwfx)
              go_upto_region 21 with fail
              refine wp_abs (F := fun W => One wr.heap.size #[.string x.1, .int .u64 x.2.last, .slice va x.2.l.length vc] W ∧ Below wr.heap.size wr W) ⟨One.of _ _ _, (Below.refl _ _).alloc (Nat.le_refl _) _⟩ ?_
              rintro WB ⟨hB, hbB⟩
              have y0 := hB.c 0; have y1 := hB.c 1; have y2 := hB.c 2
              simp at y0 y1 y2
              have hTB := hT.out.below hbB
              have d2 := hTB.c2
              have hlB := hB.lt
              have hlT := hTB.lt
              have hlW := hT.out.lt
              have hlWb := HoldsMap.lt hT.out.m
              have hne0 := hT.out.ne
              have hkey := keyS (s := x.1) Tryz.underlying9 (by unfold maxLen; omega)
              have hlen : size M' < maxLen := by have := hbd.out.1; unfold maxLen; omega
              have HsB := Lib.hid (Hs.out.below hbB (Nat.le_refl _))
              have HsD := Lib.hid (HsB.out.below (w' := WB.drew) (Below.drew (Below.refl _ _)) (Nat.le_refl _))
              have HB := Lib.hid hB; have HbB := Lib.hid hbB; have HTB := Lib.hid hTB; clear hB hbB hTB e0 e1 e2
              go_cut [] (fun wx => Hid (One wr.heap.size #[.string x.1, .int .u64 x.2.last, .slice va x.2.l.length vc] wx ∧ ButS (fun k => k = b) WB wx ∧ CelMap wx b (M'.put (kS x.1) (.held x.2))))
              case first =>
                go_region_with (first
                  | (go_at_call 46; refine (tab_copied x.2 _ _ HsD.out (by omega)).mono ?_; rintro e w4 ⟨v4, rfl, hown4, hb4⟩; obtain ⟨a4, c4, rfl⟩ := ownShape hown4; have d2 : w4.cell? ⟨t, 2, none⟩ = some (.map (some b)) := (hb4.cell hlT).trans d2; have y0 : w4.cell? ⟨wr.heap.size, 0, none⟩ = some (.string x.1) := (hb4.cell hlB).trans y0; have hC4 := (HTB.out.m.below (w' := WB.drew) (Below.drew (Below.refl _ _))).below hb4; obtain ⟨DX, hownX, hputX⟩ := hC4.put; have Hown4 := Lib.hid hown4; have Hb4 := Lib.hid hb4; obtain ⟨w7, hrun7, hown7, hg7⟩ := hownX.update (t := 103) (e := 46) strKeyed Tryz.underlying103 hlen (key := .string x.1) (val := .agg #[.int .u64 x.2.last, .slice a4 x.2.l.length c4]) (d := .held (.agg #[.int .u64 x.2.last, .slice a4 x.2.l.length c4])) (ps := []) hkey rfl; clear hown4 hb4 hC4))
                all_goals go_wp2_with fail
                all_goals go_meet
                all_goals (
                  have hbd4 : Below WB.heap.size WB w4 := (Below.drew (Below.refl _ _)).trans (Hb4.out.mono (Nat.le_refl _))
                  exact Lib.hid ⟨((HB.out.step hbd4).grown hg7 (by have := hlWb; omega)), (ButS.of hbd4).trans (ButS.grown hg7 rfl), hputX w7 _ x.1 x.2 _ (by unfold maxLen; omega) ⟨_, rfl, IsVers.own Hown4.out⟩ hown7 hg7⟩)
              case rest =>
                obtain ⟨hO, hbu, hN⟩ := hcut.out
                have hnb : t ≠ b := hne0
                have hTc : ∀ j, wc.cell? ⟨t, j, none⟩ = WB.cell? ⟨t, j, none⟩ := fun j => hbu.cell (p := ⟨t, j, none⟩) hlT hnb
                have c3 := (hTc 3).trans HTB.out.c3
                have f3 : wc.frozen? ⟨t, 3, none⟩ = false := (hbu.frozen (p := ⟨t, 3, none⟩) hlT hnb).trans HTB.out.f3
                have y0 := hO.c 0; have y1 := hO.c 1; have y2 := hO.c 2
                simp at y0 y1 y2
                have hlO := hO.lt
                have hltc : t < wc.heap.size := Nat.lt_of_lt_of_le hlT hbu.size
                have hbox : wr.heap.size ≠ t := by omega
                have HsC := Lib.hid ((HsB.out.but hbu (fun k hk => by subst hk; exact HTB.out.m.noVers)).below (w' := wc.drew) (Below.drew (Below.refl _ _)) (Nat.le_refl _))
                have hwd := weight_le (p := x.1) o2 hp128
                have HW := Lib.hid (tab_weight x.1 x.2 _ wc.drew HsC.out (by omega) (may_sizes o2) (by have := may_size o2; omega) (by omega))
                obtain ⟨wd, hwdE⟩ : ∃ z, z = weightE x.1 x.2 := ⟨_, rfl⟩
                rw [← hwdE] at hwd HW
                have hb1 := hbd.out.2.1; have hb2 := hbd.out.2.2
                have hwr : IntKind.i64.wrap (B' + (wd : Int)) = B' + (wd : Int) := by rw [IntKind.wrap_i64]; omega
                have hTc3 := Lib.hid hTc; have Hbu := Lib.hid hbu; have HN := Lib.hid hN; have HO := Lib.hid hO; have Hbd := Lib.hid (And.intro hb1 hb2)
                have HPB2 : Hid ((bytesR (rowsL (M'.put (kS x.1) (.held x.2))) : Int) = bytesR (rowsL M') + (wd : Int)) := Lib.hid (by rw [hwdE]; exact HPB.out)
                clear hTc hbu hN hO hcut hb1 hb2 hwdE
                go_wp2_with fail
                go_region_with (go_at_call 49; refine HW.out.mono ?_; rintro e w5 ⟨rfl, hb5⟩; have c3 : w5.cell? ⟨t, 3, none⟩ = some (.int .i64 B') := (hb5.cell (p := ⟨t, 3, none⟩) hltc).trans c3; have f3 : w5.frozen? ⟨t, 3, none⟩ = false := (hb5.frozen (p := ⟨t, 3, none⟩) hltc).trans f3; have y0 : w5.cell? ⟨wr.heap.size, 0, none⟩ = some (.string x.1) := (hb5.cell (p := ⟨wr.heap.size, 0, none⟩) hlO).trans y0; have Hb5 := Lib.hid hb5; clear hb5)
                all_goals go_wp2_with fail
                all_goals go_roundw
                all_goals first
                  | (simp [intOf]; omega)
                  | (have hb5f : Below wc.heap.size wc w5 := (Below.drew (Below.refl _ _)).trans (Hb5.out.mono (Nat.le_refl _))
                     have hs1 := Maps.size_put (k := kS x.1) (canonK_tidy hGM.out.canon) (.held x.2)
                     have hs2 : size (M'.put (kS x.1) (.held x.2)) ≤ size M' + 1 := by rw [hs1]; split <;> omega
                     have h0 := hbd.out.1; have h1 := Hbd.out.1; have h2 := Hbd.out.2
                     refine ⟨k + 1, M'.put (kS x.1) (.held x.2), B' + (wd : Int), by omega, by go_num, Lib.hid (hT.out.setBytes (fun j => (hb5f.cell (p := ⟨t, j, none⟩) hltc).trans ((hTc3.out j).trans (HbB.out.cell (p := ⟨t, j, none⟩) hlW))) f3 (HN.out.below hb5f)), hGP, Lib.hid ⟨HFX.out, by rw [HPB2.out]; have := hrel2.out.2.1; omega, HNX.out⟩, Lib.hid ⟨by omega, by omega, by push_cast; omega⟩, Lib.hid ?_⟩
                     exact (((hbut.out.trans (ButS.of HbB.out)).trans (Hbu.out.mono (fun k hk => Or.inr hk))).trans (ButS.of hb5f)).trans (ButS.set w5 (p := ⟨t, 3, none⟩) (Or.inl rfl) _))
            · have hge : (l.length : Int) ≤ (k : Int) := by omega
              have Hkl : Hid (k = l.length) := Lib.hid (by omega)
              go_wp2_with fail
              go_ret
              have h1 := hbd.out
              have h2 := hrel2.out
              rw [Hkl.out] at h1 h2
              rw [List.take_length] at h2
              refine ⟨0, M', B', rfl, ?_, hT.out, hGM.out, h2.2.1, h1.1, h1.2.1, h1.2.2, (ButS.of Hbw2.out).trans hbut.out⟩
              rw [h2.1]
              exact .ok Hall.out (fun i hi => ⟨fun y hy he => (by
                have h3 := ((rows_mem HG.out.canon y).1 hy).1
                rw [he, (HNO.out i hi).1] at h3; cases h3), (HNO.out i hi).2⟩)
end Go.Proofs.YtfbgnpfhjbiikaaGreatDoor

namespace Go.Proofs.YtfbgnpfhjbiikaaGreatDoor
open Go Go.RowKit
open Pth
open Go.Maps (has size Canon CanonK Tidy IsMap KeysOf Keyed Merged)
theorem Good.okR {M : DataW Cel} (h : Good Tryz.prog 9 M) : OkR (rowsL M) := ⟨rows_up h.canon, fun x hx => by
  obtain ⟨h1, h2⟩ := (rows_mem h.canon x).1 hx
  obtain ⟨p, c, e, hc, k1, k2, k3, k4⟩ := h.cells _ h1
  have hp : p = x.1 := by
    by_cases e2 : p = x.1
    · exact e2
    · exact absurd e.symm (kS_ne e2)
  subst hp
  rw [cellAt_of hc] at h2
  subst h2
  exact ⟨⟨k4, k1, k2⟩, k3⟩⟩
theorem tried_rows {M : DataW Cel} {B q1 q2 : Int} {l : List Edt} (hg : Good Tryz.prog 9 M) (hB : B = bytesR (rowsL M)) :
    triedR (rowsL M) q1 q2 l = ((triedT M B q1 q2 l).1, rowsL (triedT M B q1 q2 l).2.1, (triedT M B q1 q2 l).2.2.1) ∧ (triedT M B q1 q2 l).2.2.2 = bytesR (rowsL (triedT M B q1 q2 l).2.1) := by
  obtain ⟨a1, a2⟩ := run_rows l (vs := []) (B := B) (i := 0) hg hB
  obtain ⟨g1, _, _, _⟩ := runT_facts Tryz.underlying9 l (vs := []) (B := B) (i := 0) hg
  have ho : overR (rowsL (runT M [] B 0 l).2.1) (rowsL M) q1 q2 = overT ((runT M [] B 0 l).2.1, (runT M [] B 0 l).2.2.2) M B q1 q2 := by
    unfold overR overT
    simp only
    rw [rows_length g1.canon, rows_length hg.canon, a2]
    subst hB
    have e : decide (bytesR (rowsL M) < bytesR (rowsL (runT M [] (bytesR (rowsL M)) 0 l).2.1)) = decide ((bytesR (rowsL M) : Int) < (bytesR (rowsL (runT M [] (bytesR (rowsL M)) 0 l).2.1) : Int)) := decide_eq_decide.2 (by omega)
    rw [e]
  have e1 : (triedT M B q1 q2 l).2 = (runT M [] B 0 l).2 := tried_eq M B q1 q2 l
  refine ⟨?_, by rw [e1]; exact a2⟩
  rw [e1]
  unfold triedR triedT
  simp only
  rw [a1]
  simp only
  rw [ho]
  split
  · rfl
  · split <;> rfl
end Go.Proofs.YtfbgnpfhjbiikaaGreatDoor

namespace Go.Proofs.YtfbgnpfhjbiikaaGreatDoor
open Go Go.RowKit
open Pth
open Go.Maps (has size Canon CanonK Tidy IsMap KeysOf Keyed Merged)
theorem IsEdts.but2 {S : Nat → Prop} {w w' : World} {v : Value} {l : List Edt} (h : IsEdts w v l) (hb : ButS S w w') (hS : ∀ k, S k → NoStr w k) : IsEdts w' v l := by
  obtain ⟨a, cap, hv, h⟩ := h
  refine ⟨a, cap, hv, ?_⟩
  rcases h with h | ⟨b, off, ha, hlt, hc⟩
  · exact Or.inl h
  · by_cases hl : l = []
    · exact Or.inl hl
    have hn : ¬ S b := fun hs => hS b hs _ _ (hc 0 (List.length_pos_iff.2 hl)).2.1
    refine Or.inr ⟨b, off, ha, by have := hb.size; omega, fun i hi => ?_⟩
    obtain ⟨h0, h1, h2, h3, h4, h5⟩ := hc i hi
    exact ⟨(hb.cell hlt hn).trans h0, (hb.cell hlt hn).trans h1, (hb.cell hlt hn).trans h2, (hb.cell hlt hn).trans h3, (hb.cell hlt hn).trans h4, (hb.cell hlt hn).trans h5⟩

set_option maxRecDepth 100000 in
set_option maxHeartbeats 1000000 in
theorem law_numbersG (v1 v2 : Value) (l1 l2 : List Nat) (w : World) (h1 : IsNums w v1 l1) (h2 : IsNums w v2 l2) (hl : l1.length ≤ 1099511627776) :
    Calls Tryz.prog 17 #[v1, v2] w fun e w' => ∃ x, e = .returned (.bool x) ∧ (l1 = l2 → x = true) ∧ Below w.heap.size w w' := by
  by_cases he : l1 = l2
  · subst he
    refine (law_numbers v1 v2 l1 w h1 h2 hl).mono ?_
    rintro e w1 ⟨rfl, hb⟩
    exact ⟨true, rfl, fun _ => rfl, hb⟩
  have HE := Lib.hid he; clear he
  obtain ⟨a1, cap1, rfl, hc1⟩ := h1
  obtain ⟨a2, cap2, rfl, hc2⟩ := h2
  have Hc1 := Lib.hid hc1; have Hc2 := Lib.hid hc2; clear hc1 hc2
  go_enter Tryz.func17, Tryz.ntmps17
  by_cases hlen : l1.length = l2.length
  · rw [hlen] at hl ⊢
    have Hlen := Lib.hid hlen; clear hlen
    have hLB : ((l2.length : Int) != (l2.length : Int)) = false := by simp
    go_wp2
    go_loopw [5] (fun i wr => ∃ k : Nat, k ≤ l2.length ∧ i = .int .i64 k ∧ Hid (Below w.heap.size w wr)) (fun i _ => l2.length - (intOf i).toNat)
    case atStart => exact ⟨0, Nat.zero_le _, rfl, Lib.hid (Below.refl _ _)⟩
    case round =>
      obtain ⟨k, hk, rfl, Hbw⟩ := hrel
      by_cases hlt : k < l2.length
      · have hlt1 : k < l1.length := by rw [Hlen.out]; exact hlt
        rcases Hc1.out with hn | ⟨b1, o1, rfl, hl1, hcc1⟩
        · subst hn; simp at hlt1
        rcases Hc2.out with hn | ⟨b2, o2, rfl, hl2, hcc2⟩
        · subst hn; simp at hlt
        have hcell1 := (Hbw.out.cell (p := ⟨b1, o1 + k, none⟩) hl1).trans (hcc1 k hlt1)
        have hcell2 := (Hbw.out.cell (p := ⟨b2, o2 + k, none⟩) hl2).trans (hcc2 k hlt)
        clear hcc1 hcc2 hlt1
        obtain ⟨x, hx⟩ : ∃ x, x = l1.getD k 0 := ⟨_, rfl⟩
        obtain ⟨y, hy⟩ : ∃ y, y = l2.getD k 0 := ⟨_, rfl⟩
        rw [← hx] at hcell1
        rw [← hy] at hcell2
        clear hx hy
        cases hB : ((x : Int) != (y : Int)) with
        | true =>
          go_wp2
          go_quiet (fail)
          go_wp2
          go_ret
          exact ⟨false, rfl, fun h => absurd h HE.out, below_dr Hbw.out _⟩
        | false =>
          go_wp2
          go_quiet (fail)
          go_wp2
          go_roundw
          case rel => exact ⟨k + 1, by omega, by go_num, Lib.hid (below_dr Hbw.out _)⟩
          case measure => simp [intOf]; omega
      · have hge : (l2.length : Int) ≤ (k : Int) := by omega
        go_wp2
        go_ret
        exact ⟨true, rfl, fun _ => rfl, Hbw.out⟩
  · have hLB : ((l1.length : Int) != (l2.length : Int)) = true := by simp [bne]; omega
    go_wp2
    go_ret
    exact ⟨false, rfl, fun h => absurd h HE.out, Below.refl _ _⟩

structure ActX where
  dd : Nat
  es : List Edt
  rs : List Rw
  pp : List ByteArray
def dX : ActX := ⟨0, [], [], []⟩
structure ActIs (w : World) (ve vr vp : Value) (x : ActX) : Prop where
  e : IsEdts w ve x.es
  r : ∃ a c, vr = .slice a x.rs.length c ∧ x.rs.length ≤ c ∧ IsRows w vr x.rs
  p : IsStrs w vp x.pp
structure ActSz (x : ActX) : Prop where
  d : x.dd < 256
  e : x.es.length ≤ 2048
  r : x.rs.length ≤ 2048
  p : x.pp.length ≤ 2048
  wf : RowsWf x.rs
  es : ∀ i, i < x.es.length → (x.es.getD i dE).path.size ≤ 140737488351232 ∧ (x.es.getD i dE).text.size ≤ 9223372036854775807
  rs : ∀ i, i < x.rs.length → (x.rs.getD i dR).1.size ≤ 140737488351232 ∧ (x.rs.getD i dR).2.l.length ≤ 4398046511104
  pz : ∀ i, i < x.pp.length → (x.pp.getD i ByteArray.empty).size ≤ 140737488351232
theorem ActIs.but {S : Nat → Prop} {w w' : World} {ve vr vp : Value} {x : ActX} (h : ActIs w ve vr vp x) (hb : ButS S w w') (hS : ∀ k, S k → NoStr w k ∧ NoVers w k) : ActIs w' ve vr vp x :=
  ⟨h.e.but2 hb (fun k hk => (hS k hk).1), (let ⟨a, c, h1, h2, h3⟩ := h.r; ⟨a, c, h1, h2, h3.but2 hb hS⟩), strs_but h.p hb (fun k hk => (hS k hk).1)⟩
theorem ActIs.below {w w' : World} {ve vr vp : Value} {x : ActX} (h : ActIs w ve vr vp x) (hb : Below w.heap.size w w') : ActIs w' ve vr vp x :=
  ⟨h.e.below hb (Nat.le_refl _), (let ⟨a, c, h1, h2, h3⟩ := h.r; ⟨a, c, h1, h2, h3.below hb (Nat.le_refl _)⟩), h.p.below hb (Nat.le_refl _)⟩
structure Duo (w : World) (t b r : Nat) (q1 q2 p1 p2 : Int) (M : DataW Cel) (R : List Rw) : Prop where
  hT : TabAt w t b q1 q2 M (bytesR (rowsL M))
  hG : Good Tryz.prog 9 M
  hR : RefAt w r p1 p2 R
  hO : OkR R
  n1 : t ≠ r
  n2 : b ≠ r
abbrev S3 (t b r : Nat) : Nat → Prop := fun k => k = t ∨ k = b ∨ k = r
theorem Duo.below {w w' : World} {t b r : Nat} {q1 q2 p1 p2 : Int} {M : DataW Cel} {R : List Rw} (h : Duo w t b r q1 q2 p1 p2 M R) (hb : Below w.heap.size w w') : Duo w' t b r q1 q2 p1 p2 M R :=
  ⟨h.hT.below hb, h.hG, h.hR.below hb, h.hO, h.n1, h.n2⟩
theorem Duo.bareT {w : World} {t b r : Nat} {q1 q2 p1 p2 : Int} {M : DataW Cel} {R : List Rw} (h : Duo w t b r q1 q2 p1 p2 M R) : ∀ k, (k = t ∨ k = b) → NoStr w k ∧ NoVers w k := by
  rintro k (rfl | rfl)
  · exact ⟨h.hT.bare.noStr, h.hT.bare.noVers⟩
  · exact ⟨h.hT.m.bare.noStr, h.hT.m.bare.noVers⟩
theorem Duo.bareR {w : World} {t b r : Nat} {q1 q2 p1 p2 : Int} {M : DataW Cel} {R : List Rw} (h : Duo w t b r q1 q2 p1 p2 M R) : ∀ k, k = r → NoStr w k ∧ NoVers w k := h.hR.nostr
theorem Duo.tab {w w' : World} {t b r : Nat} {q1 q2 p1 p2 : Int} {M M' : DataW Cel} {R : List Rw} (h : Duo w t b r q1 q2 p1 p2 M R) (hb : ButS (fun k => k = t ∨ k = b) w w') {B : Int} (hT : TabAt w' t b q1 q2 M' B) (hB : B = bytesR (rowsL M')) (hG : Good Tryz.prog 9 M') : Duo w' t b r q1 q2 p1 p2 M' R :=
  ⟨hB ▸ hT, hG, h.hR.but hb h.bareT (fun e => e.elim (fun e => h.n1 e.symm) (fun e => h.n2 e.symm)), h.hO, h.n1, h.n2⟩
theorem Duo.ref {w w' : World} {t b r : Nat} {q1 q2 p1 p2 : Int} {M : DataW Cel} {R R' : List Rw} (h : Duo w t b r q1 q2 p1 p2 M R) (hb : ButS (fun k => k = r) w w') (hR : RefAt w' r p1 p2 R') (hO : OkR R') : Duo w' t b r q1 q2 p1 p2 M R' :=
  ⟨h.hT.but hb (fun k hk => (h.bareR k hk).2) h.n1 h.n2, h.hG, hR, hO, h.n1, h.n2⟩
def DoesG (g : Nat) (t b r : Nat) (q1 q2 p1 p2 : Int) (M : DataW Cel) (R : List Rw) (w : World) (e : Ending) (w' : World) : Prop :=
  ∃ (x : Bool) (M' : DataW Cel) (R' : List Rw), e = .returned (.bool x) ∧ Duo w' t b r q1 q2 p1 p2 M' R' ∧ size M' ≤ size M + g ∧ R'.length ≤ R.length + g ∧
    (R = rowsL M → p1 = q1 → p2 = q2 → x = true ∧ R' = rowsL M') ∧ ButS (S3 t b r) w w'
theorem good_bytes {M : DataW Cel} (h : Good Tryz.prog 9 M) : bytesR (rowsL M) ≤ size M * 33000 := by
  have := h.okR.bytes
  rw [rows_length h.canon] at this
  exact this
end Go.Proofs.YtfbgnpfhjbiikaaGreatDoor

namespace Go.Proofs.YtfbgnpfhjbiikaaGreatDoor
open Go Go.RowKit
open Pth
open Go.Maps (has size Canon CanonK Tidy IsMap KeysOf Keyed Merged)
def AbvMap (B0 : Nat) (w : World) (fb : Nat) (F : DataW Cel) : Prop :=
  HoldsMap Tryz.prog 9 (fun v c => ∃ s, v = .agg #[.int .u64 c.last, s] ∧ IsVers w s c.l ∧ (c.l ≠ [] → ∀ kb, s.ownBlock = some kb → B0 ≤ kb)) w fb F
theorem AbvMap.map {B0 : Nat} {w : World} {fb : Nat} {F : DataW Cel} (h : AbvMap B0 w fb F) : CelMap w fb F := h.move rfl (fun _ _ ⟨s, e, hs, _⟩ => ⟨s, e, hs⟩)
theorem AbvMap.below {B0 : Nat} {w w' : World} {fb : Nat} {F : DataW Cel} (h : AbvMap B0 w fb F) (hb : Below w.heap.size w w') : AbvMap B0 w' fb F :=
  HoldsMap.move h (hb.block fb (HoldsMap.lt h)) (fun _ _ ⟨s, e, hs, ho⟩ => ⟨s, e, hs.below hb (Nat.le_refl _), ho⟩)
theorem IsVers.free {S : Nat → Prop} {w w' : World} {v : Value} {l : List Ver} (h : IsVers w v l) (hb : ButS S w w') (ho : l ≠ [] → ∀ kb, v.ownBlock = some kb → ¬ S kb) : IsVers w' v l := by
  obtain ⟨a, cap, hv, h⟩ := h
  refine ⟨a, cap, hv, ?_⟩
  rcases h with h | ⟨b2, off, ha, hlt, hc⟩
  · exact Or.inl h
  · by_cases hl : l = []
    · exact Or.inl hl
    have hne : ¬ S b2 := ho hl b2 (by rw [hv, ha]; rfl)
    refine Or.inr ⟨b2, off, ha, by have := hb.size; omega, fun i hi => ?_⟩
    obtain ⟨h1, h2, h3⟩ := hc i hi
    exact ⟨(hb.cell hlt hne).trans h1, (hb.cell hlt hne).trans h2, (hb.cell hlt hne).trans h3⟩
theorem AbvMap.free {B0 : Nat} {S : Nat → Prop} {w w' : World} {fb : Nat} {F : DataW Cel} (h : AbvMap B0 w fb F) (hb : ButS S w w') (hS : ∀ k, S k → k < B0) (hn : ¬ S fb) : AbvMap B0 w' fb F :=
  HoldsMap.move h (hb.block fb (HoldsMap.lt h) hn) (fun _ _ ⟨s, e, hs, ho⟩ => ⟨s, e, hs.free hb (fun hl kb hk hs => by have := ho hl kb hk; have := hS kb hs; omega), ho⟩)
theorem AbvMap.put {B0 : Nat} {w : World} {fb : Nat} {F : DataW Cel} (h : AbvMap B0 w fb F) : ∃ D, w.ownsMap Tryz.prog 9 heldR fb (size F) D ∧
    ∀ (w' : World) (n : Nat) (p : ByteArray) (c : Cel) (s : Value), p.size ≤ maxLen → IsVers w s c.l → (c.l ≠ [] → ∀ kb, s.ownBlock = some kb → B0 ≤ kb) →
      w'.ownsMap Tryz.prog 9 heldR fb n (D.put (kS p) (.held (.agg #[.int .u64 c.last, s]))) → w.grownBy w' (some fb) → AbvMap B0 w' fb (F.put (kS p) (.held c)) := by
  obtain ⟨D, ho, ha⟩ := h
  refine ⟨D, ho, fun w' n p c s hp hs hso ho' hg => ?_⟩
  have hnone := ownsMap_none ho
  exact HoldsMap.of ho' ((ha.mono (fun v c ⟨s, e, hs, hoff⟩ => ⟨s, e, hs.grown hg hnone, hoff⟩)).put strKeyed (ho.tidy strKeyed) ⟨_, keyS Tryz.underlying9 hp⟩ ⟨s, rfl, hs.grown hg hnone, hso⟩)
theorem AbvMap.nil {B0 : Nat} {w : World} {fb : Nat} (h : CelMap w fb (.map [])) : AbvMap B0 w fb (.map []) := by
  obtain ⟨D, ho, ha⟩ := h
  exact HoldsMap.of ho ⟨ha.canon, ha.keys, ha.sizes, fun k hk => by cases hk⟩
theorem own_ge {w : World} {B e k n : Nat} {v : Value} {xs : List Value} (h : w.ownsRow B e k v n xs) {kb : Nat} (hk : v.ownBlock = some kb) : B ≤ kb := by
  rcases h.2 with ⟨hv, _⟩ | ⟨g, cap, cur, hv, hB, _⟩
  · rw [hv] at hk; cases hk
  · rw [hv] at hk; cases hk; exact hB
def LoadF (l : List Rw) (M : DataW Cel) (B : Int) (t b : Nat) (q1 q2 : Int) (w : World) (e : Ending) (w' : World) : Prop :=
  ∃ (e0 : Int) (M' : DataW Cel) (B' : Int), e = .returned (.int .i64 e0) ∧ LoadE (rowsL M) l e0 (rowsL M') ∧ TabAt w' t b q1 q2 M' B' ∧ Good Tryz.prog 9 M' ∧ B' - bytesR (rowsL M') = B - bytesR (rowsL M) ∧ size M' ≤ size M + l.length ∧ B ≤ B' ∧ B' ≤ B + l.length * 33000 ∧ ButS (fun k => k = t ∨ k = b) w w' ∧ AbvMap w.heap.size w' b M'
theorem LoadF.same {l : List Rw} {M : DataW Cel} {B : Int} {t b : Nat} {q1 q2 : Int} {w w' : World} (h : TabAt w t b q1 q2 M B) (hg : Good Tryz.prog 9 M) (hA : AbvMap w.heap.size w b M) (hb : Below w.heap.size w w') (e0 : Int) (hl : LoadE (rowsL M) l e0 (rowsL M)) : LoadF l M B t b q1 q2 w (.returned (.int .i64 e0)) w' :=
  ⟨e0, M, B, rfl, hl, h.below hb, hg, rfl, by omega, by omega, by omega, ButS.of hb, hA.below hb⟩

set_option maxRecDepth 100000 in
set_option maxHeartbeats 4000000 in
theorem tab_loadF (w : World) {t b : Nat} {q1 q2 B : Int} {M : DataW Cel} (h : TabAt w t b q1 q2 M B) (hg : Good Tryz.prog 9 M) (hAb : AbvMap w.heap.size w b M) (hm : MX w) (v : Value) (l : List (ByteArray × Cel)) (hv : IsRows w v l) (hl : l.length ≤ 1048576)
    (hwf : RowsWf l) (hp : ∀ i, i < l.length → (l.getD i dR).1.size ≤ 140737488351232 ∧ (l.getD i dR).2.l.length ≤ 8796093022208) (hsM : size M ≤ 1073741824) (hB0 : -1125899906842624 ≤ B) (hB1 : B ≤ 1125899906842624) :
    Calls Tryz.prog 13 #[.pointer (some ⟨t, 0, none⟩), v] w (LoadF l M B t b q1 q2 w) := by
  have HAb := Lib.hid hAb; clear hAb
  obtain ⟨a, cap, rfl, hcc⟩ := hv
  have Hmade := Lib.hid (tab_made w h)
  have HC := Lib.hid hcc; have Hp := Lib.hid hp; have HG := Lib.hid hg; have HM := Lib.hid hm; have HT := Lib.hid h; have Hwf := Lib.hid hwf; clear hcc hp hg hm h hwf
  have hmm := @run_makeMap Tryz.prog
  go_enter Tryz.func13, Tryz.ntmps13
  go_wp2_with fail
  refine Hmade.out.mono ?_
  rintro e w1 ⟨rfl, hb1⟩
  have Hb1 := Lib.hid hb1; clear hb1
  go_wp2_with fail
  go_loopw [19] (fun i wr => ∃ k : Nat, k ≤ l.length ∧ i = .int .i64 k ∧ Hid (∀ j, j < k → OkRow (l.getD j dR)) ∧ Hid (Below w.heap.size w wr)) (fun i _ => l.length - (intOf i).toNat)
  case atStart => exact ⟨0, Nat.zero_le _, rfl, Lib.hid (fun j hj => by omega), Hb1⟩
  case round =>
    obtain ⟨k, hk, rfl, hok, hbw⟩ := hrel
    by_cases hlt : k < l.length
    · rcases HC.out with hn | ⟨bl, off, rfl, hbl, hcc⟩
      · subst hn; simp at hlt
      have hltI : (k : Int) < (l.length : Int) := by omega
      obtain ⟨g0, g1, s, g2, hs⟩ := hcc k hlt
      have e0 := (hbw.out.cell (p := ⟨bl, off + k * 3, none⟩) hbl).trans g0
      have e1 := (hbw.out.cell (p := ⟨bl, off + k * 3 + 1, none⟩) hbl).trans g1
      have e2 := (hbw.out.cell (p := ⟨bl, off + k * 3 + 2, none⟩) hbl).trans g2
      have hs' := hs.below hbw.out (Nat.le_refl _)
      obtain ⟨hp1, hp2⟩ := Hp.out k hlt
      obtain ⟨x, hx⟩ : ∃ x, x = l.getD k dR := ⟨_, rfl⟩
      rw [← hx] at e0 e1 hs' hp1 hp2
      have Hx := Lib.hid hx
      clear hx g0 g1 g2 hs hcc
      have Hs := Lib.hid hs'
      obtain ⟨va, vc, rfl, _⟩ := hs'
      go_upto_region 6 with fail
      refine wp_abs (F := fun W => One wr.heap.size #[.string x.1, .int .u64 x.2.last, .slice va x.2.l.length vc] W ∧ Below wr.heap.size wr W) ⟨One.of _ _ _, (Below.refl _ _).alloc (Nat.le_refl _) _⟩ ?_
      rintro WB ⟨hB, hbB⟩
      have y0 := hB.c 0; have y1 := hB.c 1; have y2 := hB.c 2
      simp at y0 y1 y2
      have hbW := hbw.out.trans (hbB.mono hbw.out.size)
      have HB := Lib.hid hB; have HbB := Lib.hid hbB; have HbW := Lib.hid hbW; clear hB hbB hbW e0 e1 e2
      go_wp2_with fail
      refine (path_may x.1 hp1 _ (HM.out.below HbW.out (Nat.le_refl _))).mono ?_
      rintro e w2 ⟨rfl, hb2⟩
      have hB2 := HB.out.step hb2
      clear y0 y1 y2
      have y0 := hB2.c 0; have y1 := hB2.c 1; have y2 := hB2.c 2
      simp at y0 y1 y2
      have Hb2 := Lib.hid (HbW.out.trans (hb2.mono HbW.out.size)); have HB2 := Lib.hid hB2
      have Hs2 := Lib.hid (Hs.out.below (HbB.out.trans (hb2.mono HbB.out.size)) (Nat.le_refl _)); clear hb2 hB2
      cases hpm : mayL x.1.data.toList with
      | false =>
        have HPM := Lib.hid hpm
        go_wp2_with fail
        go_ret
        exact LoadF.same HT.out HG.out HAb.out Hb2.out 2 (.arg ⟨k, hlt, fun h => by
          have h1 := h.1
          rw [← Hx.out] at h1
          unfold mayP at h1
          rw [HPM.out] at h1; cases h1⟩)
      | true =>
        go_wp2_with fail
        refine (cell_may x.2 _ _ Hs2.out (by omega)).mono ?_
        rintro e w3 ⟨rfl, hb3⟩
        have hB3 := HB2.out.step hb3
        clear y0 y1 y2
        have y2 := hB3.c 2
        simp at y2
        have Hb3 := Lib.hid (Hb2.out.trans (hb3.mono Hb2.out.size)); clear hb3 hB3
        cases hcm : mayC x.2 with
        | false =>
          have HCM := Lib.hid hcm
          go_wp2_with fail
          go_ret
          exact LoadF.same HT.out HG.out HAb.out Hb3.out 2 (.arg ⟨k, hlt, fun h => by
            have h1 := h.2.1
            rw [← Hx.out, HCM.out] at h1; cases h1⟩)
        | true =>
          by_cases h0 : x.2.l.length = 0
          · have hB0' : ((x.2.l.length : Int) == 0) = true := by simp [h0]
            have H0 := Lib.hid h0
            clear h0
            go_wp2_with fail
            go_ret
            exact LoadF.same HT.out HG.out HAb.out Hb3.out 2 (.arg ⟨k, hlt, fun h => h.2.2 (by rw [← Hx.out]; exact List.length_eq_zero_iff.1 H0.out)⟩)
          · have hB0' : ((x.2.l.length : Int) == 0) = false := by rw [beq_eq_false_iff_ne]; omega
            have hok1 : OkRow x := ⟨hpm, hcm, fun e => h0 (by rw [e]; rfl)⟩
            have Hok1 := Lib.hid hok1; clear h0 hok1
            go_wp2_with fail
            go_roundw
            case rel => exact ⟨k + 1, by omega, by go_num, Lib.hid (fun j hj => by
              rcases Nat.lt_or_ge j k with h | h
              · exact hok.out j h
              · obtain rfl : j = k := by omega
                rw [← Hx.out]; exact Hok1.out), Hb3⟩
            case measure => simp [intOf]; omega
    · have hge : (l.length : Int) ≤ (k : Int) := by omega
      have hkl : k = l.length := by omega
      have Hall : Hid (∀ j, j < l.length → OkRow (l.getD j dR)) := Lib.hid (by rw [← hkl]; exact hok.out)
      clear hkl
      obtain ⟨We, hWe⟩ : ∃ We, We = wr := ⟨_, rfl⟩
      subst hWe
      go_wp2_with fail
      go_loopw [44] (fun i wx => ∃ (k : Nat) (D : DataW Unit), k ≤ l.length ∧ i = .int .i64 k ∧ Hid (wx.ownsMap Tryz.prog 9 (plainElem Tryz.prog 3) We.heap.size k D) ∧ Hid (SeenRel l k D) ∧ Hid (∀ i, i < k → has M (kS (l.getD i dR).1) = false ∧ ∀ j, j < i → (l.getD j dR).1 ≠ (l.getD i dR).1) ∧ Hid (Below We.heap.size We wx)) (fun i _ => l.length - (intOf i).toNat)
      case atStart => exact ⟨0, .map [], Nat.zero_le _, rfl, Lib.hid (World.ownsMap_made _ _ _ _), Lib.hid (SeenRel.start l), Lib.hid (fun i hi => absurd hi (Nat.not_lt_zero _)), Lib.hid ((Below.refl _ _).alloc (Nat.le_refl _) _)⟩
      case round =>
        obtain ⟨k, D, hk, rfl, hown, hseen, hno, hbx⟩ := hrel
        have hbw2 : Below w.heap.size w wr := hbw.out.trans (hbx.out.mono hbw.out.size)
        have Hbw2 := Lib.hid hbw2
        by_cases hlt : k < l.length
        · rcases HC.out with hn | ⟨bl, off, rfl, hbl, hcc⟩
          · subst hn; simp at hlt
          have hltI : (k : Int) < (l.length : Int) := by omega
          obtain ⟨g0, g1, s, g2, hs⟩ := hcc k hlt
          have e0 := (hbw2.cell (p := ⟨bl, off + k * 3, none⟩) hbl).trans g0
          have e1 := (hbw2.cell (p := ⟨bl, off + k * 3 + 1, none⟩) hbl).trans g1
          have e2 := (hbw2.cell (p := ⟨bl, off + k * 3 + 2, none⟩) hbl).trans g2
          obtain ⟨hp1, hp2⟩ := Hp.out k hlt
          obtain ⟨x, hx⟩ : ∃ x, x = l.getD k dR := ⟨_, rfl⟩
          rw [← hx] at e0 e1 hs hp1 hp2
          have Hx2 := Lib.hid hx
          clear hx g0 g1 g2 hcc hbw2
          obtain ⟨va, vc, rfl, _⟩ := hs
          go_upto_region 13 with fail
          refine wp_abs (F := fun W => One wr.heap.size #[.string x.1, .int .u64 x.2.last, .slice va x.2.l.length vc] W ∧ Below wr.heap.size wr W) ⟨One.of _ _ _, (Below.refl _ _).alloc (Nat.le_refl _) _⟩ ?_
          rintro WB ⟨hB, hbB⟩
          have y0 := hB.c 0
          simp at y0
          have hTB := HT.out.below (Hbw2.out.trans (hbB.mono Hbw2.out.size))
          have d2 := hTB.c2
          obtain ⟨s11, is1, hi1, hs11, hl11, _⟩ := (hTB.below (w' := WB.drew) (Below.drew (Below.refl _ _))).m.look2 x.1 (by unfold maxLen; omega)
          obtain ⟨a11, c11, rfl, _⟩ := hs11
          have hbZ : Below WB.heap.size WB (WB.alloc (.cells #[.int .u64 0, .slice none 0 0] 46)).drew := Below.drew ((Below.refl _ _).alloc (Nat.le_refl _) _)
          obtain ⟨s12, is2, hi2, hs12, hl12, _⟩ := (hTB.below hbZ).m.look2 x.1 (by unfold maxLen; omega)
          obtain ⟨a12, c12, rfl, _⟩ := hs12
          have hbA : Below WB.heap.size WB (WB.alloc (.cells #[.int .u64 0, .slice none 0 0] 46)) := (Below.refl _ _).alloc (Nat.le_refl _) _
          have d2z := (hTB.below hbA).c2
          have y0z := (hB.step hbA).c 0
          simp at y0z
          have hne : ¬ wr.heap.size = WB.heap.size := by have := hB.lt; omega
          have hne2 : ¬ WB.heap.size = wr.heap.size := by have := hB.lt; omega
          have hbl2 := hB.lt
          have HB := Lib.hid hB; have HbB := Lib.hid hbB; clear hB hbB e0 e1 e2 hTB
          obtain ⟨hx0, hhx0⟩ : ∃ b, has M (kS x.1) = b := ⟨_, rfl⟩
          have HHX := Lib.hid hhx0
          rw [hhx0] at hi1 hi2
          subst is1 is2
          clear hhx0
          go_cut [11] (fun s11 wx => s11 = .bool hx0 ∧ Hid (One wr.heap.size #[.string x.1, .int .u64 x.2.last, .slice va x.2.l.length vc] wx ∧ Below wr.heap.size wr wx))
          case first =>
            go_region
            all_goals go_wp2_with fail
            all_goals go_meet
            all_goals refine ⟨rfl, Lib.hid ⟨?_, ?_⟩⟩
            all_goals first
              | exact (HB.out.step (Below.drew (Below.refl _ _))).step ((Below.refl _ _).alloc (Nat.le_refl _) _)
              | exact HB.out.step (Below.drew ((Below.refl _ _).alloc (Nat.le_refl _) _))
              | exact (HbB.out.trans ((Below.drew (Below.refl _ _)).mono HbB.out.size)).alloc (HbB.out.trans ((Below.drew (Below.refl _ _)).mono HbB.out.size)).size _
              | exact (HbB.out.alloc HbB.out.size _).drew
              | exact (((HB.out.step hbA).far (p := ⟨WB.heap.size, 0, none⟩) (by dsimp only; omega) _).far (p := ⟨WB.heap.size, 1, none⟩) (by dsimp only; omega) _).step (Below.drew (Below.refl _ _))
              | exact (((HbB.out.alloc HbB.out.size _).setCell (p := ⟨WB.heap.size, 0, none⟩) (by dsimp only; omega) _).setCell (p := ⟨WB.heap.size, 1, none⟩) (by dsimp only; omega) _).drew
              | skip
          case rest =>
            obtain ⟨rfl, HX⟩ := hcut
            have y0 := HX.out.1.c 0
            simp at y0
            have hownc := ownsMap_below hown.out HX.out.2 hown.out.lt
            have hkey := keyS (s := x.1) Tryz.underlying9 (by unfold maxLen; omega)
            have hbc := Hbw2.out.trans (HX.out.2.mono Hbw2.out.size)
            have Hbc := Lib.hid hbc; clear hbc d2 hl11
            cases hx0 with
            | true =>
              go_wp2_with fail
              go_ret
              exact LoadF.same HT.out HG.out HAb.out Hbc.out 8 (.dup Hall.out ⟨k, hlt, Or.inl ⟨(x.1, cellAt M x.1), (rows_mem HG.out.canon _).2 ⟨HHX.out, rfl⟩, by rw [← Hx2.out]⟩⟩)
            | false =>
              obtain ⟨cc, hrunc, hccd, _⟩ := hownc.lookup_int strKeyed (t := 116) Tryz.underlying116 Tryz.underlying3 (zeroIntM _) hkey
              go_upto_if 65 with fail
              by_cases hcc : 0 < cc
              · have HCC := Lib.hid hcc
                have HCD := Lib.hid hccd
                clear hccd
                go_wp2_with fail
                go_ret
                refine LoadF.same HT.out HG.out HAb.out Hbc.out 8 (.dup Hall.out ⟨k, hlt, Or.inr ?_⟩)
                have he : cc = seenN l k x.1 := by
                  have := (hseen.out.2 x.1).symm.trans HCD.out
                  injection this with this
                  injection this with _ this
                  exact this.symm
                obtain ⟨j, hj, _, hje⟩ := seen_pos (by rw [← he]; exact HCC.out)
                exact ⟨j, hj, by rw [← Hx2.out]; exact hje⟩
              · have hkl2 : k < maxLen := by unfold maxLen; omega
                have HCC := Lib.hid hcc
                have HCD := Lib.hid hccd
                clear hccd
                go_wp2_with (first
                  | (at_mapUpdate; refine wpList_mapUpdate_own _ rfl _ _ _ 116 rfl 9 3 strKeyed Tryz.underlying116 _ We.heap.size k _ rfl hownc hkl2 _ _ _ rfl rfl hkey _ [] (plainElem_int Tryz.underlying3 (wrap64_wf _)) ?_; intro w7 hown7 hg7)
                  | fail)
                go_roundw
                case rel => exact ⟨k + 1, _, by omega, by go_num, Lib.hid hown7, Lib.hid (hseen.out.step hlt Hx2.out.symm HCD.out HCC.out), Lib.hid (fun i hi => by
                  have he : cc = seenN l k x.1 := by
                    have := (hseen.out.2 x.1).symm.trans HCD.out
                    injection this with this
                    injection this with _ this
                    exact this.symm
                  rcases Nat.lt_or_ge i k with h | h
                  · exact hno.out i h
                  · obtain rfl : i = k := by omega
                    rw [← Hx2.out]
                    exact ⟨HHX.out, seen_not (by rw [← he]; exact HCC.out) hk⟩), Lib.hid ((hbx.out.trans (HX.out.2.mono hbx.out.size)).grown hg7 (hbx.out.trans (HX.out.2.mono hbx.out.size)).size (fun j hj => by cases hj; exact Nat.le_refl _))⟩
                case measure => simp [intOf]; omega
        · have hge : (l.length : Int) ≤ (k : Int) := by omega
          have HNO : Hid (∀ i, i < l.length → has M (kS (l.getD i dR).1) = false ∧ ∀ j, j < i → (l.getD j dR).1 ≠ (l.getD i dR).1) := Lib.hid (fun i hi => hno.out i (by omega))
          clear hno hseen
          obtain ⟨Wf, hWf⟩ : ∃ Wf, Wf = wr := ⟨_, rfl⟩
          subst hWf
          have HTf := Lib.hid (HT.out.below Hbw2.out)
          have HAf := Lib.hid (HAb.out.below Hbw2.out)
          have HWs : Hid (w.heap.size ≤ Wf.heap.size ∧ t < w.heap.size) := Lib.hid ⟨Hbw2.out.size, HT.out.lt⟩
          have HCf : Hid (IsRows Wf (.slice a l.length cap) l) := Lib.hid (IsRows.below ⟨a, cap, rfl, HC.out⟩ Hbw2.out (Nat.le_refl _))
          clear hbw2
          go_wp2_with fail
          go_loopw [74] (fun i wx => ∃ (k : Nat) (M' : DataW Cel) (B' : Int), k ≤ l.length ∧ i = .int .i64 k ∧ Hid (TabAt wx t b q1 q2 M' B') ∧ Hid (Good Tryz.prog 9 M') ∧ Hid (rowsL M' = (l.take k).foldl withR (rowsL M) ∧ B' - bytesR (rowsL M') = B - bytesR (rowsL M) ∧ ∀ q : ByteArray, has M' (kS q) = true → has M (kS q) = true ∨ ∃ j, j < k ∧ (l.getD j dR).1 = q) ∧ Hid (size M' ≤ size M + k ∧ B ≤ B' ∧ B' ≤ B + k * 33000) ∧ Hid (ButS (fun k => k = t ∨ k = b) Wf wx) ∧ Hid (AbvMap w.heap.size wx b M')) (fun i _ => l.length - (intOf i).toNat)
          case atStart => exact ⟨0, M, B, Nat.zero_le _, rfl, HTf, HG, Lib.hid ⟨rfl, rfl, fun q hq => Or.inl hq⟩, Lib.hid ⟨by omega, by omega, by omega⟩, Lib.hid (ButS.of (Below.refl _ _)), HAf⟩
          case round =>
            obtain ⟨k, M', B', hk, rfl, hT, hGM, hrel2, hbd, hbut, hA⟩ := hrel
            by_cases hlt : k < l.length
            · obtain ⟨a', cap', ha', hcc⟩ := HCf.out.but hbut.out (fun k hk => by rcases hk with rfl | rfl; exact HTf.out.bare; exact HTf.out.m.bare)
              obtain ⟨rfl, rfl⟩ : a' = a ∧ cap' = cap := by injection ha' with h1 h2 h3; exact ⟨h1.symm, h3.symm⟩
              rcases hcc with hn | ⟨bl, off, rfl, hbl, hcc⟩
              · subst hn; simp at hlt
              have hltI : (k : Int) < (l.length : Int) := by omega
              obtain ⟨e0, e1, s, e2, hs⟩ := hcc k hlt
              have hokx := Hall.out k hlt
              have hwfx := Hwf.out k hlt
              have hnox := HNO.out k hlt
              have hfold := foldl_take (R := rowsL M) hlt
              obtain ⟨x, hx⟩ : ∃ x, x = l.getD k dR := ⟨_, rfl⟩
              rw [← hx] at e0 e1 hs hokx hwfx hnox hfold
              have Hx3 := Lib.hid hx
              have hnew : has M' (kS x.1) = false := by
                cases hh : has M' (kS x.1) with
                | false => rfl
                | true =>
                  rcases hrel2.out.2.2 _ hh with h | ⟨j, hj, he⟩
                  · rw [hnox.1] at h; cases h
                  · exact absurd he (hnox.2 j hj)
              have hKx := keysOf_path hokx.1
              have hputr := rows_put hGM.out.canon hKx x.2
              have hputb := bytes_put hGM.out hKx (d := x.2) hokx.2.2
              rw [cellAt_none hnew] at hputb
              have HFX : Hid (rowsL (M'.put (kS x.1) (.held x.2)) = (l.take (k + 1)).foldl withR (rowsL M)) := Lib.hid (by rw [hputr, hfold, hrel2.out.1])
              have HPB : Hid ((bytesR (rowsL (M'.put (kS x.1) (.held x.2))) : Int) = bytesR (rowsL M') + (weightE x.1 x.2 : Int)) := Lib.hid (by
                have h0 : weightE x.1 (⟨0, []⟩ : Cel) = 0 := rfl
                rw [hputb, h0]; simp)
              have HNX : Hid (∀ q : ByteArray, has (M'.put (kS x.1) (.held x.2)) (kS q) = true → has M (kS q) = true ∨ ∃ j, j < k + 1 ∧ (l.getD j dR).1 = q) := Lib.hid (fun q hq => by
                by_cases e : q = x.1
                · exact Or.inr ⟨k, Nat.lt_succ_self k, by rw [← Hx3.out, e]⟩
                · rw [Maps.has_put_other (kS_ne e)] at hq
                  rcases hrel2.out.2.2 _ hq with h | ⟨j, hj, he⟩
                  · exact Or.inl h
                  · exact Or.inr ⟨j, by omega, he⟩)
              clear hx hcc hnox hfold hnew hKx hputr hputb
              have Hs := Lib.hid hs
              obtain ⟨va, vc, rfl, _⟩ := hs
              obtain ⟨o1, o2, o3⟩ := hokx
              have hp128 := mayP_size o1
              have hl8 := may_len o2
              have hGP := Lib.hid (hGM.out.putRow ⟨o1, o2, o3⟩ hwfx)
              go_upto_region 21 with fail
              refine wp_abs (F := fun W => One wr.heap.size #[.string x.1, .int .u64 x.2.last, .slice va x.2.l.length vc] W ∧ Below wr.heap.size wr W) ⟨One.of _ _ _, (Below.refl _ _).alloc (Nat.le_refl _) _⟩ ?_
              rintro WB ⟨hB, hbB⟩
              have y0 := hB.c 0; have y1 := hB.c 1; have y2 := hB.c 2
              simp at y0 y1 y2
              have hTB := hT.out.below hbB
              have HAB := Lib.hid (hA.out.below hbB)
              have HBs : Hid (w.heap.size ≤ WB.heap.size) := Lib.hid (by have h1 := HWs.out.1; have h2 := hbut.out.size; have h3 := hbB.size; omega)
              have d2 := hTB.c2
              have hlB := hB.lt
              have hlT := hTB.lt
              have hlW := hT.out.lt
              have hlWb := HoldsMap.lt hT.out.m
              have hne0 := hT.out.ne
              have hkey := keyS (s := x.1) Tryz.underlying9 (by unfold maxLen; omega)
              have hlen : size M' < maxLen := by have := hbd.out.1; unfold maxLen; omega
              have HsB := Lib.hid (Hs.out.below hbB (Nat.le_refl _))
              have HsD := Lib.hid (HsB.out.below (w' := WB.drew) (Below.drew (Below.refl _ _)) (Nat.le_refl _))
              have HB := Lib.hid hB; have HbB := Lib.hid hbB; have HTB := Lib.hid hTB; clear hB hbB hTB e0 e1 e2
              go_cut [] (fun wx => Hid (One wr.heap.size #[.string x.1, .int .u64 x.2.last, .slice va x.2.l.length vc] wx ∧ ButS (fun k => k = b) WB wx ∧ AbvMap w.heap.size wx b (M'.put (kS x.1) (.held x.2))))
              case first =>
                go_region_with (first
                  | (go_at_call 46; refine (tab_copied x.2 _ _ HsD.out (by omega)).mono ?_; rintro e w4 ⟨v4, rfl, hown4, hb4⟩; obtain ⟨a4, c4, rfl⟩ := ownShape hown4; have d2 : w4.cell? ⟨t, 2, none⟩ = some (.map (some b)) := (hb4.cell hlT).trans d2; have y0 : w4.cell? ⟨wr.heap.size, 0, none⟩ = some (.string x.1) := (hb4.cell hlB).trans y0; have hC4 := (HAB.out.below (w' := WB.drew) (Below.drew (Below.refl _ _))).below hb4; obtain ⟨DX, hownX, hputX⟩ := hC4.put; have Hown4 := Lib.hid hown4; have Hb4 := Lib.hid hb4; obtain ⟨w7, hrun7, hown7, hg7⟩ := hownX.update (t := 103) (e := 46) strKeyed Tryz.underlying103 hlen (key := .string x.1) (val := .agg #[.int .u64 x.2.last, .slice a4 x.2.l.length c4]) (d := .held (.agg #[.int .u64 x.2.last, .slice a4 x.2.l.length c4])) (ps := []) hkey rfl; clear hown4 hb4 hC4))
                all_goals go_wp2_with fail
                all_goals go_meet
                all_goals (
                  have hbd4 : Below WB.heap.size WB w4 := (Below.drew (Below.refl _ _)).trans (Hb4.out.mono (Nat.le_refl _))
                  exact Lib.hid ⟨((HB.out.step hbd4).grown hg7 (by have := hlWb; omega)), (ButS.of hbd4).trans (ButS.grown hg7 rfl), hputX w7 _ x.1 x.2 _ (by unfold maxLen; omega) (IsVers.own Hown4.out) (fun _ kb hk => Nat.le_trans HBs.out (own_ge Hown4.out hk)) hown7 hg7⟩)
              case rest =>
                obtain ⟨hO, hbu, hN⟩ := hcut.out
                have hnb : t ≠ b := hne0
                have hTc : ∀ j, wc.cell? ⟨t, j, none⟩ = WB.cell? ⟨t, j, none⟩ := fun j => hbu.cell (p := ⟨t, j, none⟩) hlT hnb
                have c3 := (hTc 3).trans HTB.out.c3
                have f3 : wc.frozen? ⟨t, 3, none⟩ = false := (hbu.frozen (p := ⟨t, 3, none⟩) hlT hnb).trans HTB.out.f3
                have y0 := hO.c 0; have y1 := hO.c 1; have y2 := hO.c 2
                simp at y0 y1 y2
                have hlO := hO.lt
                have hltc : t < wc.heap.size := Nat.lt_of_lt_of_le hlT hbu.size
                have hbox : wr.heap.size ≠ t := by omega
                have HsC := Lib.hid ((HsB.out.but hbu (fun k hk => by subst hk; exact HTB.out.m.noVers)).below (w' := wc.drew) (Below.drew (Below.refl _ _)) (Nat.le_refl _))
                have hwd := weight_le (p := x.1) o2 hp128
                have HW := Lib.hid (tab_weight x.1 x.2 _ wc.drew HsC.out (by omega) (may_sizes o2) (by have := may_size o2; omega) (by omega))
                obtain ⟨wd, hwdE⟩ : ∃ z, z = weightE x.1 x.2 := ⟨_, rfl⟩
                rw [← hwdE] at hwd HW
                have hb1 := hbd.out.2.1; have hb2 := hbd.out.2.2
                have hwr : IntKind.i64.wrap (B' + (wd : Int)) = B' + (wd : Int) := by rw [IntKind.wrap_i64]; omega
                have hTc3 := Lib.hid hTc; have Hbu := Lib.hid hbu; have HN := Lib.hid hN; have HO := Lib.hid hO; have Hbd := Lib.hid (And.intro hb1 hb2)
                have HPB2 : Hid ((bytesR (rowsL (M'.put (kS x.1) (.held x.2))) : Int) = bytesR (rowsL M') + (wd : Int)) := Lib.hid (by rw [hwdE]; exact HPB.out)
                clear hTc hbu hN hO hcut hb1 hb2 hwdE
                go_wp2_with fail
                go_region_with (go_at_call 49; refine HW.out.mono ?_; rintro e w5 ⟨rfl, hb5⟩; have c3 : w5.cell? ⟨t, 3, none⟩ = some (.int .i64 B') := (hb5.cell (p := ⟨t, 3, none⟩) hltc).trans c3; have f3 : w5.frozen? ⟨t, 3, none⟩ = false := (hb5.frozen (p := ⟨t, 3, none⟩) hltc).trans f3; have y0 : w5.cell? ⟨wr.heap.size, 0, none⟩ = some (.string x.1) := (hb5.cell (p := ⟨wr.heap.size, 0, none⟩) hlO).trans y0; have Hb5 := Lib.hid hb5; clear hb5)
                all_goals go_wp2_with fail
                all_goals go_roundw
                all_goals first
                  | (simp [intOf]; omega)
                  | (have hb5f : Below wc.heap.size wc w5 := (Below.drew (Below.refl _ _)).trans (Hb5.out.mono (Nat.le_refl _))
                     have hs1 := Maps.size_put (k := kS x.1) (canonK_tidy hGM.out.canon) (.held x.2)
                     have hs2 : size (M'.put (kS x.1) (.held x.2)) ≤ size M' + 1 := by rw [hs1]; split <;> omega
                     have h0 := hbd.out.1; have h1 := Hbd.out.1; have h2 := Hbd.out.2
                     refine ⟨k + 1, M'.put (kS x.1) (.held x.2), B' + (wd : Int), by omega, by go_num, Lib.hid (hT.out.setBytes (fun j => (hb5f.cell (p := ⟨t, j, none⟩) hltc).trans ((hTc3.out j).trans (HbB.out.cell (p := ⟨t, j, none⟩) hlW))) f3 (HN.out.below hb5f).map), hGP, Lib.hid ⟨HFX.out, by rw [HPB2.out]; have := hrel2.out.2.1; omega, HNX.out⟩, Lib.hid ⟨by omega, by omega, by push_cast; omega⟩, Lib.hid ?_, Lib.hid ((HN.out.below hb5f).free (S := fun k => k = t) (ButS.set (S := fun k => k = t) w5 (p := ⟨t, 3, none⟩) rfl _) (fun k hk => by have := HWs.out.2; omega) (fun e => hne0 e.symm))⟩
                     exact (((hbut.out.trans (ButS.of HbB.out)).trans (Hbu.out.mono (fun k hk => Or.inr hk))).trans (ButS.of hb5f)).trans (ButS.set w5 (p := ⟨t, 3, none⟩) (Or.inl rfl) _))
            · have hge : (l.length : Int) ≤ (k : Int) := by omega
              have Hkl : Hid (k = l.length) := Lib.hid (by omega)
              go_wp2_with fail
              go_ret
              have h1 := hbd.out
              have h2 := hrel2.out
              rw [Hkl.out] at h1 h2
              rw [List.take_length] at h2
              refine ⟨0, M', B', rfl, ?_, hT.out, hGM.out, h2.2.1, h1.1, h1.2.1, h1.2.2, (ButS.of Hbw2.out).trans hbut.out, hA.out⟩
              rw [h2.1]
              exact .ok Hall.out (fun i hi => ⟨fun y hy he => (by
                have h3 := ((rows_mem HG.out.canon y).1 hy).1
                rw [he, (HNO.out i hi).1] at h3; cases h3), (HNO.out i hi).2⟩)
end Go.Proofs.YtfbgnpfhjbiikaaGreatDoor

namespace Go.Proofs.YtfbgnpfhjbiikaaGreatDoor
open Go Go.RowKit
open Go.Maps (has size Canon CanonK Tidy IsMap KeysOf Keyed Merged)
def RowsOwn (B : Nat) (w : World) (T : List (Rw × Value)) (o : Option Nat) : Prop := ∀ x ∈ T, w.ownsRow B 50 3 x.2 x.1.2.l.length (flat x.1.2.l) ∧ ∀ kb, x.2.ownBlock = some kb → o ≠ some kb
theorem RowsOwn.below {B : Nat} {w w' : World} {T : List (Rw × Value)} {o : Option Nat} (h : RowsOwn B w T o) (hb : Below w.heap.size w w') : RowsOwn B w' T o := fun x hx => ⟨ownBelow (h x hx).1 hb, (h x hx).2⟩
theorem own_lt {w : World} {B e n k : Nat} {v : Value} {xs : List Value} (h : w.ownsRow B e k v n xs) {kb : Nat} (hk : v.ownBlock = some kb) : kb < w.heap.size := by
  rcases h.2 with ⟨hv, _⟩ | ⟨g, cap, cur, hv, hB, hg, _⟩
  · rw [hv] at hk; cases hk
  · rw [hv] at hk; cases hk; exact lt_of_block hg
theorem own_off {w w' : World} {B e n k : Nat} {v : Value} {xs : List Value} {o : Option Nat} (h : w.ownsRow B e k v n xs) (hg : w.grownBy w' o) (ho : ∀ kb, v.ownBlock = some kb → o ≠ some kb) : w'.ownsRow B e k v n xs := by
  refine ⟨h.1, ?_⟩
  rcases h.2 with hn | ⟨g, cap, cur, hv, hBg, hc, rest⟩
  · exact Or.inl hn
  · exact Or.inr ⟨g, cap, cur, hv, hBg, (hg.block g (lt_of_block hc) (fun e => ho g (by rw [hv]; rfl) e.symm)).trans hc, rest⟩
theorem RowsOwn.row {B : Nat} {w w' : World} {T : List (Rw × Value)} {o o' : Option Nat} (h : RowsOwn B w T o) (hg : w.grownBy w' o) (ho : o' = o ∨ o' = some w.heap.size) : RowsOwn B w' T o' := by
  intro x hx
  obtain ⟨h1, h2⟩ := h x hx
  refine ⟨own_off h1 hg h2, fun kb hk => ?_⟩
  rcases ho with rfl | rfl
  · exact h2 kb hk
  · intro e
    have := own_lt h1 hk
    cases e; omega
theorem RowsOwn.off {B : Nat} {w : World} {T : List (Rw × Value)} {o : Option Nat} (h : RowsOwn B w T o) : RowsOff w T o := fun x hx => ⟨IsVers.own (h x hx).1, fun _ => (h x hx).2⟩
def RowsO (M : DataW Cel) (w : World) (e : Ending) (w' : World) : Prop :=
  ∃ v T, e = .returned v ∧ w'.ownsRow w.heap.size 48 3 v T.length (rowCells T) ∧ T.map (·.1) = rowsL M ∧ RowsOwn w.heap.size w' T v.ownBlock ∧ Below w.heap.size w w'

set_option maxRecDepth 100000 in
set_option maxHeartbeats 2000000 in
theorem tab_rowsO (w : World) {t b : Nat} {q1 q2 B : Int} {M : DataW Cel} (h : TabAt w t b q1 q2 M B) (hg : Good Tryz.prog 9 M) (hsM : size M ≤ 1073741824) :
    Calls Tryz.prog 12 #[.pointer (some ⟨t, 0, none⟩)] w (RowsO M w) := by
  have Hmade := Lib.hid (tab_made w h)
  have HG := Lib.hid hg; have HT := Lib.hid h; clear hg h
  go_enter Tryz.func12, Tryz.ntmps12
  go_wp2_with fail
  refine Hmade.out.mono ?_
  rintro e w1 ⟨rfl, hb1⟩
  have h1 := HT.out.below hb1
  have c2 := h1.c2
  have hm1 := h1.m
  obtain ⟨D, hownD, hal⟩ := hm1
  have hK := callsIn_wide.1 (Tryz.maps_Keys_45 (some b) w1)
  have hS := callsIn_wide.1 (Tryz.slices_Sorted_keys_44_45 b (size M) D _ w1 hownD (by rw [hal.sizes]; unfold maxLen; omega) (by rw [hal.sizes]; omega))
  have Hkeys := Lib.hid (fun (ss : List (List UInt8)) (hs : ss.Perm (strKeys D)) => keysL_of (hownD.canonK strKeyed) hal.canon hal.keys hs)
  have HT1 := Lib.hid h1; have Hb1 := Lib.hid hb1; have HK := Lib.hid hK; have HS := Lib.hid hS
  clear h1 hb1 hK hS hal hownD
  go_wp2_with fail
  refine (HK.out).mono ?_
  rintro e w2 ⟨rfl, rfl⟩
  go_wp2_with fail
  refine (HS.out).mono ?_
  rintro e w3 ⟨v3, ss, rfl, hperm, hrow, _, hb3⟩
  have hv3 : IsStrs w3 v3 ((keysL M).map bs) := IsStrs.own (B := (w1.alloc (.cells #[.map (some b)] 103)).heap.size) (e := 9) (by rw [← Hkeys.out ss hperm, List.length_map, List.length_mergeSort, List.map_map]; exact hrow)
  have hb13 : Below w1.heap.size w1 w3 := ((Below.refl _ w1).alloc (Nat.le_refl _) _).trans (hb3.mono (by simp))
  have Hmem := Lib.hid (fun x (hx : x ∈ keysL M) => keysL_mem HG.out.canon hx)
  have hkl : (keysL M).length ≤ 1073741824 := by rw [keysL_length HG.out.canon]; exact hsM
  have Hrows : Hid (rowsL M = (keysL M).map (rowAt M)) := Lib.hid rfl
  generalize keysL M = ks at hv3 Hmem hkl Hrows
  obtain ⟨a3, c3, rfl, hc3⟩ := hv3
  have Hc3 := Lib.hid hc3; have Hb13 := Lib.hid hb13
  clear hc3 hb13 hrow hperm hb3 HS HK Hkeys
  obtain ⟨i0, hi, hz0, hz1, hz2⟩ := info_parts infoRow
  rw [List.length_map]
  go_wp2_with fail
  go_loopw [2, 15] (fun s2 i wr => ∃ (k : Nat) (T : List ((ByteArray × Cel) × Value)), k ≤ ks.length ∧ i = .int .i64 k ∧ (∃ a c, s2 = .slice a T.length c) ∧ Hid (T.map (·.1) = (ks.take k).map (rowAt M)) ∧ Hid (T.length = k) ∧ Hid (wr.ownsRow w3.heap.size 48 3 s2 T.length (rowCells T)) ∧ Hid (RowsOwn w3.heap.size wr T s2.ownBlock) ∧ Hid (Below w3.heap.size w3 wr)) (fun _ i _ => ks.length - (intOf i).toNat)
  case atStart => exact ⟨0, [], Nat.zero_le _, rfl, ⟨none, 0, rfl⟩, Lib.hid rfl, Lib.hid rfl, Lib.hid (World.ownsRow_nil _ _ _ _), Lib.hid (fun x hx => by cases hx), Lib.hid (Below.refl _ _)⟩
  case round =>
    obtain ⟨k, T, hk, rfl, ⟨a2, c2', rfl⟩, hmap, hTk, hrow, hoff, hbw⟩ := hrel
    have hw1r : Below w1.heap.size w1 wr := Hb13.out.trans (hbw.out.mono Hb13.out.size)
    have hTr := HT1.out.below hw1r
    by_cases hlt : k < ks.length
    · rcases Hc3.out with hn | ⟨b3, o3, rfl, hl3, hcc⟩
      · have := congrArg List.length hn; simp at this; rw [this] at hlt; simp at hlt
      have hcell := (hbw.out.cell (p := ⟨b3, o3 + k, none⟩) hl3).trans (hcc k (by rw [List.length_map]; exact hlt))
      clear hcc
      have hkx : ks.getD k [] ∈ ks := by rw [List.getD_eq_getElem?_getD, List.getElem?_eq_getElem hlt]; exact List.getElem_mem hlt
      have hgd : (ks.map bs).getD k ByteArray.empty = bs (ks.getD k []) := by
        rw [List.getD_eq_getElem?_getD, List.getD_eq_getElem?_getD, List.getElem?_map, List.getElem?_eq_getElem hlt]; rfl
      rw [hgd] at hcell
      have hhas := Hmem.out _ hkx
      have htake : ks.take (k + 1) = ks.take k ++ [ks.getD k []] := by
        rw [List.take_succ_eq_append_getElem hlt, List.getD_eq_getElem?_getD, List.getElem?_eq_getElem hlt]; rfl
      obtain ⟨x, hx⟩ : ∃ x, x = ks.getD k [] := ⟨_, rfl⟩
      rw [← hx] at hcell hhas htake
      clear hx hkx hgd
      obtain ⟨p', c', ep, _, _, _, _, hmp⟩ := HG.out.cells _ hhas
      have hps : (bs x).size ≤ 128 := by rw [kS_inj ep]; exact mayP_size hmp
      have c2 := hTr.c2
      obtain ⟨s, is, _, hs, _, hl⟩ := hTr.m.look2 (bs x) (by unfold maxLen; omega)
      have hmay := (HG.out.cellAt (bs x)).1
      obtain ⟨cN, hcN⟩ : ∃ c, c = cellAt M (bs x) := ⟨_, rfl⟩
      rw [← hcN] at hl hs hmay
      have hl8 := may_len hmay
      have Hs := Lib.hid hs
      obtain ⟨as1, cs1, rfl, _⟩ := hs
      obtain ⟨p, hp⟩ : ∃ p, p = bs x := ⟨_, rfl⟩
      have HcN := Lib.hid hcN; have Htake := Lib.hid htake; have HTr := Lib.hid hTr; have Hlt := Lib.hid hlt
      rw [← hp] at hcell hl
      have Hp := Lib.hid hp
      have hTl : T.length ≤ 1073741824 := by have := hTk.out; omega
      have hlt2 : (k : Int) < (ks.length : Int) := by omega
      clear hcN htake hTr hhas hp ep hmp hps hw1r hmay
      go_wp2_with (first
        | (go_at_call 46; refine (tab_copied cN _ _ Hs.out (by omega)).mono ?_; rintro e w4 ⟨v4, rfl, hown4, hb4⟩; obtain ⟨a4, c4, rfl⟩ := ownShape hown4; have Hown4 := Lib.hid hown4; have Hb4 := Lib.hid hb4; clear hown4 hb4)
        | (at_builtin; refine wpList_append_lies _ rfl (.tmp 19) (.tmp 29) 26 rfl w3.heap.size 48 i0 (.agg #[.string ByteArray.empty, .int .u64 0, .slice none 0 0]) 3 48 Tryz.underlying26 hi hz0 hz1 hz2 rfl (by decide) _ T.length (rowCells T) rfl (ownBelow (ownBelow hrow.out Hb4.out) ((Below.refl _ _).alloc (Nat.le_refl _) _)) ⟨w4.heap.size, 0, none⟩ 1 1 [.string p, .int .u64 cN.last, .slice a4 cN.l.length c4] rfl rfl (World.news_of_block (MapKept.heap_alloc _ _).1) (by intro u hu; simp only [List.mem_cons, List.mem_nil_iff, or_false] at hu; rcases hu with rfl | rfl | rfl <;> rfl) (by decide) (by unfold maxLen; omega) (by omega) ?hbase (w4.heap.size + 1) (by simp) ?go; (case hbase => have h1 := hbw.out.size; have h2 := Hb4.out.size; simp; omega); intro g cp w8 hown8 hg8 hat hlt8)
        | fail)
      go_roundw
      case rel =>
        refine ⟨k + 1, T ++ [((p, cN), .slice a4 cN.l.length c4)], by have := Hlt.out; omega, by go_num, ⟨_, _, by rw [List.length_append]; rfl⟩, Lib.hid ?_, Lib.hid (by rw [List.length_append, hTk.out]; rfl), Lib.hid ?_, Lib.hid ?_, Lib.hid ?_⟩
        · rw [Htake.out, List.map_append, List.map_append, hmap.out, Hp.out, HcN.out]; rfl
        · rw [List.length_append, rowCells_append]; exact hown8
        · have hA : RowsOwn w3.heap.size (w4.alloc (.cells #[.string p, .int .u64 cN.last, .slice a4 cN.l.length c4] 48)) (T ++ [((p, cN), .slice a4 cN.l.length c4)]) (Value.slice a2 T.length c2').ownBlock := by
            intro y hy
            rcases List.mem_append.1 hy with hy | hy
            · exact ((hoff.out.below Hb4.out).below ((Below.refl _ _).alloc (Nat.le_refl _) _)) y hy
            · rcases List.mem_singleton.1 hy with rfl
              refine ⟨ownBelow (ownBase Hown4.out hbw.out.size) ((Below.refl _ _).alloc (Nat.le_refl _) _), fun kb hkb e => ?_⟩
              have h1 := ownAbove Hown4.out kb hkb
              have h2 : kb < wr.heap.size := by
                rcases hrow.out.2 with ⟨hv, _⟩ | ⟨g', cp', cur, hv, hB, hg', _⟩
                · rw [hv] at e; cases e
                · rw [hv] at e; cases e; exact lt_of_block hg'
              omega
          refine hA.row hg8 ?_
          rcases hat with h | h
          · left; exact h.symm
          · right; show some g = some _; rw [h]; simp
        · have h1 : Below w3.heap.size w3 w4 := hbw.out.trans (Hb4.out.mono hbw.out.size)
          exact (h1.alloc h1.size _).grown hg8 (h1.alloc h1.size _).size (fun k hk => ownAbove hrow.out k hk)
      case measure => simp [intOf]; omega
    · have hge : (ks.length : Int) ≤ (k : Int) := by omega
      have hkk : k = ks.length := by omega
      have Hkk := Lib.hid hkk
      clear hkk hTr hw1r
      go_wp2_with fail
      go_ret
      have hfl : w.heap.size ≤ w3.heap.size := by have h1 := Hb1.out.size; have h2 := Hb13.out.size; omega
      refine ⟨_, T, rfl, ownBase hrow.out hfl, ?_, fun x hx => ⟨ownBase (hoff.out x hx).1 hfl, (hoff.out x hx).2⟩, Hb1.out.trans ((Hb13.out.trans (hbw.out.mono Hb13.out.size)).mono Hb1.out.size)⟩
      rw [hmap.out, Hkk.out, List.take_length, Hrows.out]
end Go.Proofs.YtfbgnpfhjbiikaaGreatDoor
