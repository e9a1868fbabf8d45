/- Contract: Table.Load: what is there behind it, whatever it answers. -/
import Derived.Test.YtbmmabpglkojkaaDoorTabL
import Derived.Deep.RegionWith
namespace Go.Proofs.YtbmmabpglkojkaaDoor
open Go Go.RowKit
open Pth
open Go.Maps (has size Canon CanonK Tidy IsMap KeysOf Keyed Merged)

/-- 'm[k] = v' at a step of a region that draws its order. -/
theorem step_mapUpdate_own {H : Type} {P : Program} {w : World} {ops : Array Oper} {o : Oper} {a : Act} {K : Act → World → Prop} {Q : Exit → Act → World → Prop} {E : Prop}
    (hg : o.guard = none) (m x v : Operand) (t : TypeId) (hop : o.op = Op.mapUpdate t m x v)
    (k e : TypeId) (KK : Keyed P k) (ht : P.underlying t = some (.map k e)) (R : Value → Option (DataW H × List MemPlace)) (b n : Nat) (D : DataW H)
    (hm : a.eval m = .map (some b)) (hown : w.ownsMap P k R b n D) (hn : n < maxLen) (key val : Value) (kl : Lit) (hx : a.eval x = key) (hv : a.eval v = val) (hkey : keyOf P k key = some kl)
    (d : DataW H) (ps : List MemPlace) (hval : R val = some (d, ps))
    (hK : ∀ w', w'.ownsMap P k R b (n + 1) (D.put kl d) → w.grownBy w' (some b) → K (a.put o.dst undef) w') :
    if Region.wanted o (yielded ops a.tmps) = true then Oper.wp P o a w K Q else E := by
  have hw : Region.wanted o (yielded ops a.tmps) = true := by simp [Region.wanted, hg]
  rw [if_pos hw]
  obtain ⟨w', hrun, r1, r2⟩ := hown.update KK ht hn hkey hval
  unfold Oper.wp
  simp [execOp, hop, hm, hx, hv, hrun, Result.andThen]
  exact hK w' r1 r2

/-- 'm[k] = v' at the operation. -/
theorem oper_mapUpdate_own {H : Type} {P : Program} {w : World} {o : Oper} {a : Act} {K : Act → World → Prop} {Q : Exit → Act → World → Prop}
    (m x v : Operand) (t : TypeId) (hop : o.op = Op.mapUpdate t m x v)
    (k e : TypeId) (KK : Keyed P k) (ht : P.underlying t = some (.map k e)) (R : Value → Option (DataW H × List MemPlace)) (b n : Nat) (D : DataW H)
    (hm : a.eval m = .map (some b)) (hown : w.ownsMap P k R b n D) (hn : n < maxLen) (key val : Value) (kl : Lit) (hx : a.eval x = key) (hv : a.eval v = val) (hkey : keyOf P k key = some kl)
    (d : DataW H) (ps : List MemPlace) (hval : R val = some (d, ps))
    (hK : ∀ w', w'.ownsMap P k R b (n + 1) (D.put kl d) → w.grownBy w' (some b) → K (a.put o.dst undef) w') :
    Oper.wp P o a w K Q := by
  obtain ⟨w', hrun, r1, r2⟩ := hown.update KK ht hn hkey hval
  unfold Oper.wp
  simp [execOp, hop, hm, hx, hv, hrun, Result.andThen]
  exact hK w' r1 r2

/-- A row that a table may load. -/
def OkRow (r : ByteArray × Cel) : Prop := mayP r.1 = true ∧ mayC r.2 = true ∧ r.2.l ≠ []
/-- What Load leaves. -/
def LoadGives (l : List (ByteArray × Cel)) (M : DataW Cel) (B : Int) (t b : Nat) (q1 q2 : Int) (w : World) (e : Ending) (w' : World) : Prop :=
  ∃ (e0 : Int) (M' : DataW Cel) (B' : Int), e = .returned (.int .i64 e0) ∧ TabAt w' t b q1 q2 M' B' ∧ Good Tryd.prog 9 M' ∧ size M' ≤ size M + l.length ∧ B ≤ B' ∧ B' ≤ B + l.length * 33000 ∧ ButS (fun k => k = t ∨ k = b) w w'
theorem LoadGives.same {l : List (ByteArray × Cel)} {M : DataW Cel} {B : Int} {t b : Nat} {q1 q2 : Int} {w w' : World} (h : TabAt w t b q1 q2 M B) (hg : Good Tryd.prog 9 M) (hb : Below w.heap.size w w') (e0 : Int) : LoadGives l M B t b q1 q2 w (.returned (.int .i64 e0)) w' :=
  ⟨e0, M, B, rfl, h.below hb, hg, by omega, by omega, by omega, ButS.of hb⟩
theorem Good.putRow {M : DataW Cel} (h : Good Tryd.prog 9 M) {r : ByteArray × Cel} (hr : OkRow r) (hl : r.2.last < 18446744073709551616) : Good Tryd.prog 9 (M.put (kS r.1) (.held r.2)) := by
  obtain ⟨d, a, b⟩ := hr
  have hK : KeysOf Tryd.prog 9 (kS r.1) := ⟨_, keyS Tryd.underlying9 (by have := mayP_size d; unfold maxLen; omega)⟩
  refine ⟨Maps.canonK_put strKeyed.one hK _ h.canon, fun k hk' => ?_⟩
  by_cases e : k = kS r.1
  · subst e
    exact ⟨_, _, rfl, Maps.atKey_put_same (canonK_isMap h.canon) (kS_key _) _ _, a, b, hl, d⟩
  · rw [Maps.has_put_other e] at hk'
    rw [Maps.atKey_put_other e]; exact h.cells k hk'
theorem TabAt.setBytes {wr w5 : World} {t b : Nat} {q1 q2 B B2 : Int} {M N : DataW Cel} (h : TabAt wr t b q1 q2 M B) (hc : ∀ j, w5.cell? ⟨t, j, none⟩ = wr.cell? ⟨t, j, none⟩) (hf : w5.frozen? ⟨t, 3, none⟩ = false) (hN : CelMap w5 b N) : TabAt (w5.setCell ⟨t, 3, none⟩ (.int .i64 B2)) t b q1 q2 N B2 := by
  have hne := h.ne
  have no : ∀ j, j ≠ 3 → (w5.setCell ⟨t, 3, none⟩ (.int .i64 B2)).cell? ⟨t, j, none⟩ = wr.cell? ⟨t, j, none⟩ := fun j hj => (World.cell?_setCell_other _ _ _ _ (by intro e; injection e with _ e; exact hj e.symm)).trans (hc j)
  have hT2 : NoVers w5 t := by
    intro o n s h1 h2
    exact h.noVers o n s ((hc o).symm.trans h1) ((hc (o + 1)).symm.trans h2)
  refine ⟨(no 0 (by decide)).trans h.c0, (no 1 (by decide)).trans h.c1, (no 2 (by decide)).trans h.c2, World.cell?_setCell_same' _ _ _ (by rw [hc 3, h.c3]; rfl), fun j => (no (j + 4) (by omega)).trans (h.c4 j), ?_, ?_⟩
  · rw [World.frozen?_setCell]; exact hf
  · exact hN.but (ButS.set (S := fun k => k = t) w5 (p := ⟨t, 3, none⟩) rfl _) (fun k hk => by subst hk; exact hT2) (fun e => hne e.symm)
theorem zeroIntM (w : World) : (zeroValue 3).run Tryd.prog w = .ok (.int .i64 0) w := by kernel_rfl

set_option maxRecDepth 100000 in
set_option maxHeartbeats 4000000 in
theorem tab_load (w : World) {t b : Nat} {q1 q2 B : Int} {M : DataW Cel} (h : TabAt w t b q1 q2 M B) (hg : Good Tryd.prog 9 M) (hm : MX w) (v : Value) (l : List (ByteArray × Cel)) (hv : IsRows w v l) (hl : l.length ≤ 1048576)
    (hwf : RowsWf l) (hp : ∀ i, i < l.length → (l.getD i dR).1.size ≤ 140737488351232 ∧ (l.getD i dR).2.l.length ≤ 8796093022208) (hsM : size M ≤ 1073741824) (hB0 : -1125899906842624 ≤ B) (hB1 : B ≤ 1125899906842624) :
    Calls Tryd.prog 13 #[.pointer (some ⟨t, 0, none⟩), v] w (LoadGives l M B t b q1 q2 w) := by
  obtain ⟨a, cap, rfl, hcc⟩ := hv
  have Hmade := Lib.hid (tab_made w h)
  have HC := Lib.hid hcc; have Hp := Lib.hid hp; have HG := Lib.hid hg; have HM := Lib.hid hm; have HT := Lib.hid h; have Hwf := Lib.hid hwf; clear hcc hp hg hm h hwf
  have hmm := @run_makeMap Tryd.prog
  go_enter Tryd.func13, Tryd.ntmps13
  go_wp2_with fail
  refine Hmade.out.mono ?_
  rintro e w1 ⟨rfl, hb1⟩
  have Hb1 := Lib.hid hb1; clear hb1
  go_wp2_with fail
  go_loopw [19] (fun i wr => ∃ k : Nat, k ≤ l.length ∧ i = .int .i64 k ∧ Hid (∀ j, j < k → OkRow (l.getD j dR)) ∧ Hid (Below w.heap.size w wr)) (fun i _ => l.length - (intOf i).toNat)
  case atStart => exact ⟨0, Nat.zero_le _, rfl, Lib.hid (fun j hj => by omega), Hb1⟩
  case round =>
    obtain ⟨k, hk, rfl, hok, hbw⟩ := hrel
    by_cases hlt : k < l.length
    · rcases HC.out with hn | ⟨bl, off, rfl, hbl, hcc⟩
      · subst hn; simp at hlt
      have hltI : (k : Int) < (l.length : Int) := by omega
      obtain ⟨g0, g1, s, g2, hs⟩ := hcc k hlt
      have e0 := (hbw.out.cell (p := ⟨bl, off + k * 3, none⟩) hbl).trans g0
      have e1 := (hbw.out.cell (p := ⟨bl, off + k * 3 + 1, none⟩) hbl).trans g1
      have e2 := (hbw.out.cell (p := ⟨bl, off + k * 3 + 2, none⟩) hbl).trans g2
      have hs' := hs.below hbw.out (Nat.le_refl _)
      obtain ⟨hp1, hp2⟩ := Hp.out k hlt
      obtain ⟨x, hx⟩ : ∃ x, x = l.getD k dR := ⟨_, rfl⟩
      rw [← hx] at e0 e1 hs' hp1 hp2
      have Hx := Lib.hid hx
      clear hx g0 g1 g2 hs hcc
      have Hs := Lib.hid hs'
      obtain ⟨va, vc, rfl, _⟩ := hs'
      go_upto_region 6 with fail
      refine wp_abs (F := fun W => One wr.heap.size #[.string x.1, .int .u64 x.2.last, .slice va x.2.l.length vc] W ∧ Below wr.heap.size wr W) ⟨One.of _ _ _, (Below.refl _ _).alloc (Nat.le_refl _) _⟩ ?_
      rintro WB ⟨hB, hbB⟩
      have y0 := hB.c 0; have y1 := hB.c 1; have y2 := hB.c 2
      simp at y0 y1 y2
      have hbW := hbw.out.trans (hbB.mono hbw.out.size)
      have HB := Lib.hid hB; have HbB := Lib.hid hbB; have HbW := Lib.hid hbW; clear hB hbB hbW e0 e1 e2
      go_wp2_with fail
      refine (path_may x.1 hp1 _ (HM.out.below HbW.out (Nat.le_refl _))).mono ?_
      rintro e w2 ⟨rfl, hb2⟩
      have hB2 := HB.out.step hb2
      clear y0 y1 y2
      have y0 := hB2.c 0; have y1 := hB2.c 1; have y2 := hB2.c 2
      simp at y0 y1 y2
      have Hb2 := Lib.hid (HbW.out.trans (hb2.mono HbW.out.size)); have HB2 := Lib.hid hB2
      have Hs2 := Lib.hid (Hs.out.below (HbB.out.trans (hb2.mono HbB.out.size)) (Nat.le_refl _)); clear hb2 hB2
      cases hpm : mayL x.1.data.toList with
      | false =>
        go_wp2_with fail
        go_ret
        exact LoadGives.same HT.out HG.out Hb2.out 2
      | true =>
        go_wp2_with fail
        refine (cell_may x.2 _ _ Hs2.out (by omega)).mono ?_
        rintro e w3 ⟨rfl, hb3⟩
        have hB3 := HB2.out.step hb3
        clear y0 y1 y2
        have y2 := hB3.c 2
        simp at y2
        have Hb3 := Lib.hid (Hb2.out.trans (hb3.mono Hb2.out.size)); clear hb3 hB3
        cases hcm : mayC x.2 with
        | false =>
          go_wp2_with fail
          go_ret
          exact LoadGives.same HT.out HG.out Hb3.out 2
        | true =>
          by_cases h0 : x.2.l.length = 0
          · have hB0' : ((x.2.l.length : Int) == 0) = true := by simp [h0]
            clear h0
            go_wp2_with fail
            go_ret
            exact LoadGives.same HT.out HG.out Hb3.out 2
          · have hB0' : ((x.2.l.length : Int) == 0) = false := by rw [beq_eq_false_iff_ne]; omega
            have hok1 : OkRow x := ⟨hpm, hcm, fun e => h0 (by rw [e]; rfl)⟩
            have Hok1 := Lib.hid hok1; clear h0 hok1
            go_wp2_with fail
            go_roundw
            case rel => exact ⟨k + 1, by omega, by go_num, Lib.hid (fun j hj => by
              rcases Nat.lt_or_ge j k with h | h
              · exact hok.out j h
              · obtain rfl : j = k := by omega
                rw [← Hx.out]; exact Hok1.out), Hb3⟩
            case measure => simp [intOf]; omega
    · have hge : (l.length : Int) ≤ (k : Int) := by omega
      have hkl : k = l.length := by omega
      have Hall : Hid (∀ j, j < l.length → OkRow (l.getD j dR)) := Lib.hid (by rw [← hkl]; exact hok.out)
      clear hkl
      obtain ⟨We, hWe⟩ : ∃ We, We = wr := ⟨_, rfl⟩
      subst hWe
      go_wp2_with fail
      go_loopw [44] (fun i wx => ∃ (k : Nat) (D : DataW Unit), k ≤ l.length ∧ i = .int .i64 k ∧ Hid (wx.ownsMap Tryd.prog 9 (plainElem Tryd.prog 3) We.heap.size k D) ∧ Hid (Below We.heap.size We wx)) (fun i _ => l.length - (intOf i).toNat)
      case atStart => exact ⟨0, .map [], Nat.zero_le _, rfl, Lib.hid (World.ownsMap_made _ _ _ _), Lib.hid ((Below.refl _ _).alloc (Nat.le_refl _) _)⟩
      case round =>
        obtain ⟨k, D, hk, rfl, hown, hbx⟩ := hrel
        have hbw2 : Below w.heap.size w wr := hbw.out.trans (hbx.out.mono hbw.out.size)
        have Hbw2 := Lib.hid hbw2
        by_cases hlt : k < l.length
        · rcases HC.out with hn | ⟨bl, off, rfl, hbl, hcc⟩
          · subst hn; simp at hlt
          have hltI : (k : Int) < (l.length : Int) := by omega
          obtain ⟨g0, g1, s, g2, hs⟩ := hcc k hlt
          have e0 := (hbw2.cell (p := ⟨bl, off + k * 3, none⟩) hbl).trans g0
          have e1 := (hbw2.cell (p := ⟨bl, off + k * 3 + 1, none⟩) hbl).trans g1
          have e2 := (hbw2.cell (p := ⟨bl, off + k * 3 + 2, none⟩) hbl).trans g2
          obtain ⟨hp1, hp2⟩ := Hp.out k hlt
          obtain ⟨x, hx⟩ : ∃ x, x = l.getD k dR := ⟨_, rfl⟩
          rw [← hx] at e0 e1 hs hp1 hp2
          clear hx g0 g1 g2 hcc hbw2
          obtain ⟨va, vc, rfl, _⟩ := hs
          go_upto_region 13 with fail
          refine wp_abs (F := fun W => One wr.heap.size #[.string x.1, .int .u64 x.2.last, .slice va x.2.l.length vc] W ∧ Below wr.heap.size wr W) ⟨One.of _ _ _, (Below.refl _ _).alloc (Nat.le_refl _) _⟩ ?_
          rintro WB ⟨hB, hbB⟩
          have y0 := hB.c 0
          simp at y0
          have hTB := HT.out.below (Hbw2.out.trans (hbB.mono Hbw2.out.size))
          have d2 := hTB.c2
          obtain ⟨s11, is1, _, hs11, hl11, _⟩ := (hTB.below (w' := WB.drew) (Below.drew (Below.refl _ _))).m.look2 x.1 (by unfold maxLen; omega)
          obtain ⟨a11, c11, rfl, _⟩ := hs11
          have hbZ : Below WB.heap.size WB (WB.alloc (.cells #[.int .u64 0, .slice none 0 0] 62)).drew := Below.drew ((Below.refl _ _).alloc (Nat.le_refl _) _)
          obtain ⟨s12, is2, _, hs12, hl12, _⟩ := (hTB.below hbZ).m.look2 x.1 (by unfold maxLen; omega)
          obtain ⟨a12, c12, rfl, _⟩ := hs12
          have hbA : Below WB.heap.size WB (WB.alloc (.cells #[.int .u64 0, .slice none 0 0] 62)) := (Below.refl _ _).alloc (Nat.le_refl _) _
          have d2z := (hTB.below hbA).c2
          have y0z := (hB.step hbA).c 0
          simp at y0z
          have hne : ¬ wr.heap.size = WB.heap.size := by have := hB.lt; omega
          have hne2 : ¬ WB.heap.size = wr.heap.size := by have := hB.lt; omega
          have hbl2 := hB.lt
          have HB := Lib.hid hB; have HbB := Lib.hid hbB; clear hB hbB e0 e1 e2 hTB
          go_cut [11] (fun s11 wx => (∃ is, s11 = .bool is) ∧ Hid (One wr.heap.size #[.string x.1, .int .u64 x.2.last, .slice va x.2.l.length vc] wx ∧ Below wr.heap.size wr wx))
          case first =>
            go_region
            all_goals go_wp2_with fail
            all_goals go_meet
            all_goals refine ⟨⟨_, rfl⟩, Lib.hid ⟨?_, ?_⟩⟩
            all_goals first
              | exact (HB.out.step (Below.drew (Below.refl _ _))).step ((Below.refl _ _).alloc (Nat.le_refl _) _)
              | exact HB.out.step (Below.drew ((Below.refl _ _).alloc (Nat.le_refl _) _))
              | exact (HbB.out.trans ((Below.drew (Below.refl _ _)).mono HbB.out.size)).alloc (HbB.out.trans ((Below.drew (Below.refl _ _)).mono HbB.out.size)).size _
              | exact (HbB.out.alloc HbB.out.size _).drew
              | exact (((HB.out.step hbA).far (p := ⟨WB.heap.size, 0, none⟩) (by dsimp only; omega) _).far (p := ⟨WB.heap.size, 1, none⟩) (by dsimp only; omega) _).step (Below.drew (Below.refl _ _))
              | exact (((HbB.out.alloc HbB.out.size _).setCell (p := ⟨WB.heap.size, 0, none⟩) (by dsimp only; omega) _).setCell (p := ⟨WB.heap.size, 1, none⟩) (by dsimp only; omega) _).drew
              | skip
          case rest =>
            obtain ⟨⟨is, rfl⟩, HX⟩ := hcut
            have y0 := HX.out.1.c 0
            simp at y0
            have hownc := ownsMap_below hown.out HX.out.2 hown.out.lt
            have hkey := keyS (s := x.1) Tryd.underlying9 (by unfold maxLen; omega)
            have hbc := Hbw2.out.trans (HX.out.2.mono Hbw2.out.size)
            have Hbc := Lib.hid hbc; clear hbc d2 hl11
            cases is with
            | true =>
              go_wp2_with fail
              go_ret
              exact LoadGives.same HT.out HG.out Hbc.out 8
            | false =>
              obtain ⟨cc, hrunc, _, _⟩ := hownc.lookup_int strKeyed (t := 80) Tryd.underlying80 Tryd.underlying3 (zeroIntM _) hkey
              go_upto_if 65 with fail
              by_cases hcc : 0 < cc
              · go_wp2_with fail
                go_ret
                exact LoadGives.same HT.out HG.out Hbc.out 8
              · have hkl2 : k < maxLen := by unfold maxLen; omega
                go_wp2_with (first
                  | (at_mapUpdate; refine wpList_mapUpdate_own _ rfl _ _ _ 80 rfl 9 3 strKeyed Tryd.underlying80 _ We.heap.size k _ rfl hownc hkl2 _ _ _ rfl rfl hkey _ [] (plainElem_int Tryd.underlying3 (wrap64_wf _)) ?_; intro w7 hown7 hg7)
                  | fail)
                go_roundw
                case rel => exact ⟨k + 1, _, by omega, by go_num, Lib.hid hown7, Lib.hid ((hbx.out.trans (HX.out.2.mono hbx.out.size)).grown hg7 (hbx.out.trans (HX.out.2.mono hbx.out.size)).size (fun j hj => by cases hj; exact Nat.le_refl _))⟩
                case measure => simp [intOf]; omega
        · have hge : (l.length : Int) ≤ (k : Int) := by omega
          obtain ⟨Wf, hWf⟩ : ∃ Wf, Wf = wr := ⟨_, rfl⟩
          subst hWf
          have HTf := Lib.hid (HT.out.below Hbw2.out)
          have HCf : Hid (IsRows Wf (.slice a l.length cap) l) := Lib.hid (IsRows.below ⟨a, cap, rfl, HC.out⟩ Hbw2.out (Nat.le_refl _))
          clear hbw2
          go_wp2_with fail
          go_loopw [74] (fun i wx => ∃ (k : Nat) (M' : DataW Cel) (B' : Int), k ≤ l.length ∧ i = .int .i64 k ∧ Hid (TabAt wx t b q1 q2 M' B') ∧ Hid (Good Tryd.prog 9 M') ∧ Hid (size M' ≤ size M + k ∧ B ≤ B' ∧ B' ≤ B + k * 33000) ∧ Hid (ButS (fun k => k = t ∨ k = b) Wf wx)) (fun i _ => l.length - (intOf i).toNat)
          case atStart => exact ⟨0, M, B, Nat.zero_le _, rfl, HTf, HG, Lib.hid ⟨by omega, by omega, by omega⟩, Lib.hid (ButS.of (Below.refl _ _))⟩
          case round =>
            obtain ⟨k, M', B', hk, rfl, hT, hGM, hbd, hbut⟩ := hrel
            by_cases hlt : k < l.length
            · obtain ⟨a', cap', ha', hcc⟩ := HCf.out.but hbut.out (fun k hk => by rcases hk with rfl | rfl; exact HTf.out.bare; exact HTf.out.m.bare)
              obtain ⟨rfl, rfl⟩ : a' = a ∧ cap' = cap := by injection ha' with h1 h2 h3; exact ⟨h1.symm, h3.symm⟩
              rcases hcc with hn | ⟨bl, off, rfl, hbl, hcc⟩
              · subst hn; simp at hlt
              have hltI : (k : Int) < (l.length : Int) := by omega
              obtain ⟨e0, e1, s, e2, hs⟩ := hcc k hlt
              have hokx := Hall.out k hlt
              have hwfx := Hwf.out k hlt
              obtain ⟨x, hx⟩ : ∃ x, x = l.getD k dR := ⟨_, rfl⟩
              rw [← hx] at e0 e1 hs hokx hwfx
              clear hx hcc
              have Hs := Lib.hid hs
              obtain ⟨va, vc, rfl, _⟩ := hs
              obtain ⟨o1, o2, o3⟩ := hokx
              have hp128 := mayP_size o1
              have hl8 := may_len o2
              have hGP := Lib.hid (hGM.out.putRow ⟨o1, o2, o3⟩ hwfx)
              go_upto_region 21 with fail
              refine wp_abs (F := fun W => One wr.heap.size #[.string x.1, .int .u64 x.2.last, .slice va x.2.l.length vc] W ∧ Below wr.heap.size wr W) ⟨One.of _ _ _, (Below.refl _ _).alloc (Nat.le_refl _) _⟩ ?_
              rintro WB ⟨hB, hbB⟩
              have y0 := hB.c 0; have y1 := hB.c 1; have y2 := hB.c 2
              simp at y0 y1 y2
              have hTB := hT.out.below hbB
              have d2 := hTB.c2
              have hlB := hB.lt
              have hlT := hTB.lt
              have hlW := hT.out.lt
              have hlWb := HoldsMap.lt hT.out.m
              have hne0 := hT.out.ne
              have hkey := keyS (s := x.1) Tryd.underlying9 (by unfold maxLen; omega)
              have hlen : size M' < maxLen := by have := hbd.out.1; unfold maxLen; omega
              have HsB := Lib.hid (Hs.out.below hbB (Nat.le_refl _))
              have HsD := Lib.hid (HsB.out.below (w' := WB.drew) (Below.drew (Below.refl _ _)) (Nat.le_refl _))
              have HB := Lib.hid hB; have HbB := Lib.hid hbB; have HTB := Lib.hid hTB; clear hB hbB hTB e0 e1 e2
              go_cut [] (fun wx => Hid (One wr.heap.size #[.string x.1, .int .u64 x.2.last, .slice va x.2.l.length vc] wx ∧ ButS (fun k => k = b) WB wx ∧ CelMap wx b (M'.put (kS x.1) (.held x.2))))
              case first =>
                go_region_with (first
                  | (go_at_call 28; refine (tab_copied x.2 _ _ HsD.out (by omega)).mono ?_; rintro e w4 ⟨v4, rfl, hown4, hb4⟩; obtain ⟨a4, c4, rfl⟩ := ownShape hown4; have d2 : w4.cell? ⟨t, 2, none⟩ = some (.map (some b)) := (hb4.cell hlT).trans d2; have y0 : w4.cell? ⟨wr.heap.size, 0, none⟩ = some (.string x.1) := (hb4.cell hlB).trans y0; have hC4 := (HTB.out.m.below (w' := WB.drew) (Below.drew (Below.refl _ _))).below hb4; obtain ⟨DX, hownX, hputX⟩ := hC4.put; have Hown4 := Lib.hid hown4; have Hb4 := Lib.hid hb4; obtain ⟨w7, hrun7, hown7, hg7⟩ := hownX.update (t := 66) (e := 62) strKeyed Tryd.underlying66 hlen (key := .string x.1) (val := .agg #[.int .u64 x.2.last, .slice a4 x.2.l.length c4]) (d := .held (.agg #[.int .u64 x.2.last, .slice a4 x.2.l.length c4])) (ps := []) hkey rfl; clear hown4 hb4 hC4))
                all_goals go_wp2_with fail
                all_goals go_meet
                all_goals (
                  have hbd4 : Below WB.heap.size WB w4 := (Below.drew (Below.refl _ _)).trans (Hb4.out.mono (Nat.le_refl _))
                  exact Lib.hid ⟨((HB.out.step hbd4).grown hg7 (by have := hlWb; omega)), (ButS.of hbd4).trans (ButS.grown hg7 rfl), hputX w7 _ x.1 x.2 _ (by unfold maxLen; omega) ⟨_, rfl, IsVers.own Hown4.out⟩ hown7 hg7⟩)
              case rest =>
                obtain ⟨hO, hbu, hN⟩ := hcut.out
                have hnb : t ≠ b := hne0
                have hTc : ∀ j, wc.cell? ⟨t, j, none⟩ = WB.cell? ⟨t, j, none⟩ := fun j => hbu.cell (p := ⟨t, j, none⟩) hlT hnb
                have c3 := (hTc 3).trans HTB.out.c3
                have f3 : wc.frozen? ⟨t, 3, none⟩ = false := (hbu.frozen (p := ⟨t, 3, none⟩) hlT hnb).trans HTB.out.f3
                have y0 := hO.c 0; have y1 := hO.c 1; have y2 := hO.c 2
                simp at y0 y1 y2
                have hlO := hO.lt
                have hltc : t < wc.heap.size := Nat.lt_of_lt_of_le hlT hbu.size
                have hbox : wr.heap.size ≠ t := by omega
                have HsC := Lib.hid ((HsB.out.but hbu (fun k hk => by subst hk; exact HTB.out.m.noVers)).below (w' := wc.drew) (Below.drew (Below.refl _ _)) (Nat.le_refl _))
                have hwd := weight_le (p := x.1) o2 hp128
                have HW := Lib.hid (tab_weight x.1 x.2 _ wc.drew HsC.out (by omega) (may_sizes o2) (by have := may_size o2; omega) (by omega))
                obtain ⟨wd, hwdE⟩ : ∃ z, z = weightE x.1 x.2 := ⟨_, rfl⟩
                rw [← hwdE] at hwd HW
                have hb1 := hbd.out.2.1; have hb2 := hbd.out.2.2
                have hwr : IntKind.i64.wrap (B' + (wd : Int)) = B' + (wd : Int) := by rw [IntKind.wrap_i64]; omega
                have hTc3 := Lib.hid hTc; have Hbu := Lib.hid hbu; have HN := Lib.hid hN; have HO := Lib.hid hO; have Hbd := Lib.hid (And.intro hb1 hb2)
                clear hTc hbu hN hO hcut hb1 hb2 hwdE
                go_wp2_with fail
                go_region_with (go_at_call 32; refine HW.out.mono ?_; rintro e w5 ⟨rfl, hb5⟩; have c3 : w5.cell? ⟨t, 3, none⟩ = some (.int .i64 B') := (hb5.cell (p := ⟨t, 3, none⟩) hltc).trans c3; have f3 : w5.frozen? ⟨t, 3, none⟩ = false := (hb5.frozen (p := ⟨t, 3, none⟩) hltc).trans f3; have y0 : w5.cell? ⟨wr.heap.size, 0, none⟩ = some (.string x.1) := (hb5.cell (p := ⟨wr.heap.size, 0, none⟩) hlO).trans y0; have Hb5 := Lib.hid hb5; clear hb5)
                all_goals go_wp2_with fail
                all_goals go_roundw
                all_goals first
                  | (simp [intOf]; omega)
                  | (have hb5f : Below wc.heap.size wc w5 := (Below.drew (Below.refl _ _)).trans (Hb5.out.mono (Nat.le_refl _))
                     have hs1 := Maps.size_put (k := kS x.1) (canonK_tidy hGM.out.canon) (.held x.2)
                     have hs2 : size (M'.put (kS x.1) (.held x.2)) ≤ size M' + 1 := by rw [hs1]; split <;> omega
                     have h0 := hbd.out.1; have h1 := Hbd.out.1; have h2 := Hbd.out.2
                     refine ⟨k + 1, M'.put (kS x.1) (.held x.2), B' + (wd : Int), by omega, by go_num, Lib.hid (hT.out.setBytes (fun j => (hb5f.cell (p := ⟨t, j, none⟩) hltc).trans ((hTc3.out j).trans (HbB.out.cell (p := ⟨t, j, none⟩) hlW))) f3 (HN.out.below hb5f)), hGP, Lib.hid ⟨by omega, by omega, by push_cast; omega⟩, Lib.hid ?_⟩
                     exact (((hbut.out.trans (ButS.of HbB.out)).trans (Hbu.out.mono (fun k hk => Or.inr hk))).trans (ButS.of hb5f)).trans (ButS.set w5 (p := ⟨t, 3, none⟩) (Or.inl rfl) _))
            · have hge : (l.length : Int) ≤ (k : Int) := by omega
              have Hkl : Hid (k = l.length) := Lib.hid (by omega)
              go_wp2_with fail
              go_ret
              have h1 := hbd.out
              rw [Hkl.out] at h1
              exact ⟨0, M', B', rfl, hT.out, hGM.out, h1.1, h1.2.1, h1.2.2, (ButS.of Hbw2.out).trans hbut.out⟩
end Go.Proofs.YtbmmabpglkojkaaDoor
