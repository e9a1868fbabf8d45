/- Contract: Table.tried. -/
import Derived.Test.YtbmmabpglkojkaaDoorTab3
import Derived.Deep.RegionHeld3
import Derived.Deep.AppendLies
import Derived.Deep.RegionWith
import Derived.Deep.DeepCutAuto
import Derived.Maps.OwnSet
import Derived.Maps.RangeWalk
import Derived.Laws.BitsLemmas
namespace Go.Proofs.YtbmmabpglkojkaaDoor
open Go Go.RowKit
open Pth
open Go.Maps (has size Canon CanonK Tidy IsMap KeysOf Keyed Merged)

/-- What tried leaves. -/
def TriedGives (r : (Nat × Nat) × DataW Cel × List Nat × Int) (M : DataW Cel) (w : World) (e : Ending) (w' : World) : Prop :=
  Below w.heap.size w w' ∧
  ((r.1.2 ≠ 0 ∧ e = .returned (.tuple #[.map none, .slice none 0 0, .int .i64 0, .int .i64 r.1.1, .int .i64 r.1.2])) ∨
   (r.1.2 = 0 ∧ ∃ fb F v, e = .returned (.tuple #[.map (some fb), v, .int .i64 r.2.2.2, .int .i64 0, .int .i64 0]) ∧ w.heap.size ≤ fb ∧ CelMap w' fb F ∧ Merged r.2.1 M F (fun _ => false) ∧ size F ≤ r.2.2.1.length ∧ w'.ownsRow w.heap.size 38 1 v r.2.2.1.length (r.2.2.1.map (fun n : Nat => Value.int .u64 n))))

set_option maxRecDepth 100000 in
set_option maxHeartbeats 4000000 in
theorem tab_tried (w : World) {t b : Nat} {q1 q2 B : Int} {M : DataW Cel} (h : TabAt w t b q1 q2 M B) (hg : Good Tryd.prog 9 M) (hm : MX w) (v : Value) (l : List Edt) (hv : IsEdts w v l) (hl : l.length ≤ 1048576)
    (hsM : size M ≤ 1099511627776) (hB0 : -1125899906842624 ≤ B) (hB1 : B ≤ 1125899906842624) (hp : ∀ i, i < l.length → (l.getD i dE).path.size ≤ 140737488351232 ∧ (l.getD i dE).text.size ≤ 9223372036854775807) :
    Calls Tryd.prog 23 #[.pointer (some ⟨t, 0, none⟩), v] w (TriedGives (triedT M B q1 q2 l) M w) := by
  have Hr : Hid (triedT M B q1 q2 l = if (runT M [] B 0 l).1.2 ≠ 0 then runT M [] B 0 l else if overT ((runT M [] B 0 l).2.1, (runT M [] B 0 l).2.2.2) M B q1 q2 then ((l.length, 180), (runT M [] B 0 l).2) else runT M [] B 0 l) := Lib.hid rfl
  generalize triedT M B q1 q2 l = r at Hr
  obtain ⟨a, cap, rfl, hc⟩ := hv
  have HC := Lib.hid hc; have Hp := Lib.hid hp; have HG := Lib.hid hg; have HM := Lib.hid hm; clear hc hp hg hm
  have Hmade := Lib.hid (tab_made w h)
  have hmm := @run_makeMap Tryd.prog
  have HT := Lib.hid h; clear h
  go_enter Tryd.func23, Tryd.ntmps23
  go_wp2_with fail
  refine Hmade.out.mono ?_
  rintro e w1 ⟨rfl, hb1⟩
  have h1 := HT.out.below hb1
  have c3 := h1.c3
  have c3a : ∀ o, (w1.alloc o).cell? ⟨t, 3, none⟩ = some (.int .i64 B) := fun o => (World.cell?_alloc_past _ _ _ h1.lt).trans c3
  have HT1 := Lib.hid h1; have Hb1 := Lib.hid hb1; clear h1 hb1
  go_wp2_with fail
  go_cut [4, 6] (fun s4 s6 wx => s4 = .map (some w1.heap.size) ∧ s6 = .int .i64 B ∧ Hid (CelMap wx w1.heap.size (.map []) ∧ Below w1.heap.size w1 wx))
  case first =>
    go_region
    all_goals go_wp2_with fail
    all_goals go_meet
    all_goals exact ⟨rfl, rfl, Lib.hid ⟨(HoldsMap.made w1 Tryd.prog 9 (IsCel (w1.alloc (.map #[] 0)))), by first | exact (Below.refl _ _).alloc (Nat.le_refl _) _ | exact ((Below.refl _ _).alloc (Nat.le_refl _) _).drew⟩⟩
  case rest =>
    obtain ⟨rfl, rfl, HX⟩ := hcut
    go_wp2_with fail
    go_loopw [4, 5, 6, 29] (fun s4 s5 s6 i wr => s4 = .map (some w1.heap.size) ∧ ∃ (k : Nat) (N : DataW Cel) (vv : List Nat) (B' : Int) (F : DataW Cel), k ≤ l.length ∧ i = .int .i64 k ∧ s6 = .int .i64 B' ∧ Hid (runT M [] B 0 l = runT N vv B' k (l.drop k)) ∧ (∃ a5 c5, s5 = .slice a5 vv.length c5) ∧ Hid (OffMap wr w1.heap.size F s5.ownBlock ∧ size F ≤ k) ∧
      Hid (Merged N M F (fun _ => false)) ∧ Hid (Good Tryd.prog 9 N) ∧ Hid (vv.length = k) ∧ Hid (wr.ownsRow (w1.heap.size + 1) 38 1 s5 vv.length (vv.map (fun n : Nat => Value.int .u64 n))) ∧
      Hid (B - k * 33000 ≤ B' ∧ B' ≤ B + k * 33000) ∧ Hid (Below w1.heap.size w1 wr)) (fun _ _ _ i _ => l.length - (intOf i).toNat)
    case atStart => exact ⟨rfl, 0, M, [], B, .map [], Nat.zero_le _, rfl, rfl, Lib.hid rfl, ⟨none, 0, rfl⟩, Lib.hid ⟨HoldsMap.move HX.out.1 rfl (fun v c g => by obtain ⟨s, e, hs⟩ := g; exact ⟨s, e, hs, fun _ _ _ => by simp [Value.ownBlock]⟩), by simp [size]⟩, Lib.hid (merged_none M), HG, Lib.hid rfl, Lib.hid (World.ownsRow_nil _ _ _ _), Lib.hid (by omega), Lib.hid HX.out.2⟩
    case round =>
      obtain ⟨rfl, k, N, vv, B', F, hk, rfl, rfl, hrun, ⟨a5, c5, rfl⟩, hFo, hMer, hGN, hvk, hown, hbd, hbw⟩ := hrel
      have hF : Hid (CelMap wr w1.heap.size F) := Lib.hid hFo.out.1.map
      have hsz := hbw.out.size
      by_cases hlt : k < l.length
      · rcases HC.out with hn | ⟨bl, off, rfl, hblt, hcc⟩
        · subst hn; simp at hlt
        have hbr : Below w.heap.size w wr := Hb1.out.trans (hbw.out.mono Hb1.out.size)
        obtain ⟨h0, h1, h2, h3, h4, h5⟩ := hcc k hlt
        have k0 := (hbr.cell (p := ⟨bl, off + k * 6, none⟩) hblt).trans h0
        have k1 := (hbr.cell (p := ⟨bl, off + k * 6 + 1, none⟩) hblt).trans h1
        have k2 := (hbr.cell (p := ⟨bl, off + k * 6 + 2, none⟩) hblt).trans h2
        have k3 := (hbr.cell (p := ⟨bl, off + k * 6 + 3, none⟩) hblt).trans h3
        have k4 := (hbr.cell (p := ⟨bl, off + k * 6 + 4, none⟩) hblt).trans h4
        have k5 := (hbr.cell (p := ⟨bl, off + k * 6 + 5, none⟩) hblt).trans h5
        have hpx := Hp.out k hlt
        have hdrop : l.drop k = l.getD k dE :: l.drop (k + 1) := by
          rw [List.drop_eq_getElem_cons hlt, List.getD_eq_getElem?_getD, List.getElem?_eq_getElem hlt]; rfl
        have hrun2 := hrun.out
        rw [hdrop] at hrun2
        clear h0 h1 h2 h3 h4 h5 hcc hdrop
        obtain ⟨x, hx⟩ : ∃ x, x = l.getD k dE := ⟨_, rfl⟩
        rw [← hx] at k0 k1 k2 k3 k4 k5 hpx hrun2
        clear hx hrun
        obtain ⟨kd, pth, any, want, n, tx⟩ := x
        simp only at k0 k1 k2 k3 k4 k5 hpx
        have Hrun := Lib.hid hrun2; have Hpx := Lib.hid hpx; have Hbr := Lib.hid hbr; have Hlt := Lib.hid hlt; clear hrun2 hpx hbr
        have hlt2 : (k : Int) < (l.length : Int) := by omega
        go_upto_region 7 with fail
        refine wp_abs (F := fun W => One wr.heap.size #[.int .u8 kd, .string pth, .bool any, .int .u64 want, .int .u64 n, .string tx] W ∧ Below wr.heap.size wr W) ⟨One.of _ _ _, (Below.refl _ _).alloc (Nat.le_refl _) _⟩ ?_
        rintro W ⟨hX, hbW⟩
        have x0 := hX.c 0; have x1 := hX.c 1
        simp at x0 x1
        have HX1 := Lib.hid hX; have HbW := Lib.hid hbW; clear hX hbW
        have Hst : Hid (∀ e0, e0 ≠ 0 → (editE N ⟨kd, pth, any, want, n, tx⟩).2 = e0 → r = ((k, e0), N, vv, B')) := Lib.hid (by
          intro e0 he h
          rw [Hr.out, Hrun.out, runT_stop (by rw [h]; exact he), h]
          simp [he])
        by_cases hlo : kd < 1
        · obtain rfl : r = ((k, 2), N, vv, B') := Hst.out 2 (by decide) (by rw [edit_bad (Or.inl hlo)])
          go_wp2_with fail
          refine bodyPost_ret (v := .tuple #[.map none, .slice none 0 0, .int .i64 0, .int .i64 k, .int .i64 2]) ?_ rfl ⟨Hbr.out.trans (HbW.out.mono Hbr.out.size), Or.inl ⟨by simp, rfl⟩⟩
          simp [results, Tryd.results23, go_sem]
        by_cases hhi : 3 < kd
        · obtain rfl : r = ((k, 2), N, vv, B') := Hst.out 2 (by decide) (by rw [edit_bad (Or.inr (Or.inl hhi))])
          go_wp2_with fail
          refine bodyPost_ret (v := .tuple #[.map none, .slice none 0 0, .int .i64 0, .int .i64 k, .int .i64 2]) ?_ rfl ⟨Hbr.out.trans (HbW.out.mono Hbr.out.size), Or.inl ⟨by simp, rfl⟩⟩
          simp [results, Tryd.results23, go_sem]
        have hk1 : 1 ≤ kd := by omega
        have hk3 : kd ≤ 3 := by omega
        go_wp2_with fail
        refine (path_may pth Hpx.out.1 _ ?_).mono ?_
        · exact HM.out.below (Hbr.out.trans (HbW.out.mono Hbr.out.size)) (Nat.le_refl _)
        rintro e w2 ⟨rfl, hb2⟩
        have hX2 := HX1.out.step hb2
        have hbw2 := HbW.out.trans (hb2.mono HbW.out.size)
        have x0 := hX2.c 0; have x1 := hX2.c 1
        simp at x0 x1
        have HX2 := Lib.hid hX2; have Hbw2 := Lib.hid hbw2; clear hX2 hb2 hbw2
        cases hpm : mayL pth.data.toList with
        | false =>
          obtain rfl : r = ((k, 2), N, vv, B') := Hst.out 2 (by decide) (by rw [edit_bad (x := ⟨kd, pth, any, want, n, tx⟩) (Or.inr (Or.inr hpm))])
          go_wp2_with fail
          refine bodyPost_ret (v := .tuple #[.map none, .slice none 0 0, .int .i64 0, .int .i64 k, .int .i64 2]) ?_ rfl ⟨Hbr.out.trans (Hbw2.out.mono Hbr.out.size), Or.inl ⟨by simp, rfl⟩⟩
          simp [results, Tryd.results23, go_sem]
        | true =>
          have Hfit : Hid (editE N ⟨kd, pth, any, want, n, tx⟩ = outcomeE (cellAt N pth) ⟨kd, pth, any, want, n, tx⟩) := Lib.hid (edit_fit hk1 hk3 hpm)
          have hp128 : pth.size ≤ 128 := mayP_size hpm
          have hF2 : CelMap w2 w1.heap.size F := hF.out.below Hbw2.out
          obtain ⟨s9, is, his, hs9, hl9, _⟩ := hF2.look2 pth (by unfold maxLen; omega)
          have Hs9 := Lib.hid hs9
          obtain ⟨a9, c9, rfl, hs9c⟩ := hs9
          clear hs9c
          have His := Lib.hid his; have HF2 := Lib.hid hF2; clear his hF2
          obtain ⟨cF, hcF⟩ : ∃ c, c = cellAt F pth := ⟨_, rfl⟩
          rw [← hcF] at hl9 Hs9
          have HcF := Lib.hid hcF; clear hcF
          go_upto_region 10 with fail
          refine wp_abs (F := fun W9 => One w2.heap.size #[.int .u64 cF.last, .slice a9 cF.l.length c9] W9 ∧ One wr.heap.size #[.int .u8 kd, .string pth, .bool any, .int .u64 want, .int .u64 n, .string tx] W9 ∧ Below w2.heap.size w2 W9) ⟨One.of _ _ _, HX2.out.step ((Below.refl _ _).alloc (Nat.le_refl _) _), (Below.refl _ _).alloc (Nat.le_refl _) _⟩ ?_
          rintro W9 ⟨hC9, hX9, hb9⟩
          have hbw9 := Hbw2.out.trans (hb9.mono Hbw2.out.size)
          have hxc : wr.heap.size < w2.heap.size := HX2.out.lt
          have x1 := hX9.c 1
          have y0 := hC9.c 0; have y1 := hC9.c 1; have yf0 := hC9.f 0; have yf1 := hC9.f 1
          simp at x1 y0 y1
          have h9 := HT1.out.below (hbw.out.trans (hbw9.mono hbw.out.size))
          have d2 := h9.c2
          obtain ⟨s11, _, _, hs11, _, hl11⟩ := h9.m.look2 pth (by unfold maxLen; omega)
          obtain ⟨s11', is11', _, hs11', _, hl11d⟩ := (h9.m.below (w' := W9.drew) (Below.drew (Below.refl _ _))).look2 pth (by unfold maxLen; omega)
          obtain ⟨cM, hcM⟩ : ∃ c, c = cellAt M pth := ⟨_, rfl⟩
          rw [← hcM] at hl11 hs11 hl11d hs11'
          have HC9 := Lib.hid hC9; have HX9 := Lib.hid hX9; have Hbw9 := Lib.hid hbw9; have Hs9' := Lib.hid (Hs9.out.below hb9 (Nat.le_refl _)); have Hs11 := Lib.hid hs11; have Hs11' := Lib.hid hs11'; have Hxc := Lib.hid hxc
          have HcM := Lib.hid hcM; have Hb9 := Lib.hid hb9
          clear hC9 hX9 hbw9 h9 hcM hxc hs11 hs11' hb9 Hs9 HX1 HbW HX2 Hbw2 HF2
          go_upto_if 57 with fail
          go_cut [] (fun wx => Hid (∃ s, One w2.heap.size #[.int .u64 (cellAt N pth).last, s] wx ∧ One wr.heap.size #[.int .u8 kd, .string pth, .bool any, .int .u64 want, .int .u64 n, .string tx] wx ∧ IsVers wx s (cellAt N pth).l ∧ Below wr.heap.size wr wx ∧ w2.heap.size < wx.heap.size))
          case first =>
            obtain ⟨a11, c11, rfl, hs11c⟩ := Hs11'.out
            clear hs11c
            cases is with
            | true =>
              have e : cellAt N pth = cF := by rw [merged_cellAt hMer.out, ← His.out, if_pos rfl, HcF.out]
              go_wp2_with fail
              go_meet
              case rel => rw [e]; exact Lib.hid ⟨_, HC9.out, HX9.out, Hs9'.out, Hbw9.out, HC9.out.lt⟩
            | false =>
              have e : cellAt N pth = cM := by rw [merged_cellAt hMer.out, ← His.out, if_neg (by decide), HcM.out]
              have hlx : ¬ wr.heap.size = w2.heap.size := by have := Hxc.out; omega
              go_wp2_with fail
              go_region
              all_goals go_wp2_with fail
              all_goals go_meet
              all_goals (rw [e]; refine Lib.hid ⟨_, ((HC9.out.step (Below.drew (Below.refl _ _))).set (i := 0) (by simp) _).set (i := 1) (by simp) _, ((HX9.out.step (Below.drew (Below.refl _ _))).far (p := ⟨w2.heap.size, 0, none⟩) (by dsimp only; have := Hxc.out; omega) _).far (p := ⟨w2.heap.size, 1, none⟩) (by dsimp only; have := Hxc.out; omega) _, ?_⟩)
              all_goals refine ⟨?_, ?_, ?_⟩
              all_goals first
                | exact (Hs11'.out.notOne (HC9.out.step (Below.drew (Below.refl _ _))) rfl _).notOne ((HC9.out.step (Below.drew (Below.refl _ _))).set (i := 0) (by simp) _) rfl _
                | exact ((Hbw9.out.trans ((Below.drew (Below.refl _ _)).mono Hbw9.out.size)).setCell (by dsimp only; have := Hxc.out; omega) _).setCell (by dsimp only; have := Hxc.out; omega) _
                | (simpa using HC9.out.lt)
          case rest =>
            obtain ⟨s, hCc, hXc, hsc, hbwc, hltc⟩ := hcut.out
            clear hcut x0 x1 y0 y1 yf0 yf1 d2 hl11 hl11d hl9
            obtain ⟨hmay, hlast⟩ := hGN.out.cellAt pth
            obtain ⟨cN, hcN⟩ : ∃ c, c = cellAt N pth := ⟨_, rfl⟩
            rw [← hcN] at hCc hsc hmay hlast
            have Hfit2 := Lib.hid Hfit.out
            rw [← hcN] at Hfit2
            have y0 := hCc.c 0; have y1 := hCc.c 1
            have x0 := hXc.c 0; have x1 := hXc.c 1; have x2 := hXc.c 2; have x3 := hXc.c 3; have x4 := hXc.c 4; have x5 := hXc.c 5
            simp at y0 y1 x0 x1 x2 x3 x4 x5
            have Hsc := Lib.hid hsc
            have Hbwc2 : Hid (wr.heap.size ≤ wc.heap.size) := Lib.hid hbwc.size
            obtain ⟨asl, csl, rfl, hscc⟩ := hsc
            clear hscc
            have h8 := may_len hmay
            have Hout := Lib.hid (tab_outcome cN _ ⟨kd, pth, any, want, n, tx⟩ wc Hsc.out (by omega) hlast Hpx.out.2)
            have HcN := Lib.hid hcN; have HCc := Lib.hid hCc; have HXc := Lib.hid hXc; have Hbwc := Lib.hid hbwc; have Hmay := Lib.hid hmay; have Hlast := Lib.hid hlast
            clear hcN hCc hXc hbwc hmay hlast
            unfold edtVal at Hout
            obtain ⟨r5, hr5⟩ : ∃ r5, r5 = outcomeE cN ⟨kd, pth, any, want, n, tx⟩ := ⟨_, rfl⟩
            rw [← hr5] at Hout Hfit2
            clear hr5
            go_wp2_with fail
            refine Hout.out.mono ?_
            rintro e w5 ⟨v5, rfl, hv5, hf5, hb5⟩
            have hv5' := hv5
            obtain ⟨a6, c6, rfl, hc6⟩ := hv5'
            clear hc6
            have hCc5 := HCc.out.step hb5
            have hXc5 := HXc.out.step hb5
            have hbw5 := Hbwc.out.trans (hb5.mono Hbwc.out.size)
            have Hf5 := Lib.hid hf5; have Hv5 := Lib.hid hv5; have HCc5 := Lib.hid hCc5; have HXc5 := Lib.hid hXc5; have Hbw5 := Lib.hid hbw5; have Hb5 := Lib.hid hb5
            clear hf5 hv5 hCc5 hXc5 hbw5 hb5 x0 x1 x2 x3 x4 x5 y0 y1 HCc HXc Hbwc
            by_cases he : r5.2 = 0
            · have hE : ((r5.2 : Int) != 0) = false := by simp [he]
              have he0 : (editE N ⟨kd, pth, any, want, n, tx⟩).2 = 0 := by rw [Hfit2.out]; exact he
              have HE0 := Lib.hid he0; clear he0
              go_upto_region 15 with fail
              refine wp_abs (F := fun W15 => One w5.heap.size #[.int .u64 r5.1.last, .slice a6 r5.1.l.length c6] W15 ∧ One w2.heap.size #[.int .u64 cN.last, .slice asl cN.l.length csl] W15 ∧ One wr.heap.size #[.int .u8 kd, .string pth, .bool any, .int .u64 want, .int .u64 n, .string tx] W15 ∧ Below w5.heap.size w5 W15)
                ⟨One.of _ _ _, HCc5.out.step ((Below.refl _ _).alloc (Nat.le_refl _) _), HXc5.out.step ((Below.refl _ _).alloc (Nat.le_refl _) _), (Below.refl _ _).alloc (Nat.le_refl _) _⟩ ?_
              rintro W15 ⟨hD15, hC15, hX15, hb15⟩
              have hbw15 := Hbw5.out.trans (hb15.mono Hbw5.out.size)
              have d0 := hD15.c 0; have d1 := hD15.c 1; have x1 := hX15.c 1
              have y0 := hC15.c 0; have y1 := hC15.c 1
              simp at d0 d1 x1 y0 y1
              obtain ⟨e1, e2, e3, e4⟩ := edit_ok hGN.out HE0.out
              rw [Hfit2.out] at e1 e2 e3
              have hp128 : pth.size ≤ 128 := mayP_size hpm
              have hv15 := Hv5.out.below hb15 (Nat.le_refl _)
              have hs15 := Hsc.out.below (Hb5.out.trans (hb15.mono Hb5.out.size)) (Nat.le_refl _)
              have HW1 := Lib.hid (fun (w' : World) (hb : Below W15.heap.size W15 w') => tab_weight pth r5.1 _ w' (hv15.below hb (Nat.le_refl _)) (by have := may_len e1; omega) (may_sizes e1) (by have := may_size e1; omega) (by omega))
              have HW2 := Lib.hid (fun (w' : World) (hb : Below W15.heap.size W15 w') => tab_weight pth cN _ w' (hs15.below hb (Nat.le_refl _)) (by omega) (may_sizes Hmay.out) (by have := may_size Hmay.out; omega) (by omega))
              have hwd := weight_le (p := pth) e1 hp128
              have hwc := weight_le (p := pth) Hmay.out hp128
              obtain ⟨wd, hwdE⟩ : ∃ x, x = weightE pth r5.1 := ⟨_, rfl⟩
              obtain ⟨wcN, hwcE⟩ : ∃ x, x = weightE pth cN := ⟨_, rfl⟩
              rw [← hwdE] at HW1 hwd
              rw [← hwcE] at HW2 hwc
              have hbd1 := hbd.out.1
              have hbd2 := hbd.out.2
              have i1 : -4611686018427387904 ≤ B' := by omega
              have i2 : B' ≤ 4611686018427387904 := by omega
              have HwdE := Lib.hid hwdE; have HwcE := Lib.hid hwcE; have HD15 := Lib.hid hD15; have HX15 := Lib.hid hX15; have Hbw15 := Lib.hid hbw15; have Hb15 := Lib.hid hb15; have Hv15 := Lib.hid hv15
              have HeF := Lib.hid (And.intro e1 (And.intro e2 (And.intro e3 e4)))
              have keepS : Hid (∀ w', Below W15.heap.size W15 w' → w'.cell? ⟨wr.heap.size, 1, none⟩ = some (.string pth) ∧ w'.cell? ⟨w5.heap.size, 0, none⟩ = some (.int .u64 r5.1.last) ∧ w'.cell? ⟨w5.heap.size, 1, none⟩ = some (.slice a6 r5.1.l.length c6) ∧ w'.cell? ⟨w2.heap.size, 0, none⟩ = some (.int .u64 cN.last) ∧ w'.cell? ⟨w2.heap.size, 1, none⟩ = some (.slice asl cN.l.length csl) ∧ Hid (Below W15.heap.size W15 w')) :=
                Lib.hid (fun w' h => ⟨(h.cell hX15.lt).trans x1, (h.cell hD15.lt).trans d0, (h.cell hD15.lt).trans d1, (h.cell hC15.lt).trans y0, (h.cell hC15.lt).trans y1, Lib.hid h⟩)
              have keepB : Hid (∀ w' : World, (w'.cell? ⟨wr.heap.size, 1, none⟩ = some (.string pth) ∧ w'.cell? ⟨w5.heap.size, 0, none⟩ = some (.int .u64 r5.1.last) ∧ w'.cell? ⟨w5.heap.size, 1, none⟩ = some (.slice a6 r5.1.l.length c6) ∧ w'.cell? ⟨w2.heap.size, 0, none⟩ = some (.int .u64 cN.last) ∧ w'.cell? ⟨w2.heap.size, 1, none⟩ = some (.slice asl cN.l.length csl) ∧ Hid (Below W15.heap.size W15 w')) → Below W15.heap.size W15 w') := Lib.hid (fun w' h => h.2.2.2.2.2.out)
              have hwr1 : IntKind.i64.wrap ((wd : Int) - (wcN : Int)) = (wd : Int) - (wcN : Int) := by rw [IntKind.wrap_i64]; omega
              have hwr2 : IntKind.i64.wrap (B' + ((wd : Int) - (wcN : Int))) = B' + ((wd : Int) - (wcN : Int)) := by rw [IntKind.wrap_i64]; omega
              clear hwdE hwcE hD15 hC15 hX15 hbw15 hb15 hv15 hs15 hbd1 hbd2 e1 e2 e3 e4
              go_cut [6] (fun s6 wx => s6 = .int .i64 (B' + ((wd : Int) - (wcN : Int))) ∧ Hid (Below W15.heap.size W15 wx))
              case first =>
                refine wp_region_quiet (C := fun w' => w'.cell? ⟨wr.heap.size, 1, none⟩ = some (.string pth) ∧ w'.cell? ⟨w5.heap.size, 0, none⟩ = some (.int .u64 r5.1.last) ∧ w'.cell? ⟨w5.heap.size, 1, none⟩ = some (.slice a6 r5.1.l.length c6) ∧ w'.cell? ⟨w2.heap.size, 0, none⟩ = some (.int .u64 cN.last) ∧ w'.cell? ⟨w2.heap.size, 1, none⟩ = some (.slice asl cN.l.length csl) ∧ Hid (Below W15.heap.size W15 w')) (by kernel_rfl) (by kernel_rfl) (keepS.out _ (Below.drew (Below.refl _ _))) ?_
                clear Hr HC Hp HG HM Hmade hmm HT HT1 Hb1 HX hFo hF hMer hGN hvk hown hbd hbw hsz Hrun Hpx Hbr Hst Hfit k0 k1 k2 k3 k4 k5 hl
                refine quiet_plain rfl (.int .i64 B') (fun w' hw' => ?_) ?_
                · obtain ⟨f1, f2, f3, f4, f5, f6⟩ := hw'
                  go_simp
                go_frame
                refine quiet_plain rfl (.pointer (some ⟨wr.heap.size, 1, none⟩)) (fun w' hw' => ?_) ?_
                · obtain ⟨f1, f2, f3, f4, f5, f6⟩ := hw'
                  go_simp
                go_frame
                refine quiet_plain rfl (.string pth) (fun w' hw' => ?_) ?_
                · obtain ⟨f1, f2, f3, f4, f5, f6⟩ := hw'
                  go_simp
                go_frame
                refine quiet_plain rfl (.agg #[.int .u64 r5.1.last, .slice a6 r5.1.l.length c6]) (fun w' hw' => ?_) ?_
                · obtain ⟨f1, f2, f3, f4, f5, f6⟩ := hw'
                  go_simp
                go_frame
                refine quiet_call rfl (.int .i64 wd) 32 #[.string pth, .agg #[.int .u64 r5.1.last, .slice a6 r5.1.l.length c6]] (fun w' hw' => ⟨?_, ?_⟩) ?_
                · obtain ⟨f1, f2, f3, f4, f5, f6⟩ := hw'
                  go_simp
                · exact (HW1.out w' (keepB.out _ hw')).mono (fun e w6 ⟨he, hb⟩ => ⟨he, keepS.out _ ((keepB.out _ hw').trans (hb.mono (keepB.out _ hw').size))⟩)
                go_frame
                refine quiet_plain rfl (.pointer (some ⟨wr.heap.size, 1, none⟩)) (fun w' hw' => ?_) ?_
                · obtain ⟨f1, f2, f3, f4, f5, f6⟩ := hw'
                  go_simp
                go_frame
                refine quiet_plain rfl (.string pth) (fun w' hw' => ?_) ?_
                · obtain ⟨f1, f2, f3, f4, f5, f6⟩ := hw'
                  go_simp
                go_frame
                refine quiet_plain rfl (.agg #[.int .u64 cN.last, .slice asl cN.l.length csl]) (fun w' hw' => ?_) ?_
                · obtain ⟨f1, f2, f3, f4, f5, f6⟩ := hw'
                  go_simp
                go_frame
                refine quiet_call rfl (.int .i64 wcN) 32 #[.string pth, .agg #[.int .u64 cN.last, .slice asl cN.l.length csl]] (fun w' hw' => ⟨?_, ?_⟩) ?_
                · obtain ⟨f1, f2, f3, f4, f5, f6⟩ := hw'
                  go_simp
                · exact (HW2.out w' (keepB.out _ hw')).mono (fun e w6 ⟨he, hb⟩ => ⟨he, keepS.out _ ((keepB.out _ hw').trans (hb.mono (keepB.out _ hw').size))⟩)
                go_frame
                refine quiet_plain rfl (.int .i64 ((wd : Int) - (wcN : Int))) (fun w' hw' => ?_) ?_
                · obtain ⟨f1, f2, f3, f4, f5, f6⟩ := hw'
                  go_simp
                go_frame
                refine quiet_plain rfl (.int .i64 (B' + ((wd : Int) - (wcN : Int)))) (fun w' hw' => ?_) ?_
                · obtain ⟨f1, f2, f3, f4, f5, f6⟩ := hw'
                  go_simp
                go_frame
                refine quiet_plain rfl (.int .i64 (B' + ((wd : Int) - (wcN : Int)))) (fun w' hw' => ?_) ?_
                · obtain ⟨f1, f2, f3, f4, f5, f6⟩ := hw'
                  go_simp
                go_frame
                refine wpQuiet_nil ?_
                intro w' hw'
                have hbx := keepB.out _ hw'
                go_wp2_with fail
                go_meet
                case rel => exact ⟨rfl, Lib.hid hbx⟩
              case rest =>
                obtain ⟨rfl, HBx⟩ := hcut
                obtain ⟨Wx, hWx⟩ : ∃ Wx, Wx = wc := ⟨_, rfl⟩
                rw [← hWx] at HBx ⊢
                clear hWx d0 d1 x1 y0 y1 keepS keepB HW1 HW2
                have hDx := HD15.out.step HBx.out
                have hXx := HX15.out.step HBx.out
                have hbwx := Hbw15.out.trans (HBx.out.mono Hbw15.out.size)
                have d0 := hDx.c 0; have d1 := hDx.c 1; have x1 := hXx.c 1
                simp at d0 d1 x1
                have hOx := hFo.out.1.below hbwx
                obtain ⟨D, hownD, hput⟩ := hOx.put
                have hsF := hFo.out.2
                have hkey := keyS (s := pth) Tryd.underlying9 (by unfold maxLen; omega)
                have hlen : size F < maxLen := by unfold maxLen; omega
                have hvx := Hv15.out.below HBx.out (Nat.le_refl _)
                have hrowx := ownBelow hown.out hbwx
                have hput2 := hput
                have hfr : ∀ kb, (Value.slice a6 r5.1.l.length c6).ownBlock = some kb → (Value.slice a5 vv.length c5).ownBlock ≠ some kb := by
                  intro kb hk e
                  have h1 := Hf5.out kb hk
                  have h2 : kb < wr.heap.size := by
                    rcases hown.out.2 with ⟨hv, _⟩ | ⟨g, cp, cur, hv, hB, hg, _⟩
                    · rw [hv] at e; cases e
                    · rw [hv] at e; cases e; exact lt_of_block hg
                  have h3 := Hbwc2.out
                  omega
                have hne1 : w5.heap.size ≠ w1.heap.size := by have h1 := Hbw5.out.size; have h2 := HoldsMap.lt hFo.out.1; omega
                obtain ⟨i0, hi, hz0, hz1, hz2⟩ := info_parts infoU64
                have hvl : vv.length ≤ 1048576 := by have := hvk.out; omega
                have Hput := Lib.hid (fun w' n hw hg => hput w' n pth r5.1 (.slice a6 r5.1.l.length c6) (by unfold maxLen; omega) hvx (fun _ => hfr) hw hg)
                have Hrowx := Lib.hid hrowx; have HDx := Lib.hid hDx; have Hbwx := Lib.hid hbwx; have Hvk := Lib.hid hvk.out
                clear hput hput2 hvx hfr hrowx hDx hXx hbwx hOx
                go_wp2_with (first
                  | (at_mapUpdate; refine wpList_mapUpdate_own _ rfl _ _ _ 66 rfl 9 62 strKeyed Tryd.underlying66 heldR w1.heap.size (size F) D rfl hownD hlen _ _ (kS pth) rfl rfl hkey (.held (.agg #[.int .u64 r5.1.last, .slice a6 r5.1.l.length c6])) [] rfl ?_; intro w7 hown7 hg7; have HO7 := Lib.hid (Hput.out _ _ hown7 hg7); have Hrow7 := Lib.hid (ownGrown Hrowx.out hg7 (Nat.lt_succ_self _)); have Hg7 := Lib.hid hg7; have hD7 := (HDx.out.grown hg7 hne1); have d0 := hD7.c 0; simp at d0; clear hown7 hg7 hD7)
                  | (at_builtin; refine wpList_append_lies _ rfl (.tmp 90) (.tmp 93) 34 rfl (w1.heap.size + 1) 38 i0 (.int .u64 0) 1 8 Tryd.underlying34 hi hz0 hz1 hz2 rfl (by decide) _ vv.length (vv.map (fun n : Nat => Value.int .u64 n)) rfl (ownBelow Hrow7.out ((Below.refl _ _).alloc (Nat.le_refl _) _)) ⟨w7.heap.size, 0, none⟩ 1 1 [.int .u64 r5.1.last] rfl rfl (World.news_of_block (MapKept.heap_alloc _ _).1) (by intro u hu; rcases List.mem_singleton.1 hu with rfl; rfl) (by decide) (by unfold maxLen; omega) (by omega) ?hbase (w7.heap.size + 1) (by simp) ?go; (case hbase => have h1 := HoldsMap.lt HO7.out; simp; omega); intro g cp w8 hown8 hg8 hat hlt8)
                  | fail)
                go_roundw
                case rel =>
                  have hEd : editE N ⟨kd, pth, any, want, n, tx⟩ = r5 := Hfit2.out
                  refine ⟨rfl, k + 1, stepM N ⟨kd, pth, any, want, n, tx⟩, vv ++ [r5.1.last], B' + ((wd : Int) - (wcN : Int)), F.put (kS pth) (.held r5.1), by omega, by go_num, rfl, Lib.hid ?_, ⟨_, _, by rw [List.length_append]; rfl⟩, Lib.hid ⟨?_, ?_⟩, Lib.hid ?_, Lib.hid (hGN.out.step Tryd.underlying9 HE0.out), Lib.hid ?_, Lib.hid ?_, Lib.hid ?_, Lib.hid ?_⟩
                  · have := Hrun.out.trans (runT_go HE0.out)
                    rw [hEd] at this
                    simp only at this
                    rw [← HcN.out, ← HwdE.out, ← HwcE.out] at this
                    exact this
                  · have h7 := HO7.out.below ((Below.refl w7.heap.size w7).alloc (Nat.le_refl _) (.cells #[.int .u64 r5.1.last] 38))
                    refine h7.row hg8 ?_ ?_
                    · intro e
                      have := ownAbove Hrow7.out _ e.symm
                      omega
                    · rcases hat with h | h
                      · left; exact h.symm
                      · right; show some g = some _; rw [h]; simp
                  · have h1 := Maps.size_put (k := kS pth) (canonK_tidy (HoldsMap.canon HO7.out.map)) (.held r5.1)
                    have h2 := hsF
                    have h3 := Maps.size_put (k := kS pth) (canonK_tidy (HoldsMap.canon hF.out)) (.held r5.1)
                    rw [h3]; split <;> omega
                  · unfold stepM
                    rw [hEd]
                    exact merged_put hMer.out (canonK_isMap hGN.out.canon) (canonK_isMap (HoldsMap.canon hF.out)) (kS_key _) _
                  · rw [List.length_append, Hvk.out]; rfl
                  · rw [List.length_append, List.map_append]; exact hown8
                  · have h1 := hbd.out.1; have h2 := hbd.out.2; constructor <;> omega
                  · have hA := (hbw.out.trans (Hbwx.out.mono hbw.out.size)).grown Hg7.out (hbw.out.trans (Hbwx.out.mono hbw.out.size)).size (fun k hk => by cases hk; exact Nat.le_refl _)
                    refine (hA.alloc hA.size _).grown hg8 (hA.alloc hA.size _).size (fun k hk => ?_)
                    have := ownAbove Hrow7.out k hk
                    omega
                case measure => simp [intOf]; omega
            · have hE : ((r5.2 : Int) != 0) = true := by simp [bne]; omega
              obtain rfl : r = ((k, r5.2), N, vv, B') := Hst.out r5.2 he (by rw [Hfit2.out])
              go_wp2_with fail
              refine bodyPost_ret (v := .tuple #[.map none, .slice none 0 0, .int .i64 0, .int .i64 k, .int .i64 r5.2]) ?_ rfl ⟨?_, Or.inl ⟨he, rfl⟩⟩
              · simp [results, Tryd.results23, go_sem]
              · exact (Hbr.out.trans (Hbw5.out.mono Hbr.out.size)).alloc (Hbr.out.trans (Hbw5.out.mono Hbr.out.size)).size _
      · have hge : (l.length : Int) ≤ (k : Int) := by omega
        obtain ⟨We, hWe⟩ : ∃ We, We = wr := ⟨_, rfl⟩
        subst hWe
        have hkl : k = l.length := by omega
        have hr : r = if overT (N, B') M B q1 q2 then ((l.length, 180), N, vv, B') else ((0, 0), N, vv, B') := by
          rw [Hr.out, hrun.out, hkl, List.drop_length]; rfl
        have Hr2 := Lib.hid hr
        have hTr := HT1.out.below hbw.out
        have c2 := hTr.c2
        have hlen := hTr.m.len (t := 66) (e := 62) Tryd.underlying66 3
        obtain ⟨D, hownD, hal⟩ := hFo.out.1
        have HTr := Lib.hid hTr; have Hal := Lib.hid hal
        clear hr hTr hal hrun hkl
        go_wp2_with (first | (at_range; refine wpList_range_own _ rfl _ 66 rfl 9 62 strKeyed Tryd.underlying66 heldR w1.heap.size (size F) D rfl hownD ?_; intro w0 hrg0 hg0 hs0) | fail)
        go_frame
        go_loopw [15] (fun s15 wx => ∃ (left : Lit → Bool) (cnt : Nat) (X : DataW Cel) (sx : Nat), s15 = .int .i64 sx ∧ Hid (sx = size X) ∧ Hid (wx.ranges Tryd.prog 9 heldR w1.heap.size We.heap.size (size F) D left cnt) ∧ Hid (Merged X M F left) ∧ Hid (CanonK (KeysOf Tryd.prog 9) X) ∧ Hid (sx + cnt ≤ size M + size F) ∧ Hid (Below We.heap.size We wx)) (fun _ wx => wx.rangeLeft w1.heap.size We.heap.size)
        case atStart =>
          refine ⟨_, _, M, size M, rfl, Lib.hid rfl, Lib.hid hrg0, Lib.hid ?_, Lib.hid HG.out.canon, Lib.hid (by have := Hal.out.sizes; omega), Lib.hid ?_⟩
          · refine ⟨fun k => ?_, fun k z => ?_⟩
            · rw [Hal.out.keys]; cases has M k <;> cases has F k <;> rfl
            · rw [Hal.out.keys]; cases has F k <;> rfl
          · exact (Below.refl _ _).grown hg0 (Nat.le_refl _) (fun k hk => by cases hk)
        case round =>
          obtain ⟨left, cnt, X, sx, rfl, hsx, hrg, hmX, hcX, hXle, hbx⟩ := hrel
          have hrgo := hrg.out
          by_cases hc : cnt = 0
          · have hT3 := HTr.out.below hbx.out
            have c0 := hT3.c0; have c1 := hT3.c1; have c2 := hT3.c2; have c3 := hT3.c3
            have hlen := hT3.m.len (t := 66) (e := 62) Tryd.underlying66 3
            obtain ⟨sm, hsm⟩ : ∃ n, n = size M := ⟨_, rfl⟩
            rw [← hsm] at hlen
            have Hsm := Lib.hid hsm
            have Hbend : Hid (Below w.heap.size w wr) := Lib.hid (Hb1.out.trans ((hbw.out.trans (hbx.out.mono hbw.out.size)).mono Hb1.out.size))
            clear hT3 hsm
            by_cases a1 : q1 < (sx : Int)
            · by_cases a2 : sm < sx
              · have a2' : (sm : Int) < (sx : Int) := by omega
                go_wp2_with (at_next; refine wpList_next_ranges _ rfl _ rfl 9 strKeyed heldR Value.string (fun v : Value => v) (fun key kl h => by obtain ⟨s, rfl, _⟩ := keyS_inv Tryd.underlying9 h; exact ⟨s, rfl⟩) (fun v y _ => ⟨v, rfl⟩) w1.heap.size We.heap.size (size F) D left cnt rfl hrgo ?_ (fun x c kl y w' cnt' _ _ _ _ _ hlt' => absurd hlt' (by omega)); intro hc0 hl0)
                have hXN : X = N := merged_same hMer.out hmX.out hl0 hGN.out.canon hcX.out
                have hsN : size N = sx := by rw [← hXN]; exact hsx.out.symm
                have hmM := Hsm.out
                obtain rfl : r = ((l.length, 180), N, vv, B') := by rw [Hr2.out, if_pos (by unfold overT; simp only [hsN, ← hmM]; simp only [Bool.or_eq_true, Bool.and_eq_true, decide_eq_true_eq]; omega)]
                refine bodyPost_ret (v := .tuple #[.map none, .slice none 0 0, .int .i64 0, .int .i64 l.length, .int .i64 180]) ?_ rfl ⟨Hbend.out, Or.inl ⟨by simp, rfl⟩⟩
                simp [results, Tryd.results23, go_sem]
              · have a2' : ¬ (sm : Int) < (sx : Int) := by omega
                by_cases a3 : q2 < B'
                · by_cases a4 : B < B'
                  · skip
                    go_wp2_with (at_next; refine wpList_next_ranges _ rfl _ rfl 9 strKeyed heldR Value.string (fun v : Value => v) (fun key kl h => by obtain ⟨s, rfl, _⟩ := keyS_inv Tryd.underlying9 h; exact ⟨s, rfl⟩) (fun v y _ => ⟨v, rfl⟩) w1.heap.size We.heap.size (size F) D left cnt rfl hrgo ?_ (fun x c kl y w' cnt' _ _ _ _ _ hlt' => absurd hlt' (by omega)); intro hc0 hl0)
                    have hXN : X = N := merged_same hMer.out hmX.out hl0 hGN.out.canon hcX.out
                    have hsN : size N = sx := by rw [← hXN]; exact hsx.out.symm
                    have hmM := Hsm.out
                    obtain rfl : r = ((l.length, 180), N, vv, B') := by rw [Hr2.out, if_pos (by unfold overT; simp only [hsN, ← hmM]; simp only [Bool.or_eq_true, Bool.and_eq_true, decide_eq_true_eq]; omega)]
                    refine bodyPost_ret (v := .tuple #[.map none, .slice none 0 0, .int .i64 0, .int .i64 l.length, .int .i64 180]) ?_ rfl ⟨Hbend.out, Or.inl ⟨by simp, rfl⟩⟩
                    simp [results, Tryd.results23, go_sem]
                  · skip
                    go_wp2_with (at_next; refine wpList_next_ranges _ rfl _ rfl 9 strKeyed heldR Value.string (fun v : Value => v) (fun key kl h => by obtain ⟨s, rfl, _⟩ := keyS_inv Tryd.underlying9 h; exact ⟨s, rfl⟩) (fun v y _ => ⟨v, rfl⟩) w1.heap.size We.heap.size (size F) D left cnt rfl hrgo ?_ (fun x c kl y w' cnt' _ _ _ _ _ hlt' => absurd hlt' (by omega)); intro hc0 hl0)
                    have hXN : X = N := merged_same hMer.out hmX.out hl0 hGN.out.canon hcX.out
                    have hsN : size N = sx := by rw [← hXN]; exact hsx.out.symm
                    have hmM := Hsm.out
                    obtain rfl : r = ((0, 0), N, vv, B') := by rw [Hr2.out, if_neg (by unfold overT; simp only [hsN, ← hmM]; simp only [Bool.or_eq_true, Bool.and_eq_true, decide_eq_true_eq]; omega)]
                    refine bodyPost_ret (v := .tuple #[.map (some w1.heap.size), .slice a5 vv.length c5, .int .i64 B', .int .i64 0, .int .i64 0]) ?_ rfl ⟨Hbend.out, Or.inr ⟨rfl, w1.heap.size, F, _, rfl, Hb1.out.size, hF.out.below hbx.out, hMer.out, (by have := hFo.out.2; have := hvk.out; simp only; omega), ownBase (ownBelow hown.out hbx.out) (by have := Hb1.out.size; omega)⟩⟩
                    simp [results, Tryd.results23, go_sem]
                · skip
                  go_wp2_with (at_next; refine wpList_next_ranges _ rfl _ rfl 9 strKeyed heldR Value.string (fun v : Value => v) (fun key kl h => by obtain ⟨s, rfl, _⟩ := keyS_inv Tryd.underlying9 h; exact ⟨s, rfl⟩) (fun v y _ => ⟨v, rfl⟩) w1.heap.size We.heap.size (size F) D left cnt rfl hrgo ?_ (fun x c kl y w' cnt' _ _ _ _ _ hlt' => absurd hlt' (by omega)); intro hc0 hl0)
                  have hXN : X = N := merged_same hMer.out hmX.out hl0 hGN.out.canon hcX.out
                  have hsN : size N = sx := by rw [← hXN]; exact hsx.out.symm
                  have hmM := Hsm.out
                  obtain rfl : r = ((0, 0), N, vv, B') := by rw [Hr2.out, if_neg (by unfold overT; simp only [hsN, ← hmM]; simp only [Bool.or_eq_true, Bool.and_eq_true, decide_eq_true_eq]; omega)]
                  refine bodyPost_ret (v := .tuple #[.map (some w1.heap.size), .slice a5 vv.length c5, .int .i64 B', .int .i64 0, .int .i64 0]) ?_ rfl ⟨Hbend.out, Or.inr ⟨rfl, w1.heap.size, F, _, rfl, Hb1.out.size, hF.out.below hbx.out, hMer.out, (by have := hFo.out.2; have := hvk.out; simp only; omega), ownBase (ownBelow hown.out hbx.out) (by have := Hb1.out.size; omega)⟩⟩
                  simp [results, Tryd.results23, go_sem]
            · skip
              by_cases a3 : q2 < B'
              · by_cases a4 : B < B'
                · skip
                  go_wp2_with (at_next; refine wpList_next_ranges _ rfl _ rfl 9 strKeyed heldR Value.string (fun v : Value => v) (fun key kl h => by obtain ⟨s, rfl, _⟩ := keyS_inv Tryd.underlying9 h; exact ⟨s, rfl⟩) (fun v y _ => ⟨v, rfl⟩) w1.heap.size We.heap.size (size F) D left cnt rfl hrgo ?_ (fun x c kl y w' cnt' _ _ _ _ _ hlt' => absurd hlt' (by omega)); intro hc0 hl0)
                  have hXN : X = N := merged_same hMer.out hmX.out hl0 hGN.out.canon hcX.out
                  have hsN : size N = sx := by rw [← hXN]; exact hsx.out.symm
                  have hmM := Hsm.out
                  obtain rfl : r = ((l.length, 180), N, vv, B') := by rw [Hr2.out, if_pos (by unfold overT; simp only [hsN, ← hmM]; simp only [Bool.or_eq_true, Bool.and_eq_true, decide_eq_true_eq]; omega)]
                  refine bodyPost_ret (v := .tuple #[.map none, .slice none 0 0, .int .i64 0, .int .i64 l.length, .int .i64 180]) ?_ rfl ⟨Hbend.out, Or.inl ⟨by simp, rfl⟩⟩
                  simp [results, Tryd.results23, go_sem]
                · skip
                  go_wp2_with (at_next; refine wpList_next_ranges _ rfl _ rfl 9 strKeyed heldR Value.string (fun v : Value => v) (fun key kl h => by obtain ⟨s, rfl, _⟩ := keyS_inv Tryd.underlying9 h; exact ⟨s, rfl⟩) (fun v y _ => ⟨v, rfl⟩) w1.heap.size We.heap.size (size F) D left cnt rfl hrgo ?_ (fun x c kl y w' cnt' _ _ _ _ _ hlt' => absurd hlt' (by omega)); intro hc0 hl0)
                  have hXN : X = N := merged_same hMer.out hmX.out hl0 hGN.out.canon hcX.out
                  have hsN : size N = sx := by rw [← hXN]; exact hsx.out.symm
                  have hmM := Hsm.out
                  obtain rfl : r = ((0, 0), N, vv, B') := by rw [Hr2.out, if_neg (by unfold overT; simp only [hsN, ← hmM]; simp only [Bool.or_eq_true, Bool.and_eq_true, decide_eq_true_eq]; omega)]
                  refine bodyPost_ret (v := .tuple #[.map (some w1.heap.size), .slice a5 vv.length c5, .int .i64 B', .int .i64 0, .int .i64 0]) ?_ rfl ⟨Hbend.out, Or.inr ⟨rfl, w1.heap.size, F, _, rfl, Hb1.out.size, hF.out.below hbx.out, hMer.out, (by have := hFo.out.2; have := hvk.out; simp only; omega), ownBase (ownBelow hown.out hbx.out) (by have := Hb1.out.size; omega)⟩⟩
                  simp [results, Tryd.results23, go_sem]
              · skip
                go_wp2_with (at_next; refine wpList_next_ranges _ rfl _ rfl 9 strKeyed heldR Value.string (fun v : Value => v) (fun key kl h => by obtain ⟨s, rfl, _⟩ := keyS_inv Tryd.underlying9 h; exact ⟨s, rfl⟩) (fun v y _ => ⟨v, rfl⟩) w1.heap.size We.heap.size (size F) D left cnt rfl hrgo ?_ (fun x c kl y w' cnt' _ _ _ _ _ hlt' => absurd hlt' (by omega)); intro hc0 hl0)
                have hXN : X = N := merged_same hMer.out hmX.out hl0 hGN.out.canon hcX.out
                have hsN : size N = sx := by rw [← hXN]; exact hsx.out.symm
                have hmM := Hsm.out
                obtain rfl : r = ((0, 0), N, vv, B') := by rw [Hr2.out, if_neg (by unfold overT; simp only [hsN, ← hmM]; simp only [Bool.or_eq_true, Bool.and_eq_true, decide_eq_true_eq]; omega)]
                refine bodyPost_ret (v := .tuple #[.map (some w1.heap.size), .slice a5 vv.length c5, .int .i64 B', .int .i64 0, .int .i64 0]) ?_ rfl ⟨Hbend.out, Or.inr ⟨rfl, w1.heap.size, F, _, rfl, Hb1.out.size, hF.out.below hbx.out, hMer.out, (by have := hFo.out.2; have := hvk.out; simp only; omega), ownBase (ownBelow hown.out hbx.out) (by have := Hb1.out.size; omega)⟩⟩
                simp [results, Tryd.results23, go_sem]
          · go_upto_if 117 with (at_next; refine wpList_next_ranges _ rfl _ rfl 9 strKeyed heldR Value.string (fun v : Value => v) (fun key kl h => by obtain ⟨s, rfl, _⟩ := keyS_inv Tryd.underlying9 h; exact ⟨s, rfl⟩) (fun v y _ => ⟨v, rfl⟩) w1.heap.size We.heap.size (size F) D left cnt rfl hrgo (fun h0 => absurd h0 hc) ?_; intro x c kl y w3 cnt3 hkx hlk hv hat hrg3 hlt3 hg3 hs3 hen; obtain ⟨rfl, hxs⟩ := keyS_of hkx; have hb3 := hbx.out.grown hg3 hbx.out.size (fun k hk => by cases hk; exact Nat.le_refl _); have hT3 := HTr.out.below hb3; have c2 := hT3.c2; obtain ⟨s, is, his, hs, hl3, _⟩ := hT3.m.look2 x hxs; obtain ⟨a9, c9, rfl, _⟩ := hs; have His := Lib.hid his; have Hb3 := Lib.hid hb3; have Hrg3 := Lib.hid hrg3; have Hlk := Lib.hid hlk; have Hat := Lib.hid hat; have Hxs := Lib.hid hxs; have Hlt3 := Lib.hid hlt3; clear his hb3 hrg3 hlk hat hxs hlt3 hkx hT3 hv hg3 hs3)
            obtain ⟨X', hX', hcX', hsX'⟩ := merged_next hmX.out hcX.out Hal.out Hxs.out Hlk.out Hat.out
            rw [← His.out, ← hsx.out] at hsX'
            have HX' := Lib.hid hX'; have HcX' := Lib.hid hcX'
            clear hX' hcX'
            have hFs := hFo.out.2
            have hl3' := Hlt3.out
            have hXl := hXle.out
            have hi1 : sx + 1 ≤ 9223372036854775807 := by omega
            have HXl : Hid (∀ n, n ≤ sx + 1 → n + cnt3 ≤ size M + size F) := Lib.hid (fun n hn => by omega)
            clear hFs hl3' hXl
            cases is with
            | true =>
              rw [if_pos rfl] at hsX'
              have HsX := Lib.hid hsX'; clear hsX'
              go_wp2_with fail
              go_roundw
              case rel => exact ⟨_, cnt3, X', sx, rfl, Lib.hid HsX.out.symm, Lib.hid (Hrg3.out.alloc _), HX', HcX', Lib.hid (HXl.out _ (by omega)), Lib.hid (Hb3.out.alloc Hb3.out.size _)⟩
              case measure => rw [(Hrg3.out.alloc _).left_eq, hrg.out.left_eq]; exact Hlt3.out
            | false =>
              rw [if_neg (by decide)] at hsX'
              have HsX := Lib.hid hsX'; clear hsX'
              go_wp2_with fail
              go_roundw
              case rel => exact ⟨_, cnt3, X', sx + 1, by push_cast; rfl, Lib.hid HsX.out.symm, Lib.hid (Hrg3.out.alloc _), HX', HcX', Lib.hid (HXl.out _ (by omega)), Lib.hid (Hb3.out.alloc Hb3.out.size _)⟩
              case measure => rw [(Hrg3.out.alloc _).left_eq, hrg.out.left_eq]; exact Hlt3.out
end Go.Proofs.YtbmmabpglkojkaaDoor
