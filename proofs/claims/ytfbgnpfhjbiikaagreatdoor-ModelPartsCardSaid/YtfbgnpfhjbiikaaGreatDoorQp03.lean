/- Contract: Table.tried. Contracts: maps.Copy, Table.Try, Table.Apply. Contract: Table.List; numbers and texts. Contracts for scriniumlaw18: numbers and texts, where the two lists are one. Plain laws of a stable sort of places by numbers: what insertionSort makes of rising places. -/
import Derived.Test.YtfbgnpfhjbiikaaGreatDoorQp02
import Derived.Deep.RegionHeld3
import Derived.Deep.AppendLies
import Derived.Deep.RegionWith
import Derived.Deep.DeepCutAuto
import Derived.Maps.OwnSet
import Derived.Maps.RangeWalk
import Derived.Laws.BitsLemmas
import Derived.Sort.LotA
namespace Go.Proofs.YtfbgnpfhjbiikaaGreatDoor
open Go Go.RowKit
open Pth
open Go.Maps (has size Canon CanonK Tidy IsMap KeysOf Keyed Merged)
def TriedGives (r : (Nat × Nat) × DataW Cel × List Nat × Int) (M : DataW Cel) (w : World) (e : Ending) (w' : World) : Prop :=
  Below w.heap.size w w' ∧
  ((r.1.2 ≠ 0 ∧ e = .returned (.tuple #[.map none, .slice none 0 0, .int .i64 0, .int .i64 r.1.1, .int .i64 r.1.2])) ∨
   (r.1.2 = 0 ∧ ∃ fb F v, e = .returned (.tuple #[.map (some fb), v, .int .i64 r.2.2.2, .int .i64 0, .int .i64 0]) ∧ w.heap.size ≤ fb ∧ CelMap w' fb F ∧ Merged r.2.1 M F (fun _ => false) ∧ size F ≤ r.2.2.1.length ∧ w'.ownsRow w.heap.size 43 1 v r.2.2.1.length (r.2.2.1.map (fun n : Nat => Value.int .u64 n))))

set_option maxRecDepth 100000 in
set_option maxHeartbeats 4000000 in
theorem tab_tried (w : World) {t b : Nat} {q1 q2 B : Int} {M : DataW Cel} (h : TabAt w t b q1 q2 M B) (hg : Good Tryz.prog 9 M) (hm : MX w) (v : Value) (l : List Edt) (hv : IsEdts w v l) (hl : l.length ≤ 1048576)
    (hsM : size M ≤ 1099511627776) (hB0 : -1125899906842624 ≤ B) (hB1 : B ≤ 1125899906842624) (hp : ∀ i, i < l.length → (l.getD i dE).path.size ≤ 140737488351232 ∧ (l.getD i dE).text.size ≤ 9223372036854775807) :
    Calls Tryz.prog 51 #[.pointer (some ⟨t, 0, none⟩), v] w (TriedGives (triedT M B q1 q2 l) M w) := by
  have Hr : Hid (triedT M B q1 q2 l = if (runT M [] B 0 l).1.2 ≠ 0 then runT M [] B 0 l else if overT ((runT M [] B 0 l).2.1, (runT M [] B 0 l).2.2.2) M B q1 q2 then ((l.length, 180), (runT M [] B 0 l).2) else runT M [] B 0 l) := Lib.hid rfl
  generalize triedT M B q1 q2 l = r at Hr
  obtain ⟨a, cap, rfl, hc⟩ := hv
  have HC := Lib.hid hc; have Hp := Lib.hid hp; have HG := Lib.hid hg; have HM := Lib.hid hm; clear hc hp hg hm
  have Hmade := Lib.hid (tab_made w h)
  have hmm := @run_makeMap Tryz.prog
  have HT := Lib.hid h; clear h
  go_enter Tryz.func51, Tryz.ntmps51
  go_wp2_with fail
  refine Hmade.out.mono ?_
  rintro e w1 ⟨rfl, hb1⟩
  have h1 := HT.out.below hb1
  have c3 := h1.c3
  have c3a : ∀ o, (w1.alloc o).cell? ⟨t, 3, none⟩ = some (.int .i64 B) := fun o => (World.cell?_alloc_past _ _ _ h1.lt).trans c3
  have HT1 := Lib.hid h1; have Hb1 := Lib.hid hb1; clear h1 hb1
  go_wp2_with fail
  go_cut [4, 6] (fun s4 s6 wx => s4 = .map (some w1.heap.size) ∧ s6 = .int .i64 B ∧ Hid (CelMap wx w1.heap.size (.map []) ∧ Below w1.heap.size w1 wx))
  case first =>
    go_region
    all_goals go_wp2_with fail
    all_goals go_meet
    all_goals exact ⟨rfl, rfl, Lib.hid ⟨(HoldsMap.made w1 Tryz.prog 9 (IsCel (w1.alloc (.map #[] 0)))), by first | exact (Below.refl _ _).alloc (Nat.le_refl _) _ | exact ((Below.refl _ _).alloc (Nat.le_refl _) _).drew⟩⟩
  case rest =>
    obtain ⟨rfl, rfl, HX⟩ := hcut
    go_wp2_with fail
    go_loopw [4, 5, 6, 29] (fun s4 s5 s6 i wr => s4 = .map (some w1.heap.size) ∧ ∃ (k : Nat) (N : DataW Cel) (vv : List Nat) (B' : Int) (F : DataW Cel), k ≤ l.length ∧ i = .int .i64 k ∧ s6 = .int .i64 B' ∧ Hid (runT M [] B 0 l = runT N vv B' k (l.drop k)) ∧ (∃ a5 c5, s5 = .slice a5 vv.length c5) ∧ Hid (OffMap wr w1.heap.size F s5.ownBlock ∧ size F ≤ k) ∧
      Hid (Merged N M F (fun _ => false)) ∧ Hid (Good Tryz.prog 9 N) ∧ Hid (vv.length = k) ∧ Hid (wr.ownsRow (w1.heap.size + 1) 43 1 s5 vv.length (vv.map (fun n : Nat => Value.int .u64 n))) ∧
      Hid (B - k * 33000 ≤ B' ∧ B' ≤ B + k * 33000) ∧ Hid (Below w1.heap.size w1 wr)) (fun _ _ _ i _ => l.length - (intOf i).toNat)
    case atStart => exact ⟨rfl, 0, M, [], B, .map [], Nat.zero_le _, rfl, rfl, Lib.hid rfl, ⟨none, 0, rfl⟩, Lib.hid ⟨HoldsMap.move HX.out.1 rfl (fun v c g => by obtain ⟨s, e, hs⟩ := g; exact ⟨s, e, hs, fun _ _ _ => by simp [Value.ownBlock]⟩), by simp [size]⟩, Lib.hid (merged_none M), HG, Lib.hid rfl, Lib.hid (World.ownsRow_nil _ _ _ _), Lib.hid (by omega), Lib.hid HX.out.2⟩
    case round =>
      obtain ⟨rfl, k, N, vv, B', F, hk, rfl, rfl, hrun, ⟨a5, c5, rfl⟩, hFo, hMer, hGN, hvk, hown, hbd, hbw⟩ := hrel
      have hF : Hid (CelMap wr w1.heap.size F) := Lib.hid hFo.out.1.map
      have hsz := hbw.out.size
      by_cases hlt : k < l.length
      · rcases HC.out with hn | ⟨bl, off, rfl, hblt, hcc⟩
        · subst hn; simp at hlt
        have hbr : Below w.heap.size w wr := Hb1.out.trans (hbw.out.mono Hb1.out.size)
        obtain ⟨h0, h1, h2, h3, h4, h5⟩ := hcc k hlt
        have k0 := (hbr.cell (p := ⟨bl, off + k * 6, none⟩) hblt).trans h0
        have k1 := (hbr.cell (p := ⟨bl, off + k * 6 + 1, none⟩) hblt).trans h1
        have k2 := (hbr.cell (p := ⟨bl, off + k * 6 + 2, none⟩) hblt).trans h2
        have k3 := (hbr.cell (p := ⟨bl, off + k * 6 + 3, none⟩) hblt).trans h3
        have k4 := (hbr.cell (p := ⟨bl, off + k * 6 + 4, none⟩) hblt).trans h4
        have k5 := (hbr.cell (p := ⟨bl, off + k * 6 + 5, none⟩) hblt).trans h5
        have hpx := Hp.out k hlt
        have hdrop : l.drop k = l.getD k dE :: l.drop (k + 1) := by
          rw [List.drop_eq_getElem_cons hlt, List.getD_eq_getElem?_getD, List.getElem?_eq_getElem hlt]; rfl
        have hrun2 := hrun.out
        rw [hdrop] at hrun2
        clear h0 h1 h2 h3 h4 h5 hcc hdrop
        obtain ⟨x, hx⟩ : ∃ x, x = l.getD k dE := ⟨_, rfl⟩
        rw [← hx] at k0 k1 k2 k3 k4 k5 hpx hrun2
        clear hx hrun
        obtain ⟨kd, pth, any, want, n, tx⟩ := x
        simp only at k0 k1 k2 k3 k4 k5 hpx
        have Hrun := Lib.hid hrun2; have Hpx := Lib.hid hpx; have Hbr := Lib.hid hbr; have Hlt := Lib.hid hlt; clear hrun2 hpx hbr
        have hlt2 : (k : Int) < (l.length : Int) := by omega
        go_upto_region 7 with fail
        refine wp_abs (F := fun W => One wr.heap.size #[.int .u8 kd, .string pth, .bool any, .int .u64 want, .int .u64 n, .string tx] W ∧ Below wr.heap.size wr W) ⟨One.of _ _ _, (Below.refl _ _).alloc (Nat.le_refl _) _⟩ ?_
        rintro W ⟨hX, hbW⟩
        have x0 := hX.c 0; have x1 := hX.c 1
        simp at x0 x1
        have HX1 := Lib.hid hX; have HbW := Lib.hid hbW; clear hX hbW
        have Hst : Hid (∀ e0, e0 ≠ 0 → (editE N ⟨kd, pth, any, want, n, tx⟩).2 = e0 → r = ((k, e0), N, vv, B')) := Lib.hid (by
          intro e0 he h
          rw [Hr.out, Hrun.out, runT_stop (by rw [h]; exact he), h]
          simp [he])
        by_cases hlo : kd < 1
        · obtain rfl : r = ((k, 2), N, vv, B') := Hst.out 2 (by decide) (by rw [edit_bad (Or.inl hlo)])
          go_wp2_with fail
          refine bodyPost_ret (v := .tuple #[.map none, .slice none 0 0, .int .i64 0, .int .i64 k, .int .i64 2]) ?_ rfl ⟨Hbr.out.trans (HbW.out.mono Hbr.out.size), Or.inl ⟨by simp, rfl⟩⟩
          simp [results, Tryz.results51, go_sem]
        by_cases hhi : 3 < kd
        · obtain rfl : r = ((k, 2), N, vv, B') := Hst.out 2 (by decide) (by rw [edit_bad (Or.inr (Or.inl hhi))])
          go_wp2_with fail
          refine bodyPost_ret (v := .tuple #[.map none, .slice none 0 0, .int .i64 0, .int .i64 k, .int .i64 2]) ?_ rfl ⟨Hbr.out.trans (HbW.out.mono Hbr.out.size), Or.inl ⟨by simp, rfl⟩⟩
          simp [results, Tryz.results51, go_sem]
        have hk1 : 1 ≤ kd := by omega
        have hk3 : kd ≤ 3 := by omega
        go_wp2_with fail
        refine (path_may pth Hpx.out.1 _ ?_).mono ?_
        · exact HM.out.below (Hbr.out.trans (HbW.out.mono Hbr.out.size)) (Nat.le_refl _)
        rintro e w2 ⟨rfl, hb2⟩
        have hX2 := HX1.out.step hb2
        have hbw2 := HbW.out.trans (hb2.mono HbW.out.size)
        have x0 := hX2.c 0; have x1 := hX2.c 1
        simp at x0 x1
        have HX2 := Lib.hid hX2; have Hbw2 := Lib.hid hbw2; clear hX2 hb2 hbw2
        cases hpm : mayL pth.data.toList with
        | false =>
          obtain rfl : r = ((k, 2), N, vv, B') := Hst.out 2 (by decide) (by rw [edit_bad (x := ⟨kd, pth, any, want, n, tx⟩) (Or.inr (Or.inr hpm))])
          go_wp2_with fail
          refine bodyPost_ret (v := .tuple #[.map none, .slice none 0 0, .int .i64 0, .int .i64 k, .int .i64 2]) ?_ rfl ⟨Hbr.out.trans (Hbw2.out.mono Hbr.out.size), Or.inl ⟨by simp, rfl⟩⟩
          simp [results, Tryz.results51, go_sem]
        | true =>
          have Hfit : Hid (editE N ⟨kd, pth, any, want, n, tx⟩ = outcomeE (cellAt N pth) ⟨kd, pth, any, want, n, tx⟩) := Lib.hid (edit_fit hk1 hk3 hpm)
          have hp128 : pth.size ≤ 128 := mayP_size hpm
          have hF2 : CelMap w2 w1.heap.size F := hF.out.below Hbw2.out
          obtain ⟨s9, is, his, hs9, hl9, _⟩ := hF2.look2 pth (by unfold maxLen; omega)
          have Hs9 := Lib.hid hs9
          obtain ⟨a9, c9, rfl, hs9c⟩ := hs9
          clear hs9c
          have His := Lib.hid his; have HF2 := Lib.hid hF2; clear his hF2
          obtain ⟨cF, hcF⟩ : ∃ c, c = cellAt F pth := ⟨_, rfl⟩
          rw [← hcF] at hl9 Hs9
          have HcF := Lib.hid hcF; clear hcF
          go_upto_region 10 with fail
          refine wp_abs (F := fun W9 => One w2.heap.size #[.int .u64 cF.last, .slice a9 cF.l.length c9] W9 ∧ One wr.heap.size #[.int .u8 kd, .string pth, .bool any, .int .u64 want, .int .u64 n, .string tx] W9 ∧ Below w2.heap.size w2 W9) ⟨One.of _ _ _, HX2.out.step ((Below.refl _ _).alloc (Nat.le_refl _) _), (Below.refl _ _).alloc (Nat.le_refl _) _⟩ ?_
          rintro W9 ⟨hC9, hX9, hb9⟩
          have hbw9 := Hbw2.out.trans (hb9.mono Hbw2.out.size)
          have hxc : wr.heap.size < w2.heap.size := HX2.out.lt
          have x1 := hX9.c 1
          have y0 := hC9.c 0; have y1 := hC9.c 1; have yf0 := hC9.f 0; have yf1 := hC9.f 1
          simp at x1 y0 y1
          have h9 := HT1.out.below (hbw.out.trans (hbw9.mono hbw.out.size))
          have d2 := h9.c2
          obtain ⟨s11, _, _, hs11, _, hl11⟩ := h9.m.look2 pth (by unfold maxLen; omega)
          obtain ⟨s11', is11', _, hs11', _, hl11d⟩ := (h9.m.below (w' := W9.drew) (Below.drew (Below.refl _ _))).look2 pth (by unfold maxLen; omega)
          obtain ⟨cM, hcM⟩ : ∃ c, c = cellAt M pth := ⟨_, rfl⟩
          rw [← hcM] at hl11 hs11 hl11d hs11'
          have HC9 := Lib.hid hC9; have HX9 := Lib.hid hX9; have Hbw9 := Lib.hid hbw9; have Hs9' := Lib.hid (Hs9.out.below hb9 (Nat.le_refl _)); have Hs11 := Lib.hid hs11; have Hs11' := Lib.hid hs11'; have Hxc := Lib.hid hxc
          have HcM := Lib.hid hcM; have Hb9 := Lib.hid hb9
          clear hC9 hX9 hbw9 h9 hcM hxc hs11 hs11' hb9 Hs9 HX1 HbW HX2 Hbw2 HF2
          go_upto_if 57 with fail
          go_cut [] (fun wx => Hid (∃ s, One w2.heap.size #[.int .u64 (cellAt N pth).last, s] wx ∧ One wr.heap.size #[.int .u8 kd, .string pth, .bool any, .int .u64 want, .int .u64 n, .string tx] wx ∧ IsVers wx s (cellAt N pth).l ∧ Below wr.heap.size wr wx ∧ w2.heap.size < wx.heap.size))
          case first =>
            obtain ⟨a11, c11, rfl, hs11c⟩ := Hs11'.out
            clear hs11c
            cases is with
            | true =>
              have e : cellAt N pth = cF := by rw [merged_cellAt hMer.out, ← His.out, if_pos rfl, HcF.out]
              go_wp2_with fail
              go_meet
              case rel => rw [e]; exact Lib.hid ⟨_, HC9.out, HX9.out, Hs9'.out, Hbw9.out, HC9.out.lt⟩
            | false =>
              have e : cellAt N pth = cM := by rw [merged_cellAt hMer.out, ← His.out, if_neg (by decide), HcM.out]
              have hlx : ¬ wr.heap.size = w2.heap.size := by have := Hxc.out; omega
              go_wp2_with fail
              go_region
              all_goals go_wp2_with fail
              all_goals go_meet
              all_goals (rw [e]; refine Lib.hid ⟨_, ((HC9.out.step (Below.drew (Below.refl _ _))).set (i := 0) (by simp) _).set (i := 1) (by simp) _, ((HX9.out.step (Below.drew (Below.refl _ _))).far (p := ⟨w2.heap.size, 0, none⟩) (by dsimp only; have := Hxc.out; omega) _).far (p := ⟨w2.heap.size, 1, none⟩) (by dsimp only; have := Hxc.out; omega) _, ?_⟩)
              all_goals refine ⟨?_, ?_, ?_⟩
              all_goals first
                | exact (Hs11'.out.notOne (HC9.out.step (Below.drew (Below.refl _ _))) rfl _).notOne ((HC9.out.step (Below.drew (Below.refl _ _))).set (i := 0) (by simp) _) rfl _
                | exact ((Hbw9.out.trans ((Below.drew (Below.refl _ _)).mono Hbw9.out.size)).setCell (by dsimp only; have := Hxc.out; omega) _).setCell (by dsimp only; have := Hxc.out; omega) _
                | (simpa using HC9.out.lt)
          case rest =>
            obtain ⟨s, hCc, hXc, hsc, hbwc, hltc⟩ := hcut.out
            clear hcut x0 x1 y0 y1 yf0 yf1 d2 hl11 hl11d hl9
            obtain ⟨hmay, hlast⟩ := hGN.out.cellAt pth
            obtain ⟨cN, hcN⟩ : ∃ c, c = cellAt N pth := ⟨_, rfl⟩
            rw [← hcN] at hCc hsc hmay hlast
            have Hfit2 := Lib.hid Hfit.out
            rw [← hcN] at Hfit2
            have y0 := hCc.c 0; have y1 := hCc.c 1
            have x0 := hXc.c 0; have x1 := hXc.c 1; have x2 := hXc.c 2; have x3 := hXc.c 3; have x4 := hXc.c 4; have x5 := hXc.c 5
            simp at y0 y1 x0 x1 x2 x3 x4 x5
            have Hsc := Lib.hid hsc
            have Hbwc2 : Hid (wr.heap.size ≤ wc.heap.size) := Lib.hid hbwc.size
            obtain ⟨asl, csl, rfl, hscc⟩ := hsc
            clear hscc
            have h8 := may_len hmay
            have Hout := Lib.hid (tab_outcome cN _ ⟨kd, pth, any, want, n, tx⟩ wc Hsc.out (by omega) hlast Hpx.out.2)
            have HcN := Lib.hid hcN; have HCc := Lib.hid hCc; have HXc := Lib.hid hXc; have Hbwc := Lib.hid hbwc; have Hmay := Lib.hid hmay; have Hlast := Lib.hid hlast
            clear hcN hCc hXc hbwc hmay hlast
            unfold edtVal at Hout
            obtain ⟨r5, hr5⟩ : ∃ r5, r5 = outcomeE cN ⟨kd, pth, any, want, n, tx⟩ := ⟨_, rfl⟩
            rw [← hr5] at Hout Hfit2
            clear hr5
            go_wp2_with fail
            refine Hout.out.mono ?_
            rintro e w5 ⟨v5, rfl, hv5, hf5, hb5⟩
            have hv5' := hv5
            obtain ⟨a6, c6, rfl, hc6⟩ := hv5'
            clear hc6
            have hCc5 := HCc.out.step hb5
            have hXc5 := HXc.out.step hb5
            have hbw5 := Hbwc.out.trans (hb5.mono Hbwc.out.size)
            have Hf5 := Lib.hid hf5; have Hv5 := Lib.hid hv5; have HCc5 := Lib.hid hCc5; have HXc5 := Lib.hid hXc5; have Hbw5 := Lib.hid hbw5; have Hb5 := Lib.hid hb5
            clear hf5 hv5 hCc5 hXc5 hbw5 hb5 x0 x1 x2 x3 x4 x5 y0 y1 HCc HXc Hbwc
            by_cases he : r5.2 = 0
            · have hE : ((r5.2 : Int) != 0) = false := by simp [he]
              have he0 : (editE N ⟨kd, pth, any, want, n, tx⟩).2 = 0 := by rw [Hfit2.out]; exact he
              have HE0 := Lib.hid he0; clear he0
              go_upto_region 15 with fail
              refine wp_abs (F := fun W15 => One w5.heap.size #[.int .u64 r5.1.last, .slice a6 r5.1.l.length c6] W15 ∧ One w2.heap.size #[.int .u64 cN.last, .slice asl cN.l.length csl] W15 ∧ One wr.heap.size #[.int .u8 kd, .string pth, .bool any, .int .u64 want, .int .u64 n, .string tx] W15 ∧ Below w5.heap.size w5 W15)
                ⟨One.of _ _ _, HCc5.out.step ((Below.refl _ _).alloc (Nat.le_refl _) _), HXc5.out.step ((Below.refl _ _).alloc (Nat.le_refl _) _), (Below.refl _ _).alloc (Nat.le_refl _) _⟩ ?_
              rintro W15 ⟨hD15, hC15, hX15, hb15⟩
              have hbw15 := Hbw5.out.trans (hb15.mono Hbw5.out.size)
              have d0 := hD15.c 0; have d1 := hD15.c 1; have x1 := hX15.c 1
              have y0 := hC15.c 0; have y1 := hC15.c 1
              simp at d0 d1 x1 y0 y1
              obtain ⟨e1, e2, e3, e4⟩ := edit_ok hGN.out HE0.out
              rw [Hfit2.out] at e1 e2 e3
              have hp128 : pth.size ≤ 128 := mayP_size hpm
              have hv15 := Hv5.out.below hb15 (Nat.le_refl _)
              have hs15 := Hsc.out.below (Hb5.out.trans (hb15.mono Hb5.out.size)) (Nat.le_refl _)
              have HW1 := Lib.hid (fun (w' : World) (hb : Below W15.heap.size W15 w') => tab_weight pth r5.1 _ w' (hv15.below hb (Nat.le_refl _)) (by have := may_len e1; omega) (may_sizes e1) (by have := may_size e1; omega) (by omega))
              have HW2 := Lib.hid (fun (w' : World) (hb : Below W15.heap.size W15 w') => tab_weight pth cN _ w' (hs15.below hb (Nat.le_refl _)) (by omega) (may_sizes Hmay.out) (by have := may_size Hmay.out; omega) (by omega))
              have hwd := weight_le (p := pth) e1 hp128
              have hwc := weight_le (p := pth) Hmay.out hp128
              obtain ⟨wd, hwdE⟩ : ∃ x, x = weightE pth r5.1 := ⟨_, rfl⟩
              obtain ⟨wcN, hwcE⟩ : ∃ x, x = weightE pth cN := ⟨_, rfl⟩
              rw [← hwdE] at HW1 hwd
              rw [← hwcE] at HW2 hwc
              have hbd1 := hbd.out.1
              have hbd2 := hbd.out.2
              have i1 : -4611686018427387904 ≤ B' := by omega
              have i2 : B' ≤ 4611686018427387904 := by omega
              have HwdE := Lib.hid hwdE; have HwcE := Lib.hid hwcE; have HD15 := Lib.hid hD15; have HX15 := Lib.hid hX15; have Hbw15 := Lib.hid hbw15; have Hb15 := Lib.hid hb15; have Hv15 := Lib.hid hv15
              have HeF := Lib.hid (And.intro e1 (And.intro e2 (And.intro e3 e4)))
              have keepS : Hid (∀ w', Below W15.heap.size W15 w' → w'.cell? ⟨wr.heap.size, 1, none⟩ = some (.string pth) ∧ w'.cell? ⟨w5.heap.size, 0, none⟩ = some (.int .u64 r5.1.last) ∧ w'.cell? ⟨w5.heap.size, 1, none⟩ = some (.slice a6 r5.1.l.length c6) ∧ w'.cell? ⟨w2.heap.size, 0, none⟩ = some (.int .u64 cN.last) ∧ w'.cell? ⟨w2.heap.size, 1, none⟩ = some (.slice asl cN.l.length csl) ∧ Hid (Below W15.heap.size W15 w')) :=
                Lib.hid (fun w' h => ⟨(h.cell hX15.lt).trans x1, (h.cell hD15.lt).trans d0, (h.cell hD15.lt).trans d1, (h.cell hC15.lt).trans y0, (h.cell hC15.lt).trans y1, Lib.hid h⟩)
              have keepB : Hid (∀ w' : World, (w'.cell? ⟨wr.heap.size, 1, none⟩ = some (.string pth) ∧ w'.cell? ⟨w5.heap.size, 0, none⟩ = some (.int .u64 r5.1.last) ∧ w'.cell? ⟨w5.heap.size, 1, none⟩ = some (.slice a6 r5.1.l.length c6) ∧ w'.cell? ⟨w2.heap.size, 0, none⟩ = some (.int .u64 cN.last) ∧ w'.cell? ⟨w2.heap.size, 1, none⟩ = some (.slice asl cN.l.length csl) ∧ Hid (Below W15.heap.size W15 w')) → Below W15.heap.size W15 w') := Lib.hid (fun w' h => h.2.2.2.2.2.out)
              have hwr1 : IntKind.i64.wrap ((wd : Int) - (wcN : Int)) = (wd : Int) - (wcN : Int) := by rw [IntKind.wrap_i64]; omega
              have hwr2 : IntKind.i64.wrap (B' + ((wd : Int) - (wcN : Int))) = B' + ((wd : Int) - (wcN : Int)) := by rw [IntKind.wrap_i64]; omega
              clear hwdE hwcE hD15 hC15 hX15 hbw15 hb15 hv15 hs15 hbd1 hbd2 e1 e2 e3 e4
              go_cut [6] (fun s6 wx => s6 = .int .i64 (B' + ((wd : Int) - (wcN : Int))) ∧ Hid (Below W15.heap.size W15 wx))
              case first =>
                refine wp_region_quiet (C := fun w' => w'.cell? ⟨wr.heap.size, 1, none⟩ = some (.string pth) ∧ w'.cell? ⟨w5.heap.size, 0, none⟩ = some (.int .u64 r5.1.last) ∧ w'.cell? ⟨w5.heap.size, 1, none⟩ = some (.slice a6 r5.1.l.length c6) ∧ w'.cell? ⟨w2.heap.size, 0, none⟩ = some (.int .u64 cN.last) ∧ w'.cell? ⟨w2.heap.size, 1, none⟩ = some (.slice asl cN.l.length csl) ∧ Hid (Below W15.heap.size W15 w')) (by kernel_rfl) (by kernel_rfl) (keepS.out _ (Below.drew (Below.refl _ _))) ?_
                clear Hr HC Hp HG HM Hmade hmm HT HT1 Hb1 HX hFo hF hMer hGN hvk hown hbd hbw hsz Hrun Hpx Hbr Hst Hfit k0 k1 k2 k3 k4 k5 hl
                refine quiet_plain rfl (.int .i64 B') (fun w' hw' => ?_) ?_
                · obtain ⟨f1, f2, f3, f4, f5, f6⟩ := hw'
                  go_simp
                go_frame
                refine quiet_plain rfl (.pointer (some ⟨wr.heap.size, 1, none⟩)) (fun w' hw' => ?_) ?_
                · obtain ⟨f1, f2, f3, f4, f5, f6⟩ := hw'
                  go_simp
                go_frame
                refine quiet_plain rfl (.string pth) (fun w' hw' => ?_) ?_
                · obtain ⟨f1, f2, f3, f4, f5, f6⟩ := hw'
                  go_simp
                go_frame
                refine quiet_plain rfl (.agg #[.int .u64 r5.1.last, .slice a6 r5.1.l.length c6]) (fun w' hw' => ?_) ?_
                · obtain ⟨f1, f2, f3, f4, f5, f6⟩ := hw'
                  go_simp
                go_frame
                refine quiet_call rfl (.int .i64 wd) 49 #[.string pth, .agg #[.int .u64 r5.1.last, .slice a6 r5.1.l.length c6]] (fun w' hw' => ⟨?_, ?_⟩) ?_
                · obtain ⟨f1, f2, f3, f4, f5, f6⟩ := hw'
                  go_simp
                · exact (HW1.out w' (keepB.out _ hw')).mono (fun e w6 ⟨he, hb⟩ => ⟨he, keepS.out _ ((keepB.out _ hw').trans (hb.mono (keepB.out _ hw').size))⟩)
                go_frame
                refine quiet_plain rfl (.pointer (some ⟨wr.heap.size, 1, none⟩)) (fun w' hw' => ?_) ?_
                · obtain ⟨f1, f2, f3, f4, f5, f6⟩ := hw'
                  go_simp
                go_frame
                refine quiet_plain rfl (.string pth) (fun w' hw' => ?_) ?_
                · obtain ⟨f1, f2, f3, f4, f5, f6⟩ := hw'
                  go_simp
                go_frame
                refine quiet_plain rfl (.agg #[.int .u64 cN.last, .slice asl cN.l.length csl]) (fun w' hw' => ?_) ?_
                · obtain ⟨f1, f2, f3, f4, f5, f6⟩ := hw'
                  go_simp
                go_frame
                refine quiet_call rfl (.int .i64 wcN) 49 #[.string pth, .agg #[.int .u64 cN.last, .slice asl cN.l.length csl]] (fun w' hw' => ⟨?_, ?_⟩) ?_
                · obtain ⟨f1, f2, f3, f4, f5, f6⟩ := hw'
                  go_simp
                · exact (HW2.out w' (keepB.out _ hw')).mono (fun e w6 ⟨he, hb⟩ => ⟨he, keepS.out _ ((keepB.out _ hw').trans (hb.mono (keepB.out _ hw').size))⟩)
                go_frame
                refine quiet_plain rfl (.int .i64 ((wd : Int) - (wcN : Int))) (fun w' hw' => ?_) ?_
                · obtain ⟨f1, f2, f3, f4, f5, f6⟩ := hw'
                  go_simp
                go_frame
                refine quiet_plain rfl (.int .i64 (B' + ((wd : Int) - (wcN : Int)))) (fun w' hw' => ?_) ?_
                · obtain ⟨f1, f2, f3, f4, f5, f6⟩ := hw'
                  go_simp
                go_frame
                refine quiet_plain rfl (.int .i64 (B' + ((wd : Int) - (wcN : Int)))) (fun w' hw' => ?_) ?_
                · obtain ⟨f1, f2, f3, f4, f5, f6⟩ := hw'
                  go_simp
                go_frame
                refine wpQuiet_nil ?_
                intro w' hw'
                have hbx := keepB.out _ hw'
                go_wp2_with fail
                go_meet
                case rel => exact ⟨rfl, Lib.hid hbx⟩
              case rest =>
                obtain ⟨rfl, HBx⟩ := hcut
                obtain ⟨Wx, hWx⟩ : ∃ Wx, Wx = wc := ⟨_, rfl⟩
                rw [← hWx] at HBx ⊢
                clear hWx d0 d1 x1 y0 y1 keepS keepB HW1 HW2
                have hDx := HD15.out.step HBx.out
                have hXx := HX15.out.step HBx.out
                have hbwx := Hbw15.out.trans (HBx.out.mono Hbw15.out.size)
                have d0 := hDx.c 0; have d1 := hDx.c 1; have x1 := hXx.c 1
                simp at d0 d1 x1
                have hOx := hFo.out.1.below hbwx
                obtain ⟨D, hownD, hput⟩ := hOx.put
                have hsF := hFo.out.2
                have hkey := keyS (s := pth) Tryz.underlying9 (by unfold maxLen; omega)
                have hlen : size F < maxLen := by unfold maxLen; omega
                have hvx := Hv15.out.below HBx.out (Nat.le_refl _)
                have hrowx := ownBelow hown.out hbwx
                have hput2 := hput
                have hfr : ∀ kb, (Value.slice a6 r5.1.l.length c6).ownBlock = some kb → (Value.slice a5 vv.length c5).ownBlock ≠ some kb := by
                  intro kb hk e
                  have h1 := Hf5.out kb hk
                  have h2 : kb < wr.heap.size := by
                    rcases hown.out.2 with ⟨hv, _⟩ | ⟨g, cp, cur, hv, hB, hg, _⟩
                    · rw [hv] at e; cases e
                    · rw [hv] at e; cases e; exact lt_of_block hg
                  have h3 := Hbwc2.out
                  omega
                have hne1 : w5.heap.size ≠ w1.heap.size := by have h1 := Hbw5.out.size; have h2 := HoldsMap.lt hFo.out.1; omega
                obtain ⟨i0, hi, hz0, hz1, hz2⟩ := info_parts infoU64
                have hvl : vv.length ≤ 1048576 := by have := hvk.out; omega
                have Hput := Lib.hid (fun w' n hw hg => hput w' n pth r5.1 (.slice a6 r5.1.l.length c6) (by unfold maxLen; omega) hvx (fun _ => hfr) hw hg)
                have Hrowx := Lib.hid hrowx; have HDx := Lib.hid hDx; have Hbwx := Lib.hid hbwx; have Hvk := Lib.hid hvk.out
                clear hput hput2 hvx hfr hrowx hDx hXx hbwx hOx
                go_wp2_with (first
                  | (at_mapUpdate; refine wpList_mapUpdate_own _ rfl _ _ _ 103 rfl 9 46 strKeyed Tryz.underlying103 heldR w1.heap.size (size F) D rfl hownD hlen _ _ (kS pth) rfl rfl hkey (.held (.agg #[.int .u64 r5.1.last, .slice a6 r5.1.l.length c6])) [] rfl ?_; intro w7 hown7 hg7; have HO7 := Lib.hid (Hput.out _ _ hown7 hg7); have Hrow7 := Lib.hid (ownGrown Hrowx.out hg7 (Nat.lt_succ_self _)); have Hg7 := Lib.hid hg7; have hD7 := (HDx.out.grown hg7 hne1); have d0 := hD7.c 0; simp at d0; clear hown7 hg7 hD7)
                  | (at_builtin; refine wpList_append_lies _ rfl (.tmp 90) (.tmp 93) 51 rfl (w1.heap.size + 1) 43 i0 (.int .u64 0) 1 8 Tryz.underlying51 hi hz0 hz1 hz2 rfl (by decide) _ vv.length (vv.map (fun n : Nat => Value.int .u64 n)) rfl (ownBelow Hrow7.out ((Below.refl _ _).alloc (Nat.le_refl _) _)) ⟨w7.heap.size, 0, none⟩ 1 1 [.int .u64 r5.1.last] rfl rfl (World.news_of_block (MapKept.heap_alloc _ _).1) (by intro u hu; rcases List.mem_singleton.1 hu with rfl; rfl) (by decide) (by unfold maxLen; omega) (by omega) ?hbase (w7.heap.size + 1) (by simp) ?go; (case hbase => have h1 := HoldsMap.lt HO7.out; simp; omega); intro g cp w8 hown8 hg8 hat hlt8)
                  | fail)
                go_roundw
                case rel =>
                  have hEd : editE N ⟨kd, pth, any, want, n, tx⟩ = r5 := Hfit2.out
                  refine ⟨rfl, k + 1, stepM N ⟨kd, pth, any, want, n, tx⟩, vv ++ [r5.1.last], B' + ((wd : Int) - (wcN : Int)), F.put (kS pth) (.held r5.1), by omega, by go_num, rfl, Lib.hid ?_, ⟨_, _, by rw [List.length_append]; rfl⟩, Lib.hid ⟨?_, ?_⟩, Lib.hid ?_, Lib.hid (hGN.out.step Tryz.underlying9 HE0.out), Lib.hid ?_, Lib.hid ?_, Lib.hid ?_, Lib.hid ?_⟩
                  · have := Hrun.out.trans (runT_go HE0.out)
                    rw [hEd] at this
                    simp only at this
                    rw [← HcN.out, ← HwdE.out, ← HwcE.out] at this
                    exact this
                  · have h7 := HO7.out.below ((Below.refl w7.heap.size w7).alloc (Nat.le_refl _) (.cells #[.int .u64 r5.1.last] 43))
                    refine h7.row hg8 ?_ ?_
                    · intro e
                      have := ownAbove Hrow7.out _ e.symm
                      omega
                    · rcases hat with h | h
                      · left; exact h.symm
                      · right; show some g = some _; rw [h]; simp
                  · have h1 := Maps.size_put (k := kS pth) (canonK_tidy (HoldsMap.canon HO7.out.map)) (.held r5.1)
                    have h2 := hsF
                    have h3 := Maps.size_put (k := kS pth) (canonK_tidy (HoldsMap.canon hF.out)) (.held r5.1)
                    rw [h3]; split <;> omega
                  · unfold stepM
                    rw [hEd]
                    exact merged_put hMer.out (canonK_isMap hGN.out.canon) (canonK_isMap (HoldsMap.canon hF.out)) (kS_key _) _
                  · rw [List.length_append, Hvk.out]; rfl
                  · rw [List.length_append, List.map_append]; exact hown8
                  · have h1 := hbd.out.1; have h2 := hbd.out.2; constructor <;> omega
                  · have hA := (hbw.out.trans (Hbwx.out.mono hbw.out.size)).grown Hg7.out (hbw.out.trans (Hbwx.out.mono hbw.out.size)).size (fun k hk => by cases hk; exact Nat.le_refl _)
                    refine (hA.alloc hA.size _).grown hg8 (hA.alloc hA.size _).size (fun k hk => ?_)
                    have := ownAbove Hrow7.out k hk
                    omega
                case measure => simp [intOf]; omega
            · have hE : ((r5.2 : Int) != 0) = true := by simp [bne]; omega
              obtain rfl : r = ((k, r5.2), N, vv, B') := Hst.out r5.2 he (by rw [Hfit2.out])
              go_wp2_with fail
              refine bodyPost_ret (v := .tuple #[.map none, .slice none 0 0, .int .i64 0, .int .i64 k, .int .i64 r5.2]) ?_ rfl ⟨?_, Or.inl ⟨he, rfl⟩⟩
              · simp [results, Tryz.results51, go_sem]
              · exact (Hbr.out.trans (Hbw5.out.mono Hbr.out.size)).alloc (Hbr.out.trans (Hbw5.out.mono Hbr.out.size)).size _
      · have hge : (l.length : Int) ≤ (k : Int) := by omega
        obtain ⟨We, hWe⟩ : ∃ We, We = wr := ⟨_, rfl⟩
        subst hWe
        have hkl : k = l.length := by omega
        have hr : r = if overT (N, B') M B q1 q2 then ((l.length, 180), N, vv, B') else ((0, 0), N, vv, B') := by
          rw [Hr.out, hrun.out, hkl, List.drop_length]; rfl
        have Hr2 := Lib.hid hr
        have hTr := HT1.out.below hbw.out
        have c2 := hTr.c2
        have hlen := hTr.m.len (t := 103) (e := 46) Tryz.underlying103 3
        obtain ⟨D, hownD, hal⟩ := hFo.out.1
        have HTr := Lib.hid hTr; have Hal := Lib.hid hal
        clear hr hTr hal hrun hkl
        go_wp2_with (first | (at_range; refine wpList_range_own _ rfl _ 103 rfl 9 46 strKeyed Tryz.underlying103 heldR w1.heap.size (size F) D rfl hownD ?_; intro w0 hrg0 hg0 hs0) | fail)
        go_frame
        go_loopw [15] (fun s15 wx => ∃ (left : Lit → Bool) (cnt : Nat) (X : DataW Cel) (sx : Nat), s15 = .int .i64 sx ∧ Hid (sx = size X) ∧ Hid (wx.ranges Tryz.prog 9 heldR w1.heap.size We.heap.size (size F) D left cnt) ∧ Hid (Merged X M F left) ∧ Hid (CanonK (KeysOf Tryz.prog 9) X) ∧ Hid (sx + cnt ≤ size M + size F) ∧ Hid (Below We.heap.size We wx)) (fun _ wx => wx.rangeLeft w1.heap.size We.heap.size)
        case atStart =>
          refine ⟨_, _, M, size M, rfl, Lib.hid rfl, Lib.hid hrg0, Lib.hid ?_, Lib.hid HG.out.canon, Lib.hid (by have := Hal.out.sizes; omega), Lib.hid ?_⟩
          · refine ⟨fun k => ?_, fun k z => ?_⟩
            · rw [Hal.out.keys]; cases has M k <;> cases has F k <;> rfl
            · rw [Hal.out.keys]; cases has F k <;> rfl
          · exact (Below.refl _ _).grown hg0 (Nat.le_refl _) (fun k hk => by cases hk)
        case round =>
          obtain ⟨left, cnt, X, sx, rfl, hsx, hrg, hmX, hcX, hXle, hbx⟩ := hrel
          have hrgo := hrg.out
          by_cases hc : cnt = 0
          · have hT3 := HTr.out.below hbx.out
            have c0 := hT3.c0; have c1 := hT3.c1; have c2 := hT3.c2; have c3 := hT3.c3
            have hlen := hT3.m.len (t := 103) (e := 46) Tryz.underlying103 3
            obtain ⟨sm, hsm⟩ : ∃ n, n = size M := ⟨_, rfl⟩
            rw [← hsm] at hlen
            have Hsm := Lib.hid hsm
            have Hbend : Hid (Below w.heap.size w wr) := Lib.hid (Hb1.out.trans ((hbw.out.trans (hbx.out.mono hbw.out.size)).mono Hb1.out.size))
            clear hT3 hsm
            by_cases a1 : q1 < (sx : Int)
            · by_cases a2 : sm < sx
              · have a2' : (sm : Int) < (sx : Int) := by omega
                go_wp2_with (at_next; refine wpList_next_ranges _ rfl _ rfl 9 strKeyed heldR Value.string (fun v : Value => v) (fun key kl h => by obtain ⟨s, rfl, _⟩ := keyS_inv Tryz.underlying9 h; exact ⟨s, rfl⟩) (fun v y _ => ⟨v, rfl⟩) w1.heap.size We.heap.size (size F) D left cnt rfl hrgo ?_ (fun x c kl y w' cnt' _ _ _ _ _ hlt' => absurd hlt' (by omega)); intro hc0 hl0)
                have hXN : X = N := merged_same hMer.out hmX.out hl0 hGN.out.canon hcX.out
                have hsN : size N = sx := by rw [← hXN]; exact hsx.out.symm
                have hmM := Hsm.out
                obtain rfl : r = ((l.length, 180), N, vv, B') := by rw [Hr2.out, if_pos (by unfold overT; simp only [hsN, ← hmM]; simp only [Bool.or_eq_true, Bool.and_eq_true, decide_eq_true_eq]; omega)]
                refine bodyPost_ret (v := .tuple #[.map none, .slice none 0 0, .int .i64 0, .int .i64 l.length, .int .i64 180]) ?_ rfl ⟨Hbend.out, Or.inl ⟨by simp, rfl⟩⟩
                simp [results, Tryz.results51, go_sem]
              · have a2' : ¬ (sm : Int) < (sx : Int) := by omega
                by_cases a3 : q2 < B'
                · by_cases a4 : B < B'
                  · skip
                    go_wp2_with (at_next; refine wpList_next_ranges _ rfl _ rfl 9 strKeyed heldR Value.string (fun v : Value => v) (fun key kl h => by obtain ⟨s, rfl, _⟩ := keyS_inv Tryz.underlying9 h; exact ⟨s, rfl⟩) (fun v y _ => ⟨v, rfl⟩) w1.heap.size We.heap.size (size F) D left cnt rfl hrgo ?_ (fun x c kl y w' cnt' _ _ _ _ _ hlt' => absurd hlt' (by omega)); intro hc0 hl0)
                    have hXN : X = N := merged_same hMer.out hmX.out hl0 hGN.out.canon hcX.out
                    have hsN : size N = sx := by rw [← hXN]; exact hsx.out.symm
                    have hmM := Hsm.out
                    obtain rfl : r = ((l.length, 180), N, vv, B') := by rw [Hr2.out, if_pos (by unfold overT; simp only [hsN, ← hmM]; simp only [Bool.or_eq_true, Bool.and_eq_true, decide_eq_true_eq]; omega)]
                    refine bodyPost_ret (v := .tuple #[.map none, .slice none 0 0, .int .i64 0, .int .i64 l.length, .int .i64 180]) ?_ rfl ⟨Hbend.out, Or.inl ⟨by simp, rfl⟩⟩
                    simp [results, Tryz.results51, go_sem]
                  · skip
                    go_wp2_with (at_next; refine wpList_next_ranges _ rfl _ rfl 9 strKeyed heldR Value.string (fun v : Value => v) (fun key kl h => by obtain ⟨s, rfl, _⟩ := keyS_inv Tryz.underlying9 h; exact ⟨s, rfl⟩) (fun v y _ => ⟨v, rfl⟩) w1.heap.size We.heap.size (size F) D left cnt rfl hrgo ?_ (fun x c kl y w' cnt' _ _ _ _ _ hlt' => absurd hlt' (by omega)); intro hc0 hl0)
                    have hXN : X = N := merged_same hMer.out hmX.out hl0 hGN.out.canon hcX.out
                    have hsN : size N = sx := by rw [← hXN]; exact hsx.out.symm
                    have hmM := Hsm.out
                    obtain rfl : r = ((0, 0), N, vv, B') := by rw [Hr2.out, if_neg (by unfold overT; simp only [hsN, ← hmM]; simp only [Bool.or_eq_true, Bool.and_eq_true, decide_eq_true_eq]; omega)]
                    refine bodyPost_ret (v := .tuple #[.map (some w1.heap.size), .slice a5 vv.length c5, .int .i64 B', .int .i64 0, .int .i64 0]) ?_ rfl ⟨Hbend.out, Or.inr ⟨rfl, w1.heap.size, F, _, rfl, Hb1.out.size, hF.out.below hbx.out, hMer.out, (by have := hFo.out.2; have := hvk.out; simp only; omega), ownBase (ownBelow hown.out hbx.out) (by have := Hb1.out.size; omega)⟩⟩
                    simp [results, Tryz.results51, go_sem]
                · skip
                  go_wp2_with (at_next; refine wpList_next_ranges _ rfl _ rfl 9 strKeyed heldR Value.string (fun v : Value => v) (fun key kl h => by obtain ⟨s, rfl, _⟩ := keyS_inv Tryz.underlying9 h; exact ⟨s, rfl⟩) (fun v y _ => ⟨v, rfl⟩) w1.heap.size We.heap.size (size F) D left cnt rfl hrgo ?_ (fun x c kl y w' cnt' _ _ _ _ _ hlt' => absurd hlt' (by omega)); intro hc0 hl0)
                  have hXN : X = N := merged_same hMer.out hmX.out hl0 hGN.out.canon hcX.out
                  have hsN : size N = sx := by rw [← hXN]; exact hsx.out.symm
                  have hmM := Hsm.out
                  obtain rfl : r = ((0, 0), N, vv, B') := by rw [Hr2.out, if_neg (by unfold overT; simp only [hsN, ← hmM]; simp only [Bool.or_eq_true, Bool.and_eq_true, decide_eq_true_eq]; omega)]
                  refine bodyPost_ret (v := .tuple #[.map (some w1.heap.size), .slice a5 vv.length c5, .int .i64 B', .int .i64 0, .int .i64 0]) ?_ rfl ⟨Hbend.out, Or.inr ⟨rfl, w1.heap.size, F, _, rfl, Hb1.out.size, hF.out.below hbx.out, hMer.out, (by have := hFo.out.2; have := hvk.out; simp only; omega), ownBase (ownBelow hown.out hbx.out) (by have := Hb1.out.size; omega)⟩⟩
                  simp [results, Tryz.results51, go_sem]
            · skip
              by_cases a3 : q2 < B'
              · by_cases a4 : B < B'
                · skip
                  go_wp2_with (at_next; refine wpList_next_ranges _ rfl _ rfl 9 strKeyed heldR Value.string (fun v : Value => v) (fun key kl h => by obtain ⟨s, rfl, _⟩ := keyS_inv Tryz.underlying9 h; exact ⟨s, rfl⟩) (fun v y _ => ⟨v, rfl⟩) w1.heap.size We.heap.size (size F) D left cnt rfl hrgo ?_ (fun x c kl y w' cnt' _ _ _ _ _ hlt' => absurd hlt' (by omega)); intro hc0 hl0)
                  have hXN : X = N := merged_same hMer.out hmX.out hl0 hGN.out.canon hcX.out
                  have hsN : size N = sx := by rw [← hXN]; exact hsx.out.symm
                  have hmM := Hsm.out
                  obtain rfl : r = ((l.length, 180), N, vv, B') := by rw [Hr2.out, if_pos (by unfold overT; simp only [hsN, ← hmM]; simp only [Bool.or_eq_true, Bool.and_eq_true, decide_eq_true_eq]; omega)]
                  refine bodyPost_ret (v := .tuple #[.map none, .slice none 0 0, .int .i64 0, .int .i64 l.length, .int .i64 180]) ?_ rfl ⟨Hbend.out, Or.inl ⟨by simp, rfl⟩⟩
                  simp [results, Tryz.results51, go_sem]
                · skip
                  go_wp2_with (at_next; refine wpList_next_ranges _ rfl _ rfl 9 strKeyed heldR Value.string (fun v : Value => v) (fun key kl h => by obtain ⟨s, rfl, _⟩ := keyS_inv Tryz.underlying9 h; exact ⟨s, rfl⟩) (fun v y _ => ⟨v, rfl⟩) w1.heap.size We.heap.size (size F) D left cnt rfl hrgo ?_ (fun x c kl y w' cnt' _ _ _ _ _ hlt' => absurd hlt' (by omega)); intro hc0 hl0)
                  have hXN : X = N := merged_same hMer.out hmX.out hl0 hGN.out.canon hcX.out
                  have hsN : size N = sx := by rw [← hXN]; exact hsx.out.symm
                  have hmM := Hsm.out
                  obtain rfl : r = ((0, 0), N, vv, B') := by rw [Hr2.out, if_neg (by unfold overT; simp only [hsN, ← hmM]; simp only [Bool.or_eq_true, Bool.and_eq_true, decide_eq_true_eq]; omega)]
                  refine bodyPost_ret (v := .tuple #[.map (some w1.heap.size), .slice a5 vv.length c5, .int .i64 B', .int .i64 0, .int .i64 0]) ?_ rfl ⟨Hbend.out, Or.inr ⟨rfl, w1.heap.size, F, _, rfl, Hb1.out.size, hF.out.below hbx.out, hMer.out, (by have := hFo.out.2; have := hvk.out; simp only; omega), ownBase (ownBelow hown.out hbx.out) (by have := Hb1.out.size; omega)⟩⟩
                  simp [results, Tryz.results51, go_sem]
              · skip
                go_wp2_with (at_next; refine wpList_next_ranges _ rfl _ rfl 9 strKeyed heldR Value.string (fun v : Value => v) (fun key kl h => by obtain ⟨s, rfl, _⟩ := keyS_inv Tryz.underlying9 h; exact ⟨s, rfl⟩) (fun v y _ => ⟨v, rfl⟩) w1.heap.size We.heap.size (size F) D left cnt rfl hrgo ?_ (fun x c kl y w' cnt' _ _ _ _ _ hlt' => absurd hlt' (by omega)); intro hc0 hl0)
                have hXN : X = N := merged_same hMer.out hmX.out hl0 hGN.out.canon hcX.out
                have hsN : size N = sx := by rw [← hXN]; exact hsx.out.symm
                have hmM := Hsm.out
                obtain rfl : r = ((0, 0), N, vv, B') := by rw [Hr2.out, if_neg (by unfold overT; simp only [hsN, ← hmM]; simp only [Bool.or_eq_true, Bool.and_eq_true, decide_eq_true_eq]; omega)]
                refine bodyPost_ret (v := .tuple #[.map (some w1.heap.size), .slice a5 vv.length c5, .int .i64 B', .int .i64 0, .int .i64 0]) ?_ rfl ⟨Hbend.out, Or.inr ⟨rfl, w1.heap.size, F, _, rfl, Hb1.out.size, hF.out.below hbx.out, hMer.out, (by have := hFo.out.2; have := hvk.out; simp only; omega), ownBase (ownBelow hown.out hbx.out) (by have := Hb1.out.size; omega)⟩⟩
                simp [results, Tryz.results51, go_sem]
          · go_upto_if 117 with (at_next; refine wpList_next_ranges _ rfl _ rfl 9 strKeyed heldR Value.string (fun v : Value => v) (fun key kl h => by obtain ⟨s, rfl, _⟩ := keyS_inv Tryz.underlying9 h; exact ⟨s, rfl⟩) (fun v y _ => ⟨v, rfl⟩) w1.heap.size We.heap.size (size F) D left cnt rfl hrgo (fun h0 => absurd h0 hc) ?_; intro x c kl y w3 cnt3 hkx hlk hv hat hrg3 hlt3 hg3 hs3 hen; obtain ⟨rfl, hxs⟩ := keyS_of hkx; have hb3 := hbx.out.grown hg3 hbx.out.size (fun k hk => by cases hk; exact Nat.le_refl _); have hT3 := HTr.out.below hb3; have c2 := hT3.c2; obtain ⟨s, is, his, hs, hl3, _⟩ := hT3.m.look2 x hxs; obtain ⟨a9, c9, rfl, _⟩ := hs; have His := Lib.hid his; have Hb3 := Lib.hid hb3; have Hrg3 := Lib.hid hrg3; have Hlk := Lib.hid hlk; have Hat := Lib.hid hat; have Hxs := Lib.hid hxs; have Hlt3 := Lib.hid hlt3; clear his hb3 hrg3 hlk hat hxs hlt3 hkx hT3 hv hg3 hs3)
            obtain ⟨X', hX', hcX', hsX'⟩ := merged_next hmX.out hcX.out Hal.out Hxs.out Hlk.out Hat.out
            rw [← His.out, ← hsx.out] at hsX'
            have HX' := Lib.hid hX'; have HcX' := Lib.hid hcX'
            clear hX' hcX'
            have hFs := hFo.out.2
            have hl3' := Hlt3.out
            have hXl := hXle.out
            have hi1 : sx + 1 ≤ 9223372036854775807 := by omega
            have HXl : Hid (∀ n, n ≤ sx + 1 → n + cnt3 ≤ size M + size F) := Lib.hid (fun n hn => by omega)
            clear hFs hl3' hXl
            cases is with
            | true =>
              rw [if_pos rfl] at hsX'
              have HsX := Lib.hid hsX'; clear hsX'
              go_wp2_with fail
              go_roundw
              case rel => exact ⟨_, cnt3, X', sx, rfl, Lib.hid HsX.out.symm, Lib.hid (Hrg3.out.alloc _), HX', HcX', Lib.hid (HXl.out _ (by omega)), Lib.hid (Hb3.out.alloc Hb3.out.size _)⟩
              case measure => rw [(Hrg3.out.alloc _).left_eq, hrg.out.left_eq]; exact Hlt3.out
            | false =>
              rw [if_neg (by decide)] at hsX'
              have HsX := Lib.hid hsX'; clear hsX'
              go_wp2_with fail
              go_roundw
              case rel => exact ⟨_, cnt3, X', sx + 1, by push_cast; rfl, Lib.hid HsX.out.symm, Lib.hid (Hrg3.out.alloc _), HX', HcX', Lib.hid (HXl.out _ (by omega)), Lib.hid (Hb3.out.alloc Hb3.out.size _)⟩
              case measure => rw [(Hrg3.out.alloc _).left_eq, hrg.out.left_eq]; exact Hlt3.out
end Go.Proofs.YtfbgnpfhjbiikaaGreatDoor

namespace Go.Proofs.YtfbgnpfhjbiikaaGreatDoor
open Go Go.RowKit
open Go.Maps (has size Canon CanonK Tidy IsMap KeysOf Keyed Merged)
structure ButS (S : Nat → Prop) (w w' : World) : Prop where
  os : w'.os = w.os
  tape : w'.tape = w.tape
  output : w'.output = w.output
  size : w.heap.size ≤ w'.heap.size
  block : ∀ k, k < w.heap.size → ¬ S k → w'.heap[k]? = w.heap[k]?
theorem ButS.of {S : Nat → Prop} {w w' : World} (h : Below w.heap.size w w') : ButS S w w' := ⟨h.os, h.tape, h.output, h.size, fun k hk _ => h.block k hk⟩
theorem ButS.trans {S : Nat → Prop} {a b c : World} (h : ButS S a b) (k : ButS S b c) : ButS S a c :=
  ⟨k.os.trans h.os, k.tape.trans h.tape, k.output.trans h.output, Nat.le_trans h.size k.size, fun i hi hS => (k.block i (Nat.lt_of_lt_of_le hi h.size) hS).trans (h.block i hi hS)⟩
theorem ButS.mono {S S' : Nat → Prop} {w w' : World} (h : ButS S w w') (hS : ∀ k, S k → S' k) : ButS S' w w' := ⟨h.os, h.tape, h.output, h.size, fun k hk hn => h.block k hk (fun hs => hn (hS k hs))⟩
theorem ButS.grown {S : Nat → Prop} {w w' : World} {b : Nat} (h : w.grownBy w' (some b)) (hS : S b) : ButS S w w' :=
  ⟨h.os, h.tape, h.output, h.size, fun k hk hn => h.block k hk (fun e => hn (by cases e; exact hS))⟩
theorem ButS.set {S : Nat → Prop} (w : World) {p : Addr} (hS : S p.block) (u : Value) : ButS S w (w.setCell p u) := by
  have h := (Below.refl 0 w).setCell (p := p) (Nat.zero_le _) u
  exact ⟨h.os, h.tape, h.output, h.size, fun k hk hn => Below.heap_setCell w p u k (fun e => hn (e ▸ hS))⟩
theorem ButS.below {S : Nat → Prop} {B : Nat} {w w' : World} (h : ButS S w w') (hS : ∀ k, S k → B ≤ k) (hB : B ≤ w.heap.size) : Below B w w' :=
  ⟨h.os, h.tape, h.output, h.size, fun k hk => h.block k (by omega) (fun hs => by have := hS k hs; omega)⟩
theorem ButS.cell {S : Nat → Prop} {w w' : World} (h : ButS S w w') {p : Addr} (hp : p.block < w.heap.size) (hn : ¬ S p.block) : w'.cell? p = w.cell? p := World.cell?_of_block (w := w) (h.block p.block hp hn)
theorem ButS.frozen {S : Nat → Prop} {w w' : World} (h : ButS S w w') {p : Addr} (hp : p.block < w.heap.size) (hn : ¬ S p.block) : w'.frozen? p = w.frozen? p := World.frozen?_of_block (w := w) (h.block p.block hp hn)

def NoVers (w : World) (k : Nat) : Prop := ∀ o n s, w.cell? ⟨k, o, none⟩ = some (.int .u64 n) → w.cell? ⟨k, o + 1, none⟩ = some (.int .u8 s) → False
theorem IsVers.but {S : Nat → Prop} {w w' : World} {v : Value} {l : List Ver} (h : IsVers w v l) (hb : ButS S w w') (hS : ∀ k, S k → NoVers w k) : IsVers w' v l := by
  obtain ⟨a, cap, hv, h⟩ := h
  refine ⟨a, cap, hv, ?_⟩
  rcases h with h | ⟨b2, off, ha, hlt, hc⟩
  · exact Or.inl h
  · by_cases hl : l = []
    · exact Or.inl hl
    have hn : ¬ S b2 := by
      intro hs
      obtain ⟨h1, h2, _⟩ := hc 0 (List.length_pos_iff.2 hl)
      exact hS b2 hs _ _ _ h1 h2
    refine Or.inr ⟨b2, off, ha, by have := hb.size; omega, fun i hi => ?_⟩
    obtain ⟨h1, h2, h3⟩ := hc i hi
    exact ⟨(hb.cell hlt hn).trans h1, (hb.cell hlt hn).trans h2, (hb.cell hlt hn).trans h3⟩
theorem IsCel.but {S : Nat → Prop} {w w' : World} {v : Value} {c : Cel} (h : IsCel w v c) (hb : ButS S w w') (hS : ∀ k, S k → NoVers w k) : IsCel w' v c := by
  obtain ⟨s, hv, h⟩ := h; exact ⟨s, hv, h.but hb hS⟩
theorem CelMap.noVers {w : World} {b : Nat} {M : DataW Cel} (h : CelMap w b M) : NoVers w b := by
  obtain ⟨D, ho, _⟩ := h
  intro o n s h1 _
  rw [ownsMap_none ho] at h1; cases h1
theorem TabAt.noVers {w : World} {t b : Nat} {q1 q2 B : Int} {M : DataW Cel} (h : TabAt w t b q1 q2 M B) : NoVers w t := by
  intro o n s h1 h2
  rcases (show o = 0 ∨ o = 1 ∨ o = 2 ∨ o = 3 ∨ ∃ j, o = j + 4 from by rcases o with _ | _ | _ | _ | j <;> simp) with rfl | rfl | rfl | rfl | ⟨j, rfl⟩
  · rw [h.c0] at h1; cases h1
  · rw [h.c1] at h1; cases h1
  · rw [h.c2] at h1; cases h1
  · rw [h.c3] at h1; cases h1
  · rw [h.c4] at h1; cases h1
theorem CelMap.but {S : Nat → Prop} {w w' : World} {b : Nat} {M : DataW Cel} (h : CelMap w b M) (hb : ButS S w w') (hS : ∀ k, S k → NoVers w k) (hn : ¬ S b) : CelMap w' b M :=
  HoldsMap.move h (hb.block b (HoldsMap.lt h) hn) (fun _ _ g => g.but hb hS)
theorem TabAt.but {S : Nat → Prop} {w w' : World} {t b : Nat} {q1 q2 B : Int} {M : DataW Cel} (h : TabAt w t b q1 q2 M B) (hb : ButS S w w') (hS : ∀ k, S k → NoVers w k) (ht : ¬ S t) (hn : ¬ S b) : TabAt w' t b q1 q2 M B := by
  have hl := h.lt
  exact ⟨(hb.cell hl ht).trans h.c0, (hb.cell hl ht).trans h.c1, (hb.cell hl ht).trans h.c2, (hb.cell hl ht).trans h.c3, fun j => (hb.cell hl ht).trans (h.c4 j), (hb.frozen hl ht).trans h.f3, h.m.but hb hS hn⟩

theorem ButS.grownNew {S : Nat → Prop} {w wx w3 : World} {r : Nat} (h : ButS S w wx) (hg : wx.grownBy w3 (some r)) (hr : w.heap.size ≤ r) : ButS S w w3 :=
  ⟨hg.os.trans h.os, hg.tape.trans h.tape, hg.output.trans h.output, Nat.le_trans h.size hg.size, fun k hk hn => (hg.block k (Nat.lt_of_lt_of_le hk h.size) (by intro e; cases e; omega)).trans (h.block k hk hn)⟩
theorem ranges_none {P : Program} {k : TypeId} {R : Value → Option (DataW Value × List MemPlace)} {w : World} {b r n : Nat} {D : DataW Value} {left : Lit → Bool} {cnt : Nat} (h : w.ranges P k R b r n D left cnt) : ∀ j, w.cell? ⟨r, j, none⟩ = none := by
  obtain ⟨es, clock, since, seen, c0, _, _, _, _, hr, _⟩ := h
  intro j; unfold World.cell?; rw [hr]
theorem entry_cel {G : Value → Cel → Prop} {D : DataW Value} {F : DataW Cel} (ha : Alike Tryz.prog 9 G D F) {x : ByteArray} {c : Value} {y : DataW Value × List MemPlace} (hv : heldR c = some y) (hat : ∀ zd, D.atKey (kS x) zd = y.1) :
    ∃ cel, G c cel ∧ ∀ zd, F.atKey (kS x) zd = .held cel := by
  have hF : has F (kS x) = true := by rw [← ha.keys]; exact Maps.has_true_of_atKey hat
  obtain ⟨v, cel, h1, h2, g⟩ := ha.vals _ hF
  obtain rfl : y = (.held c, []) := by simpa [heldR] using hv.symm
  have := (hat .nil).symm.trans h1
  injection this with this
  subst this
  exact ⟨cel, g, fun zd => by rw [Maps.atKey_indep hF zd .nil]; exact h2⟩
theorem CelMap.put {w : World} {b : Nat} {X : DataW Cel} (h : CelMap w b X) : ∃ D, w.ownsMap Tryz.prog 9 heldR b (size X) D ∧
    ∀ (w' : World) (n : Nat) (p : ByteArray) (c : Cel) (v : Value), p.size ≤ maxLen → IsCel w v c → w'.ownsMap Tryz.prog 9 heldR b n (D.put (kS p) (.held v)) → w.grownBy w' (some b) → CelMap w' b (X.put (kS p) (.held c)) := by
  obtain ⟨D, ho, ha⟩ := h
  refine ⟨D, ho, fun w' n p c v hp hc ho' hg => ?_⟩
  have hnone := ownsMap_none ho
  exact HoldsMap.of ho' ((ha.mono (fun v c hs => hs.grown hg hnone)).put strKeyed (ho.tidy strKeyed) ⟨_, keyS Tryz.underlying9 hp⟩ (hc.grown hg hnone))
set_option maxRecDepth 100000 in
set_option maxHeartbeats 2000000 in
theorem maps_copy (w : World) {b fb : Nat} {M F : DataW Cel} (hM : CelMap w b M) (hF : CelMap w fb F) (hne : b ≠ fb) (hsz : size M + size F ≤ 1099511627776) :
    Calls Tryz.prog 52 #[.map (some b), .map (some fb)] w fun e w' => e = .returned (.tuple #[]) ∧ ButS (fun k => k = b) w w' ∧ ∃ N, CelMap w' b N ∧ Merged N M F (fun _ => false) := by
  obtain ⟨D, hownD, hal⟩ := hF
  have Hal := Lib.hid hal; have HM := Lib.hid hM
  clear hal hM
  go_enter Tryz.func52, Tryz.ntmps52
  go_wp2_with (first | (at_range; refine wpList_range_own _ rfl _ 103 rfl 9 46 strKeyed Tryz.underlying103 heldR fb (size F) D rfl hownD ?_; intro w0 hrg0 hg0 hs0) | fail)
  go_frame
  go_loopw [4] (fun _ wx => ∃ (left : Lit → Bool) (cnt : Nat) (X : DataW Cel), Hid (wx.ranges Tryz.prog 9 heldR fb w.heap.size (size F) D left cnt) ∧ Hid (Merged X M F left) ∧ Hid (CelMap wx b X) ∧ Hid (size X + cnt ≤ size M + size F) ∧ Hid (ButS (fun k => k = b) w wx)) (fun _ wx => wx.rangeLeft fb w.heap.size)
  case atStart =>
    refine ⟨_, _, M, Lib.hid hrg0, Lib.hid ?_, Lib.hid (HM.out.below ?_), Lib.hid (by have := Hal.out.sizes; omega), Lib.hid (ButS.of ?_)⟩
    · refine ⟨fun k => ?_, fun k z => ?_⟩
      · rw [Hal.out.keys]; cases has M k <;> cases has F k <;> rfl
      · rw [Hal.out.keys]; cases has F k <;> rfl
    all_goals exact (Below.refl _ _).grown hg0 (Nat.le_refl _) (fun k hk => by cases hk)
  case round =>
    obtain ⟨left, cnt, X, hrg, hmX, hX, hXle, hbx⟩ := hrel
    have hrgo := hrg.out
    have hbl := HoldsMap.lt HM.out
    have H3 : Hid (∀ w3, wr.grownBy w3 (some w.heap.size) → ∀ o, CelMap (w3.alloc o) b X) := Lib.hid (fun w3 hg o => CelMap.below (w := w3) (HoldsMap.move hX.out (hg.block b (HoldsMap.lt hX.out) (by intro e; injection e with e; omega)) (fun _ _ g => g.grown hg (ranges_none hrgo))) ((Below.refl _ _).alloc (Nat.le_refl _) _))
    by_cases hc : cnt = 0
    · go_wp2_with (at_next; refine wpList_next_ranges _ rfl _ rfl 9 strKeyed heldR Value.string (fun v : Value => v) (fun key kl h => by obtain ⟨s, rfl, _⟩ := keyS_inv Tryz.underlying9 h; exact ⟨s, rfl⟩) (fun v y _ => ⟨v, rfl⟩) fb w.heap.size (size F) D left cnt rfl hrgo ?_ (fun x c kl y w' cnt' _ _ _ _ _ hlt' => absurd hlt' (by omega)); intro hc0 hl0)
      refine bodyPost_end (v := .tuple #[]) (by simp [results, Tryz.results52]) rfl ?_
      refine ⟨rfl, hbx.out, X, hX.out, ?_⟩
      have : left = fun _ => false := funext hl0
      rw [← this]; exact hmX.out
    · go_wp2_with (first
        | (at_next; refine wpList_next_ranges _ rfl _ rfl 9 strKeyed heldR Value.string (fun v : Value => v) (fun key kl h => by obtain ⟨s, rfl, _⟩ := keyS_inv Tryz.underlying9 h; exact ⟨s, rfl⟩) (fun v y _ => ⟨v, rfl⟩) fb w.heap.size (size F) D left cnt rfl hrgo (fun h0 => absurd h0 hc) ?_; intro x c kl y w3 cnt3 hkx hlk hv hat hrg3 hlt3 hg3 hs3 hen; obtain ⟨rfl, hxs⟩ := keyS_of hkx; obtain ⟨cel, ⟨s, rfl, hs⟩, hatF⟩ := entry_cel Hal.out hv hat; have Hs := Lib.hid hs; obtain ⟨as1, cs1, rfl, _⟩ := hs; have Hb3 := Lib.hid (hbx.out.grownNew hg3 (Nat.le_refl _)); have Hg3 := Lib.hid hg3; have Hrg3 := Lib.hid hrg3; have Hlk := Lib.hid hlk; have HatF := Lib.hid hatF; have hkey := keyS (s := x) Tryz.underlying9 hxs; have Hxs := Lib.hid hxs; have Hlt3 := Lib.hid hlt3; clear hrg3 hlk hat hatF hxs hlt3 hkx hv hg3 hs3)
        | (at_mapUpdate; have hX4 := H3.out _ Hg3.out (.cells #[.int .u64 cel.last, .slice as1 cel.l.length cs1] 46); obtain ⟨DX, hownX, hputX⟩ := hX4.put; have hlen : size X < maxLen := (by have := hXle.out; unfold maxLen; omega); refine wpList_mapUpdate_own _ rfl _ _ _ 103 rfl 9 46 strKeyed Tryz.underlying103 heldR b (size X) DX rfl hownX hlen _ _ (kS x) rfl rfl hkey (.held (.agg #[.int .u64 cel.last, .slice as1 cel.l.length cs1])) [] rfl ?_; intro w4 hown4 hg4)
        | fail)
      go_frame
      go_roundw
      case rel =>
        have hXs : has X (kS x) = has M (kS x) := by rw [hmX.out.1 (kS x), Hlk.out]; simp
        refine ⟨_, cnt3, X.put (kS x) (.held cel), Lib.hid ((Hrg3.out.alloc _).kept hg4 (by intro e; injection e with e; exact hne e.symm) (by intro e; injection e with e; omega)), Lib.hid (Maps.merged_step hmX.out (canonK_isMap (HoldsMap.canon hX.out)) (kS_key _) HatF.out), Lib.hid ?_, Lib.hid ?_, Lib.hid ?_⟩
        · refine hputX _ _ x cel _ Hxs.out ⟨_, rfl, ?_⟩ hown4 hg4
          have hb4 : ButS (fun k => k = b) w (w3.alloc (.cells #[.int .u64 cel.last, .slice as1 cel.l.length cs1] 46)) := Hb3.out.trans (ButS.of ((Below.refl _ _).alloc (Nat.le_refl _) _))
          exact Hs.out.but hb4 (fun k hk => by subst hk; exact HM.out.noVers)
        · have h1 := Maps.size_put (k := kS x) (canonK_tidy (HoldsMap.canon hX.out)) (.held cel)
          have h2 := hXle.out; have h3 := Hlt3.out
          rw [h1]; split <;> omega
        · exact (Hb3.out.trans (ButS.of ((Below.refl _ _).alloc (Nat.le_refl _) _))).trans (ButS.grown hg4 rfl)
      case measure => rw [((Hrg3.out.alloc _).kept hg4 (by intro e; injection e with e; exact hne e.symm) (by intro e; injection e with e; omega)).left_eq, hrg.out.left_eq]; exact Hlt3.out
theorem runT_facts {ks : TypeId} (hk : Tryz.prog.underlying ks = some .string) (l : List Edt) : ∀ {N : DataW Cel} {vs : List Nat} {B : Int} {i : Nat}, Good Tryz.prog ks N →
    Good Tryz.prog ks (runT N vs B i l).2.1 ∧ size (runT N vs B i l).2.1 ≤ size N + l.length ∧ B - l.length * 33000 ≤ (runT N vs B i l).2.2.2 ∧ (runT N vs B i l).2.2.2 ≤ B + l.length * 33000 := by
  induction l with
  | nil => intro N vs B i h; simp only [runT]; exact ⟨h, by simp, by simp, by simp⟩
  | cons x t ih =>
    intro N vs B i h
    by_cases he : (editE N x).2 = 0
    · rw [runT_go he]
      obtain ⟨a1, a2, a3, a4⟩ := ih (N := stepM N x) (vs := vs ++ [(editE N x).1.last]) (B := B + ((weightE x.path (editE N x).1 : Int) - (weightE x.path (cellAt N x.path) : Int))) (i := i + 1) (h.step hk he)
      obtain ⟨e1, e2, e3, e4⟩ := edit_ok h he
      have w1 := weight_le (p := x.path) e1 (mayP_size e4)
      have w2 := weight_le (p := x.path) (h.cellAt x.path).1 (mayP_size e4)
      have hs : size (stepM N x) ≤ size N + 1 := by
        unfold stepM
        rw [Maps.size_put (canonK_tidy h.canon)]; split <;> omega
      refine ⟨a1, ?_, ?_, ?_⟩
      · simp only [List.length_cons]; omega
      · simp only [List.length_cons]; push_cast; omega
      · simp only [List.length_cons]; push_cast; omega
    · rw [runT_stop he]
      refine ⟨h, ?_, ?_, ?_⟩
      · simp only; omega
      · simp only [List.length_cons]; push_cast; omega
      · simp only [List.length_cons]; push_cast; omega
theorem runT_zero (l : List Edt) : ∀ {N : DataW Cel} {vs : List Nat} {B : Int} {i : Nat}, ((runT N vs B i l).1.2 = 0 → (runT N vs B i l).1 = (0, 0)) ∧ (runT N vs B i l).2.2.1.length ≤ vs.length + l.length := by
  induction l with
  | nil => intro N vs B i; exact ⟨fun _ => rfl, by simp [runT]⟩
  | cons x t ih =>
    intro N vs B i
    by_cases he : (editE N x).2 = 0
    · rw [runT_go he]
      obtain ⟨a, b⟩ := ih (N := stepM N x) (vs := vs ++ [(editE N x).1.last]) (B := B + ((weightE x.path (editE N x).1 : Int) - (weightE x.path (cellAt N x.path) : Int))) (i := i + 1)
      refine ⟨a, ?_⟩
      rw [List.length_append, List.length_singleton] at b
      rw [List.length_cons]; omega
    · rw [runT_stop he]
      exact ⟨fun h => absurd h he, by simp only; omega⟩
theorem tried_zero {M : DataW Cel} {B q1 q2 : Int} {l : List Edt} (h : (triedT M B q1 q2 l).1.2 = 0) : (triedT M B q1 q2 l).1 = (0, 0) := by
  unfold triedT at h ⊢
  simp only at h ⊢
  split at h
  · rename_i h1; exact absurd h h1
  · rename_i h1
    rw [if_neg h1]
    split at h
    · simp at h
    · rename_i h2
      rw [if_neg h2]
      exact (runT_zero l).1 h
theorem tried_eq (M : DataW Cel) (B q1 q2 : Int) (l : List Edt) : (triedT M B q1 q2 l).2 = (runT M [] B 0 l).2 := by
  unfold triedT
  simp only
  split
  · rfl
  · split <;> rfl
theorem ownBut {S : Nat → Prop} {w w' : World} {B e n k : Nat} {v : Value} {xs : List Value} (h : w.ownsRow B e k v n xs) (hb : ButS S w w') (hS : ∀ k, S k → k < B) : w'.ownsRow B e k v n xs := by
  refine ⟨h.1, ?_⟩
  rcases h.2 with hn | ⟨g, cap, cur, hv, hBg, hg, rest⟩
  · exact Or.inl hn
  · exact Or.inr ⟨g, cap, cur, hv, hBg, (hb.block g (lt_of_block hg) (fun hs => by have := hS g hs; omega)).trans hg, rest⟩

def ApplyGives (r : (Nat × Nat) × DataW Cel × List Nat × Int) (t b : Nat) (q1 q2 : Int) (w : World) (e : Ending) (w' : World) : Prop :=
  (r.1.2 ≠ 0 ∧ e = .returned (.tuple #[.slice none 0 0, .int .i64 r.1.1, .int .i64 r.1.2]) ∧ Below w.heap.size w w') ∨
  (r.1.2 = 0 ∧ ∃ v, e = .returned (.tuple #[v, .int .i64 0, .int .i64 0]) ∧ w'.ownsRow w.heap.size 43 1 v r.2.2.1.length (r.2.2.1.map (fun n : Nat => Value.int .u64 n)) ∧ TabAt w' t b q1 q2 r.2.1 r.2.2.2 ∧ ButS (fun k => k = t ∨ k = b) w w')
set_option maxRecDepth 100000 in
set_option maxHeartbeats 1000000 in
theorem tab_apply (w : World) {t b : Nat} {q1 q2 B : Int} {M : DataW Cel} (h : TabAt w t b q1 q2 M B) (hg : Good Tryz.prog 9 M) (hm : MX w) (v : Value) (l : List Edt) (hv : IsEdts w v l) (hl : l.length ≤ 1048576)
    (hsM : size M ≤ 1073741824) (hB0 : -1125899906842624 ≤ B) (hB1 : B ≤ 1125899906842624) (hp : ∀ i, i < l.length → (l.getD i dE).path.size ≤ 140737488351232 ∧ (l.getD i dE).text.size ≤ 9223372036854775807) :
    Calls Tryz.prog 16 #[.pointer (some ⟨t, 0, none⟩), v] w (ApplyGives (triedT M B q1 q2 l) t b q1 q2 w) := by
  have Ht := Lib.hid (tab_tried w h hg hm v l hv hl (by omega) hB0 hB1 hp)
  have hgood : Good Tryz.prog 9 (triedT M B q1 q2 l).2.1 := by rw [tried_eq]; exact (runT_facts Tryz.underlying9 l hg).1
  have hvl : (triedT M B q1 q2 l).2.2.1.length ≤ l.length := by rw [tried_eq]; have := (runT_zero l (N := M) (vs := []) (B := B) (i := 0)).2; simpa using this
  generalize triedT M B q1 q2 l = r at Ht hgood hvl
  have HT := Lib.hid h; have Hgood := Lib.hid hgood
  clear hp hv hm hg h hgood
  go_enter Tryz.func16, Tryz.ntmps16
  go_wp2_with fail
  refine Ht.out.mono ?_
  rintro e w1 ⟨hb, ⟨hr, rfl⟩ | ⟨hr, fb, F, v1, rfl, hfb, hF, hMer, hsF, hown⟩⟩
  · have hE : ((r.1.2 : Int) != 0) = true := by simp [bne]; omega
    have Hb := Lib.hid hb; clear hb
    go_wp2_with fail
    exact bodyPost_ret (v := .tuple #[.slice none 0 0, .int .i64 r.1.1, .int .i64 r.1.2]) (by simp [results, Tryz.results16, go_sem]) rfl (Or.inl ⟨hr, rfl, Hb.out⟩)
  · have h1 := HT.out.below hb
    have c2 := h1.c2
    have hlt := HT.out.lt
    have hltb := HoldsMap.lt HT.out.m
    obtain ⟨a1, k1, rfl⟩ := ownShape hown
    have Hcopy := Lib.hid (maps_copy w1 h1.m hF (by omega) (by omega))
    have H1 := Lib.hid h1; have Hb := Lib.hid hb; have HF := Lib.hid hF; have HMer := Lib.hid hMer; have Hown := Lib.hid hown
    clear h1 hb hF hMer hown
    go_wp2_with fail
    refine Hcopy.out.mono ?_
    rintro e w2 ⟨rfl, hb2, N, hN, hMer2⟩
    have hne := HT.out.ne
    have hlt1 : t < w1.heap.size := H1.out.lt
    have c3 := (hb2.cell (p := ⟨t, 3, none⟩) hlt1 hne).trans H1.out.c3
    have f3 := (hb2.frozen (p := ⟨t, 3, none⟩) hlt1 hne).trans H1.out.f3
    obtain rfl : r.2.1 = N := (merged_same hMer2 HMer.out (fun _ => rfl) (HoldsMap.canon hN) Hgood.out.canon)
    have Hb2 := Lib.hid hb2; have HN := Lib.hid hN; clear hb2 hN
    go_wp2_with fail
    have hw := w2.setCell ⟨t, 3, none⟩ (.int .i64 r.2.2.2)
    have hbw : ButS (fun k => k = t ∨ k = b) w (w2.setCell ⟨t, 3, none⟩ (.int .i64 r.2.2.2)) := ((ButS.of Hb.out).trans (Hb2.out.mono (fun k hk => Or.inr hk))).trans (ButS.set w2 (p := ⟨t, 3, none⟩) (Or.inl rfl) _)
    have hb3 : ButS (fun k => k = t ∨ k = b) w1 (w2.setCell ⟨t, 3, none⟩ (.int .i64 r.2.2.2)) := (Hb2.out.mono (fun k hk => Or.inr hk)).trans (ButS.set w2 (p := ⟨t, 3, none⟩) (Or.inl rfl) _)
    have hlt2 : t < w2.heap.size := Nat.lt_of_lt_of_le hlt1 Hb2.out.size
    have no : ∀ j, j ≠ 3 → (w2.setCell ⟨t, 3, none⟩ (.int .i64 r.2.2.2)).cell? ⟨t, j, none⟩ = w1.cell? ⟨t, j, none⟩ := fun j hj => (World.cell?_setCell_other _ _ _ _ (by intro e; injection e with _ e; exact hj e.symm)).trans (Hb2.out.cell hlt1 hne)
    have hT2 : NoVers w2 t := by
      intro o n s h1 h2
      exact H1.out.noVers o n s ((Hb2.out.cell (p := ⟨t, o, none⟩) hlt1 hne).symm.trans h1) ((Hb2.out.cell (p := ⟨t, o + 1, none⟩) hlt1 hne).symm.trans h2)
    refine bodyPost_ret (v := .tuple #[.slice a1 r.2.2.1.length k1, .int .i64 0, .int .i64 0]) (by simp [results, Tryz.results16, go_sem]) rfl (Or.inr ⟨hr, _, rfl, ?_, ?_, hbw⟩)
    · exact ownBut Hown.out hb3 (fun k hk => by rcases hk with rfl | rfl <;> assumption)
    · refine ⟨(no 0 (by decide)).trans H1.out.c0, (no 1 (by decide)).trans H1.out.c1, (no 2 (by decide)).trans H1.out.c2, World.cell?_setCell_same' _ _ _ (by rw [c3]; rfl), fun j => (no (j + 4) (by omega)).trans (H1.out.c4 j), ?_, ?_⟩
      · rw [World.frozen?_setCell]; exact f3
      · exact HN.out.but (ButS.set (S := fun k => k = t) w2 (p := ⟨t, 3, none⟩) rfl _) (fun k hk => by subst hk; exact hT2) (fun e => hne e.symm)
end Go.Proofs.YtfbgnpfhjbiikaaGreatDoor

namespace Go.Proofs.YtfbgnpfhjbiikaaGreatDoor
open Go Go.RowKit
open Pth
open Go.Maps (has size Canon CanonK Tidy IsMap KeysOf Keyed Merged)
def LiveRel (M : DataW Cel) (left : Lit → Bool) (L : List ByteArray) : Prop := ∀ s : ByteArray, s ∈ L ↔ (has M (kS s) = true ∧ left (kS s) = false ∧ 0 < nowC (cellAt M s))
theorem LiveRel.start (M : DataW Cel) {D : DataW Value} (h : ∀ k, has D k = has M k) : LiveRel M (has D) [] := by
  intro s; rw [h]; cases has M (kS s) <;> simp
theorem sameKey_kS (s x : ByteArray) : (kS s).sameKey (kS x) = decide (s = x) := by
  by_cases e : s = x
  · subst e; rw [WideAt.sameKey_self (kS_key _)]; simp
  · rw [Maps.sameKey_ne (kS_ne e)]; simp [e]
theorem LiveRel.skip {M : DataW Cel} {left : Lit → Bool} {L : List ByteArray} (h : LiveRel M left L) {x : ByteArray} {c : Cel} (hM : has M (kS x) = true) (hat : ∀ zd, M.atKey (kS x) zd = .held c) (hl : left (kS x) = true) (hn : nowC c = 0) : LiveRel M (fun z => left z && !z.sameKey (kS x)) L := by
  intro s
  rw [h s]
  simp only [sameKey_kS]
  by_cases e : s = x
  · subst e; rw [cellAt_of (hat _), hn]; simp
  · simp [e]
theorem LiveRel.step {M : DataW Cel} {left : Lit → Bool} {L : List ByteArray} (h : LiveRel M left L) {x : ByteArray} {c : Cel} (hM : has M (kS x) = true) (hat : ∀ zd, M.atKey (kS x) zd = .held c) (hl : left (kS x) = true) (hn : 0 < nowC c) : LiveRel M (fun z => left z && !z.sameKey (kS x)) (L ++ [x]) := by
  intro s
  rw [List.mem_append, h s, List.mem_singleton]
  simp only [sameKey_kS]
  by_cases e : s = x
  · subst e; rw [cellAt_of (hat _)]; simp [hM, hn]
  · simp [e]
theorem infoStr7 : (Tryz.prog.info? 9).map (fun i => (i.zero, i.size, i.bytes)) = some (some (.string ByteArray.empty), 1, 16) := by kernel_rfl

theorem belowGrown {w w' : World} (hb : Below w.heap.size w w') : w.grownBy w' none := ⟨hb.os, hb.tape, hb.output, hb.size, fun i hi _ => hb.block i hi⟩
def ListGives (p : List UInt8) (M : DataW Cel) (w : World) (e : Ending) (w' : World) : Prop :=
  ∃ L : List ByteArray, (∀ s, s ∈ L ↔ (has M (kS s) = true ∧ 0 < nowC (cellAt M s))) ∧ NamesGives p L w e w'

set_option maxRecDepth 100000 in
set_option maxHeartbeats 2000000 in
theorem tab_list (w : World) {t b : Nat} {q1 q2 B : Int} {M : DataW Cel} (h : TabAt w t b q1 q2 M B) (hg : Good Tryz.prog 9 M) (hm : MX w) (p : ByteArray) (hp : p.size ≤ 140737488351232) (hsM : size M ≤ 1073741824) :
    Calls Tryz.prog 27 #[.pointer (some ⟨t, 0, none⟩), .string p] w (ListGives p.data.toList M w) := by
  have Hmade := Lib.hid (tab_made w h)
  have HG := Lib.hid hg; have HM := Lib.hid hm; have HT := Lib.hid h; clear hg hm h
  go_enter Tryz.func27, Tryz.ntmps27
  go_wp2_with fail
  refine Hmade.out.mono ?_
  rintro e w1 ⟨rfl, hb1⟩
  have h1 := HT.out.below hb1
  have c2 := h1.c2
  have hm1 := h1.m
  obtain ⟨D, hownD, hal⟩ := hm1
  have Hal := Lib.hid hal; have Hb1 := Lib.hid hb1
  clear h1 hal hb1
  obtain ⟨i0, hi, hz0, hz1, hz2⟩ := info_parts infoStr7
  go_wp2_with (first | (at_range; refine wpList_range_own _ rfl _ 103 rfl 9 46 strKeyed Tryz.underlying103 heldR b (size M) D rfl hownD ?_; intro w0 hrg0 hg0 hs0) | fail)
  go_frame
  go_loopw [5] (fun s5 wx => ∃ (left : Lit → Bool) (cnt : Nat) (L : List ByteArray), (∃ a5 c5, s5 = .slice a5 L.length c5) ∧ Hid (wx.ranges Tryz.prog 9 heldR b w1.heap.size (size M) D left cnt) ∧ Hid (LiveRel M left L) ∧ Hid (wx.ownsRow (w1.heap.size + 1) 9 1 s5 L.length (L.map Value.string)) ∧ Hid (L.length + cnt ≤ size M) ∧ Hid (Below w1.heap.size w1 wx)) (fun _ wx => wx.rangeLeft b w1.heap.size)
  case atStart => exact ⟨_, _, [], ⟨none, 0, rfl⟩, Lib.hid hrg0, Lib.hid (LiveRel.start M Hal.out.keys), Lib.hid (World.ownsRow_nil _ _ _ _), Lib.hid (by have := Hal.out.sizes; simp only [List.length_nil]; omega), Lib.hid ((Below.refl _ _).grown hg0 (Nat.le_refl _) (fun k hk => by cases hk))⟩
  case round =>
    obtain ⟨left, cnt, L, ⟨a5, c5, rfl⟩, hrg, hrl, hrow, hle, hbx⟩ := hrel
    have hrgo := hrg.out
    by_cases hc : cnt = 0
    · have Hnames := Lib.hid (fun (hl0 : ∀ kl, left kl = false) => path_names p L (.slice a5 L.length c5) wr hp (by have := hle.out; omega) (by
        intro i hi
        have hmem : L.getD i ByteArray.empty ∈ L := by rw [List.getD_eq_getElem?_getD, List.getElem?_eq_getElem hi]; exact List.getElem_mem hi
        obtain ⟨hh, _⟩ := (hrl.out _).1 hmem
        obtain ⟨p', c, e, _, _, _, _, h4⟩ := HG.out.cells _ hh
        rw [kS_inj e]
        have := mayP_size h4; omega) (IsStrs.own hrow.out) (HM.out.below (Hb1.out.trans (hbx.out.mono Hb1.out.size)) (Nat.le_refl _)))
      go_wp2_with (at_next; refine wpList_next_ranges _ rfl _ rfl 9 strKeyed heldR Value.string (fun v : Value => v) (fun key kl h => by obtain ⟨s, rfl, _⟩ := keyS_inv Tryz.underlying9 h; exact ⟨s, rfl⟩) (fun v y _ => ⟨v, rfl⟩) b w1.heap.size (size M) D left cnt rfl hrgo ?_ (fun x c kl y w' cnt' _ _ _ _ _ hlt' => absurd hlt' (by omega)); intro hc0 hl0)
      refine (Hnames.out hl0).mono ?_
      rintro e w2 ⟨v2, rfl, hv2, hb2⟩
      have Hv2 := Lib.hid hv2; have Hb2 := Lib.hid hb2; clear hv2 hb2
      go_wp2_with fail
      go_ret
      refine ⟨L, fun s => ?_, v2, rfl, Hv2.out, Hb1.out.trans ((hbx.out.trans (Hb2.out.mono hbx.out.size)).mono Hb1.out.size)⟩
      rw [hrl.out s, hl0]; simp
    · go_upto_if 23 with (first
        | (at_next; refine wpList_next_ranges _ rfl _ rfl 9 strKeyed heldR Value.string (fun v : Value => v) (fun key kl h => by obtain ⟨s, rfl, _⟩ := keyS_inv Tryz.underlying9 h; exact ⟨s, rfl⟩) (fun v y _ => ⟨v, rfl⟩) b w1.heap.size (size M) D left cnt rfl hrgo (fun h0 => absurd h0 hc) ?_; intro x c kl y w3 cnt3 hkx hlk hv hat hrg3 hlt3 hg3 hs3 hen; obtain ⟨rfl, hxs⟩ := keyS_of hkx; obtain ⟨cel, ⟨s, rfl, hs⟩, hatM⟩ := entry_cel Hal.out hv hat; have hb3 := hbx.out.grown hg3 hbx.out.size (fun k hk => by cases hk; exact Nat.le_refl _); have Hs := Lib.hid (hs.below hb3 (Nat.le_refl _)); obtain ⟨as1, cs1, rfl, _⟩ := hs; have Hb3 := Lib.hid hb3; have Hg3 := Lib.hid hg3; have Hrg3 := Lib.hid hrg3; have Hlk := Lib.hid hlk; have HatM := Lib.hid hatM; have Hxs := Lib.hid hxs; have Hlt3 := Lib.hid hlt3; clear hb3 hrg3 hlk hat hatM hxs hlt3 hkx hv hg3 hs3)
        | (go_at_call 58; refine (cell_now cel _ _ (Hs.out.below ((Below.refl _ _).alloc (Nat.le_refl _) _) (Nat.le_refl _)) ?len).mono ?_; (case len => have hh := Maps.has_true_of_atKey HatM.out; obtain ⟨p', c', _, h2, h3, _⟩ := HG.out.cells _ hh; have := (HatM.out .nil).symm.trans h2; injection this with this; subst this; have := may_len h3; omega); rintro e w4 ⟨rfl, hb4⟩; have Hb4 := Lib.hid hb4; clear hb4)
        | fail)
      have hrow4 : w4.ownsRow (w1.heap.size + 1) 9 1 (.slice a5 L.length c5) L.length (L.map Value.string) := ownBelow (ownBelow (ownGrown hrow.out Hg3.out (Nat.lt_succ_self _)) ((Below.refl _ _).alloc (Nat.le_refl _) _)) Hb4.out
      have hrg4 := (Hrg3.out.alloc (.cells #[.int .u64 cel.last, .slice as1 cel.l.length cs1] 46)).kept (belowGrown Hb4.out) (by simp) (by simp)
      have hbx4 : Below w1.heap.size w1 w4 := (Hb3.out.alloc Hb3.out.size _).trans (Hb4.out.mono (Hb3.out.alloc Hb3.out.size _).size)
      have hMx := Maps.has_true_of_atKey HatM.out
      have Hrow4 := Lib.hid hrow4; have Hrg4 := Lib.hid hrg4; have Hbx4 := Lib.hid hbx4; have HMx := Lib.hid hMx
      clear hrow4 hrg4 hbx4 hMx
      by_cases hn : 0 < nowC cel
      · have hn' : (0 : Int) < (nowC cel : Int) := by omega
        have hll := hle.out
        have hll2 := Hlt3.out
        have hL1 : L.length + 1 ≤ 1073741824 := by omega
        have Hcnt : Hid (L.length + 1 + cnt3 ≤ size M) := Lib.hid (by omega)
        clear hll hll2
        go_wp2_with (first
          | (at_builtin; refine wpList_append_own _ rfl (.tmp 24) (.tmp 26) 24 rfl (w1.heap.size + 1) 9 i0 (.string ByteArray.empty) 1 16 Tryz.underlying24 hi hz0 hz1 hz2 rfl (by decide) _ _ _ rfl (ownBelow Hrow4.out ((Below.refl _ _).alloc (Nat.le_refl _) _)) ⟨w4.heap.size, 0, none⟩ 1 1 [.string x] rfl rfl (World.news_of_block (MapKept.heap_alloc _ _).1) (by intro u hu; rcases List.mem_singleton.1 hu with rfl; rfl) (by unfold maxLen; omega) (by omega) ?hbase ?go; (case hbase => have h1 := Hrg4.out.lt; simp; omega); intro v5 w5 hown5 hg5 _)
          | fail)
        obtain ⟨a6, c6, rfl⟩ := ownShape hown5
        go_roundw
        case rel =>
          refine ⟨_, cnt3, L ++ [x], ⟨a6, c6, by rw [List.length_append]; rfl⟩, Lib.hid ((Hrg4.out.alloc _).kept hg5 ?_ ?_), Lib.hid (hrl.out.step HMx.out HatM.out Hlk.out hn), Lib.hid ?_, Lib.hid ?_, Lib.hid ((Hbx4.out.alloc Hbx4.out.size _).grown hg5 (Hbx4.out.alloc Hbx4.out.size _).size (fun k hk => by have := ownAbove Hrow4.out k hk; omega))⟩
          · intro e; have := ownAbove Hrow4.out _ e.symm; have := hownD.lt; omega
          · intro e; have := ownAbove Hrow4.out _ e.symm; omega
          · rw [List.length_append, List.map_append]; exact hown5
          · rw [List.length_append]; exact Hcnt.out
        case measure => rw [((Hrg4.out.alloc _).kept hg5 (by intro e; have := ownAbove Hrow4.out _ e.symm; have := hownD.lt; omega) (by intro e; have := ownAbove Hrow4.out _ e.symm; omega)).left_eq, hrg.out.left_eq]; exact Hlt3.out
      · have hn0 : nowC cel = 0 := by omega
        have hn' : ¬ (0 : Int) < (nowC cel : Int) := by omega
        have Hcnt : Hid (L.length + cnt3 ≤ size M) := Lib.hid (by have := hle.out; have := Hlt3.out; omega)
        go_wp2_with fail
        go_roundw
        case rel => exact ⟨_, cnt3, L, ⟨a5, c5, rfl⟩, Hrg4, Lib.hid (hrl.out.skip HMx.out HatM.out Hlk.out hn0), Hrow4, Hcnt, Hbx4⟩
        case measure => rw [Hrg4.out.left_eq, hrg.out.left_eq]; exact Hlt3.out
end Go.Proofs.YtfbgnpfhjbiikaaGreatDoor

namespace Go.Proofs.YtfbgnpfhjbiikaaGreatDoor
open Go Go.RowKit
def IsNums (w : World) (v : Value) (l : List Nat) : Prop :=
  ∃ a cap, v = .slice a l.length cap ∧ (l = [] ∨ ∃ b off, a = some ⟨b, off, none⟩ ∧ b < w.heap.size ∧ ∀ i, i < l.length → w.cell? ⟨b, off + i, none⟩ = some (.int .u64 (l.getD i 0)))
theorem IsNums.below {w w' : World} {v : Value} {l : List Nat} {B : Nat} (h : IsNums w v l) (hb : Below B w w') (hB : w.heap.size ≤ B) : IsNums w' v l := by
  obtain ⟨a, cap, hv, h⟩ := h
  refine ⟨a, cap, hv, ?_⟩
  rcases h with h | ⟨b, off, ha, hlt, hc⟩
  · exact Or.inl h
  · exact Or.inr ⟨b, off, ha, by have := hb.size; omega, fun i hi => (hb.cell (p := ⟨b, off + i, none⟩) (by show b < B; omega)).trans (hc i hi)⟩
theorem IsNums.own {w : World} {B e : Nat} {v : Value} {l : List Nat} (h : w.ownsRow B e 1 v l.length (l.map (fun n : Nat => Value.int .u64 n))) : IsNums w v l := by
  rcases h.2 with ⟨hv, hl⟩ | ⟨g, cap, cur, hv, hB, hg, hn, hcap, hsz, htake⟩
  · have : l = [] := List.length_eq_zero_iff.1 hl
    subst this; exact ⟨none, 0, hv, Or.inl rfl⟩
  · refine ⟨_, _, hv, Or.inr ⟨g, 0, rfl, lt_of_block hg, fun i hi => ?_⟩⟩
    subst hv
    have := World.ownsRow.cellAt h i (by omega)
    rw [Nat.zero_add, this, List.getElem?_map, List.getD_eq_getElem?_getD, List.getElem?_eq_getElem hi]; rfl
theorem IsNums.new (w : World) (l : List Nat) (cap : Nat) (e : TypeId) (x : Nat × Nat) : IsNums (w.alloc (.cells (l.map (fun n : Nat => Value.int .u64 n)).toArray e x)) (.slice (some ⟨w.heap.size, 0, none⟩) l.length cap) l := by
  refine ⟨_, _, rfl, Or.inr ⟨w.heap.size, 0, rfl, by simp, fun i hi => ?_⟩⟩
  rw [Nat.zero_add, World.cell?_alloc_mark]
  simp [hi]
theorem below_dr {B : Nat} {a w : World} (h : Below B a w) (q : Nat) : Below B a (w.drewN q) := ⟨h.os, h.tape, h.output, h.size, h.block⟩

end Go.Proofs.YtfbgnpfhjbiikaaGreatDoor

namespace Go.Proofs.YtfbgnpfhjbiikaaGreatDoor
open Go.Sort
def ltS (C : Nat → Int) (i j : Nat) : Bool := decide (C i < C j ∨ (C i = C j ∧ i < j))
def leS (C : Nat → Int) (i j : Nat) : Bool := decide (C i < C j ∨ (C i = C j ∧ i ≤ j))
def ltC (C : Nat → Int) (i j : Nat) : Bool := decide (C i < C j)
def ordL (C : Nat → Int) (n : Nat) : List Nat := ((List.range n).filter (fun i => decide (0 < C i))).mergeSort (leS C)

theorem swoS (C : Nat → Int) : SWO (ltS C) := by
  constructor
  · intro x; simp [ltS]
  · intro x y z h1 h2; simp only [ltS, decide_eq_true_eq] at *; omega
  · intro x y z h1 h2
    simp only [ltS, decide_eq_false_iff_not] at *; omega

theorem insInner_eq (C : Nat → Int) (a : Nat) : ∀ (j : Nat) (d : Array Nat), j < d.size → (∀ p, a ≤ p → p < j → d[p]! < d[j]!) → insInner (ltC C) a j d = insInner (ltS C) a j d
  | 0, d, _, _ => by unfold insInner; rfl
  | j + 1, d, hj, h => by
    by_cases hja : a < j + 1
    · have hlt := h j (by omega) (by omega)
      have he : ltC C d[j + 1]! d[j]! = ltS C d[j + 1]! d[j]! := by
        unfold ltC ltS
        apply decide_eq_decide.2
        constructor
        · exact Or.inl
        · rintro (h | ⟨_, h⟩)
          · exact h
          · omega
      have hrec := insInner_eq C a j (swp d (j + 1) j) (by rw [swp_size]; omega) (fun p hp hpj => by
        have g := swp_get d hj (show j < d.size by omega)
        rw [g p, g j, if_neg (by omega), if_neg (by omega), if_pos rfl]
        exact h p hp (by omega))
      unfold insInner
      simp only [he, hrec]
    · unfold insInner
      have : decide (j + 1 > a) = false := by simp; omega
      simp [this]

theorem insInner_at (lt : Nat → Nat → Bool) (a : Nat) : ∀ (j : Nat) (d : Array Nat), j < d.size → (insInner lt a j d).size = d.size ∧ (∀ q, j < q → (insInner lt a j d)[q]! = d[q]!) ∧ (∀ q, q < a → (insInner lt a j d)[q]! = d[q]!) ∧ (∀ p, a ≤ p → p ≤ j → ∃ p', a ≤ p' ∧ p' ≤ j ∧ (insInner lt a j d)[p]! = d[p']!)
  | 0, d, _ => by
    unfold insInner
    exact ⟨rfl, fun _ _ => rfl, fun _ _ => rfl, fun p h1 h2 => ⟨p, h1, h2, rfl⟩⟩
  | j + 1, d, hj => by
    unfold insInner
    split
    · rename_i hc
      simp only [Bool.and_eq_true, decide_eq_true_eq] at hc
      obtain ⟨h1, h2, h3, h4⟩ := insInner_at lt a j (swp d (j + 1) j) (by rw [swp_size]; omega)
      have g := swp_get d hj (show j < d.size by omega)
      refine ⟨by rw [h1, swp_size], fun q hq => ?_, fun q hq => ?_, fun p hp hpj => ?_⟩
      · rw [h2 q (by omega), g, if_neg (by omega), if_neg (by omega)]
      · rw [h3 q hq, g, if_neg (by omega), if_neg (by omega)]
      · by_cases e : p = j + 1
        · subst e
          refine ⟨j, by omega, by omega, ?_⟩
          rw [h2 (j + 1) (by omega), g, if_neg (by omega), if_pos rfl]
        · obtain ⟨p', k1, k2, k3⟩ := h4 p hp (by omega)
          rw [k3, g]
          by_cases e2 : p' = j
          · exact ⟨j + 1, by omega, by omega, by rw [if_pos e2]⟩
          · exact ⟨p', k1, by omega, by rw [if_neg e2, if_neg (by omega)]⟩
    · exact ⟨rfl, fun _ _ => rfl, fun _ _ => rfl, fun p h1 h2 => ⟨p, h1, h2, rfl⟩⟩

theorem io_go (lt : Nat → Nat → Bool) (a b i : Nat) (d : Array Nat) (h : i < b) : insOuter lt a b i d = insOuter lt a b (i + 1) (insInner lt a i d) := by rw [insOuter, if_pos h]
theorem io_stop (lt : Nat → Nat → Bool) (a b i : Nat) (d : Array Nat) (h : ¬ i < b) : insOuter lt a b i d = d := by rw [insOuter, if_neg h]
theorem insOuter_eq (C : Nat → Int) (a b : Nat) : ∀ (n i : Nat) (d : Array Nat), b - i = n → a < i → b ≤ d.size → (∀ p q, a ≤ p → p < q → i ≤ q → q < b → d[p]! < d[q]!) → insOuter (ltC C) a b i d = insOuter (ltS C) a b i d
  | 0, i, d, hn, hai, hb, h => by
    have : ¬ i < b := by omega
    rw [io_stop _ _ _ _ _ this, io_stop _ _ _ _ _ this]
  | n + 1, i, d, hn, hai, hb, h => by
    have hlt : i < b := by omega
    rw [io_go _ _ _ _ _ hlt, io_go _ _ _ _ _ hlt]
    rw [insInner_eq C a i d (by omega) (fun p hp hpi => h p i hp hpi (Nat.le_refl _) hlt)]
    obtain ⟨h1, h2, h3, h4⟩ := insInner_at (ltS C) a i d (by omega)
    refine insOuter_eq C a b n (i + 1) _ (by omega) (by omega) (by rw [h1]; exact hb) (fun p q hp hpq hiq hq => ?_)
    rw [h2 q (by omega)]
    by_cases hpi : p ≤ i
    · obtain ⟨p', k1, k2, k3⟩ := h4 p hp hpi
      rw [k3]
      exact h p' q k1 (by omega) (by omega) hq
    · rw [h2 p (by omega)]
      exact h p q hp hpq (by omega) hq
theorem insertion_eq (C : Nat → Int) (d : Array Nat) (a b : Nat) (hb : b ≤ d.size) (h : ∀ p q, a ≤ p → p < q → q < b → d[p]! < d[q]!) : insertionSort (ltC C) d a b = insertionSort (ltS C) d a b := by
  unfold insertionSort
  exact insOuter_eq C a b _ (a + 1) d rfl (by omega) hb (fun p q h1 h2 _ h4 => h p q h1 h2 h4)

theorem leS_total (C : Nat → Int) (a b : Nat) : (leS C a b || leS C b a) = true := by simp only [leS, Bool.or_eq_true, decide_eq_true_eq]; omega
theorem leS_trans (C : Nat → Int) (a b c : Nat) (h1 : leS C a b = true) (h2 : leS C b c = true) : leS C a c = true := by simp only [leS, decide_eq_true_eq] at *; omega
theorem ordL_perm (C : Nat → Int) (n : Nat) : (ordL C n).Perm ((List.range n).filter (fun i => decide (0 < C i))) := List.mergeSort_perm _ _
theorem ordL_sorted (C : Nat → Int) (n : Nat) : (ordL C n).Pairwise (fun a b => leS C a b = true) := List.pairwise_mergeSort (leS_trans C) (leS_total C) _
theorem mem_ordL {C : Nat → Int} {n i : Nat} : i ∈ ordL C n ↔ i < n ∧ 0 < C i := by rw [(ordL_perm C n).mem_iff]; simp
theorem ordL_length (C : Nat → Int) (n : Nat) : (ordL C n).length = ((List.range n).filter (fun i => decide (0 < C i))).length := (ordL_perm C n).length_eq
theorem ordL_le (C : Nat → Int) (n : Nat) : (ordL C n).length ≤ n := by rw [ordL_length]; exact Nat.le_trans (List.length_filter_le _ _) (by simp)
theorem ordL_uniq {C : Nat → Int} {n : Nat} {o : List Nat} (hp : o.Perm ((List.range n).filter (fun i => decide (0 < C i)))) (hs : o.Pairwise (fun a b => leS C a b = true)) : o = ordL C n := by
  refine List.Perm.eq_of_pairwise (le := fun a b => leS C a b = true) ?_ hs (ordL_sorted C n) (hp.trans (ordL_perm C n).symm)
  intro a b _ _ h1 h2
  simp only [leS, decide_eq_true_eq] at h1 h2
  omega

theorem ordL_congr {C C' : Nat → Int} {n : Nat} (h : ∀ i, i < n → C i = C' i) : ordL C n = ordL C' n := by
  refine ordL_uniq ?_ ?_
  · refine (ordL_perm C n).trans ?_
    rw [List.filter_congr (fun i hi => by rw [h i (List.mem_range.1 hi)])]
  · refine List.Pairwise.imp_of_mem ?_ (ordL_sorted C n)
    intro a b ha hb hab
    have h1 := h a (mem_ordL.1 ha).1
    have h2 := h b (mem_ordL.1 hb).1
    simp only [leS, decide_eq_true_eq] at *
    omega
theorem toList_of_permIn {d d' : Array Nat} (h : PermIn 0 d.size d d') : d'.toList.Perm d.toList := by
  have h2 := h.2.2
  have e1 : (d.extract 0 d.size).toList = d.toList := by simp
  have e2 : (d'.extract 0 d.size).toList = d'.toList := by rw [← h.1]; simp
  rw [e1, e2] at h2
  exact h2
theorem pairwise_of_sortedIn {lt : Nat → Nat → Bool} {d : Array Nat} (h : SortedIn lt 0 d.size d) : d.toList.Pairwise (fun a b => lt b a = false) := by
  rw [List.pairwise_iff_getElem]
  intro i j hi hj hij
  have h1 := h i j (Nat.zero_le _) hij (by simpa using hj)
  rw [getElem!_pos d i (by simpa using hi), getElem!_pos d j (by simpa using hj)] at h1
  simpa using h1
theorem ord_of {C : Nat → Int} {n : Nat} {d d' : Array Nat} (hd : d.toList = (List.range n).filter (fun i => decide (0 < C i))) (hp : PermIn 0 d.size d d') (hs : SortedIn (ltS C) 0 d.size d') : d'.toList = ordL C n := by
  refine ordL_uniq (by rw [← hd]; exact toList_of_permIn hp) ?_
  refine (pairwise_of_sortedIn (lt := ltS C) (by rw [hp.1]; exact hs)).imp ?_
  intro a b h
  simp only [ltS, leS, decide_eq_false_iff_not, decide_eq_true_eq] at *
  omega
theorem ins_ord {C : Nat → Int} {n : Nat} {d : Array Nat} (hd : d.toList = (List.range n).filter (fun i => decide (0 < C i))) : (insertionSort (ltC C) d 0 d.size).toList = ordL C n := by
  have hup : ∀ p q, 0 ≤ p → p < q → q < d.size → d[p]! < d[q]! := by
    intro p q _ hpq hq
    have hpw : d.toList.Pairwise (· < ·) := by rw [hd]; exact List.pairwise_lt_range.filter _
    have := List.pairwise_iff_getElem.1 hpw p q (by simpa using (by omega : p < d.size)) (by simpa using hq) hpq
    rw [getElem!_pos d p (by omega), getElem!_pos d q hq]
    simpa using this
  rw [insertion_eq C d 0 d.size (Nat.le_refl _) hup]
  obtain ⟨h1, h2⟩ := insertionSort_holds (swoS C) d 0 d.size (Nat.zero_le _) (Nat.le_refl _)
  exact ord_of hd h1 h2
end Go.Proofs.YtfbgnpfhjbiikaaGreatDoor
