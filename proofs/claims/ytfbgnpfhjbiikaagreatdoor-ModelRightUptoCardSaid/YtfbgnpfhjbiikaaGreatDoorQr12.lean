/- Contract: law31.told. Stories in a row of one's own: copied, stored into. -/
import Derived.Test.YtfbgnpfhjbiikaaGreatDoorQr11
import Derived.Deep.MidRow
namespace Go.Proofs.YtfbgnpfhjbiikaaGreatDoor
open Go Go.RowKit
open Pth
open Go.Maps (has size Canon CanonK Tidy IsMap KeysOf Keyed Merged)
def TolG (cs : List Cal) (lost : List Bool) (w : World) (e : Ending) (w' : World) : Prop := ∃ v, e = .returned v ∧ IsStos w' v (tolL cs lost cs.length) ∧ Below w.heap.size w w'

set_option maxRecDepth 100000 in
set_option maxHeartbeats 8000000 in
theorem law_told (cs : List Cal) (lost : List Bool) (v vl : Value) (w : World) (hv : IsCals w v cs) (hl : IsBools w vl lost) (h20 : cs.length ≤ 20) (hz : ∀ i, i < cs.length → CalSz (cs.getD i dCal)) (he : edN cs cs.length ≤ 500000) :
    Calls Tryz.prog 30 #[v, vl] w (TolG cs lost w) := by
  obtain ⟨a, cap, rfl, hcc⟩ := hv
  obtain ⟨al, cl, rfl, hlc⟩ := hl
  have HC := Lib.hid hcc; have HLC := Lib.hid hlc; have HZ := Lib.hid hz; have HE := Lib.hid he
  obtain ⟨i0, hi, hz0, hz1, hz2⟩ := info_parts infoStoA
  obtain ⟨r0, hri, hr0, hr1, hr2⟩ := info_parts infoRow
  have hzs := zeroSto
  have HTab := Lib.hid (fun W => ref31_table W)
  clear hcc hlc hz he
  go_enter Tryz.func30, Tryz.ntmps30
  go_wp2_with fail
  refine (HTab.out _).mono ?_
  rintro e w1 ⟨t1, rfl, ht1, hT1, hb1⟩
  have HT1 := Lib.hid hT1; have Ht1 := Lib.hid ht1; have HB1 := Lib.hid hb1
  clear hT1 ht1 hb1
  go_wp2_with fail
  go_loopw [5, 6, 7, 8, 9, 10, 11] (fun s5 s6 s7 _ _ _ _ wr => ∃ (k t : Nat) (T : List (Five × Sto)) (a5 : Option Addr) (c5 : Nat), k ≤ cs.length ∧ s5 = .slice a5 T.length c5 ∧ s6 = .pointer (some ⟨t, 0, none⟩) ∧ s7 = .int .i64 k ∧ Hid (T.map (·.2) = tolL cs lost k) ∧ Hid (∀ x ∈ T, TolIs w wr (.slice a5 T.length c5) t x) ∧
    Hid (wr.ownsRow w.heap.size 87 18 (.slice a5 T.length c5) T.length (stoFlat T)) ∧ Hid (AllK kindS 18 wr (Value.slice a5 T.length c5).ownBlock) ∧ Hid (RefAt wr t QQ QQ (rowsL (tolM cs k))) ∧ Hid (w.heap.size ≤ t ∧ ∀ k, (Value.slice a5 T.length c5).ownBlock = some k → k ≠ t) ∧ Hid (Below w.heap.size w wr)) (fun _ _ i _ _ _ _ _ => cs.length - (intOf i).toNat)
  case atStart => exact ⟨0, t1, [], none, 0, Nat.zero_le _, rfl, rfl, rfl, Lib.hid rfl, Lib.hid (fun x hx => by cases hx), Lib.hid (World.ownsRow_nil _ _ _ _), Lib.hid AllK.nil, Lib.hid (by show RefAt w1 t1 QQ QQ (rowsL (.map [])); rw [rowsL_nil]; exact HT1.out), Lib.hid ⟨Ht1.out, fun k hk => by cases hk⟩, HB1⟩
  case round =>
    obtain ⟨k, t, T, a5, c5, hk, rfl, rfl, rfl, hmap, htol, hrow, hkind, hT, hfar, hbw⟩ := hrel
    have hTl : T.length = k := by have := congrArg List.length hmap.out; rwa [List.length_map, tolL_length] at this
    rw [hTl] at htol hrow hfar hkind
    have HTl := Lib.hid hTl
    rw [hTl]
    clear hTl
    by_cases hlt : k < cs.length
    · have hltI : (k : Int) < (cs.length : Int) := by omega
      rcases HC.out with hn | ⟨b1, o1, rfl, hblt, hst⟩
      · rw [hn] at hlt; simp at hlt
      obtain ⟨vR, vE, hci, hra⟩ := hst k hlt
      have HCI := Lib.hid hci
      have HRA := Lib.hid (rangeAt_below hra hbw.out hblt)
      have hcz := HZ.out k hlt
      have HTA : Hid (tolL cs lost (k + 1) = tolL cs lost k ++ [tolS k (cs.getD k dCal) (doM (tolM cs k) (cs.getD k dCal)) (lost.getD k false)]) := Lib.hid (tolL_succ cs lost k)
      have HTM : Hid (tolM cs (k + 1) = (doM (tolM cs k) (cs.getD k dCal)).M) := Lib.hid rfl
      have HGd := Lib.hid (tolM_good cs k)
      have hel1 : edN cs k ≤ 500000 := Nat.le_trans (edN_mono cs hk) HE.out
      have hel2 : (cs.getD k dCal).eds.length ≤ 500000 := Nat.le_trans (edN_at cs hlt) HE.out
      have HNot : Hid ((doM (tolM cs k) (cs.getD k dCal)).is = false → (doM (tolM cs k) (cs.getD k dCal)).M = tolM cs k) := Lib.hid (fun h => doM_not h)
      obtain ⟨c, hc⟩ : ∃ c, cs.getD k dCal = c := ⟨_, rfl⟩
      rw [hc] at HCI HRA hcz HTA HTM hel2 HNot
      have HCZ := Lib.hid hcz
      have HV5 : Hid (vR.oneCell' = true ∧ vE.oneCell' = true) := Lib.hid (by obtain ⟨_, _, e1, _⟩ := HCI.out.r; obtain ⟨_, _, e2, _⟩ := HCI.out.e; rw [e1, e2]; exact ⟨rfl, rfl⟩)
      have HVS : Hid ((∃ a n c, vR = .slice a n c) ∧ (∃ a n c, vE = .slice a n c) ∧ (∃ a n c, nilV = .slice a n c) ∧ (∃ a n c, nilV = .slice a n c) ∧ ∃ a n c, nilV = .slice a n c) := Lib.hid (by obtain ⟨_, _, e1, _⟩ := HCI.out.r; obtain ⟨_, _, e2, _⟩ := HCI.out.e; exact ⟨⟨_, _, _, e1⟩, ⟨_, _, _, e2⟩, ⟨_, _, _, rfl⟩, ⟨_, _, _, rfl⟩, ⟨_, _, _, rfl⟩⟩)
      have hk20 : k ≤ 20 := by omega
      have hkI : (k : Int) ≤ 20 := by omega
      clear hst hci hra hc hcz
      go_upto_region 7 with (first
        | (refine wpl_load_cal rfl (.tmp 21) rfl rfl HRA.out ?_)
        | (refine wpl_build_s rfl _ rfl ⟨vR, vE, nilV, nilV, nilV⟩ (tolB k c) (by kernel_rfl) ?_)
        | (refine wpl_store_stN rfl (.tmp 8) (.tmp 30) rfl wr.heap.size rfl rfl (f := ⟨vR, vE, nilV, nilV, nilV⟩) (s := tolB k c) rfl rfl (sto_one5 HV5.out.1 HV5.out.2 rfl rfl rfl) ?_)
        | fail)
      refine wp_abs (F := fun W => BoxS wr.heap.size ⟨vR, vE, nilV, nilV, nilV⟩ (tolB k c) W ∧ Below wr.heap.size wr W) ⟨BoxS.new ⟨(HCI.out.below hbw.out (Nat.le_refl _)), IsGots.nil _, ⟨none, 0, rfl, Or.inl rfl⟩, ⟨none, 0, rfl, Or.inl rfl⟩⟩, (Below.refl _ _).alloc (Nat.le_refl _) _⟩ ?_
      rintro W1 ⟨hX, hb1⟩
      obtain ⟨ns, hns⟩ : ∃ ns, wr.heap.size = ns := ⟨_, rfl⟩
      have HX1 := Lib.hid hX
      have Hb1 := Lib.hid hb1
      rw [hns] at HX1 ⊢
      have HNS := Lib.hid hns
      clear hX hb1 hns
      go_wp2_with fail
      refine (HTab.out _).mono ?_
      rintro e w2 ⟨t2, rfl, ht2, hT2, hb2⟩
      have HX2 := Lib.hid (HX1.out.step hb2)
      have HT2 := Lib.hid hT2; have Ht2 := Lib.hid ht2
      have HX12 : Hid (Below W1.heap.size W1 w2) := Lib.hid hb2
      have Hw1 : Hid (wr.heap.size ≤ W1.heap.size ∧ ns < W1.heap.size) := Lib.hid ⟨Hb1.out.size, HX1.out.o.lt⟩
      have Hb2 : Hid (Below wr.heap.size wr w2) := Lib.hid (Hb1.out.trans (hb2.mono Hb1.out.size))
      have hTw := hT.out.below Hb2.out
      obtain ⟨aR, cR, hc2, hIR, hcpR⟩ := hTw.c2
      have HTw := Lib.hid hTw
      have HIR := Lib.hid hIR
      have Htt : Hid (t < t2 ∧ t2 < w2.heap.size) := Lib.hid ⟨by have := hT.out.lt; have := Hb1.out.size; omega, hT2.lt⟩
      have ht0 := hT2.lt
      clear hT2 ht2 hb2 hTw hIR hcpR
      have hRl : (rowsL (tolM cs k)).length ≤ 500000 := by rw [rows_length HGd.out.1.canon]; exact Nat.le_trans HGd.out.2 hel1
      obtain ⟨R, hR⟩ : ∃ R, rowsL (tolM cs k) = R := ⟨_, rfl⟩
      have HRe := Lib.hid hR
      rw [hR] at hc2 HIR hRl HTw
      clear hR
      go_upto_region 8 with fail
      have hbA : Below w2.heap.size w2 (w2.alloc (.cells #[] 48)) := (Below.refl _ _).alloc (Nat.le_refl _) _
      have hc2A := (hbA.cell (p := ⟨t, 2, none⟩) (by show t < w2.heap.size; have := Htt.out; omega)).trans hc2
      obtain ⟨g, hg, hsrc⟩ := rows_src (HIR.out.below hbA (Nat.le_refl _))
      rw [← hr1] at hsrc
      have HSrc := Lib.hid hsrc; have Hg := Lib.hid hg; have HBA := Lib.hid hbA
      clear hsrc hg hbA hc2
      go_upto_region 9 with (first
        | (refine wpl_build_row0 rfl rfl ?_)
        | (refine wpl_copy rfl (.tmp 33) (.tmp 37) 26 48 rfl r0 _ 3 48 Tryz.underlying26 hri hr0 hr1 hr2 (by decide) w2.heap.size rfl R.length (by omega) _ _ rfl HSrc.out ?_; intro v3 w3 hcp; obtain ⟨hI3, hcv3, hb3⟩ := rows_cpy Hg.out hcp; have HB3 : Hid (Below w2.heap.size w2 w3) := Lib.hid (HBA.out.trans (hb3.mono HBA.out.size)); have HI3 := Lib.hid hI3; have HCV3 := Lib.hid hcv3; obtain ⟨a3, c3, rfl, _⟩ := hI3; have hT3 := HT2.out.below HB3.out; have HT3 := Lib.hid hT3; obtain ⟨aZ, cZ, c2, _⟩ := hT3.c2; have f2 := hT3.f2; clear hcp hcv3 hb3 hT3 hc2A)
        | fail)
      have HBW1 : Hid (Below W1.heap.size W1 (w3.setCell ⟨t2, 2, none⟩ (.slice a3 R.length c3))) := Lib.hid ((HX12.out.trans (HB3.out.mono HX12.out.size)).setCell (by show W1.heap.size ≤ t2; exact Ht2.out) _)
      have hTR : RefAt wr t QQ QQ R := by have h := hT.out; rw [HRe.out] at h; exact h
      refine wp_abs (F := fun W => BoxS ns ⟨vR, vE, nilV, nilV, nilV⟩ (tolB k c) W ∧ RefAt W t QQ QQ R ∧ RefAt W t2 QQ QQ R ∧ Below wr.heap.size wr W ∧ t2 < W.heap.size) ⟨HX1.out.step HBW1.out, hTR.below (Hb1.out.trans (HBW1.out.mono Hb1.out.size)), HT3.out.store HI3.out HCV3.out, Hb1.out.trans (HBW1.out.mono Hb1.out.size), Nat.lt_of_lt_of_le HT3.out.lt (ButS.set (S := fun _ => True) w3 (p := ⟨t2, 2, none⟩) trivial _).size⟩ ?_
      rintro W3 ⟨hX3, hT3, hS3, hb3, ht3⟩
      have HX3 := Lib.hid hX3; have HT3' := Lib.hid hT3; have HS3 := Lib.hid hS3; have HB3' := Lib.hid hb3; have Ht3 := Lib.hid ht3
      have HCal := Lib.hid (rangeAt_below HRA.out hb3 (by have := hbw.out.size; omega))
      have hTM : RefAt W3 t QQ QQ (rowsL (tolM cs k)) := by rw [HRe.out]; exact hT3
      have HDo := Lib.hid (ref31_does (tolM cs k) t vR vE c W3 hTM HGd.out.1 (HCI.out.below (hbw.out.trans (hb3.mono hbw.out.size)) (Nat.le_refl _)) HCZ.out hel2 (by rw [HRe.out]; exact hRl))
      obtain ⟨d, hd⟩ : ∃ d, doM (tolM cs k) c = d := ⟨_, rfl⟩
      have hd2 : doesT (tolM cs k) (bytesR (rowsL (tolM cs k))) QQ QQ c = d := hd
      rw [hd] at HTA HTM HNot
      rw [hd2] at HDo
      clear hX3 hT3 hS3 hb3 ht3 hd hd2 hTM HX2 HT2 HB3 HI3 HCV3 HT3 HBA Hg HSrc HIR HTw Hb2 HX1 Hb1 HX12 HBW1 HRA f2 c2
      unfold calVal at HDo
      go_wp2_with (first
        | (refine wpl_load_cal rfl (.tmp 45) rfl rfl HCal.out ?_)
        | fail)
      refine HDo.out.mono ?_
      rintro e w4 ⟨vG, vN, vM, rfl, hG, hN, hM, hRf, hbS, hfr⟩
      have HB4 : Hid (ButS (fun j => j = t) wr w4) := Lib.hid (ButS.cutB HB3'.out hbS (fun j hj _ => hj))
      have hO4 : One ns #[.int .i64 0, .int .u8 c.kind, vR, vE, .string c.pre, .int .u64 c.f, .int .u64 c.t, .int .u32 c.dst, .int .i64 (2 * k + 1), .int .i64 0, .bool false, .int .u64 1, .int .u64 (k + 1), .int .i64 0, .int .i64 0, nilV, nilV, nilV] w4 := one_but HX3.out.o hbS (by show ¬ ns = t; have := hT.out.lt; have := HNS.out; omega)
      have HO4 := Lib.hid hO4; have HG4 := Lib.hid hG; have HN4 := Lib.hid hN; have HM4 := Lib.hid hM; have HRf4 := Lib.hid hRf; have HFr4 := Lib.hid hfr
      have HS4 : Hid (RefAt w4 t2 QQ QQ R) := Lib.hid (HS3.out.but hbS HT3'.out.nostr (by show ¬ t2 = t; have := Htt.out; omega))
      have HW34 := Lib.hid hbS.size
      clear hG hN hM hRf hbS hfr hO4 HDo HCal HX3 HT3' HS3 hTR
      obtain ⟨aG, cG, rfl, hG0⟩ := HG4.out
      obtain ⟨aN, cN, rfl, hN0⟩ := HN4.out
      obtain ⟨aM, cM, rfl, hM0⟩ := HM4.out
      clear hG0 hN0 hM0
      go_upto_region 10 with fail
      -- TAIL
      refine wp_abs (F := fun W => One ns #[.int .i64 0, .int .u8 c.kind, vR, vE, .string c.pre, .int .u64 c.f, .int .u64 c.t, .int .u32 c.dst, .int .i64 (2 * k + 1), .int .i64 0, .bool false, .int .u64 1, .int .u64 (k + 1), .int .i64 0, .int .i64 0, nilV, nilV, nilV] W ∧ One w4.heap.size #[.slice aG d.got.length cG, .slice aN d.nums.length cN, .slice aM d.names.length cM] W ∧ Below w4.heap.size w4 W) ⟨HO4.out.step ((Below.refl _ _).alloc (Nat.le_refl _) _), One.of _ _ _, (Below.refl _ _).alloc (Nat.le_refl _) _⟩ ?_
      rintro W5 ⟨hO5, hP5, hb5⟩
      obtain ⟨nr, hnr⟩ : ∃ nr, w4.heap.size = nr := ⟨_, rfl⟩
      rw [hnr] at hP5 ⊢
      have HKN : Hid (AllK kindS 18 W5 (some ns)) := Lib.hid (oneKind hO5 HVS.out)
      have HO5 := Lib.hid hO5; have HP5 := Lib.hid hP5
      have HG5 := Lib.hid (HG4.out.below hb5 (Nat.le_refl _)); have HN5 := Lib.hid (HN4.out.below hb5 (Nat.le_refl _)); have HM5 := Lib.hid (HM4.out.below hb5 (Nat.le_refl _))
      have HRf5 := Lib.hid (HRf4.out.below hb5); have HS5 := Lib.hid (HS4.out.below hb5)
      have HB5 : Hid (ButS (fun j => j = t) wr W5) := Lib.hid (HB4.out.thenB (hb5.mono HB4.out.size))
      have HSz : Hid (W3.heap.size ≤ W5.heap.size ∧ wr.heap.size ≤ W3.heap.size ∧ t < wr.heap.size ∧ wr.heap.size ≤ t2) := Lib.hid ⟨Nat.le_trans HW34.out hb5.size, HB3'.out.size, hT.out.lt, by have := Ht2.out; have := Hw1.out.1; omega⟩
      have c8 := hO5.c 8; have c9 := hO5.c 9; have c10 := hO5.c 10; have c13 := hO5.c 13; have c14 := hO5.c 14; have c15 := hO5.c 15; have c16 := hO5.c 16; have c17 := hO5.c 17
      have f9 := hO5.f 9; have f10 := hO5.f 10; have f13 := hO5.f 13; have f14 := hO5.f 14; have f15 := hO5.f 15; have f16 := hO5.f 16; have f17 := hO5.f 17
      have q0 := hP5.c 0; have q1 := hP5.c 1; have q2 := hP5.c 2
      simp at c8 c9 c10 c13 c14 c15 c16 c17 q0 q1 q2
      have HNR : Hid (ns < nr) := Lib.hid (by rw [← hnr]; have := HO4.out.lt; omega)
      clear hO5 hP5 hb5 hnr HO4 HG4 HN4 HM4 HRf4 HS4 HB4
      cases hdi : d.is with
      | false =>
        have HSE : Hid (tolS k c d (lost.getD k false) = (⟨0, c, 2 * k + 1, 2 * k + 2, false, 1, k + 1, 0, 170, [], [], []⟩ : Sto)) := Lib.hid (by unfold tolS; rw [if_pos hdi])
        have HMe : Hid (d.M = tolM cs k) := Lib.hid (HNot.out hdi)
        clear hdi
        go_upto_region 14 with fail
        -- AT1
        clear c8 c9 c10 c13 c14 c15 c16 c17 f9 f10 f13 f14 f15 f16 f17 q0 q1 q2
        have hso0 := HO5.out
        have hsb0 : Below wr.heap.size W5 W5 := Below.refl _ _
        have hss0 : ButS (fun j => j = ns) W5 W5 := ButS.of (Below.refl _ _)
        have hso1 : One ns #[.int .i64 0, .int .u8 c.kind, vR, vE, .string c.pre, .int .u64 c.f, .int .u64 c.t, .int .u32 c.dst, .int .i64 (2 * k + 1), .int .i64 (2 * k + 2), .bool false, .int .u64 1, .int .u64 (k + 1), .int .i64 0, .int .i64 0, nilV, nilV, nilV] (W5.setCell ⟨ns, 9, none⟩ (.int .i64 (2 * k + 2))) := One.set (i := 9) hso0 (by simp) (.int .i64 (2 * k + 2))
        have hsb1 : Below wr.heap.size W5 (W5.setCell ⟨ns, 9, none⟩ (.int .i64 (2 * k + 2))) := hsb0.setCell (by show wr.heap.size ≤ ns; have := HNS.out; omega) _
        have hss1 : ButS (fun j => j = ns) W5 (W5.setCell ⟨ns, 9, none⟩ (.int .i64 (2 * k + 2))) := hss0.trans (ButS.set (S := fun j => j = ns) _ (p := ⟨ns, 9, none⟩) rfl _)
        have hso2 : One ns #[.int .i64 0, .int .u8 c.kind, vR, vE, .string c.pre, .int .u64 c.f, .int .u64 c.t, .int .u32 c.dst, .int .i64 (2 * k + 1), .int .i64 (2 * k + 2), .bool false, .int .u64 1, .int .u64 (k + 1), .int .i64 0, .int .i64 170, nilV, nilV, nilV] ((W5.setCell ⟨ns, 9, none⟩ (.int .i64 (2 * k + 2))).setCell ⟨ns, 14, none⟩ (.int .i64 170)) := One.set (i := 14) hso1 (by simp) (.int .i64 170)
        have hsb2 : Below wr.heap.size W5 ((W5.setCell ⟨ns, 9, none⟩ (.int .i64 (2 * k + 2))).setCell ⟨ns, 14, none⟩ (.int .i64 170)) := hsb1.setCell (by show wr.heap.size ≤ ns; have := HNS.out; omega) _
        have hss2 : ButS (fun j => j = ns) W5 ((W5.setCell ⟨ns, 9, none⟩ (.int .i64 (2 * k + 2))).setCell ⟨ns, 14, none⟩ (.int .i64 170)) := hss1.trans (ButS.set (S := fun j => j = ns) _ (p := ⟨ns, 14, none⟩) rfl _)
        refine wp_abs (F := fun W => One ns #[.int .i64 0, .int .u8 c.kind, vR, vE, .string c.pre, .int .u64 c.f, .int .u64 c.t, .int .u32 c.dst, .int .i64 (2 * k + 1), .int .i64 (2 * k + 2), .bool false, .int .u64 1, .int .u64 (k + 1), .int .i64 0, .int .i64 170, nilV, nilV, nilV] W ∧ Below wr.heap.size W5 W ∧ ButS (fun j => j = ns) W5 W) ⟨hso2, hsb2, hss2⟩ ?_
        rintro X ⟨hOX, hbX, hbsX⟩
        clear hso2 hsb2 hss2 hso1 hsb1 hss1 hso0 hsb0 hss0
        have HBX : Hid (ButS (fun j => j = t) wr X) := Lib.hid (HB5.out.thenB hbX)
        have HSto : Hid (StoIs X (⟨vR, vE, nilV, nilV, nilV⟩ : Five) (⟨0, c, 2 * k + 1, 2 * k + 2, false, 1, k + 1, 0, 170, [], [], []⟩ : Sto)) := Lib.hid ⟨HCI.out.below (hbw.out.trans (HBX.out.below (fun j hj => by rw [hj]; exact hfar.out.1) hbw.out.size)) (Nat.le_refl _), IsGots.nil _, ⟨none, 0, rfl, Or.inl rfl⟩, ⟨none, 0, rfl, Or.inl rfl⟩⟩
        have HAt : Hid (StoAt X ns 0 (⟨vR, vE, nilV, nilV, nilV⟩ : Five) (⟨0, c, 2 * k + 1, 2 * k + 2, false, 1, k + 1, 0, 170, [], [], []⟩ : Sto)) := Lib.hid (fun j u hj => by rw [Nat.zero_add, hOX.c j]; simpa [stoCells] using hj)
        have HRX : Hid (RefAt X t2 QQ QQ (rowsL d.M)) := Lib.hid (by rw [HMe.out, HRe.out]; exact HS5.out.but3 hbsX (fun j hj => Or.inr (hj ▸ HKN.out)) (by show ¬ t2 = ns; have := Ht2.out; have := Hw1.out.2; omega))
        have HTp : Hid (t2 = t ∨ wr.heap.size ≤ t2) := Lib.hid (Or.inr HSz.out.2.2.2)
        have HTp2 : Hid (w.heap.size ≤ t2) := Lib.hid (by have := HSz.out.2.2.2; have := hbw.out.size; omega)
        have HLs : Hid ((((⟨0, c, 2 * k + 1, 2 * k + 2, false, 1, k + 1, 0, 170, [], [], []⟩ : Sto)).got ≠ [] → ∀ j, ((⟨vR, vE, nilV, nilV, nilV⟩ : Five)).g.ownBlock = some j → wr.heap.size ≤ j ∧ j ≠ t2) ∧ (((⟨0, c, 2 * k + 1, 2 * k + 2, false, 1, k + 1, 0, 170, [], [], []⟩ : Sto)).nums ≠ [] → ∀ j, ((⟨vR, vE, nilV, nilV, nilV⟩ : Five)).n.ownBlock = some j → wr.heap.size ≤ j ∧ j ≠ t2) ∧ (((⟨0, c, 2 * k + 1, 2 * k + 2, false, 1, k + 1, 0, 170, [], [], []⟩ : Sto)).names ≠ [] → ∀ j, ((⟨vR, vE, nilV, nilV, nilV⟩ : Five)).m.ownBlock = some j → wr.heap.size ≤ j ∧ j ≠ t2)) := Lib.hid (⟨fun h => absurd rfl h, fun h => absurd rfl h, fun h => absurd rfl h⟩)
        clear hOX hbX hbsX
        have hbA : Below X.heap.size X (X.alloc (.cells (stoCells (⟨vR, vE, nilV, nilV, nilV⟩ : Five) (⟨0, c, 2 * k + 1, 2 * k + 2, false, 1, k + 1, 0, 170, [], [], []⟩ : Sto)).toArray 87)) := (Below.refl _ _).alloc (Nat.le_refl _) _
        have HbA := Lib.hid hbA
        have hsx := HBX.out.size
        have hbs : w.heap.size ≤ wr.heap.size := hbw.out.size
        have HRowX := Lib.hid (ownBelow (ownBut2 hrow.out HBX.out (fun j hj => by show ¬ j = t; exact hfar.out.2 j hj)) hbA)
        have HKX : Hid (AllK kindS 18 (X.alloc (.cells (stoCells (⟨vR, vE, nilV, nilV, nilV⟩ : Five) (⟨0, c, 2 * k + 1, 2 * k + 2, false, 1, k + 1, 0, 170, [], [], []⟩ : Sto)).toArray 87)) (Value.slice a5 k c5).ownBlock) := Lib.hid ((hkind.out.but HBX.out (fun j hj => ⟨by show ¬ j = t; exact hfar.out.2 j hj, ownLt hrow.out j hj⟩)).but (S := fun _ => False) (ButS.of hbA) (fun j hj => ⟨fun h => h, by have := ownLt hrow.out j hj; omega⟩))
        clear hbA
        go_wp2_with (first
          | (refine wpl_load_sto rfl (.tmp 8) rfl rfl (f := (⟨vR, vE, nilV, nilV, nilV⟩ : Five)) (s := (⟨0, c, 2 * k + 1, 2 * k + 2, false, 1, k + 1, 0, 170, [], [], []⟩ : Sto)) HAt.out ?_)
          | (refine wpl_build_sto rfl (.tmp 59) rfl rfl ?_)
          | (at_builtin; refine wpList_append_k _ rfl (.tmp 58) (.tmp 60) 68 rfl w.heap.size 87 i0 (.agg #[.int .i64 0, .int .u8 0, .slice none 0 0, .slice none 0 0, .string ByteArray.empty, .int .u64 0, .int .u64 0, .int .u32 0, .int .i64 0, .int .i64 0, .bool false, .int .u64 0, .int .u64 0, .int .i64 0, .int .i64 0, .slice none 0 0, .slice none 0 0, .slice none 0 0]) 18 232 Tryz.underlying68 hi hz0 hz1 hz2 rfl (by decide) (by decide) kindS kindS_zero _ k (stoFlat T) rfl HRowX.out HKX.out ⟨X.heap.size, 0, none⟩ 1 (stoCells (⟨vR, vE, nilV, nilV, nilV⟩ : Five) (⟨0, c, 2 * k + 1, 2 * k + 2, false, 1, k + 1, 0, 170, [], [], []⟩ : Sto)) rfl rfl (World.news_of_block (MapKept.heap_alloc _ _).1) (five_one HSto.out) (kindS_sto HSto.out) (by unfold maxLen; omega) (by omega) ?hbasea ?goa; (case hbasea => simp; omega); intro g6 c6 w6 hown6 hg6 hat6 hlt6 hk6; have Hown6 := Lib.hid hown6; have Hg6 := Lib.hid hg6; have Hat6 := Lib.hid hat6; have Hk6 := Lib.hid hk6; clear hown6 hg6 hat6 hk6)
          | fail)
        go_roundw
        case rel =>
          have hbAX := HbA.out.size
          have htX : t2 < X.heap.size := HRX.out.lt
          have HB6 : ButS (fun j => j = t ∨ (Value.slice a5 k c5).ownBlock = some j) wr w6 := (ButS.mono (HBX.out.thenB (HbA.out.mono hsx)) (fun j hj => Or.inl hj)).thenG Hg6.out (fun j hj => Or.inl (Or.inr hj))
          have hlen : (T ++ [((⟨vR, vE, nilV, nilV, nilV⟩ : Five), (⟨0, c, 2 * k + 1, 2 * k + 2, false, 1, k + 1, 0, 170, [], [], []⟩ : Sto))]).length = k + 1 := by rw [List.length_append, HTl.out]; rfl
          have hgw : wr.heap.size ≤ g6 ∨ (Value.slice a5 k c5).ownBlock = some g6 := by
            rcases Hat6.out with h | h
            · exact Or.inr h
            · left; rw [h]; omega
          have htp : ¬ (Value.slice a5 k c5).ownBlock = some t2 := fun h => by
            rcases HTp.out with e | e
            · exact hfar.out.2 _ h e
            · have := ownLt hrow.out _ h; omega
          have hgt : g6 ≠ t2 := fun e => by
            rcases Hat6.out with h | h
            · rw [e] at h; exact htp h
            · omega
          refine ⟨k + 1, t2, T ++ [((⟨vR, vE, nilV, nilV, nilV⟩ : Five), (⟨0, c, 2 * k + 1, 2 * k + 2, false, 1, k + 1, 0, 170, [], [], []⟩ : Sto))], some ⟨g6, 0, none⟩, c6, by omega, by rw [hlen], rfl, by go_num, Lib.hid ?_, Lib.hid ?_, Lib.hid ?_, Lib.hid ?_, Lib.hid ?_, Lib.hid ?_, Lib.hid ?_⟩
          · rw [List.map_append, hmap.out, HTA.out, HSE.out]; rfl
          · rw [hlen]
            intro y hy
            rcases List.mem_append.1 hy with hy | hy
            · exact (htol.out y hy).but HB6 (fun j hj => by cases hj; rcases hgw with h | h; exact Or.inr h; exact Or.inl h) HTp.out
            · rw [List.mem_singleton.1 hy]
              have hfn : ∀ j, wr.heap.size ≤ j → j < X.heap.size → j ≠ t2 → ¬ (j = t2 ∨ (Value.slice (some ⟨g6, 0, none⟩) (k + 1) c6).ownBlock = some j) := fun j h1 h2 h3 h4 => by
                rcases h4 with h4 | h4
                · exact h3 h4
                · have e6 : g6 = j := by simpa [Value.ownBlock] using h4
                  rcases Hat6.out with h | h
                  · have := ownLt hrow.out _ h; omega
                  · omega
              have hb6 : ButS (fun j => (Value.slice a5 k c5).ownBlock = some j) X w6 := (ButS.of HbA.out).thenG Hg6.out (fun j hj => Or.inl hj)
              have hnr : ∀ j, wr.heap.size ≤ j → ¬ (Value.slice a5 k c5).ownBlock = some j := fun j h1 h2 => by have := ownLt hrow.out _ h2; omega
              exact ⟨HCI.out, HSto.out.g.but hb6 (fun hl j hj => hnr j (HLs.out.1 hl j hj).1), HSto.out.n.but3 hb6 (fun hl j hj => hnr j (HLs.out.2.1 hl j hj).1), HSto.out.m.but3 hb6 (fun hl j hj => hnr j (HLs.out.2.2 hl j hj).1), fun hl j hj => hfn j (HLs.out.1 hl j hj).1 (HSto.out.g.lt hl j hj) (HLs.out.1 hl j hj).2, fun hl j hj => hfn j (HLs.out.2.1 hl j hj).1 (HSto.out.n.lt hl j hj) (HLs.out.2.1 hl j hj).2, fun hl j hj => hfn j (HLs.out.2.2 hl j hj).1 (HSto.out.m.lt hl j hj) (HLs.out.2.2 hl j hj).2⟩
          · rw [hlen, stoFlat_append]; exact Hown6.out
          · rw [hlen]; exact Hk6.out
          · rw [HTM.out]
            refine (HRX.out.below HbA.out).but3 (butRow Hg6.out) (fun j hj => Or.inr (by rw [hj]; exact HKX.out)) ?_
            intro h; exact htp h.symm
          · refine ⟨HTp2.out, fun j hj => ?_⟩
            rw [hlen] at hj; cases hj
            exact hgt
          · exact hbw.out.trans (HB6.below (fun j hj => by
              rcases hj with e | e
              · rw [e]; exact hfar.out.1
              · exact ownAbove hrow.out j e) hbs)
        case measure => simp [intOf]; omega
      | true =>
        have hdn : ¬ d.is = false := by rw [hdi]; simp
        have HdN := Lib.hid hdn
        clear hdi hdn
        obtain ⟨lb, hlb⟩ : ∃ lb, lost.getD k false = lb := ⟨_, rfl⟩
        rw [hlb] at HTA
        cases lb with
        | true =>
          have HSE : Hid (tolS k c d true = (⟨0, c, 2 * k + 1, 0, true, 1, k + 1, k + 1, 0, [], [], []⟩ : Sto)) := Lib.hid (by unfold tolS; rw [if_neg HdN.out]; rfl)
          have hkl : k < lost.length := by
            by_cases h : k < lost.length
            · exact h
            · rw [List.getD_eq_getElem?_getD, List.getElem?_eq_none (by omega)] at hlb; cases hlb
          have hklI : (k : Int) < (lost.length : Int) := by omega
          rcases HLC.out with hn | ⟨bl, ol, rfl, hbl, hcl⟩
          · rw [hn] at hkl; simp at hkl
          have hcb := hcl k hkl
          rw [hlb] at hcb
          have el := (HB5.out.cell (p := ⟨bl, ol + k, none⟩) (by show bl < wr.heap.size; have := hbw.out.size; omega) (by show ¬ bl = t; have := hfar.out.1; omega)).trans ((hbw.out.cell (p := ⟨bl, ol + k, none⟩) hbl).trans hcb)
          have hnb : bl ≠ ns := by have := HNS.out; have := hbw.out.size; omega
          clear hcl hcb hlb hkl
          go_upto_region 20 with fail
          clear el
          clear c8 c9 c10 c13 c14 c15 c16 c17 f9 f10 f13 f14 f15 f16 f17 q0 q1 q2
          have hso0 := HO5.out
          have hsb0 : Below wr.heap.size W5 W5 := Below.refl _ _
          have hss0 : ButS (fun j => j = ns) W5 W5 := ButS.of (Below.refl _ _)
          have hso1 : One ns #[.int .i64 0, .int .u8 c.kind, vR, vE, .string c.pre, .int .u64 c.f, .int .u64 c.t, .int .u32 c.dst, .int .i64 (2 * k + 1), .int .i64 0, .bool false, .int .u64 1, .int .u64 (k + 1), .int .i64 (k + 1), .int .i64 0, nilV, nilV, nilV] (W5.setCell ⟨ns, 13, none⟩ (.int .i64 (k + 1))) := One.set (i := 13) hso0 (by simp) (.int .i64 (k + 1))
          have hsb1 : Below wr.heap.size W5 (W5.setCell ⟨ns, 13, none⟩ (.int .i64 (k + 1))) := hsb0.setCell (by show wr.heap.size ≤ ns; have := HNS.out; omega) _
          have hss1 : ButS (fun j => j = ns) W5 (W5.setCell ⟨ns, 13, none⟩ (.int .i64 (k + 1))) := hss0.trans (ButS.set (S := fun j => j = ns) _ (p := ⟨ns, 13, none⟩) rfl _)
          have hso2 : One ns #[.int .i64 0, .int .u8 c.kind, vR, vE, .string c.pre, .int .u64 c.f, .int .u64 c.t, .int .u32 c.dst, .int .i64 (2 * k + 1), .int .i64 0, .bool true, .int .u64 1, .int .u64 (k + 1), .int .i64 (k + 1), .int .i64 0, nilV, nilV, nilV] ((W5.setCell ⟨ns, 13, none⟩ (.int .i64 (k + 1))).setCell ⟨ns, 10, none⟩ (.bool true)) := One.set (i := 10) hso1 (by simp) (.bool true)
          have hsb2 : Below wr.heap.size W5 ((W5.setCell ⟨ns, 13, none⟩ (.int .i64 (k + 1))).setCell ⟨ns, 10, none⟩ (.bool true)) := hsb1.setCell (by show wr.heap.size ≤ ns; have := HNS.out; omega) _
          have hss2 : ButS (fun j => j = ns) W5 ((W5.setCell ⟨ns, 13, none⟩ (.int .i64 (k + 1))).setCell ⟨ns, 10, none⟩ (.bool true)) := hss1.trans (ButS.set (S := fun j => j = ns) _ (p := ⟨ns, 10, none⟩) rfl _)
          refine wp_abs (F := fun W => One ns #[.int .i64 0, .int .u8 c.kind, vR, vE, .string c.pre, .int .u64 c.f, .int .u64 c.t, .int .u32 c.dst, .int .i64 (2 * k + 1), .int .i64 0, .bool true, .int .u64 1, .int .u64 (k + 1), .int .i64 (k + 1), .int .i64 0, nilV, nilV, nilV] W ∧ Below wr.heap.size W5 W ∧ ButS (fun j => j = ns) W5 W) ⟨hso2, hsb2, hss2⟩ ?_
          rintro X ⟨hOX, hbX, hbsX⟩
          clear hso2 hsb2 hss2 hso1 hsb1 hss1 hso0 hsb0 hss0
          have HBX : Hid (ButS (fun j => j = t) wr X) := Lib.hid (HB5.out.thenB hbX)
          have HSto : Hid (StoIs X (⟨vR, vE, nilV, nilV, nilV⟩ : Five) (⟨0, c, 2 * k + 1, 0, true, 1, k + 1, k + 1, 0, [], [], []⟩ : Sto)) := Lib.hid ⟨HCI.out.below (hbw.out.trans (HBX.out.below (fun j hj => by rw [hj]; exact hfar.out.1) hbw.out.size)) (Nat.le_refl _), IsGots.nil _, ⟨none, 0, rfl, Or.inl rfl⟩, ⟨none, 0, rfl, Or.inl rfl⟩⟩
          have HAt : Hid (StoAt X ns 0 (⟨vR, vE, nilV, nilV, nilV⟩ : Five) (⟨0, c, 2 * k + 1, 0, true, 1, k + 1, k + 1, 0, [], [], []⟩ : Sto)) := Lib.hid (fun j u hj => by rw [Nat.zero_add, hOX.c j]; simpa [stoCells] using hj)
          have HRX : Hid (RefAt X t QQ QQ (rowsL d.M)) := Lib.hid (HRf5.out.but3 hbsX (fun j hj => Or.inr (hj ▸ HKN.out)) (by show ¬ t = ns; have := HSz.out.2.2.1; have := HNS.out; omega))
          have HTp : Hid (t = t ∨ wr.heap.size ≤ t) := Lib.hid (Or.inl rfl)
          have HTp2 : Hid (w.heap.size ≤ t) := Lib.hid (hfar.out.1)
          have HLs : Hid ((((⟨0, c, 2 * k + 1, 0, true, 1, k + 1, k + 1, 0, [], [], []⟩ : Sto)).got ≠ [] → ∀ j, ((⟨vR, vE, nilV, nilV, nilV⟩ : Five)).g.ownBlock = some j → wr.heap.size ≤ j ∧ j ≠ t) ∧ (((⟨0, c, 2 * k + 1, 0, true, 1, k + 1, k + 1, 0, [], [], []⟩ : Sto)).nums ≠ [] → ∀ j, ((⟨vR, vE, nilV, nilV, nilV⟩ : Five)).n.ownBlock = some j → wr.heap.size ≤ j ∧ j ≠ t) ∧ (((⟨0, c, 2 * k + 1, 0, true, 1, k + 1, k + 1, 0, [], [], []⟩ : Sto)).names ≠ [] → ∀ j, ((⟨vR, vE, nilV, nilV, nilV⟩ : Five)).m.ownBlock = some j → wr.heap.size ≤ j ∧ j ≠ t)) := Lib.hid (⟨fun h => absurd rfl h, fun h => absurd rfl h, fun h => absurd rfl h⟩)
          clear hOX hbX hbsX
          have hbA : Below X.heap.size X (X.alloc (.cells (stoCells (⟨vR, vE, nilV, nilV, nilV⟩ : Five) (⟨0, c, 2 * k + 1, 0, true, 1, k + 1, k + 1, 0, [], [], []⟩ : Sto)).toArray 87)) := (Below.refl _ _).alloc (Nat.le_refl _) _
          have HbA := Lib.hid hbA
          have hsx := HBX.out.size
          have hbs : w.heap.size ≤ wr.heap.size := hbw.out.size
          have HRowX := Lib.hid (ownBelow (ownBut2 hrow.out HBX.out (fun j hj => by show ¬ j = t; exact hfar.out.2 j hj)) hbA)
          have HKX : Hid (AllK kindS 18 (X.alloc (.cells (stoCells (⟨vR, vE, nilV, nilV, nilV⟩ : Five) (⟨0, c, 2 * k + 1, 0, true, 1, k + 1, k + 1, 0, [], [], []⟩ : Sto)).toArray 87)) (Value.slice a5 k c5).ownBlock) := Lib.hid ((hkind.out.but HBX.out (fun j hj => ⟨by show ¬ j = t; exact hfar.out.2 j hj, ownLt hrow.out j hj⟩)).but (S := fun _ => False) (ButS.of hbA) (fun j hj => ⟨fun h => h, by have := ownLt hrow.out j hj; omega⟩))
          clear hbA
          go_wp2_with (first
            | (refine wpl_load_sto rfl (.tmp 8) rfl rfl (f := (⟨vR, vE, nilV, nilV, nilV⟩ : Five)) (s := (⟨0, c, 2 * k + 1, 0, true, 1, k + 1, k + 1, 0, [], [], []⟩ : Sto)) HAt.out ?_)
            | (refine wpl_build_sto rfl (.tmp 83) rfl rfl ?_)
            | (at_builtin; refine wpList_append_k _ rfl (.tmp 82) (.tmp 84) 68 rfl w.heap.size 87 i0 (.agg #[.int .i64 0, .int .u8 0, .slice none 0 0, .slice none 0 0, .string ByteArray.empty, .int .u64 0, .int .u64 0, .int .u32 0, .int .i64 0, .int .i64 0, .bool false, .int .u64 0, .int .u64 0, .int .i64 0, .int .i64 0, .slice none 0 0, .slice none 0 0, .slice none 0 0]) 18 232 Tryz.underlying68 hi hz0 hz1 hz2 rfl (by decide) (by decide) kindS kindS_zero _ k (stoFlat T) rfl HRowX.out HKX.out ⟨X.heap.size, 0, none⟩ 1 (stoCells (⟨vR, vE, nilV, nilV, nilV⟩ : Five) (⟨0, c, 2 * k + 1, 0, true, 1, k + 1, k + 1, 0, [], [], []⟩ : Sto)) rfl rfl (World.news_of_block (MapKept.heap_alloc _ _).1) (five_one HSto.out) (kindS_sto HSto.out) (by unfold maxLen; omega) (by omega) ?hbaseb ?gob; (case hbaseb => simp; omega); intro g6 c6 w6 hown6 hg6 hat6 hlt6 hk6; have Hown6 := Lib.hid hown6; have Hg6 := Lib.hid hg6; have Hat6 := Lib.hid hat6; have Hk6 := Lib.hid hk6; clear hown6 hg6 hat6 hk6)
            | fail)
          go_roundw
          case rel =>
            have hbAX := HbA.out.size
            have htX : t < X.heap.size := HRX.out.lt
            have HB6 : ButS (fun j => j = t ∨ (Value.slice a5 k c5).ownBlock = some j) wr w6 := (ButS.mono (HBX.out.thenB (HbA.out.mono hsx)) (fun j hj => Or.inl hj)).thenG Hg6.out (fun j hj => Or.inl (Or.inr hj))
            have hlen : (T ++ [((⟨vR, vE, nilV, nilV, nilV⟩ : Five), (⟨0, c, 2 * k + 1, 0, true, 1, k + 1, k + 1, 0, [], [], []⟩ : Sto))]).length = k + 1 := by rw [List.length_append, HTl.out]; rfl
            have hgw : wr.heap.size ≤ g6 ∨ (Value.slice a5 k c5).ownBlock = some g6 := by
              rcases Hat6.out with h | h
              · exact Or.inr h
              · left; rw [h]; omega
            have htp : ¬ (Value.slice a5 k c5).ownBlock = some t := fun h => by
              rcases HTp.out with e | e
              · exact hfar.out.2 _ h e
              · have := ownLt hrow.out _ h; omega
            have hgt : g6 ≠ t := fun e => by
              rcases Hat6.out with h | h
              · rw [e] at h; exact htp h
              · omega
            refine ⟨k + 1, t, T ++ [((⟨vR, vE, nilV, nilV, nilV⟩ : Five), (⟨0, c, 2 * k + 1, 0, true, 1, k + 1, k + 1, 0, [], [], []⟩ : Sto))], some ⟨g6, 0, none⟩, c6, by omega, by rw [hlen], rfl, by go_num, Lib.hid ?_, Lib.hid ?_, Lib.hid ?_, Lib.hid ?_, Lib.hid ?_, Lib.hid ?_, Lib.hid ?_⟩
            · rw [List.map_append, hmap.out, HTA.out, HSE.out]; rfl
            · rw [hlen]
              intro y hy
              rcases List.mem_append.1 hy with hy | hy
              · exact (htol.out y hy).but HB6 (fun j hj => by cases hj; rcases hgw with h | h; exact Or.inr h; exact Or.inl h) HTp.out
              · rw [List.mem_singleton.1 hy]
                have hfn : ∀ j, wr.heap.size ≤ j → j < X.heap.size → j ≠ t → ¬ (j = t ∨ (Value.slice (some ⟨g6, 0, none⟩) (k + 1) c6).ownBlock = some j) := fun j h1 h2 h3 h4 => by
                  rcases h4 with h4 | h4
                  · exact h3 h4
                  · have e6 : g6 = j := by simpa [Value.ownBlock] using h4
                    rcases Hat6.out with h | h
                    · have := ownLt hrow.out _ h; omega
                    · omega
                have hb6 : ButS (fun j => (Value.slice a5 k c5).ownBlock = some j) X w6 := (ButS.of HbA.out).thenG Hg6.out (fun j hj => Or.inl hj)
                have hnr : ∀ j, wr.heap.size ≤ j → ¬ (Value.slice a5 k c5).ownBlock = some j := fun j h1 h2 => by have := ownLt hrow.out _ h2; omega
                exact ⟨HCI.out, HSto.out.g.but hb6 (fun hl j hj => hnr j (HLs.out.1 hl j hj).1), HSto.out.n.but3 hb6 (fun hl j hj => hnr j (HLs.out.2.1 hl j hj).1), HSto.out.m.but3 hb6 (fun hl j hj => hnr j (HLs.out.2.2 hl j hj).1), fun hl j hj => hfn j (HLs.out.1 hl j hj).1 (HSto.out.g.lt hl j hj) (HLs.out.1 hl j hj).2, fun hl j hj => hfn j (HLs.out.2.1 hl j hj).1 (HSto.out.n.lt hl j hj) (HLs.out.2.1 hl j hj).2, fun hl j hj => hfn j (HLs.out.2.2 hl j hj).1 (HSto.out.m.lt hl j hj) (HLs.out.2.2 hl j hj).2⟩
            · rw [hlen, stoFlat_append]; exact Hown6.out
            · rw [hlen]; exact Hk6.out
            · rw [HTM.out]
              refine (HRX.out.below HbA.out).but3 (butRow Hg6.out) (fun j hj => Or.inr (by rw [hj]; exact HKX.out)) ?_
              intro h; exact htp h.symm
            · refine ⟨HTp2.out, fun j hj => ?_⟩
              rw [hlen] at hj; cases hj
              exact hgt
            · exact hbw.out.trans (HB6.below (fun j hj => by
                rcases hj with e | e
                · rw [e]; exact hfar.out.1
                · exact ownAbove hrow.out j e) hbs)
          case measure => simp [intOf]; omega
        | false =>
          have HSE : Hid (tolS k c d false = (⟨0, c, 2 * k + 1, 2 * k + 2, false, 1, k + 1, k + 1, 0, d.got, d.nums, d.names⟩ : Sto)) := Lib.hid (by unfold tolS; rw [if_neg HdN.out]; rfl)
          by_cases hkl : k < lost.length
          · have hklI : (k : Int) < (lost.length : Int) := by omega
            rcases HLC.out with hn | ⟨bl, ol, rfl, hbl, hcl⟩
            · rw [hn] at hkl; simp at hkl
            have hcb := hcl k hkl
            rw [hlb] at hcb
            have el := (HB5.out.cell (p := ⟨bl, ol + k, none⟩) (by show bl < wr.heap.size; have := hbw.out.size; omega) (by show ¬ bl = t; have := hfar.out.1; omega)).trans ((hbw.out.cell (p := ⟨bl, ol + k, none⟩) hbl).trans hcb)
            have hnb : bl ≠ ns := by have := HNS.out; have := hbw.out.size; omega
            have hnrs : nr ≠ ns := by have := HNR.out; omega
            clear hcl hcb hlb hkl
            go_upto_region 20 with fail
            clear el
            clear c8 c9 c10 c13 c14 c15 c16 c17 f9 f10 f13 f14 f15 f16 f17 q0 q1 q2
            have hso0 := HO5.out
            have hsb0 : Below wr.heap.size W5 W5 := Below.refl _ _
            have hss0 : ButS (fun j => j = ns) W5 W5 := ButS.of (Below.refl _ _)
            have hso1 : One ns #[.int .i64 0, .int .u8 c.kind, vR, vE, .string c.pre, .int .u64 c.f, .int .u64 c.t, .int .u32 c.dst, .int .i64 (2 * k + 1), .int .i64 0, .bool false, .int .u64 1, .int .u64 (k + 1), .int .i64 (k + 1), .int .i64 0, nilV, nilV, nilV] (W5.setCell ⟨ns, 13, none⟩ (.int .i64 (k + 1))) := One.set (i := 13) hso0 (by simp) (.int .i64 (k + 1))
            have hsb1 : Below wr.heap.size W5 (W5.setCell ⟨ns, 13, none⟩ (.int .i64 (k + 1))) := hsb0.setCell (by show wr.heap.size ≤ ns; have := HNS.out; omega) _
            have hss1 : ButS (fun j => j = ns) W5 (W5.setCell ⟨ns, 13, none⟩ (.int .i64 (k + 1))) := hss0.trans (ButS.set (S := fun j => j = ns) _ (p := ⟨ns, 13, none⟩) rfl _)
            have hso2 : One ns #[.int .i64 0, .int .u8 c.kind, vR, vE, .string c.pre, .int .u64 c.f, .int .u64 c.t, .int .u32 c.dst, .int .i64 (2 * k + 1), .int .i64 (2 * k + 2), .bool false, .int .u64 1, .int .u64 (k + 1), .int .i64 (k + 1), .int .i64 0, nilV, nilV, nilV] ((W5.setCell ⟨ns, 13, none⟩ (.int .i64 (k + 1))).setCell ⟨ns, 9, none⟩ (.int .i64 (2 * k + 2))) := One.set (i := 9) hso1 (by simp) (.int .i64 (2 * k + 2))
            have hsb2 : Below wr.heap.size W5 ((W5.setCell ⟨ns, 13, none⟩ (.int .i64 (k + 1))).setCell ⟨ns, 9, none⟩ (.int .i64 (2 * k + 2))) := hsb1.setCell (by show wr.heap.size ≤ ns; have := HNS.out; omega) _
            have hss2 : ButS (fun j => j = ns) W5 ((W5.setCell ⟨ns, 13, none⟩ (.int .i64 (k + 1))).setCell ⟨ns, 9, none⟩ (.int .i64 (2 * k + 2))) := hss1.trans (ButS.set (S := fun j => j = ns) _ (p := ⟨ns, 9, none⟩) rfl _)
            have hso3 : One ns #[.int .i64 0, .int .u8 c.kind, vR, vE, .string c.pre, .int .u64 c.f, .int .u64 c.t, .int .u32 c.dst, .int .i64 (2 * k + 1), .int .i64 (2 * k + 2), .bool false, .int .u64 1, .int .u64 (k + 1), .int .i64 (k + 1), .int .i64 0, .slice aG d.got.length cG, nilV, nilV] (((W5.setCell ⟨ns, 13, none⟩ (.int .i64 (k + 1))).setCell ⟨ns, 9, none⟩ (.int .i64 (2 * k + 2))).setCell ⟨ns, 15, none⟩ (.slice aG d.got.length cG)) := One.set (i := 15) hso2 (by simp) (.slice aG d.got.length cG)
            have hsb3 : Below wr.heap.size W5 (((W5.setCell ⟨ns, 13, none⟩ (.int .i64 (k + 1))).setCell ⟨ns, 9, none⟩ (.int .i64 (2 * k + 2))).setCell ⟨ns, 15, none⟩ (.slice aG d.got.length cG)) := hsb2.setCell (by show wr.heap.size ≤ ns; have := HNS.out; omega) _
            have hss3 : ButS (fun j => j = ns) W5 (((W5.setCell ⟨ns, 13, none⟩ (.int .i64 (k + 1))).setCell ⟨ns, 9, none⟩ (.int .i64 (2 * k + 2))).setCell ⟨ns, 15, none⟩ (.slice aG d.got.length cG)) := hss2.trans (ButS.set (S := fun j => j = ns) _ (p := ⟨ns, 15, none⟩) rfl _)
            have hso4 : One ns #[.int .i64 0, .int .u8 c.kind, vR, vE, .string c.pre, .int .u64 c.f, .int .u64 c.t, .int .u32 c.dst, .int .i64 (2 * k + 1), .int .i64 (2 * k + 2), .bool false, .int .u64 1, .int .u64 (k + 1), .int .i64 (k + 1), .int .i64 0, .slice aG d.got.length cG, .slice aN d.nums.length cN, nilV] ((((W5.setCell ⟨ns, 13, none⟩ (.int .i64 (k + 1))).setCell ⟨ns, 9, none⟩ (.int .i64 (2 * k + 2))).setCell ⟨ns, 15, none⟩ (.slice aG d.got.length cG)).setCell ⟨ns, 16, none⟩ (.slice aN d.nums.length cN)) := One.set (i := 16) hso3 (by simp) (.slice aN d.nums.length cN)
            have hsb4 : Below wr.heap.size W5 ((((W5.setCell ⟨ns, 13, none⟩ (.int .i64 (k + 1))).setCell ⟨ns, 9, none⟩ (.int .i64 (2 * k + 2))).setCell ⟨ns, 15, none⟩ (.slice aG d.got.length cG)).setCell ⟨ns, 16, none⟩ (.slice aN d.nums.length cN)) := hsb3.setCell (by show wr.heap.size ≤ ns; have := HNS.out; omega) _
            have hss4 : ButS (fun j => j = ns) W5 ((((W5.setCell ⟨ns, 13, none⟩ (.int .i64 (k + 1))).setCell ⟨ns, 9, none⟩ (.int .i64 (2 * k + 2))).setCell ⟨ns, 15, none⟩ (.slice aG d.got.length cG)).setCell ⟨ns, 16, none⟩ (.slice aN d.nums.length cN)) := hss3.trans (ButS.set (S := fun j => j = ns) _ (p := ⟨ns, 16, none⟩) rfl _)
            have hso5 : One ns #[.int .i64 0, .int .u8 c.kind, vR, vE, .string c.pre, .int .u64 c.f, .int .u64 c.t, .int .u32 c.dst, .int .i64 (2 * k + 1), .int .i64 (2 * k + 2), .bool false, .int .u64 1, .int .u64 (k + 1), .int .i64 (k + 1), .int .i64 0, .slice aG d.got.length cG, .slice aN d.nums.length cN, .slice aM d.names.length cM] (((((W5.setCell ⟨ns, 13, none⟩ (.int .i64 (k + 1))).setCell ⟨ns, 9, none⟩ (.int .i64 (2 * k + 2))).setCell ⟨ns, 15, none⟩ (.slice aG d.got.length cG)).setCell ⟨ns, 16, none⟩ (.slice aN d.nums.length cN)).setCell ⟨ns, 17, none⟩ (.slice aM d.names.length cM)) := One.set (i := 17) hso4 (by simp) (.slice aM d.names.length cM)
            have hsb5 : Below wr.heap.size W5 (((((W5.setCell ⟨ns, 13, none⟩ (.int .i64 (k + 1))).setCell ⟨ns, 9, none⟩ (.int .i64 (2 * k + 2))).setCell ⟨ns, 15, none⟩ (.slice aG d.got.length cG)).setCell ⟨ns, 16, none⟩ (.slice aN d.nums.length cN)).setCell ⟨ns, 17, none⟩ (.slice aM d.names.length cM)) := hsb4.setCell (by show wr.heap.size ≤ ns; have := HNS.out; omega) _
            have hss5 : ButS (fun j => j = ns) W5 (((((W5.setCell ⟨ns, 13, none⟩ (.int .i64 (k + 1))).setCell ⟨ns, 9, none⟩ (.int .i64 (2 * k + 2))).setCell ⟨ns, 15, none⟩ (.slice aG d.got.length cG)).setCell ⟨ns, 16, none⟩ (.slice aN d.nums.length cN)).setCell ⟨ns, 17, none⟩ (.slice aM d.names.length cM)) := hss4.trans (ButS.set (S := fun j => j = ns) _ (p := ⟨ns, 17, none⟩) rfl _)
            refine wp_abs (F := fun W => One ns #[.int .i64 0, .int .u8 c.kind, vR, vE, .string c.pre, .int .u64 c.f, .int .u64 c.t, .int .u32 c.dst, .int .i64 (2 * k + 1), .int .i64 (2 * k + 2), .bool false, .int .u64 1, .int .u64 (k + 1), .int .i64 (k + 1), .int .i64 0, .slice aG d.got.length cG, .slice aN d.nums.length cN, .slice aM d.names.length cM] W ∧ Below wr.heap.size W5 W ∧ ButS (fun j => j = ns) W5 W) ⟨hso5, hsb5, hss5⟩ ?_
            rintro X ⟨hOX, hbX, hbsX⟩
            clear hso5 hsb5 hss5 hso4 hsb4 hss4 hso3 hsb3 hss3 hso2 hsb2 hss2 hso1 hsb1 hss1 hso0 hsb0 hss0
            have HBX : Hid (ButS (fun j => j = t) wr X) := Lib.hid (HB5.out.thenB hbX)
            have HSto : Hid (StoIs X (⟨vR, vE, .slice aG d.got.length cG, .slice aN d.nums.length cN, .slice aM d.names.length cM⟩ : Five) (⟨0, c, 2 * k + 1, 2 * k + 2, false, 1, k + 1, k + 1, 0, d.got, d.nums, d.names⟩ : Sto)) := Lib.hid ⟨HCI.out.below (hbw.out.trans (HBX.out.below (fun j hj => by rw [hj]; exact hfar.out.1) hbw.out.size)) (Nat.le_refl _), HG5.out.but hbsX (fun _ j hj => by show ¬ j = ns; have := HFr4.out j (Or.inl hj); have := Hw1.out.2; have := Ht3.out; have := Ht2.out; omega), HN5.out.but3 hbsX (fun _ j hj => by show ¬ j = ns; have := HFr4.out j (Or.inr (Or.inl hj)); have := Hw1.out.2; have := Ht3.out; have := Ht2.out; omega), HM5.out.but3 hbsX (fun _ j hj => by show ¬ j = ns; have := HFr4.out j (Or.inr (Or.inr hj)); have := Hw1.out.2; have := Ht3.out; have := Ht2.out; omega)⟩
            have HAt : Hid (StoAt X ns 0 (⟨vR, vE, .slice aG d.got.length cG, .slice aN d.nums.length cN, .slice aM d.names.length cM⟩ : Five) (⟨0, c, 2 * k + 1, 2 * k + 2, false, 1, k + 1, k + 1, 0, d.got, d.nums, d.names⟩ : Sto)) := Lib.hid (fun j u hj => by rw [Nat.zero_add, hOX.c j]; simpa [stoCells] using hj)
            have HRX : Hid (RefAt X t QQ QQ (rowsL d.M)) := Lib.hid (HRf5.out.but3 hbsX (fun j hj => Or.inr (hj ▸ HKN.out)) (by show ¬ t = ns; have := HSz.out.2.2.1; have := HNS.out; omega))
            have HTp : Hid (t = t ∨ wr.heap.size ≤ t) := Lib.hid (Or.inl rfl)
            have HTp2 : Hid (w.heap.size ≤ t) := Lib.hid (hfar.out.1)
            have HLs : Hid ((((⟨0, c, 2 * k + 1, 2 * k + 2, false, 1, k + 1, k + 1, 0, d.got, d.nums, d.names⟩ : Sto)).got ≠ [] → ∀ j, ((⟨vR, vE, .slice aG d.got.length cG, .slice aN d.nums.length cN, .slice aM d.names.length cM⟩ : Five)).g.ownBlock = some j → wr.heap.size ≤ j ∧ j ≠ t) ∧ (((⟨0, c, 2 * k + 1, 2 * k + 2, false, 1, k + 1, k + 1, 0, d.got, d.nums, d.names⟩ : Sto)).nums ≠ [] → ∀ j, ((⟨vR, vE, .slice aG d.got.length cG, .slice aN d.nums.length cN, .slice aM d.names.length cM⟩ : Five)).n.ownBlock = some j → wr.heap.size ≤ j ∧ j ≠ t) ∧ (((⟨0, c, 2 * k + 1, 2 * k + 2, false, 1, k + 1, k + 1, 0, d.got, d.nums, d.names⟩ : Sto)).names ≠ [] → ∀ j, ((⟨vR, vE, .slice aG d.got.length cG, .slice aN d.nums.length cN, .slice aM d.names.length cM⟩ : Five)).m.ownBlock = some j → wr.heap.size ≤ j ∧ j ≠ t)) := Lib.hid (⟨fun _ j hj => by have := HFr4.out j (Or.inl hj); have := HSz.out; constructor <;> omega, fun _ j hj => by have := HFr4.out j (Or.inr (Or.inl hj)); have := HSz.out; constructor <;> omega, fun _ j hj => by have := HFr4.out j (Or.inr (Or.inr hj)); have := HSz.out; constructor <;> omega⟩)
            clear hOX hbX hbsX
            have hbA : Below X.heap.size X (X.alloc (.cells (stoCells (⟨vR, vE, .slice aG d.got.length cG, .slice aN d.nums.length cN, .slice aM d.names.length cM⟩ : Five) (⟨0, c, 2 * k + 1, 2 * k + 2, false, 1, k + 1, k + 1, 0, d.got, d.nums, d.names⟩ : Sto)).toArray 87)) := (Below.refl _ _).alloc (Nat.le_refl _) _
            have HbA := Lib.hid hbA
            have hsx := HBX.out.size
            have hbs : w.heap.size ≤ wr.heap.size := hbw.out.size
            have HRowX := Lib.hid (ownBelow (ownBut2 hrow.out HBX.out (fun j hj => by show ¬ j = t; exact hfar.out.2 j hj)) hbA)
            have HKX : Hid (AllK kindS 18 (X.alloc (.cells (stoCells (⟨vR, vE, .slice aG d.got.length cG, .slice aN d.nums.length cN, .slice aM d.names.length cM⟩ : Five) (⟨0, c, 2 * k + 1, 2 * k + 2, false, 1, k + 1, k + 1, 0, d.got, d.nums, d.names⟩ : Sto)).toArray 87)) (Value.slice a5 k c5).ownBlock) := Lib.hid ((hkind.out.but HBX.out (fun j hj => ⟨by show ¬ j = t; exact hfar.out.2 j hj, ownLt hrow.out j hj⟩)).but (S := fun _ => False) (ButS.of hbA) (fun j hj => ⟨fun h => h, by have := ownLt hrow.out j hj; omega⟩))
            clear hbA
            go_wp2_with (first
              | (refine wpl_load_sto rfl (.tmp 8) rfl rfl (f := (⟨vR, vE, .slice aG d.got.length cG, .slice aN d.nums.length cN, .slice aM d.names.length cM⟩ : Five)) (s := (⟨0, c, 2 * k + 1, 2 * k + 2, false, 1, k + 1, k + 1, 0, d.got, d.nums, d.names⟩ : Sto)) HAt.out ?_)
              | (refine wpl_build_sto rfl (.tmp 83) rfl rfl ?_)
              | (at_builtin; refine wpList_append_k _ rfl (.tmp 82) (.tmp 84) 68 rfl w.heap.size 87 i0 (.agg #[.int .i64 0, .int .u8 0, .slice none 0 0, .slice none 0 0, .string ByteArray.empty, .int .u64 0, .int .u64 0, .int .u32 0, .int .i64 0, .int .i64 0, .bool false, .int .u64 0, .int .u64 0, .int .i64 0, .int .i64 0, .slice none 0 0, .slice none 0 0, .slice none 0 0]) 18 232 Tryz.underlying68 hi hz0 hz1 hz2 rfl (by decide) (by decide) kindS kindS_zero _ k (stoFlat T) rfl HRowX.out HKX.out ⟨X.heap.size, 0, none⟩ 1 (stoCells (⟨vR, vE, .slice aG d.got.length cG, .slice aN d.nums.length cN, .slice aM d.names.length cM⟩ : Five) (⟨0, c, 2 * k + 1, 2 * k + 2, false, 1, k + 1, k + 1, 0, d.got, d.nums, d.names⟩ : Sto)) rfl rfl (World.news_of_block (MapKept.heap_alloc _ _).1) (five_one HSto.out) (kindS_sto HSto.out) (by unfold maxLen; omega) (by omega) ?hbasec ?goc; (case hbasec => simp; omega); intro g6 c6 w6 hown6 hg6 hat6 hlt6 hk6; have Hown6 := Lib.hid hown6; have Hg6 := Lib.hid hg6; have Hat6 := Lib.hid hat6; have Hk6 := Lib.hid hk6; clear hown6 hg6 hat6 hk6)
              | fail)
            go_roundw
            case rel =>
              have hbAX := HbA.out.size
              have htX : t < X.heap.size := HRX.out.lt
              have HB6 : ButS (fun j => j = t ∨ (Value.slice a5 k c5).ownBlock = some j) wr w6 := (ButS.mono (HBX.out.thenB (HbA.out.mono hsx)) (fun j hj => Or.inl hj)).thenG Hg6.out (fun j hj => Or.inl (Or.inr hj))
              have hlen : (T ++ [((⟨vR, vE, .slice aG d.got.length cG, .slice aN d.nums.length cN, .slice aM d.names.length cM⟩ : Five), (⟨0, c, 2 * k + 1, 2 * k + 2, false, 1, k + 1, k + 1, 0, d.got, d.nums, d.names⟩ : Sto))]).length = k + 1 := by rw [List.length_append, HTl.out]; rfl
              have hgw : wr.heap.size ≤ g6 ∨ (Value.slice a5 k c5).ownBlock = some g6 := by
                rcases Hat6.out with h | h
                · exact Or.inr h
                · left; rw [h]; omega
              have htp : ¬ (Value.slice a5 k c5).ownBlock = some t := fun h => by
                rcases HTp.out with e | e
                · exact hfar.out.2 _ h e
                · have := ownLt hrow.out _ h; omega
              have hgt : g6 ≠ t := fun e => by
                rcases Hat6.out with h | h
                · rw [e] at h; exact htp h
                · omega
              refine ⟨k + 1, t, T ++ [((⟨vR, vE, .slice aG d.got.length cG, .slice aN d.nums.length cN, .slice aM d.names.length cM⟩ : Five), (⟨0, c, 2 * k + 1, 2 * k + 2, false, 1, k + 1, k + 1, 0, d.got, d.nums, d.names⟩ : Sto))], some ⟨g6, 0, none⟩, c6, by omega, by rw [hlen], rfl, by go_num, Lib.hid ?_, Lib.hid ?_, Lib.hid ?_, Lib.hid ?_, Lib.hid ?_, Lib.hid ?_, Lib.hid ?_⟩
              · rw [List.map_append, hmap.out, HTA.out, HSE.out]; rfl
              · rw [hlen]
                intro y hy
                rcases List.mem_append.1 hy with hy | hy
                · exact (htol.out y hy).but HB6 (fun j hj => by cases hj; rcases hgw with h | h; exact Or.inr h; exact Or.inl h) HTp.out
                · rw [List.mem_singleton.1 hy]
                  have hfn : ∀ j, wr.heap.size ≤ j → j < X.heap.size → j ≠ t → ¬ (j = t ∨ (Value.slice (some ⟨g6, 0, none⟩) (k + 1) c6).ownBlock = some j) := fun j h1 h2 h3 h4 => by
                    rcases h4 with h4 | h4
                    · exact h3 h4
                    · have e6 : g6 = j := by simpa [Value.ownBlock] using h4
                      rcases Hat6.out with h | h
                      · have := ownLt hrow.out _ h; omega
                      · omega
                  have hb6 : ButS (fun j => (Value.slice a5 k c5).ownBlock = some j) X w6 := (ButS.of HbA.out).thenG Hg6.out (fun j hj => Or.inl hj)
                  have hnr : ∀ j, wr.heap.size ≤ j → ¬ (Value.slice a5 k c5).ownBlock = some j := fun j h1 h2 => by have := ownLt hrow.out _ h2; omega
                  exact ⟨HCI.out, HSto.out.g.but hb6 (fun hl j hj => hnr j (HLs.out.1 hl j hj).1), HSto.out.n.but3 hb6 (fun hl j hj => hnr j (HLs.out.2.1 hl j hj).1), HSto.out.m.but3 hb6 (fun hl j hj => hnr j (HLs.out.2.2 hl j hj).1), fun hl j hj => hfn j (HLs.out.1 hl j hj).1 (HSto.out.g.lt hl j hj) (HLs.out.1 hl j hj).2, fun hl j hj => hfn j (HLs.out.2.1 hl j hj).1 (HSto.out.n.lt hl j hj) (HLs.out.2.1 hl j hj).2, fun hl j hj => hfn j (HLs.out.2.2 hl j hj).1 (HSto.out.m.lt hl j hj) (HLs.out.2.2 hl j hj).2⟩
              · rw [hlen, stoFlat_append]; exact Hown6.out
              · rw [hlen]; exact Hk6.out
              · rw [HTM.out]
                refine (HRX.out.below HbA.out).but3 (butRow Hg6.out) (fun j hj => Or.inr (by rw [hj]; exact HKX.out)) ?_
                intro h; exact htp h.symm
              · refine ⟨HTp2.out, fun j hj => ?_⟩
                rw [hlen] at hj; cases hj
                exact hgt
              · exact hbw.out.trans (HB6.below (fun j hj => by
                  rcases hj with e | e
                  · rw [e]; exact hfar.out.1
                  · exact ownAbove hrow.out j e) hbs)
            case measure => simp [intOf]; omega
          · have hklI : ¬ (k : Int) < (lost.length : Int) := by omega
            have hnrs : nr ≠ ns := by have := HNR.out; omega
            clear hlb hkl
            go_upto_region 20 with fail
            clear c8 c9 c10 c13 c14 c15 c16 c17 f9 f10 f13 f14 f15 f16 f17 q0 q1 q2
            have hso0 := HO5.out
            have hsb0 : Below wr.heap.size W5 W5 := Below.refl _ _
            have hss0 : ButS (fun j => j = ns) W5 W5 := ButS.of (Below.refl _ _)
            have hso1 : One ns #[.int .i64 0, .int .u8 c.kind, vR, vE, .string c.pre, .int .u64 c.f, .int .u64 c.t, .int .u32 c.dst, .int .i64 (2 * k + 1), .int .i64 0, .bool false, .int .u64 1, .int .u64 (k + 1), .int .i64 (k + 1), .int .i64 0, nilV, nilV, nilV] (W5.setCell ⟨ns, 13, none⟩ (.int .i64 (k + 1))) := One.set (i := 13) hso0 (by simp) (.int .i64 (k + 1))
            have hsb1 : Below wr.heap.size W5 (W5.setCell ⟨ns, 13, none⟩ (.int .i64 (k + 1))) := hsb0.setCell (by show wr.heap.size ≤ ns; have := HNS.out; omega) _
            have hss1 : ButS (fun j => j = ns) W5 (W5.setCell ⟨ns, 13, none⟩ (.int .i64 (k + 1))) := hss0.trans (ButS.set (S := fun j => j = ns) _ (p := ⟨ns, 13, none⟩) rfl _)
            have hso2 : One ns #[.int .i64 0, .int .u8 c.kind, vR, vE, .string c.pre, .int .u64 c.f, .int .u64 c.t, .int .u32 c.dst, .int .i64 (2 * k + 1), .int .i64 (2 * k + 2), .bool false, .int .u64 1, .int .u64 (k + 1), .int .i64 (k + 1), .int .i64 0, nilV, nilV, nilV] ((W5.setCell ⟨ns, 13, none⟩ (.int .i64 (k + 1))).setCell ⟨ns, 9, none⟩ (.int .i64 (2 * k + 2))) := One.set (i := 9) hso1 (by simp) (.int .i64 (2 * k + 2))
            have hsb2 : Below wr.heap.size W5 ((W5.setCell ⟨ns, 13, none⟩ (.int .i64 (k + 1))).setCell ⟨ns, 9, none⟩ (.int .i64 (2 * k + 2))) := hsb1.setCell (by show wr.heap.size ≤ ns; have := HNS.out; omega) _
            have hss2 : ButS (fun j => j = ns) W5 ((W5.setCell ⟨ns, 13, none⟩ (.int .i64 (k + 1))).setCell ⟨ns, 9, none⟩ (.int .i64 (2 * k + 2))) := hss1.trans (ButS.set (S := fun j => j = ns) _ (p := ⟨ns, 9, none⟩) rfl _)
            have hso3 : One ns #[.int .i64 0, .int .u8 c.kind, vR, vE, .string c.pre, .int .u64 c.f, .int .u64 c.t, .int .u32 c.dst, .int .i64 (2 * k + 1), .int .i64 (2 * k + 2), .bool false, .int .u64 1, .int .u64 (k + 1), .int .i64 (k + 1), .int .i64 0, .slice aG d.got.length cG, nilV, nilV] (((W5.setCell ⟨ns, 13, none⟩ (.int .i64 (k + 1))).setCell ⟨ns, 9, none⟩ (.int .i64 (2 * k + 2))).setCell ⟨ns, 15, none⟩ (.slice aG d.got.length cG)) := One.set (i := 15) hso2 (by simp) (.slice aG d.got.length cG)
            have hsb3 : Below wr.heap.size W5 (((W5.setCell ⟨ns, 13, none⟩ (.int .i64 (k + 1))).setCell ⟨ns, 9, none⟩ (.int .i64 (2 * k + 2))).setCell ⟨ns, 15, none⟩ (.slice aG d.got.length cG)) := hsb2.setCell (by show wr.heap.size ≤ ns; have := HNS.out; omega) _
            have hss3 : ButS (fun j => j = ns) W5 (((W5.setCell ⟨ns, 13, none⟩ (.int .i64 (k + 1))).setCell ⟨ns, 9, none⟩ (.int .i64 (2 * k + 2))).setCell ⟨ns, 15, none⟩ (.slice aG d.got.length cG)) := hss2.trans (ButS.set (S := fun j => j = ns) _ (p := ⟨ns, 15, none⟩) rfl _)
            have hso4 : One ns #[.int .i64 0, .int .u8 c.kind, vR, vE, .string c.pre, .int .u64 c.f, .int .u64 c.t, .int .u32 c.dst, .int .i64 (2 * k + 1), .int .i64 (2 * k + 2), .bool false, .int .u64 1, .int .u64 (k + 1), .int .i64 (k + 1), .int .i64 0, .slice aG d.got.length cG, .slice aN d.nums.length cN, nilV] ((((W5.setCell ⟨ns, 13, none⟩ (.int .i64 (k + 1))).setCell ⟨ns, 9, none⟩ (.int .i64 (2 * k + 2))).setCell ⟨ns, 15, none⟩ (.slice aG d.got.length cG)).setCell ⟨ns, 16, none⟩ (.slice aN d.nums.length cN)) := One.set (i := 16) hso3 (by simp) (.slice aN d.nums.length cN)
            have hsb4 : Below wr.heap.size W5 ((((W5.setCell ⟨ns, 13, none⟩ (.int .i64 (k + 1))).setCell ⟨ns, 9, none⟩ (.int .i64 (2 * k + 2))).setCell ⟨ns, 15, none⟩ (.slice aG d.got.length cG)).setCell ⟨ns, 16, none⟩ (.slice aN d.nums.length cN)) := hsb3.setCell (by show wr.heap.size ≤ ns; have := HNS.out; omega) _
            have hss4 : ButS (fun j => j = ns) W5 ((((W5.setCell ⟨ns, 13, none⟩ (.int .i64 (k + 1))).setCell ⟨ns, 9, none⟩ (.int .i64 (2 * k + 2))).setCell ⟨ns, 15, none⟩ (.slice aG d.got.length cG)).setCell ⟨ns, 16, none⟩ (.slice aN d.nums.length cN)) := hss3.trans (ButS.set (S := fun j => j = ns) _ (p := ⟨ns, 16, none⟩) rfl _)
            have hso5 : One ns #[.int .i64 0, .int .u8 c.kind, vR, vE, .string c.pre, .int .u64 c.f, .int .u64 c.t, .int .u32 c.dst, .int .i64 (2 * k + 1), .int .i64 (2 * k + 2), .bool false, .int .u64 1, .int .u64 (k + 1), .int .i64 (k + 1), .int .i64 0, .slice aG d.got.length cG, .slice aN d.nums.length cN, .slice aM d.names.length cM] (((((W5.setCell ⟨ns, 13, none⟩ (.int .i64 (k + 1))).setCell ⟨ns, 9, none⟩ (.int .i64 (2 * k + 2))).setCell ⟨ns, 15, none⟩ (.slice aG d.got.length cG)).setCell ⟨ns, 16, none⟩ (.slice aN d.nums.length cN)).setCell ⟨ns, 17, none⟩ (.slice aM d.names.length cM)) := One.set (i := 17) hso4 (by simp) (.slice aM d.names.length cM)
            have hsb5 : Below wr.heap.size W5 (((((W5.setCell ⟨ns, 13, none⟩ (.int .i64 (k + 1))).setCell ⟨ns, 9, none⟩ (.int .i64 (2 * k + 2))).setCell ⟨ns, 15, none⟩ (.slice aG d.got.length cG)).setCell ⟨ns, 16, none⟩ (.slice aN d.nums.length cN)).setCell ⟨ns, 17, none⟩ (.slice aM d.names.length cM)) := hsb4.setCell (by show wr.heap.size ≤ ns; have := HNS.out; omega) _
            have hss5 : ButS (fun j => j = ns) W5 (((((W5.setCell ⟨ns, 13, none⟩ (.int .i64 (k + 1))).setCell ⟨ns, 9, none⟩ (.int .i64 (2 * k + 2))).setCell ⟨ns, 15, none⟩ (.slice aG d.got.length cG)).setCell ⟨ns, 16, none⟩ (.slice aN d.nums.length cN)).setCell ⟨ns, 17, none⟩ (.slice aM d.names.length cM)) := hss4.trans (ButS.set (S := fun j => j = ns) _ (p := ⟨ns, 17, none⟩) rfl _)
            refine wp_abs (F := fun W => One ns #[.int .i64 0, .int .u8 c.kind, vR, vE, .string c.pre, .int .u64 c.f, .int .u64 c.t, .int .u32 c.dst, .int .i64 (2 * k + 1), .int .i64 (2 * k + 2), .bool false, .int .u64 1, .int .u64 (k + 1), .int .i64 (k + 1), .int .i64 0, .slice aG d.got.length cG, .slice aN d.nums.length cN, .slice aM d.names.length cM] W ∧ Below wr.heap.size W5 W ∧ ButS (fun j => j = ns) W5 W) ⟨hso5, hsb5, hss5⟩ ?_
            rintro X ⟨hOX, hbX, hbsX⟩
            clear hso5 hsb5 hss5 hso4 hsb4 hss4 hso3 hsb3 hss3 hso2 hsb2 hss2 hso1 hsb1 hss1 hso0 hsb0 hss0
            have HBX : Hid (ButS (fun j => j = t) wr X) := Lib.hid (HB5.out.thenB hbX)
            have HSto : Hid (StoIs X (⟨vR, vE, .slice aG d.got.length cG, .slice aN d.nums.length cN, .slice aM d.names.length cM⟩ : Five) (⟨0, c, 2 * k + 1, 2 * k + 2, false, 1, k + 1, k + 1, 0, d.got, d.nums, d.names⟩ : Sto)) := Lib.hid ⟨HCI.out.below (hbw.out.trans (HBX.out.below (fun j hj => by rw [hj]; exact hfar.out.1) hbw.out.size)) (Nat.le_refl _), HG5.out.but hbsX (fun _ j hj => by show ¬ j = ns; have := HFr4.out j (Or.inl hj); have := Hw1.out.2; have := Ht3.out; have := Ht2.out; omega), HN5.out.but3 hbsX (fun _ j hj => by show ¬ j = ns; have := HFr4.out j (Or.inr (Or.inl hj)); have := Hw1.out.2; have := Ht3.out; have := Ht2.out; omega), HM5.out.but3 hbsX (fun _ j hj => by show ¬ j = ns; have := HFr4.out j (Or.inr (Or.inr hj)); have := Hw1.out.2; have := Ht3.out; have := Ht2.out; omega)⟩
            have HAt : Hid (StoAt X ns 0 (⟨vR, vE, .slice aG d.got.length cG, .slice aN d.nums.length cN, .slice aM d.names.length cM⟩ : Five) (⟨0, c, 2 * k + 1, 2 * k + 2, false, 1, k + 1, k + 1, 0, d.got, d.nums, d.names⟩ : Sto)) := Lib.hid (fun j u hj => by rw [Nat.zero_add, hOX.c j]; simpa [stoCells] using hj)
            have HRX : Hid (RefAt X t QQ QQ (rowsL d.M)) := Lib.hid (HRf5.out.but3 hbsX (fun j hj => Or.inr (hj ▸ HKN.out)) (by show ¬ t = ns; have := HSz.out.2.2.1; have := HNS.out; omega))
            have HTp : Hid (t = t ∨ wr.heap.size ≤ t) := Lib.hid (Or.inl rfl)
            have HTp2 : Hid (w.heap.size ≤ t) := Lib.hid (hfar.out.1)
            have HLs : Hid ((((⟨0, c, 2 * k + 1, 2 * k + 2, false, 1, k + 1, k + 1, 0, d.got, d.nums, d.names⟩ : Sto)).got ≠ [] → ∀ j, ((⟨vR, vE, .slice aG d.got.length cG, .slice aN d.nums.length cN, .slice aM d.names.length cM⟩ : Five)).g.ownBlock = some j → wr.heap.size ≤ j ∧ j ≠ t) ∧ (((⟨0, c, 2 * k + 1, 2 * k + 2, false, 1, k + 1, k + 1, 0, d.got, d.nums, d.names⟩ : Sto)).nums ≠ [] → ∀ j, ((⟨vR, vE, .slice aG d.got.length cG, .slice aN d.nums.length cN, .slice aM d.names.length cM⟩ : Five)).n.ownBlock = some j → wr.heap.size ≤ j ∧ j ≠ t) ∧ (((⟨0, c, 2 * k + 1, 2 * k + 2, false, 1, k + 1, k + 1, 0, d.got, d.nums, d.names⟩ : Sto)).names ≠ [] → ∀ j, ((⟨vR, vE, .slice aG d.got.length cG, .slice aN d.nums.length cN, .slice aM d.names.length cM⟩ : Five)).m.ownBlock = some j → wr.heap.size ≤ j ∧ j ≠ t)) := Lib.hid (⟨fun _ j hj => by have := HFr4.out j (Or.inl hj); have := HSz.out; constructor <;> omega, fun _ j hj => by have := HFr4.out j (Or.inr (Or.inl hj)); have := HSz.out; constructor <;> omega, fun _ j hj => by have := HFr4.out j (Or.inr (Or.inr hj)); have := HSz.out; constructor <;> omega⟩)
            clear hOX hbX hbsX
            have hbA : Below X.heap.size X (X.alloc (.cells (stoCells (⟨vR, vE, .slice aG d.got.length cG, .slice aN d.nums.length cN, .slice aM d.names.length cM⟩ : Five) (⟨0, c, 2 * k + 1, 2 * k + 2, false, 1, k + 1, k + 1, 0, d.got, d.nums, d.names⟩ : Sto)).toArray 87)) := (Below.refl _ _).alloc (Nat.le_refl _) _
            have HbA := Lib.hid hbA
            have hsx := HBX.out.size
            have hbs : w.heap.size ≤ wr.heap.size := hbw.out.size
            have HRowX := Lib.hid (ownBelow (ownBut2 hrow.out HBX.out (fun j hj => by show ¬ j = t; exact hfar.out.2 j hj)) hbA)
            have HKX : Hid (AllK kindS 18 (X.alloc (.cells (stoCells (⟨vR, vE, .slice aG d.got.length cG, .slice aN d.nums.length cN, .slice aM d.names.length cM⟩ : Five) (⟨0, c, 2 * k + 1, 2 * k + 2, false, 1, k + 1, k + 1, 0, d.got, d.nums, d.names⟩ : Sto)).toArray 87)) (Value.slice a5 k c5).ownBlock) := Lib.hid ((hkind.out.but HBX.out (fun j hj => ⟨by show ¬ j = t; exact hfar.out.2 j hj, ownLt hrow.out j hj⟩)).but (S := fun _ => False) (ButS.of hbA) (fun j hj => ⟨fun h => h, by have := ownLt hrow.out j hj; omega⟩))
            clear hbA
            go_wp2_with (first
              | (refine wpl_load_sto rfl (.tmp 8) rfl rfl (f := (⟨vR, vE, .slice aG d.got.length cG, .slice aN d.nums.length cN, .slice aM d.names.length cM⟩ : Five)) (s := (⟨0, c, 2 * k + 1, 2 * k + 2, false, 1, k + 1, k + 1, 0, d.got, d.nums, d.names⟩ : Sto)) HAt.out ?_)
              | (refine wpl_build_sto rfl (.tmp 83) rfl rfl ?_)
              | (at_builtin; refine wpList_append_k _ rfl (.tmp 82) (.tmp 84) 68 rfl w.heap.size 87 i0 (.agg #[.int .i64 0, .int .u8 0, .slice none 0 0, .slice none 0 0, .string ByteArray.empty, .int .u64 0, .int .u64 0, .int .u32 0, .int .i64 0, .int .i64 0, .bool false, .int .u64 0, .int .u64 0, .int .i64 0, .int .i64 0, .slice none 0 0, .slice none 0 0, .slice none 0 0]) 18 232 Tryz.underlying68 hi hz0 hz1 hz2 rfl (by decide) (by decide) kindS kindS_zero _ k (stoFlat T) rfl HRowX.out HKX.out ⟨X.heap.size, 0, none⟩ 1 (stoCells (⟨vR, vE, .slice aG d.got.length cG, .slice aN d.nums.length cN, .slice aM d.names.length cM⟩ : Five) (⟨0, c, 2 * k + 1, 2 * k + 2, false, 1, k + 1, k + 1, 0, d.got, d.nums, d.names⟩ : Sto)) rfl rfl (World.news_of_block (MapKept.heap_alloc _ _).1) (five_one HSto.out) (kindS_sto HSto.out) (by unfold maxLen; omega) (by omega) ?hbased ?god; (case hbased => simp; omega); intro g6 c6 w6 hown6 hg6 hat6 hlt6 hk6; have Hown6 := Lib.hid hown6; have Hg6 := Lib.hid hg6; have Hat6 := Lib.hid hat6; have Hk6 := Lib.hid hk6; clear hown6 hg6 hat6 hk6)
              | fail)
            go_roundw
            case rel =>
              have hbAX := HbA.out.size
              have htX : t < X.heap.size := HRX.out.lt
              have HB6 : ButS (fun j => j = t ∨ (Value.slice a5 k c5).ownBlock = some j) wr w6 := (ButS.mono (HBX.out.thenB (HbA.out.mono hsx)) (fun j hj => Or.inl hj)).thenG Hg6.out (fun j hj => Or.inl (Or.inr hj))
              have hlen : (T ++ [((⟨vR, vE, .slice aG d.got.length cG, .slice aN d.nums.length cN, .slice aM d.names.length cM⟩ : Five), (⟨0, c, 2 * k + 1, 2 * k + 2, false, 1, k + 1, k + 1, 0, d.got, d.nums, d.names⟩ : Sto))]).length = k + 1 := by rw [List.length_append, HTl.out]; rfl
              have hgw : wr.heap.size ≤ g6 ∨ (Value.slice a5 k c5).ownBlock = some g6 := by
                rcases Hat6.out with h | h
                · exact Or.inr h
                · left; rw [h]; omega
              have htp : ¬ (Value.slice a5 k c5).ownBlock = some t := fun h => by
                rcases HTp.out with e | e
                · exact hfar.out.2 _ h e
                · have := ownLt hrow.out _ h; omega
              have hgt : g6 ≠ t := fun e => by
                rcases Hat6.out with h | h
                · rw [e] at h; exact htp h
                · omega
              refine ⟨k + 1, t, T ++ [((⟨vR, vE, .slice aG d.got.length cG, .slice aN d.nums.length cN, .slice aM d.names.length cM⟩ : Five), (⟨0, c, 2 * k + 1, 2 * k + 2, false, 1, k + 1, k + 1, 0, d.got, d.nums, d.names⟩ : Sto))], some ⟨g6, 0, none⟩, c6, by omega, by rw [hlen], rfl, by go_num, Lib.hid ?_, Lib.hid ?_, Lib.hid ?_, Lib.hid ?_, Lib.hid ?_, Lib.hid ?_, Lib.hid ?_⟩
              · rw [List.map_append, hmap.out, HTA.out, HSE.out]; rfl
              · rw [hlen]
                intro y hy
                rcases List.mem_append.1 hy with hy | hy
                · exact (htol.out y hy).but HB6 (fun j hj => by cases hj; rcases hgw with h | h; exact Or.inr h; exact Or.inl h) HTp.out
                · rw [List.mem_singleton.1 hy]
                  have hfn : ∀ j, wr.heap.size ≤ j → j < X.heap.size → j ≠ t → ¬ (j = t ∨ (Value.slice (some ⟨g6, 0, none⟩) (k + 1) c6).ownBlock = some j) := fun j h1 h2 h3 h4 => by
                    rcases h4 with h4 | h4
                    · exact h3 h4
                    · have e6 : g6 = j := by simpa [Value.ownBlock] using h4
                      rcases Hat6.out with h | h
                      · have := ownLt hrow.out _ h; omega
                      · omega
                  have hb6 : ButS (fun j => (Value.slice a5 k c5).ownBlock = some j) X w6 := (ButS.of HbA.out).thenG Hg6.out (fun j hj => Or.inl hj)
                  have hnr : ∀ j, wr.heap.size ≤ j → ¬ (Value.slice a5 k c5).ownBlock = some j := fun j h1 h2 => by have := ownLt hrow.out _ h2; omega
                  exact ⟨HCI.out, HSto.out.g.but hb6 (fun hl j hj => hnr j (HLs.out.1 hl j hj).1), HSto.out.n.but3 hb6 (fun hl j hj => hnr j (HLs.out.2.1 hl j hj).1), HSto.out.m.but3 hb6 (fun hl j hj => hnr j (HLs.out.2.2 hl j hj).1), fun hl j hj => hfn j (HLs.out.1 hl j hj).1 (HSto.out.g.lt hl j hj) (HLs.out.1 hl j hj).2, fun hl j hj => hfn j (HLs.out.2.1 hl j hj).1 (HSto.out.n.lt hl j hj) (HLs.out.2.1 hl j hj).2, fun hl j hj => hfn j (HLs.out.2.2 hl j hj).1 (HSto.out.m.lt hl j hj) (HLs.out.2.2 hl j hj).2⟩
              · rw [hlen, stoFlat_append]; exact Hown6.out
              · rw [hlen]; exact Hk6.out
              · rw [HTM.out]
                refine (HRX.out.below HbA.out).but3 (butRow Hg6.out) (fun j hj => Or.inr (by rw [hj]; exact HKX.out)) ?_
                intro h; exact htp h.symm
              · refine ⟨HTp2.out, fun j hj => ?_⟩
                rw [hlen] at hj; cases hj
                exact hgt
              · exact hbw.out.trans (HB6.below (fun j hj => by
                  rcases hj with e | e
                  · rw [e]; exact hfar.out.1
                  · exact ownAbove hrow.out j e) hbs)
            case measure => simp [intOf]; omega
      -- ENDTAIL
    · have hge : ¬ (k : Int) < (cs.length : Int) := by omega
      obtain rfl : k = cs.length := by omega
      go_wp2_with fail
      go_ret
      refine ⟨_, rfl, ?_, hbw.out⟩
      rw [← hmap.out]
      refine IsStos.own (by rw [HTl.out]; exact hrow.out) (fun x hx => (htol.out x hx).sto hbw.out)
end Go.Proofs.YtfbgnpfhjbiikaaGreatDoor

namespace Go.Proofs.YtfbgnpfhjbiikaaGreatDoor
open Go Go.RowKit
open Pth
theorem ButS.sets {S : Nat → Prop} {b : Nat} (hS : S b) : ∀ (vs : List Value) (o : Nat) (w : World), ButS S w (w.setCells b o vs)
  | [], _, w => ButS.of (Below.refl _ w)
  | v :: r, o, w => by
    rw [World.setCells]
    exact (ButS.set (S := S) w (p := ⟨b, o, none⟩) hS v).trans (ButS.sets hS r (o + 1) _)
theorem Below.sets {B b : Nat} (h : B ≤ b) : ∀ (vs : List Value) (o : Nat) (w : World), Below B w (w.setCells b o vs)
  | [], _, w => Below.refl _ w
  | v :: r, o, w => by
    rw [World.setCells]
    exact ((Below.refl B w).setCell (p := ⟨b, o, none⟩) h v).trans (Below.sets h r (o + 1) _)
structure MRow (W : World) (g : Nat) (F : List (Five × Sto)) : Prop where
  lt : g < W.heap.size
  c : ∀ i, i < F.length → W.rangeAt g (i * 18) (stoCells (F.getD i dFS).1 (F.getD i dFS).2)
  t : ∀ i, i < F.length → W.there g (i * 18) 18
theorem MRow.step {W W' : World} {g : Nat} {F : List (Five × Sto)} (h : MRow W g F) (hb : Below W.heap.size W W') : MRow W' g F :=
  ⟨Nat.lt_of_lt_of_le h.lt hb.size, fun i hi => rangeAt_below (h.c i hi) hb h.lt, fun i hi j hj => by
    obtain ⟨h1, h2⟩ := h.t i hi j hj
    exact ⟨by rw [hb.cell (p := ⟨g, i * 18 + j, none⟩) h.lt]; exact h1, by rw [hb.frozen (p := ⟨g, i * 18 + j, none⟩) h.lt]; exact h2⟩⟩
theorem MRow.at {W : World} {g : Nat} {F : List (Five × Sto)} (h : MRow W g F) {i : Nat} (hi : i < F.length) : StoAt W g (i * 18) (F.getD i dFS).1 (F.getD i dFS).2 := fun j u hj => h.c i hi j u hj
theorem MRow.set {W : World} {g : Nat} {F : List (Five × Sto)} (h : MRow W g F) {i : Nat} (hi : i < F.length) (f : Five) (s : Sto) : MRow (W.setCells g (i * 18) (stoCells f s)) g (F.set i (f, s)) := by
  have hb := ButS.sets (S := fun k => k = g) (b := g) rfl (stoCells f s) (i * 18) W
  have hl : (stoCells f s).length = 18 := rfl
  refine ⟨Nat.lt_of_lt_of_le h.lt hb.size, fun j hj => ?_, fun j hj => ?_⟩
  · rw [List.length_set] at hj
    by_cases e : i = j
    · subst e
      have : (F.set i (f, s)).getD i dFS = (f, s) := by rw [List.getD_eq_getElem?_getD, List.getElem?_set_self hi]; rfl
      rw [this]
      exact World.rangeAt_setCells_same W g (i * 18) _ (h.t i hi)
    · have : (F.set i (f, s)).getD j dFS = F.getD j dFS := by rw [List.getD_eq_getElem?_getD, List.getElem?_set_ne e, List.getD_eq_getElem?_getD]
      rw [this]
      refine World.rangeAt_setCells_apart (h.c j hj) g (i * 18) _ (Or.inr ?_)
      have hl2 : (stoCells (F.getD j dFS).1 (F.getD j dFS).2).length = 18 := rfl
      omega
  · rw [List.length_set] at hj
    exact World.there_setCells (h.t j hj) g (i * 18) _
theorem MRow.stos {W : World} {g cap : Nat} {F : List (Five × Sto)} (h : MRow W g F) (hcap : F.length ≤ cap) (hT : ∀ x ∈ F, StoIs W x.1 x.2) : IsStos W (.slice (some ⟨g, 0, none⟩) F.length cap) (F.map (·.2)) := by
  refine ⟨_, cap, by rw [List.length_map], by rw [List.length_map]; exact hcap, Or.inr ⟨g, 0, rfl, h.lt, fun i hi => ?_⟩⟩
  rw [List.length_map] at hi
  have hm : F.getD i dFS ∈ F := by rw [List.getD_eq_getElem?_getD, List.getElem?_eq_getElem hi]; exact List.getElem_mem hi
  have he : (F.map (·.2)).getD i dS = (F.getD i dFS).2 := by
    rw [List.getD_eq_getElem?_getD, List.getD_eq_getElem?_getD, List.getElem?_map, List.getElem?_eq_getElem hi]; rfl
  rw [he, Nat.zero_add]
  exact ⟨(F.getD i dFS).1, hT _ hm, h.at hi⟩
theorem stos_src {w : World} {a : Option Addr} {c : Nat} {l : List Sto} (h : IsStos w (.slice a l.length c) l) :
    ∃ F : List (Five × Sto), F.map (·.2) = l ∧ (∀ x ∈ F, StoIs w x.1 x.2) ∧ Src Tryz.prog 18 68 (.slice a l.length c) l.length (stoFlat F) w := by
  obtain ⟨a', c', he, _, hc⟩ := h
  cases he
  have hg : ∀ i, ∃ f : Five, i < l.length → StoIs w f (l.getD i dS) ∧ ∀ b off, a = some ⟨b, off, none⟩ → StoAt w b (off + i * 18) f (l.getD i dS) := by
    intro i
    by_cases hi : i < l.length
    · rcases hc with h | ⟨b, off, rfl, _, hc⟩
      · subst h; simp at hi
      obtain ⟨f, h1, h2⟩ := hc i hi
      exact ⟨f, fun _ => ⟨h1, fun b' off' e => by cases e; exact h2⟩⟩
    · exact ⟨dFS.1, fun h => absurd h hi⟩
  obtain ⟨f, hf⟩ := Classical.axiomOfChoice hg
  have hfl : stoFlat ((List.range l.length).map (fun i => (f i, l.getD i dS))) = (List.range l.length).flatMap (fun i => stoCells (f i) (l.getD i dS)) := by
    unfold stoFlat; rw [List.flatMap_map]
  refine ⟨(List.range l.length).map (fun i => (f i, l.getD i dS)), ?_, fun x hx => ?_, ?_⟩
  · rw [List.map_map]
    apply List.ext_getElem (by simp)
    intro i h1 h2
    simp [List.getD_eq_getElem?_getD, h2]
  · obtain ⟨i, hi, rfl⟩ := List.mem_map.1 hx
    exact (hf i (List.mem_range.1 hi)).1
  · rw [hfl]
    refine src_of Tryz.underlying68 a _ c _ (fun i => rfl) ?_ (fun i hi u hu => five_one (hf i hi).1 u hu) (by decide)
    rcases hc with h | ⟨b, off, rfl, _, _⟩
    · left; rw [h]; rfl
    · right
      exact ⟨b, off, rfl, fun i hi j u hj => (hf i hi).2 b off rfl j u hj⟩
theorem stos_cpy {w w' : World} {F : List (Five × Sto)} {g0 : Nat} {v : Value} (h : CpyG g0 F.length 18 87 (stoFlat F) w v w') (h1 : 1 ≤ F.length) :
    ∃ cap, v = .slice (some ⟨w.heap.size, 0, none⟩) F.length cap ∧ F.length ≤ cap ∧ MRow w' w.heap.size F ∧ Below w.heap.size w w' := by
  rcases h with ⟨h0, _, _⟩ | ⟨_, cap, Z, hcap, _, rfl, rfl⟩
  · omega
  · have hb : Below w.heap.size w (w.drew.alloc (.cells ((stoFlat F).toArray ++ Z) 87)) := (Below.drew (Below.refl _ _)).alloc (Nat.le_refl _) _
    have hO : One w.heap.size _ _ := One.of w.drew ((stoFlat F).toArray ++ Z) 87
    have hlen := stoFlat_length F
    have hc : ∀ i j, i < F.length → j < 18 → (w.drew.alloc (.cells ((stoFlat F).toArray ++ Z) 87)).cell? ⟨w.heap.size, i * 18 + j, none⟩ = (stoCells (F.getD i dFS).1 (F.getD i dFS).2)[j]? := fun i j hi hj => by
      rw [hO.c, Array.getElem?_append_left (by rw [List.size_toArray, hlen]; omega), List.getElem?_toArray, stoFlat_at F i hi j hj]
    refine ⟨cap, rfl, hcap, ⟨hO.lt, fun i hi j u hj => ?_, fun i hi j hj => ⟨?_, hO.f _⟩⟩, hb⟩
    · rw [hc i j hi (List.getElem?_eq_some_iff.1 hj).1]; exact hj
    · rw [hc i j hi hj, List.getElem?_eq_getElem (show j < (stoCells (F.getD i dFS).1 (F.getD i dFS).2).length from hj)]; rfl
theorem wpl_build_sto0 {ops : Array Oper} {rest : List Oper} {o : Oper} {a : Act} {w : World} {Q : Exit → Act → World → Prop} (hgd : o.guard = none) (ho : o.op = .buildSlice 68 0 #[])
    (h : wpList Tryz.prog ops Q rest (a.put o.dst (.slice (some ⟨w.heap.size, 0, none⟩) 0 0)) (w.alloc (.cells #[] 87))) : wpList Tryz.prog ops Q (o :: rest) a w := by
  obtain ⟨i0, hi, hz0, hz1, hz2⟩ := info_parts infoStoA
  have hr : (Instr.buildSlice 68 0 #[]).run Tryz.prog w = .ok (.slice (some ⟨w.heap.size, 0, none⟩) 0 0) (w.alloc (.cells #[] 87)) := by
    simp [Instr.buildSlice, run_underlying Tryz.underlying68, sizeOf, typeInfo, hi, newRow, Instr.fill]
    have he : ∀ f : Nat → Value, Array.map f (Array.range 0) = #[] := fun f => by apply Array.ext <;> simp
    rw [he]
  refine wpList_plain hgd fun K hK => ?_
  unfold Oper.wp execOp
  simp only [ho, Sem.run_bind, List.map_toArray, List.map_nil, hr]
  exact hK _ _ h
theorem wpl_store_mrow {ops : Array Oper} {rest : List Oper} {op : Oper} {a : Act} {w : World} {Q : Exit → Act → World → Prop} (hgd : op.guard = none) (x y : Operand) (ho : op.op = .store 87 x y) {g i : Nat} {F : List (Five × Sto)} (hm : MRow w g F) (hi : i < F.length) (hx : a.eval x = .pointer (some ⟨g, i * 18, none⟩)) {f : Five} {s : Sto} (hy : a.eval y = .agg (stoCells f s).toArray)
    (h1 : ∀ v ∈ stoCells f s, v.oneCell' = true)
    (h : wpList Tryz.prog ops Q rest (a.put op.dst undef) (w.setCells g (i * 18) (stoCells f s))) : wpList Tryz.prog ops Q (op :: rest) a w :=
  wpList_store_mid hgd 87 x y ho g (i * 18) (stoCells f s).toArray hx hy (hm.t i hi) infoStoL (all_oneCell_toArray h1) h
theorem BoxS.com {n : Nat} {f : Five} {s : Sto} {W : World} (h : BoxS n f s W) (x : Int) (hi : StoIs (W.setCell ⟨n, 13, none⟩ (.int .i64 x)) f s) : BoxS n f { s with com := x } (W.setCell ⟨n, 13, none⟩ (.int .i64 x)) :=
  ⟨One.set (i := 13) h.o (by simp [stoCells]) (.int .i64 x), ⟨hi.c, hi.g, hi.n, hi.m⟩⟩
end Go.Proofs.YtfbgnpfhjbiikaaGreatDoor
