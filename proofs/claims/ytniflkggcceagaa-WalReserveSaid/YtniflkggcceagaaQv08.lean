/- Contract: wal.Open. -/
import Derived.Test.YtniflkggcceagaaQv07
namespace Go.Proofs.Ytniflkggcceagaa
open Go Go.RowKit
theorem infoSg : (Try.prog.info? 84).map (fun i => (i.zero, i.size, i.bytes)) = some (some (.agg sg0), 7, 80) := by kernel_rfl
theorem sgV_one (t : Sm) (h : ∃ a n cp, t.2.2 = .slice a n cp) : ∀ u ∈ sgV t, u.oneCell' = true := by
  intro u hu
  obtain ⟨a, n, cp, h⟩ := h
  unfold sgV at hu
  rw [h] at hu
  simp only [List.mem_cons, List.mem_nil_iff, or_false] at hu
  rcases hu with rfl | rfl | rfl | rfl | rfl | rfl | rfl <;> rfl
theorem cz3 (w : World) (T0 T1 T2 : TypeId) (C0 C1 C2 : Array Value) : Below w.heap.size w (((w.alloc (.cells C0 T0)).alloc (.cells C1 T1)).alloc (.cells C2 T2)) ∧ Cz (((w.alloc (.cells C0 T0)).alloc (.cells C1 T1)).alloc (.cells C2 T2)) w.heap.size T0 C0 ∧ Cz (((w.alloc (.cells C0 T0)).alloc (.cells C1 T1)).alloc (.cells C2 T2)) (w.heap.size + 1) T1 C1 ∧ Cz (((w.alloc (.cells C0 T0)).alloc (.cells C1 T1)).alloc (.cells C2 T2)) (w.heap.size + 2) T2 C2 := by
  have s1 : (w.alloc (.cells C0 T0)).heap.size = w.heap.size + 1 := by simp
  have s2 : ((w.alloc (.cells C0 T0)).alloc (.cells C1 T1)).heap.size = w.heap.size + 2 := by simp
  have b1 : ∀ W : World, ∀ o, Below W.heap.size W (W.alloc o) := fun W o => (Below.refl _ _).alloc (Nat.le_refl _) _
  refine ⟨(((Below.refl _ _).alloc (Nat.le_refl _) _).alloc (by omega) _).alloc (by omega) _, ((Cz.new w C0 T0).step (b1 _ _)).step (b1 _ _), ?_, ?_⟩
  · have := (Cz.new (w.alloc (.cells C0 T0)) C1 T1).step (b1 _ (.cells C2 T2))
    rw [s1] at this; exact this
  · have := Cz.new ((w.alloc (.cells C0 T0)).alloc (.cells C1 T1)) C2 T2
    rw [s2] at this; exact this
def OpenG (S : Nat → Prop) (d : Nat) (D : Dk) (W : Wa) (t0 : List UInt8) (R : List (List UInt8)) (w : World) (e : Ending) (w' : World) : Prop := ∃ (x : Nat) (S' T : Nat → Prop) (a : Option Addr) (cp : Nat), e = .returned (.tuple #[.pointer (some ⟨x, 0, none⟩), .agg (kepC t0 W.first (.slice a R.length cp)), .int .i64 0]) ∧ DiskAt w' S' d D ∧ WalAt w' T x d W ∧ (∀ k, S' k → ¬ T k) ∧ (∀ k, S' k → S k ∨ w.heap.size ≤ k) ∧ (∀ k, T k → w.heap.size ≤ k) ∧ ButS S w w' ∧ w'.ownsRow w.heap.size 9 1 (.slice a R.length cp) R.length (strsV R) ∧ (∀ b, (Value.slice a R.length cp).ownBlock = some b → ¬ S' b ∧ ¬ T b)
set_option maxRecDepth 100000 in
set_option maxHeartbeats 4000000 in
theorem wal_Open (w : World) {S : Nat → Prop} {d : Nat} {D : Dk} (h : DiskAt w S d D) (hk : DkOk D) (hn : 3 ≤ D.n) (hf : D.fuse < 0) (hl : D.loose.length ≤ 999990) (hT : ∀ i, i < 3 → Txt (D.now i)) (hN : ∀ i, i < 3 → (D.now i).length ≤ 1000000)
    (rw : List Nat) (hne : 1 ≤ rw.length) (hlt : ∀ i ∈ rw, i < (psF D.now 3).length) (hnd : rw.Nodup) (HROW : ∀ (W : World) (v : Value) (T : List Sm), T.map smP = psF D.now 3 → SgsAt W v T → Calls Try.prog 46 #[v] W (RowG rw W)) :
    Calls Try.prog 19 #[.pointer (some ⟨d, 0, none⟩), confV] w (OpenG S d (opD (gsOf (psF D.now 3) rw) D) (opW (gsOf (psF D.now 3) rw) ((psF D.now 3).getD (rw.getD 0 0) (0, sgZ)).2.first) ((psF D.now 3).getD (rw.getD 0 0) (0, sgZ)).2.text (lqOf [] 0 (gsOf (psF D.now 3) rw)).R w) := by
  obtain ⟨i0, hi, hiz, his, hib⟩ := info_parts infoSg
  obtain ⟨j0, hj, hjz, hjs, hjb⟩ := info_parts infoInt0
  have hop := h.own
  have H := Lib.hid h; have HK := Lib.hid hk
  have HN := Lib.hid hn; have HF := Lib.hid hf; have HL := Lib.hid hl; have HT := Lib.hid hT; have HNL := Lib.hid hN; have HNE := Lib.hid hne; have HLT := Lib.hid hlt; have HND := Lib.hid hnd; have HR0 := Lib.hid HROW
  have HM := Lib.hid (fun w' (hb : Below w.heap.size w w') => wal_may w' (h.step hb) hn)
  have HRE := Lib.hid (fun w' (hb : Below w.heap.size w w') => wal_read w' (h.step hb) hn (by omega))
  clear h hk hn hf hl hT hN hne hlt hnd HROW
  go_enter Try.func19, Try.ntmps19
  go_upto_region 1 with fail
  refine wp_abs (F := fun W => Hid (Below w.heap.size w W) ∧ Hid (Cz W w.heap.size 26 #[.pointer (some ⟨d, 0, none⟩)]) ∧ Hid (Cz W (w.heap.size + 1) 49 #[.int .i64 3, .int .i64 100, .int .i64 60]) ∧ Hid (Cz W (w.heap.size + 2) 45 #[.string ⟨#[]⟩, .int .u64 0, .slice none 0 0])) ?_ ?_
  · have hz := cz3 w 26 49 45 #[.pointer (some ⟨d, 0, none⟩)] #[.int .i64 3, .int .i64 100, .int .i64 60] #[.string ⟨#[]⟩, .int .u64 0, .slice none 0 0]
    exact ⟨Lib.hid hz.1, Lib.hid hz.2.1, Lib.hid hz.2.2.1, Lib.hid hz.2.2.2⟩
  rintro W0 ⟨HB0, HX0, HC0, HK0⟩
  have c0 := HX0.out.c 0
  have k0 := HC0.out.c 0; have k1 := HC0.out.c 1; have k2 := HC0.out.c 2
  simp at c0 k0 k1 k2
  obtain ⟨b0, hb0⟩ : ∃ z, w.heap.size = z := ⟨_, rfl⟩
  have HBE := Lib.hid hb0
  obtain ⟨b2, hb2⟩ : ∃ z, w.heap.size + 1 + 1 = z := ⟨_, rfl⟩
  have HBE2 := Lib.hid hb2
  have HK0' : Hid (Cz W0 b2 45 #[.string ⟨#[]⟩, .int .u64 0, .slice none 0 0]) := by rw [← hb2]; exact HK0
  rw [hb2]
  clear HK0 hb2
  rw [hb0] at HX0 HC0 c0 k0 k1 k2 ⊢
  clear hb0
  go_wp2_with fail
  refine (HM.out W0 HB0.out).mono ?_
  rintro e w1 ⟨rfl, hb1⟩
  have HB1 := Lib.hid (HB0.out.trans (hb1.mono HB0.out.size))
  have HX1 := Lib.hid (HX0.out.step hb1); have HC1 := Lib.hid (HC0.out.step hb1); have HK1 := Lib.hid (HK0'.out.step hb1)
  clear hb1 c0 k0 k1 k2
  have c0 := HX1.out.c 0
  have k0 := HC1.out.c 0; have k1 := HC1.out.c 1; have k2 := HC1.out.c 2
  simp at c0 k0 k1 k2
  go_wp2_with fail
  refine (HRE.out w1 HB1.out).mono ?_
  rintro e w4 ⟨a, cap, rfl, hrow, hb4⟩
  have HB4 := Lib.hid (HB1.out.trans (hb4.mono HB1.out.size))
  have HX4 := Lib.hid (HX1.out.step hb4); have HK4 := Lib.hid (HK1.out.step hb4); have HC4 := Lib.hid (HC1.out.step hb4)
  obtain ⟨g, rfl⟩ : ∃ g, a = some ⟨g, 0, none⟩ := by
    rcases hrow.2 with ⟨h', hn'⟩ | ⟨g', cap', cur, h', _⟩
    · omega
    · simp only [Value.slice.injEq] at h'; exact ⟨g', h'.1⟩
  have HG : Hid (∀ k, k < 3 → w4.cell? ⟨g, k, none⟩ = some (.string (bs (D.now k)))) := Lib.hid (fun k hk => by
    rw [World.ownsRow.cellAt hrow k (by omega)]
    unfold filesV
    rw [List.getElem?_map, List.getElem?_range (by omega)]; rfl)
  have HGL : Hid (g < w4.heap.size) := Lib.hid (cell_lt (HG.out 0 (by omega)))
  clear hb4 hrow k0 k1 k2 c0 HX0 HC0 HB0 HX1 HC1 HB1 HK1 HK0' HM HRE
  go_wp2_with fail
  go_loopw [10, 11, 47] (fun va vf i wr => ∃ (k : Nat) (T : List Sm), k ≤ 3 ∧ i = .int .i64 k ∧ T.map smP = psF D.now k ∧ Hid (LpA w4 T va vf wr)) (fun _ _ i _ => 3 - (intOf i).toNat)
  case atStart => exact ⟨0, [], by omega, rfl, rfl, Lib.hid (LpA.nil w4)⟩
  case round =>
    obtain ⟨k, T, hk, rfl, hTP, HA⟩ := hrel
    by_cases hlt : k < 3
    · have HLTk := Lib.hid hlt; have HTP := Lib.hid hTP
      have hki : (k : Int) < 3 := by omega
      obtain ⟨s, hs⟩ : ∃ s, D.now k = s := ⟨_, rfl⟩
      have HSS := Lib.hid hs
      have cg := (HA.out.be.cell (p := ⟨g, k, none⟩) HGL.out).trans (HG.out k hlt)
      rw [hs] at cg
      have HPA := Lib.hid (seg_Parse s (by rw [← hs]; exact HNL.out k hlt) (by rw [← hs]; exact HT.out k hlt) wr)
      clear hs hTP
      go_wp2_with fail
      refine HPA.out.mono ?_
      rintro e w5 ⟨hres, hb5⟩
      have HA5 := Lib.hid (HA.out.step hb5)
      rcases hres with ⟨hno, er, her, rfl⟩ | ⟨x, ra, rcp, hyes, rfl, hrr⟩
      · go_wp2_with fail
        go_roundw
        case rel => exact ⟨k + 1, T, by have := HLTk.out; omega, by go_num, by rw [HTP.out, psF_none (by rw [HSS.out]; exact hno)], Lib.hid (HA5.out.step ((Below.refl _ _).alloc (Nat.le_refl _) _))⟩
        case measure => have := HLTk.out; simp [intOf]; omega
      · obtain ⟨kx, gx, fx, tx, rx, ux, wx⟩ := x
        obtain ⟨t, ht⟩ : ∃ t : Sm, t = (k, (⟨kx, gx, fx, tx, rx, ux, wx⟩ : Wl.Sg), Value.slice ra rx.length rcp) := ⟨_, rfl⟩
        have htr : RecAt w4.heap.size w5 t := by rw [ht]; exact ⟨ra, rcp, rfl, ownsRow_lower hrr HA.out.be.size⟩
        have htv : sgV t = (sgC kx gx fx tx (.slice ra rx.length rcp) ux wx).toList := by rw [ht]; rfl
        have hto : ∀ u ∈ sgV t, u.oneCell' = true := sgV_one t ⟨_, _, _, by rw [ht]⟩
        have htk : t.1 = k := by rw [ht]
        have htp : smP t = (k, (⟨kx, gx, fx, tx, rx, ux, wx⟩ : Wl.Sg)) := by rw [ht]; rfl
        have hTl : T.length ≤ 3 := by
          have h1 := psF_length D.now k
          rw [← HTP.out, List.length_map] at h1; omega
        obtain ⟨nT, hnT⟩ : ∃ z, T.length = z := ⟨_, rfl⟩
        have hbe := HA5.out.be.size
        have HTR := Lib.hid htr; have HTV := Lib.hid htv; have HTO := Lib.hid hto; have HTK := Lib.hid htk; have HTPP := Lib.hid htp
        obtain ⟨nr, hnr⟩ : ∃ z, rx.length = z := ⟨_, rfl⟩
        dsimp only
        rw [hnr] at HTV ⊢
        rw [hnT] at hTl
        have HNT := Lib.hid hnT
        have HAR : Hid (w5.ownsRow w4.heap.size 84 7 u10 nT (allF T)) := Lib.hid (by rw [← hnT]; exact HA5.out.ar)
        clear hrr ht htr htv hto htk htp hnr hnT
        go_wp2_with (first
          | (at_builtin; (refine wpList_append_own _ rfl _ _ 82 rfl w4.heap.size 84 i0 (.agg sg0) 7 80 Try.underlying82 hi hiz his hib rfl (by decide) u10 nT (allF T) rfl (ownBelow (ownBelow HAR.out ((Below.refl _ _).alloc (Nat.le_refl _) _)) ((Below.refl _ _).alloc (Nat.le_refl _) _)) ⟨w5.heap.size + 1, 0, none⟩ 1 1 (sgV t) rfl rfl (by rw [HTV.out]; exact World.news_of_block (by have := (MapKept.heap_alloc (w5.alloc (.cells (sgC kx gx fx tx (.slice ra nr rcp) ux wx) 84)) (.cells (sgC kx gx fx tx (.slice ra nr rcp) ux wx) 84)).1; simpa using this)) HTO.out (by unfold maxLen; omega) (by omega) (by simp; omega) ?_; intro v6 w6 hown6 hg6 _; have Hown6 := Lib.hid hown6; have Hg6 := Lib.hid hg6; clear hown6 hg6))
          | (at_builtin; (refine wpList_append_own _ rfl _ _ 60 rfl w4.heap.size 3 j0 (.int .i64 0) 1 8 Try.underlying60 hj hjz hjs hjb rfl (by decide) u11 nT (natsV (T.map (·.1))) rfl (by rw [← HNT.out]; exact LpA.fr1 ((HA5.out.step ((Below.refl _ _).alloc (Nat.le_refl _) _)).step ((Below.refl _ _).alloc (Nat.le_refl _) _)) Hg6.out ((Below.refl _ _).alloc (Nat.le_refl _) _)) ⟨w6.heap.size, 0, none⟩ 1 1 [.int .i64 (k : Int)] rfl rfl (World.news_of_block (MapKept.heap_alloc _ _).1) (by intro u hu; simp only [List.mem_cons, List.mem_nil_iff, or_false] at hu; rcases hu with rfl; rfl) (by unfold maxLen; omega) (by omega) (by have := Hg6.out.size; simp at this ⊢; omega) ?_; intro v7 w7 hown7 hg7 _; have Hown7 := Lib.hid hown7; have Hg7 := Lib.hid hg7; clear hown7 hg7))
          | fail)
        go_roundw
        case rel =>
          refine ⟨k + 1, T ++ [t], by have := HLTk.out; omega, by go_num, ?_, Lib.hid ?_⟩
          · rw [List.map_append, HTP.out, psF_some (by rw [HSS.out]; exact hyes)]; simp [HTPP.out]
          · have h1 := (HA5.out.step ((Below.refl w5.heap.size w5).alloc (Nat.le_refl _) (.cells (sgC kx gx fx tx (.slice ra nr rcp) ux wx) 84))).step ((Below.refl _ _).alloc (Nat.le_refl _) (.cells (sgC kx gx fx tx (.slice ra nr rcp) ux wx) 84))
            have h2 := (HTR.out.step ((Below.refl w5.heap.size w5).alloc (Nat.le_refl _) (.cells (sgC kx gx fx tx (.slice ra nr rcp) ux wx) 84))).step ((Below.refl _ _).alloc (Nat.le_refl _) (.cells (sgC kx gx fx tx (.slice ra nr rcp) ux wx) 84))
            exact h1.push h2 (by rw [HNT.out]; exact Hown6.out) Hg6.out ((Below.refl _ _).alloc (Nat.le_refl _) _) (by rw [HNT.out, HTK.out]; exact Hown7.out) Hg7.out
        case measure => have := HLTk.out; simp [intOf]; omega
    · obtain rfl : k = 3 := by omega
      obtain ⟨nR, hnR⟩ : ∃ z, rw.length = z := ⟨_, rfl⟩
      obtain ⟨r0, rr, hrw⟩ : ∃ r0 rr, rw = r0 :: rr := by
        cases hz : rw with
        | nil => have := HNE.out; rw [hz] at this; simp at this
        | cons a b => exact ⟨a, b, rfl⟩
      obtain ⟨nT, hnT⟩ : ∃ z, T.length = z := ⟨_, rfl⟩
      have hTP3 : (psF D.now 3).length = nT := by rw [← hTP, List.length_map, hnT]
      have hnT3 : nT ≤ 3 := by rw [← hTP3]; exact psF_length D.now 3
      have hr0 : r0 < nT := by rw [← hTP3]; exact HLT.out r0 (by rw [hrw]; simp)
      have HLT2 : Hid (∀ i ∈ rw, i < nT) := Lib.hid (by rw [← hTP3]; exact HLT.out)
      have hnR1 : 1 ≤ nR := by rw [← hnR]; exact HNE.out
      have hnR3 : nR ≤ 3 := by
        have h1 := List.Nodup.length_le_of_subset (l₁ := rw) (l₂ := List.range 3) HND.out (fun i hi => List.mem_range.2 (by have := HLT2.out i hi; omega))
        rw [hnR] at h1; simpa using h1
      have HROW := Lib.hid (HR0.out wr u10 T hTP (HA.out.sgs (by omega)))
      obtain ⟨ga, ca, hva, hgal, hcells⟩ := HA.out.sgs (by omega)
      rw [hnT] at hva
      have HRW := Lib.hid hrw; have HTP := Lib.hid hTP; have HNT := Lib.hid hnT; have HNR := Lib.hid hnR; have HCE := Lib.hid hcells
      unfold RowG at HROW
      rw [hnR] at HROW
      clear hlt hrw hTP hnT hnR hcells HR0 hTP3
      subst hva
      go_wp2_with fail
      refine HROW.out.mono ?_
      rintro e w8 ⟨ag, cpr, rfl, hrow, hb8⟩
      have HA8 := Lib.hid (HA.out.step hb8)
      obtain ⟨gr, rfl⟩ : ∃ g, ag = some ⟨g, 0, none⟩ := by
        rcases hrow.2 with ⟨h', hn'⟩ | ⟨g', cap', cur, h', _⟩
        · omega
        · simp only [Value.slice.injEq] at h'; exact ⟨g', h'.1⟩
      have HRC : Hid (∀ i, i < nR → w8.cell? ⟨gr, i, none⟩ = some (.int .i64 ((rw.getD i 0 : Nat) : Int))) := Lib.hid (fun i hi => by
        rw [World.ownsRow.cellAt hrow i (by omega)]
        unfold natsV
        rw [List.getElem?_map, List.getElem?_eq_getElem (by rw [HNR.out]; exact hi), List.getD_eq_getElem?_getD, List.getElem?_eq_getElem (by rw [HNR.out]; exact hi)]; rfl)
      have HCE8 : Hid (∀ (i : Nat) (t : Sm), T[i]? = some t → ∀ (j : Nat) (u : Value), (sgV t)[j]? = some u → w8.cell? ⟨ga, i * 7 + j, none⟩ = some u) := Lib.hid (fun i t ht j u hu => (hb8.cell (p := ⟨ga, i * 7 + j, none⟩) hgal).trans ((HCE.out i t ht).2 j u hu))
      have HGR : Hid (gr < w8.heap.size) := Lib.hid (cell_lt (HRC.out 0 (by omega)))
      have HGA : Hid (ga < w8.heap.size) := Lib.hid (by have := hb8.size; omega)
      clear hrow hb8 HCE HROW HA hgal
      have HX8 := Lib.hid (HX4.out.step HA8.out.be); have HC8 := Lib.hid (HC4.out.step HA8.out.be)
      have c0 := HX8.out.c 0
      have k0 := HC8.out.c 0; have k1 := HC8.out.c 1; have k2 := HC8.out.c 2
      simp at c0 k0 k1 k2
      go_upto_region 20 with fail
      have hb9 : Below w8.heap.size w8 (w8.alloc (.cells #[.pointer (some ⟨d, 0, none⟩), .int .i64 3, .int .i64 100, .int .i64 60, .int .u64 0, .int .u64 0, .int .u64 0, .slice none 0 0, .slice none 0 0, .int .i64 0, .int .i64 0] 62)) := (Below.refl _ _).alloc (Nat.le_refl _) _
      have hx9 : Cz (w8.alloc (.cells #[.pointer (some ⟨d, 0, none⟩), .int .i64 3, .int .i64 100, .int .i64 60, .int .u64 0, .int .u64 0, .int .u64 0, .slice none 0 0, .slice none 0 0, .int .i64 0, .int .i64 0] 62)) w8.heap.size 62 (walC d 0 0 0 (.slice none 0 0) (.slice none 0 0)) := Cz.new _ _ _
      have hs9 : (w8.alloc (.cells #[.pointer (some ⟨d, 0, none⟩), .int .i64 3, .int .i64 100, .int .i64 60, .int .u64 0, .int .u64 0, .int .u64 0, .slice none 0 0, .slice none 0 0, .int .i64 0, .int .i64 0] 62)).heap.size = w8.heap.size + 1 := by simp
      generalize (w8.alloc (.cells #[.pointer (some ⟨d, 0, none⟩), .int .i64 3, .int .i64 100, .int .i64 60, .int .u64 0, .int .u64 0, .int .u64 0, .slice none 0 0, .slice none 0 0, .int .i64 0, .int .i64 0] 62)) = w9 at hb9 hx9 hs9 ⊢
      have HB9 := Lib.hid hb9; have HX9 := Lib.hid hx9; have HS9 := Lib.hid hs9
      obtain ⟨x, hx⟩ : ∃ z, w8.heap.size = z := ⟨_, rfl⟩
      rw [hx] at HB9 HX9 HS9 HGR HGA ⊢
      have HXE := Lib.hid hx
      clear hb9 hx9 hs9 hx c0 k0 k1 k2
      obtain ⟨ts, hts⟩ : ∃ ts, T[r0]? = some ts := ⟨_, List.getElem?_eq_getElem (by rw [HNT.out]; exact hr0)⟩
      have HTS := Lib.hid hts
      obtain ⟨t0, ht0⟩ : ∃ z, ts.2.1.text = z := ⟨_, rfl⟩
      obtain ⟨f0, hf0⟩ : ∃ z, ts.2.1.first = z := ⟨_, rfl⟩
      have z1 : w9.cell? ⟨gr, 0, none⟩ = some (.int .i64 (r0 : Int)) := (HB9.out.cell (p := ⟨gr, 0, none⟩) HGR.out).trans ((HRC.out 0 (by omega)).trans (by rw [HRW.out]; rfl))
      have z2 : w9.cell? ⟨ga, r0 * 7 + 3, none⟩ = some (.string (bs t0)) := (HB9.out.cell (p := ⟨ga, r0 * 7 + 3, none⟩) HGA.out).trans (HCE8.out r0 ts hts 3 _ (by rw [← ht0]; rfl))
      have z3 : w9.cell? ⟨ga, r0 * 7 + 2, none⟩ = some (.int .u64 (f0 : Int)) := (HB9.out.cell (p := ⟨ga, r0 * 7 + 2, none⟩) HGA.out).trans (HCE8.out r0 ts hts 2 _ (by rw [← hf0]; rfl))
      have HT0 := Lib.hid ht0; have HF0 := Lib.hid hf0
      have hr0i : (r0 : Int) < (nT : Int) := by omega
      have hnRi : (0 : Int) < (nR : Int) := by omega
      have hnR0 : ¬ nR = 0 := by omega
      have lgr : gr < w9.heap.size := by have := HGR.out; have := HS9.out; omega
      have lga : ga < w9.heap.size := by have := HGA.out; have := HS9.out; omega
      clear hts ht0 hf0
      refine wp_region_held_drew (S := fun w' => Hid (Below w9.heap.size w9 w')) (by kernel_rfl) (Lib.hid (Below.drew (Below.refl _ _))) (fun hS => ?_)
      refine wpAnyH_take (i := 0) (v := .slice (some ⟨ga, 0, none⟩) nT ca) rfl (by kernel_rfl) (by kernel_rfl) (by kernel_rfl) (fun _ _ _ h => h) (Or.inl ⟨by rfl, fun w' hw => ?_⟩) hS ?_
      · have e1 := (hw.out.cell (p := ⟨gr, 0, none⟩) lgr).trans z1; have e2 := (hw.out.cell (p := ⟨ga, r0 * 7 + 3, none⟩) lga).trans z2; have e3 := (hw.out.cell (p := ⟨ga, r0 * 7 + 2, none⟩) lga).trans z3
        go_simp
      simp only [Act.put, List.getElem_toArray, List.getElem_cons_zero, List.setIfInBounds_toArray, List.set_cons_zero, List.set_cons_succ]
      refine wpAnyH_take (i := 1) (v := .slice (some ⟨gr, 0, none⟩) nR cpr) rfl (by kernel_rfl) (by kernel_rfl) (by kernel_rfl) (fun _ _ _ h => h) (Or.inl ⟨by rfl, fun w' hw => ?_⟩) hS ?_
      · have e1 := (hw.out.cell (p := ⟨gr, 0, none⟩) lgr).trans z1; have e2 := (hw.out.cell (p := ⟨ga, r0 * 7 + 3, none⟩) lga).trans z2; have e3 := (hw.out.cell (p := ⟨ga, r0 * 7 + 2, none⟩) lga).trans z3
        go_simp
      simp only [Act.put, List.getElem_toArray, List.getElem_cons_succ, List.getElem_cons_zero, List.setIfInBounds_toArray, List.set_cons_zero, List.set_cons_succ]
      refine wpAnyH_take (i := 2) (v := .pointer (some ⟨gr, 0, none⟩)) rfl (by kernel_rfl) (by kernel_rfl) (by kernel_rfl) (fun _ _ _ h => h) (Or.inl ⟨by rfl, fun w' hw => ?_⟩) hS ?_
      · have e1 := (hw.out.cell (p := ⟨gr, 0, none⟩) lgr).trans z1; have e2 := (hw.out.cell (p := ⟨ga, r0 * 7 + 3, none⟩) lga).trans z2; have e3 := (hw.out.cell (p := ⟨ga, r0 * 7 + 2, none⟩) lga).trans z3
        go_simp
      simp only [Act.put, List.getElem_toArray, List.getElem_cons_succ, List.getElem_cons_zero, List.setIfInBounds_toArray, List.set_cons_zero, List.set_cons_succ]
      refine wpAnyH_take (i := 3) (v := .int .i64 (r0 : Int)) rfl (by kernel_rfl) (by kernel_rfl) (by kernel_rfl) (fun _ _ _ h => h) (Or.inl ⟨by rfl, fun w' hw => ?_⟩) hS ?_
      · have e1 := (hw.out.cell (p := ⟨gr, 0, none⟩) lgr).trans z1; have e2 := (hw.out.cell (p := ⟨ga, r0 * 7 + 3, none⟩) lga).trans z2; have e3 := (hw.out.cell (p := ⟨ga, r0 * 7 + 2, none⟩) lga).trans z3
        go_simp
      simp only [Act.put, List.getElem_toArray, List.getElem_cons_succ, List.getElem_cons_zero, List.setIfInBounds_toArray, List.set_cons_zero, List.set_cons_succ]
      refine wpAnyH_take (i := 4) (v := .pointer (some ⟨ga, r0 * 7, none⟩)) rfl (by kernel_rfl) (by kernel_rfl) (by kernel_rfl) (fun _ _ _ h => h) (Or.inl ⟨by rfl, fun w' hw => ?_⟩) hS ?_
      · have e1 := (hw.out.cell (p := ⟨gr, 0, none⟩) lgr).trans z1; have e2 := (hw.out.cell (p := ⟨ga, r0 * 7 + 3, none⟩) lga).trans z2; have e3 := (hw.out.cell (p := ⟨ga, r0 * 7 + 2, none⟩) lga).trans z3
        go_simp
      simp only [Act.put, List.getElem_toArray, List.getElem_cons_succ, List.getElem_cons_zero, List.setIfInBounds_toArray, List.set_cons_zero, List.set_cons_succ]
      refine wpAnyH_take (i := 5) (v := .pointer (some ⟨ga, r0 * 7 + 3, none⟩)) rfl (by kernel_rfl) (by kernel_rfl) (by kernel_rfl) (fun _ _ _ h => h) (Or.inl ⟨by rfl, fun w' hw => ?_⟩) hS ?_
      · have e1 := (hw.out.cell (p := ⟨gr, 0, none⟩) lgr).trans z1; have e2 := (hw.out.cell (p := ⟨ga, r0 * 7 + 3, none⟩) lga).trans z2; have e3 := (hw.out.cell (p := ⟨ga, r0 * 7 + 2, none⟩) lga).trans z3
        go_simp
      simp only [Act.put, List.getElem_toArray, List.getElem_cons_succ, List.getElem_cons_zero, List.setIfInBounds_toArray, List.set_cons_zero, List.set_cons_succ]
      refine wpAnyH_take (i := 6) (v := .string (bs t0)) rfl (by kernel_rfl) (by kernel_rfl) (by kernel_rfl) (fun _ _ _ h => h) (Or.inl ⟨by rfl, fun w' hw => ?_⟩) hS ?_
      · have e1 := (hw.out.cell (p := ⟨gr, 0, none⟩) lgr).trans z1; have e2 := (hw.out.cell (p := ⟨ga, r0 * 7 + 3, none⟩) lga).trans z2; have e3 := (hw.out.cell (p := ⟨ga, r0 * 7 + 2, none⟩) lga).trans z3
        go_simp
      simp only [Act.put, List.getElem_toArray, List.getElem_cons_succ, List.getElem_cons_zero, List.setIfInBounds_toArray, List.set_cons_zero, List.set_cons_succ]
      refine wpAnyH_take (i := 7) (v := .slice (some ⟨ga, 0, none⟩) nT ca) rfl (by kernel_rfl) (by kernel_rfl) (by kernel_rfl) (fun _ _ _ h => h) (Or.inl ⟨by rfl, fun w' hw => ?_⟩) hS ?_
      · have e1 := (hw.out.cell (p := ⟨gr, 0, none⟩) lgr).trans z1; have e2 := (hw.out.cell (p := ⟨ga, r0 * 7 + 3, none⟩) lga).trans z2; have e3 := (hw.out.cell (p := ⟨ga, r0 * 7 + 2, none⟩) lga).trans z3
        go_simp
      simp only [Act.put, List.getElem_toArray, List.getElem_cons_succ, List.getElem_cons_zero, List.setIfInBounds_toArray, List.set_cons_zero, List.set_cons_succ]
      refine wpAnyH_take (i := 8) (v := .slice (some ⟨gr, 0, none⟩) nR cpr) rfl (by kernel_rfl) (by kernel_rfl) (by kernel_rfl) (fun _ _ _ h => h) (Or.inl ⟨by rfl, fun w' hw => ?_⟩) hS ?_
      · have e1 := (hw.out.cell (p := ⟨gr, 0, none⟩) lgr).trans z1; have e2 := (hw.out.cell (p := ⟨ga, r0 * 7 + 3, none⟩) lga).trans z2; have e3 := (hw.out.cell (p := ⟨ga, r0 * 7 + 2, none⟩) lga).trans z3
        go_simp
      simp only [Act.put, List.getElem_toArray, List.getElem_cons_succ, List.getElem_cons_zero, List.setIfInBounds_toArray, List.set_cons_zero, List.set_cons_succ]
      refine wpAnyH_take (i := 9) (v := .pointer (some ⟨gr, 0, none⟩)) rfl (by kernel_rfl) (by kernel_rfl) (by kernel_rfl) (fun _ _ _ h => h) (Or.inl ⟨by rfl, fun w' hw => ?_⟩) hS ?_
      · have e1 := (hw.out.cell (p := ⟨gr, 0, none⟩) lgr).trans z1; have e2 := (hw.out.cell (p := ⟨ga, r0 * 7 + 3, none⟩) lga).trans z2; have e3 := (hw.out.cell (p := ⟨ga, r0 * 7 + 2, none⟩) lga).trans z3
        go_simp
      simp only [Act.put, List.getElem_toArray, List.getElem_cons_succ, List.getElem_cons_zero, List.setIfInBounds_toArray, List.set_cons_zero, List.set_cons_succ]
      refine wpAnyH_take (i := 10) (v := .int .i64 (r0 : Int)) rfl (by kernel_rfl) (by kernel_rfl) (by kernel_rfl) (fun _ _ _ h => h) (Or.inl ⟨by rfl, fun w' hw => ?_⟩) hS ?_
      · have e1 := (hw.out.cell (p := ⟨gr, 0, none⟩) lgr).trans z1; have e2 := (hw.out.cell (p := ⟨ga, r0 * 7 + 3, none⟩) lga).trans z2; have e3 := (hw.out.cell (p := ⟨ga, r0 * 7 + 2, none⟩) lga).trans z3
        go_simp
      simp only [Act.put, List.getElem_toArray, List.getElem_cons_succ, List.getElem_cons_zero, List.setIfInBounds_toArray, List.set_cons_zero, List.set_cons_succ]
      refine wpAnyH_take (i := 11) (v := .pointer (some ⟨ga, r0 * 7, none⟩)) rfl (by kernel_rfl) (by kernel_rfl) (by kernel_rfl) (fun _ _ _ h => h) (Or.inl ⟨by rfl, fun w' hw => ?_⟩) hS ?_
      · have e1 := (hw.out.cell (p := ⟨gr, 0, none⟩) lgr).trans z1; have e2 := (hw.out.cell (p := ⟨ga, r0 * 7 + 3, none⟩) lga).trans z2; have e3 := (hw.out.cell (p := ⟨ga, r0 * 7 + 2, none⟩) lga).trans z3
        go_simp
      simp only [Act.put, List.getElem_toArray, List.getElem_cons_succ, List.getElem_cons_zero, List.setIfInBounds_toArray, List.set_cons_zero, List.set_cons_succ]
      refine wpAnyH_take (i := 12) (v := .pointer (some ⟨ga, r0 * 7 + 2, none⟩)) rfl (by kernel_rfl) (by kernel_rfl) (by kernel_rfl) (fun _ _ _ h => h) (Or.inl ⟨by rfl, fun w' hw => ?_⟩) hS ?_
      · have e1 := (hw.out.cell (p := ⟨gr, 0, none⟩) lgr).trans z1; have e2 := (hw.out.cell (p := ⟨ga, r0 * 7 + 3, none⟩) lga).trans z2; have e3 := (hw.out.cell (p := ⟨ga, r0 * 7 + 2, none⟩) lga).trans z3
        go_simp
      simp only [Act.put, List.getElem_toArray, List.getElem_cons_succ, List.getElem_cons_zero, List.setIfInBounds_toArray, List.set_cons_zero, List.set_cons_succ]
      refine wpAnyH_take (i := 13) (v := .int .u64 (f0 : Int)) rfl (by kernel_rfl) (by kernel_rfl) (by kernel_rfl) (fun _ _ _ h => h) (Or.inl ⟨by rfl, fun w' hw => ?_⟩) hS ?_
      · have e1 := (hw.out.cell (p := ⟨gr, 0, none⟩) lgr).trans z1; have e2 := (hw.out.cell (p := ⟨ga, r0 * 7 + 3, none⟩) lga).trans z2; have e3 := (hw.out.cell (p := ⟨ga, r0 * 7 + 2, none⟩) lga).trans z3
        go_simp
      simp only [Act.put, List.getElem_toArray, List.getElem_cons_succ, List.getElem_cons_zero, List.setIfInBounds_toArray, List.set_cons_zero, List.set_cons_succ]
      refine wpAnyH_take (i := 14) (v := .agg (kepC t0 f0 (.slice none 0 0))) rfl (by kernel_rfl) (by kernel_rfl) (by kernel_rfl) (fun _ _ _ h => h) (Or.inl ⟨by rfl, fun w' hw => ?_⟩) hS ?_
      · have e1 := (hw.out.cell (p := ⟨gr, 0, none⟩) lgr).trans z1; have e2 := (hw.out.cell (p := ⟨ga, r0 * 7 + 3, none⟩) lga).trans z2; have e3 := (hw.out.cell (p := ⟨ga, r0 * 7 + 2, none⟩) lga).trans z3
        go_simp
      simp only [Act.put, List.getElem_toArray, List.getElem_cons_succ, List.getElem_cons_zero, List.setIfInBounds_toArray, List.set_cons_zero, List.set_cons_succ]
      refine wpAnyH_ready (rs := [15]) (by kernel_rfl) (by simp) ?_
      refine AllReadyH.cons rfl (fun K hK => ?_) AllReadyH.nil
      rw [if_pos (by rfl)]
      go_simp
      refine hK.out _ _ (Lib.hid (hS.out.alloc (by simp) _)) (fun hS => ?_)
      clear hK
      (try go_frame)
      refine wpAnyH_ready (rs := [16]) (by kernel_rfl) (by simp) ?_
      refine AllReadyH.cons rfl (fun K hK => ?_) AllReadyH.nil
      rw [if_pos (by rfl)]
      go_simp
      refine hK.out _ _ (Lib.hid (Below.drew ((Below.refl _ _).alloc (Nat.le_refl _) _))) (fun hS => ?_)
      clear hK
      (try go_frame)
      refine wpAnyH_done (by kernel_rfl) ?_ _
      clear hS z1 z2 z3 lgr lga
      have hb10 : Below w9.heap.size w9 (w9.alloc (.cells #[.string (bs t0), .int .u64 (f0 : Int), .slice none 0 0] 45)).drew := Below.drew ((Below.refl _ _).alloc (Nat.le_refl _) _)
      have hk10 : Cz (w9.alloc (.cells #[.string (bs t0), .int .u64 (f0 : Int), .slice none 0 0] 45)).drew w9.heap.size 45 (kepC t0 f0 (.slice none 0 0)) := Cz.new w9 _ _
      have hs10 : (w9.alloc (.cells #[.string (bs t0), .int .u64 (f0 : Int), .slice none 0 0] 45)).drew.heap.size = w9.heap.size + 1 := by simp
      generalize (w9.alloc (.cells #[.string (bs t0), .int .u64 (f0 : Int), .slice none 0 0] 45)).drew = w10 at hb10 hk10 hs10 ⊢
      have HB10 := Lib.hid hb10; have HK10 := Lib.hid hk10; have HS10 := Lib.hid hs10
      obtain ⟨kb, hkb⟩ : ∃ z, w9.heap.size = z := ⟨_, rfl⟩
      rw [hkb] at HB10 HK10 HS10 ⊢
      have HKE := Lib.hid hkb
      clear hb10 hk10 hs10 hkb
      have hmm := @run_makeMap Try.prog
      go_wp2_with fail
      have HLS : Hid (LpF w8 d b0 x kb w10.heap.size 0 (lqOf t0 f0 []) (.slice none 0 0) (.slice none 0 0) (.slice none 0 0) (.slice none 0 0) [] (w10.alloc (.map #[] 0))) := Lib.hid (LpF.start ((show Below w8.heap.size w8 w9 by rw [HXE.out]; exact HB9.out).trans ((show Below w9.heap.size w9 w10 by rw [HKE.out]; exact HB10.out).mono (by have := HS9.out; have := HXE.out; omega))) (HX9.out.step (by rw [HKE.out]; exact HB10.out)) HK10.out ((HX8.out.step (by rw [HXE.out]; exact HB9.out)).step (by rw [HKE.out]; exact HB10.out)) (by have := HXE.out; omega) (by have := HXE.out; have := HS9.out; have := HKE.out; omega))
      obtain ⟨m, hm⟩ : ∃ z, w10.heap.size = z := ⟨_, rfl⟩
      rw [hm] at HLS ⊢
      obtain ⟨af, cf, rfl⟩ := ownShape HA8.out.fr
      obtain ⟨gf, rfl⟩ : ∃ g, af = some ⟨g, 0, none⟩ := by
        rcases HA8.out.fr.2 with ⟨h', hn'⟩ | ⟨g', cap', cur, h', _⟩
        · have := HNT.out; omega
        · simp only [Value.slice.injEq] at h'; exact ⟨g', h'.1⟩
      have HGF : Hid (∀ (i : Nat) (t : Sm), T[i]? = some t → w8.cell? ⟨gf, i, none⟩ = some (.int .i64 (t.1 : Int))) := Lib.hid (fun i t ht => by
        have hi : i < T.length := (List.getElem?_eq_some_iff.1 ht).1
        rw [World.ownsRow.cellAt HA8.out.fr i (by omega)]
        unfold natsV
        rw [List.getElem?_map, List.getElem?_map, ht]; rfl)
      rw [HNT.out]
      have HPD : Hid ((psF D.now 3).length = nT) := Lib.hid (by rw [← HTP.out, List.length_map, HNT.out])
      have HBND : Hid (∀ y ∈ psF D.now 3, y.2.first + y.2.recs.length ≤ 281474976710656 ∧ y.2.used ≤ 1000000 ∧ y.2.recs.length ≤ 1000000 ∧ y.1 < 3) := Lib.hid (fun y hy => by
        have h1 := psF_mem hy
        have h2 := parse_bound h1.2 (HT.out _ h1.1)
        have h3 := HNL.out _ h1.1
        omega)
      have hnR3' : nR ≤ 3 := hnR3
      clear hm HB10 HK10 HS10 HB9 HX9 HS9 hS
      go_loopw [20, 98] (fun cv i wr => ∃ (q : Nat) (fv sv rv : Value) (cvs : List Value), q ≤ nR ∧ i = .int .i64 q ∧ Hid (LpF w8 d b0 x kb m q (lqOf t0 f0 (gsOf (psF D.now 3) (rw.take q))) fv sv rv cv cvs wr)) (fun _ i _ => nR - (intOf i).toNat)
      case atStart => exact ⟨0, _, _, _, _, Nat.zero_le _, rfl, HLS⟩
      case round =>
        obtain ⟨q, fv, sv, rv, cvs, hq, rfl, HLP⟩ := hrel
        clear HLS
        by_cases hlt : q < nR
        · have HQ := Lib.hid hlt
          have hqi : (q : Int) < (nR : Int) := by omega
          obtain ⟨ri, hri⟩ : ∃ z, rw.getD q 0 = z := ⟨_, rfl⟩
          have hrl : ri < nT := by
            refine HLT2.out ri ?_
            rw [← hri, List.getD_eq_getElem?_getD, List.getElem?_eq_getElem (by rw [HNR.out]; exact hlt)]
            exact List.getElem_mem _
          obtain ⟨tt, htt⟩ : ∃ tt, T[ri]? = some tt := ⟨_, List.getElem?_eq_getElem (by rw [HNT.out]; exact hrl)⟩
          have HREC := Lib.hid (HA8.out.rs tt (List.mem_of_getElem? htt))
          have HPG : Hid ((psF D.now 3).getD ri (0, sgZ) = smP tt) := Lib.hid (by rw [← HTP.out, List.getD_eq_getElem?_getD, List.getElem?_map, htt]; rfl)
          have HBN := Lib.hid (HBND.out (smP tt) (by rw [← HTP.out]; exact List.mem_map.2 ⟨tt, List.mem_of_getElem? htt, rfl⟩))
          have HNEW := Lib.hid (gsOf_new (psF_nodup D.now 3) HND.out (fun i hi => by rw [HPD.out]; exact HLT2.out i hi) q (by rw [HNR.out]; exact hlt))
          have HTAKE := Lib.hid (gsOf_take (psF D.now 3) rw q (by rw [HNR.out]; exact hlt))
          rw [hri] at HNEW HTAKE
          rw [HPG.out] at HNEW HTAKE
          obtain ⟨Gq, hGq⟩ : ∃ z, gsOf (psF D.now 3) (rw.take q) = z := ⟨_, rfl⟩
          rw [hGq] at HNEW HTAKE HLP
          have p7' := HGF.out ri tt htt
          have pc := HCE8.out ri tt htt
          have pq := HRC.out q hlt
          rw [hri] at pq
          obtain ⟨fl, ⟨kx, gx, fx, tx, rx, ux, wx⟩, rv0⟩ := tt
          obtain ⟨ra, rcp, hrv, HROWN⟩ := HREC.out
          dsimp only at hrv HROWN HNEW HTAKE HBN p7' pc
          subst hrv
          obtain ⟨nr, hnr⟩ : ∃ z, rx.length = z := ⟨_, rfl⟩
          have HNRX := Lib.hid hnr
          unfold sgV at pc
          dsimp only at pc
          rw [hnr] at pc
          have lga : ga < wr.heap.size := by have := HGA.out; have := HXE.out; have := HLP.out.be.size; omega
          have lgf : gf < wr.heap.size := by have := cell_lt p7'; have := HLP.out.be.size; omega
          have lgr : gr < w8.heap.size := by have := HGR.out; have := HXE.out; omega
          have keep : ∀ (b o : Nat) (u : Value), b < w8.heap.size → w8.cell? ⟨b, o, none⟩ = some u → wr.cell? ⟨b, o, none⟩ = some u := fun b o u hb hc => (HLP.out.be.cell (p := ⟨b, o, none⟩) hb).trans hc
          have lga8 : ga < w8.heap.size := by have := HGA.out; have := HXE.out; omega
          have p0 : wr.cell? ⟨ga, ri * 7, none⟩ = some (.int .u8 (kx : Int)) := keep _ _ _ lga8 (pc 0 _ rfl)
          have p1 : wr.cell? ⟨ga, ri * 7 + 1, none⟩ = some (.int .u64 (gx : Int)) := keep _ _ _ lga8 (pc 1 _ rfl)
          have p2 : wr.cell? ⟨ga, ri * 7 + 2, none⟩ = some (.int .u64 (fx : Int)) := keep _ _ _ lga8 (pc 2 _ rfl)
          have p3 : wr.cell? ⟨ga, ri * 7 + 3, none⟩ = some (.string (bs tx)) := keep _ _ _ lga8 (pc 3 _ rfl)
          have p4 : wr.cell? ⟨ga, ri * 7 + 4, none⟩ = some (.slice ra nr rcp) := keep _ _ _ lga8 (pc 4 _ rfl)
          have p5 : wr.cell? ⟨ga, ri * 7 + 5, none⟩ = some (.int .i64 (ux : Int)) := keep _ _ _ lga8 (pc 5 _ rfl)
          have p6 : wr.cell? ⟨ga, ri * 7 + 6, none⟩ = some (.bool wx) := keep _ _ _ lga8 (pc 6 _ rfl)
          have p7 : wr.cell? ⟨gf, ri, none⟩ = some (.int .i64 (fl : Int)) := keep _ _ _ (cell_lt p7') p7'
          have p8 : wr.cell? ⟨gr, q, none⟩ = some (.int .i64 (ri : Int)) := keep _ _ _ lgr pq
          have hrli : (ri : Int) < (nT : Int) := by omega
          have HRL := Lib.hid hrl; have HGQ := Lib.hid hGq; have HRI := Lib.hid hri
          clear htt HREC hri hGq pc pq keep p7' hnr lgr lga8
          go_upto_region 26 with fail
          clear p8
          go_cut [23, 24] (fun s23 s24 wx2 => ∃ b23 b24 : Nat, s23 = .pointer (some ⟨b23, 0, none⟩) ∧ s24 = .pointer (some ⟨b24, 0, none⟩) ∧ b23 ≠ b24 ∧ wr.heap.size ≤ b23 ∧ wr.heap.size ≤ b24 ∧ Hid (Cz wx2 b23 84 (sgC kx gx fx tx (.slice ra nr rcp) ux wx)) ∧ Hid (Cz wx2 b24 3 #[.int .i64 (fl : Int)]) ∧ Hid (Below wr.heap.size wr wx2))
          case first =>
                refine wp_region_held_drew (S := fun w' => Hid (Below wr.heap.size wr w')) (by kernel_rfl) (Lib.hid (Below.drew (Below.refl _ _))) (fun hS => ?_)
                have hX0b : Below wr.heap.size wr wr.drew := Below.drew (Below.refl _ _)
                generalize wr.drew = X0 at hS hX0b ⊢
                refine wpAnyH_take (i := 0) (v := .slice (some ⟨ga, 0, none⟩) nT ca) rfl (by kernel_rfl) (by kernel_rfl) (by kernel_rfl) (fun _ _ _ h => h) (Or.inl ⟨by rfl, fun w' hw => ?_⟩) hS ?_
                · have e0 := (hw.out.cell (p := ⟨ga, ri * 7, none⟩) lga).trans p0; have e1 := (hw.out.cell (p := ⟨ga, ri * 7 + 1, none⟩) lga).trans p1; have e2 := (hw.out.cell (p := ⟨ga, ri * 7 + 2, none⟩) lga).trans p2; have e3 := (hw.out.cell (p := ⟨ga, ri * 7 + 3, none⟩) lga).trans p3; have e4 := (hw.out.cell (p := ⟨ga, ri * 7 + 4, none⟩) lga).trans p4; have e5 := (hw.out.cell (p := ⟨ga, ri * 7 + 5, none⟩) lga).trans p5; have e6 := (hw.out.cell (p := ⟨ga, ri * 7 + 6, none⟩) lga).trans p6; have e7 := (hw.out.cell (p := ⟨gf, ri, none⟩) lgf).trans p7
                  go_simp
                simp only [Act.put, List.getElem_toArray, List.getElem_cons_zero, List.setIfInBounds_toArray, List.set_cons_zero, List.set_cons_succ]
                refine wpAnyH_take (i := 1) (v := .int .i64 (ri : Int)) rfl (by kernel_rfl) (by kernel_rfl) (by kernel_rfl) (fun _ _ _ h => h) (Or.inl ⟨by rfl, fun w' hw => ?_⟩) hS ?_
                · have e0 := (hw.out.cell (p := ⟨ga, ri * 7, none⟩) lga).trans p0; have e1 := (hw.out.cell (p := ⟨ga, ri * 7 + 1, none⟩) lga).trans p1; have e2 := (hw.out.cell (p := ⟨ga, ri * 7 + 2, none⟩) lga).trans p2; have e3 := (hw.out.cell (p := ⟨ga, ri * 7 + 3, none⟩) lga).trans p3; have e4 := (hw.out.cell (p := ⟨ga, ri * 7 + 4, none⟩) lga).trans p4; have e5 := (hw.out.cell (p := ⟨ga, ri * 7 + 5, none⟩) lga).trans p5; have e6 := (hw.out.cell (p := ⟨ga, ri * 7 + 6, none⟩) lga).trans p6; have e7 := (hw.out.cell (p := ⟨gf, ri, none⟩) lgf).trans p7
                  go_simp
                simp only [Act.put, List.getElem_toArray, List.getElem_cons_succ, List.getElem_cons_zero, List.setIfInBounds_toArray, List.set_cons_zero, List.set_cons_succ]
                refine wpAnyH_take (i := 2) (v := .pointer (some ⟨ga, ri * 7, none⟩)) rfl (by kernel_rfl) (by kernel_rfl) (by kernel_rfl) (fun _ _ _ h => h) (Or.inl ⟨by rfl, fun w' hw => ?_⟩) hS ?_
                · have e0 := (hw.out.cell (p := ⟨ga, ri * 7, none⟩) lga).trans p0; have e1 := (hw.out.cell (p := ⟨ga, ri * 7 + 1, none⟩) lga).trans p1; have e2 := (hw.out.cell (p := ⟨ga, ri * 7 + 2, none⟩) lga).trans p2; have e3 := (hw.out.cell (p := ⟨ga, ri * 7 + 3, none⟩) lga).trans p3; have e4 := (hw.out.cell (p := ⟨ga, ri * 7 + 4, none⟩) lga).trans p4; have e5 := (hw.out.cell (p := ⟨ga, ri * 7 + 5, none⟩) lga).trans p5; have e6 := (hw.out.cell (p := ⟨ga, ri * 7 + 6, none⟩) lga).trans p6; have e7 := (hw.out.cell (p := ⟨gf, ri, none⟩) lgf).trans p7
                  go_simp
                simp only [Act.put, List.getElem_toArray, List.getElem_cons_succ, List.getElem_cons_zero, List.setIfInBounds_toArray, List.set_cons_zero, List.set_cons_succ]
                refine wpAnyH_take (i := 3) (v := .agg (sgC kx gx fx tx (.slice ra nr rcp) ux wx)) rfl (by kernel_rfl) (by kernel_rfl) (by kernel_rfl) (fun _ _ _ h => h) (Or.inl ⟨by rfl, fun w' hw => ?_⟩) hS ?_
                · have e0 := (hw.out.cell (p := ⟨ga, ri * 7, none⟩) lga).trans p0; have e1 := (hw.out.cell (p := ⟨ga, ri * 7 + 1, none⟩) lga).trans p1; have e2 := (hw.out.cell (p := ⟨ga, ri * 7 + 2, none⟩) lga).trans p2; have e3 := (hw.out.cell (p := ⟨ga, ri * 7 + 3, none⟩) lga).trans p3; have e4 := (hw.out.cell (p := ⟨ga, ri * 7 + 4, none⟩) lga).trans p4; have e5 := (hw.out.cell (p := ⟨ga, ri * 7 + 5, none⟩) lga).trans p5; have e6 := (hw.out.cell (p := ⟨ga, ri * 7 + 6, none⟩) lga).trans p6; have e7 := (hw.out.cell (p := ⟨gf, ri, none⟩) lgf).trans p7
                  go_simp
                simp only [Act.put, List.getElem_toArray, List.getElem_cons_succ, List.getElem_cons_zero, List.setIfInBounds_toArray, List.set_cons_zero, List.set_cons_succ]
                refine wpAnyH_take (i := 4) (v := .slice (some ⟨gf, 0, none⟩) nT cf) rfl (by kernel_rfl) (by kernel_rfl) (by kernel_rfl) (fun _ _ _ h => h) (Or.inl ⟨by rfl, fun w' hw => ?_⟩) hS ?_
                · have e0 := (hw.out.cell (p := ⟨ga, ri * 7, none⟩) lga).trans p0; have e1 := (hw.out.cell (p := ⟨ga, ri * 7 + 1, none⟩) lga).trans p1; have e2 := (hw.out.cell (p := ⟨ga, ri * 7 + 2, none⟩) lga).trans p2; have e3 := (hw.out.cell (p := ⟨ga, ri * 7 + 3, none⟩) lga).trans p3; have e4 := (hw.out.cell (p := ⟨ga, ri * 7 + 4, none⟩) lga).trans p4; have e5 := (hw.out.cell (p := ⟨ga, ri * 7 + 5, none⟩) lga).trans p5; have e6 := (hw.out.cell (p := ⟨ga, ri * 7 + 6, none⟩) lga).trans p6; have e7 := (hw.out.cell (p := ⟨gf, ri, none⟩) lgf).trans p7
                  go_simp
                simp only [Act.put, List.getElem_toArray, List.getElem_cons_succ, List.getElem_cons_zero, List.setIfInBounds_toArray, List.set_cons_zero, List.set_cons_succ]
                refine wpAnyH_take (i := 5) (v := .int .i64 (ri : Int)) rfl (by kernel_rfl) (by kernel_rfl) (by kernel_rfl) (fun _ _ _ h => h) (Or.inl ⟨by rfl, fun w' hw => ?_⟩) hS ?_
                · have e0 := (hw.out.cell (p := ⟨ga, ri * 7, none⟩) lga).trans p0; have e1 := (hw.out.cell (p := ⟨ga, ri * 7 + 1, none⟩) lga).trans p1; have e2 := (hw.out.cell (p := ⟨ga, ri * 7 + 2, none⟩) lga).trans p2; have e3 := (hw.out.cell (p := ⟨ga, ri * 7 + 3, none⟩) lga).trans p3; have e4 := (hw.out.cell (p := ⟨ga, ri * 7 + 4, none⟩) lga).trans p4; have e5 := (hw.out.cell (p := ⟨ga, ri * 7 + 5, none⟩) lga).trans p5; have e6 := (hw.out.cell (p := ⟨ga, ri * 7 + 6, none⟩) lga).trans p6; have e7 := (hw.out.cell (p := ⟨gf, ri, none⟩) lgf).trans p7
                  go_simp
                simp only [Act.put, List.getElem_toArray, List.getElem_cons_succ, List.getElem_cons_zero, List.setIfInBounds_toArray, List.set_cons_zero, List.set_cons_succ]
                refine wpAnyH_take (i := 6) (v := .pointer (some ⟨gf, ri, none⟩)) rfl (by kernel_rfl) (by kernel_rfl) (by kernel_rfl) (fun _ _ _ h => h) (Or.inl ⟨by rfl, fun w' hw => ?_⟩) hS ?_
                · have e0 := (hw.out.cell (p := ⟨ga, ri * 7, none⟩) lga).trans p0; have e1 := (hw.out.cell (p := ⟨ga, ri * 7 + 1, none⟩) lga).trans p1; have e2 := (hw.out.cell (p := ⟨ga, ri * 7 + 2, none⟩) lga).trans p2; have e3 := (hw.out.cell (p := ⟨ga, ri * 7 + 3, none⟩) lga).trans p3; have e4 := (hw.out.cell (p := ⟨ga, ri * 7 + 4, none⟩) lga).trans p4; have e5 := (hw.out.cell (p := ⟨ga, ri * 7 + 5, none⟩) lga).trans p5; have e6 := (hw.out.cell (p := ⟨ga, ri * 7 + 6, none⟩) lga).trans p6; have e7 := (hw.out.cell (p := ⟨gf, ri, none⟩) lgf).trans p7
                  go_simp
                simp only [Act.put, List.getElem_toArray, List.getElem_cons_succ, List.getElem_cons_zero, List.setIfInBounds_toArray, List.set_cons_zero, List.set_cons_succ]
                refine wpAnyH_take (i := 7) (v := .int .i64 (fl : Int)) rfl (by kernel_rfl) (by kernel_rfl) (by kernel_rfl) (fun _ _ _ h => h) (Or.inl ⟨by rfl, fun w' hw => ?_⟩) hS ?_
                · have e0 := (hw.out.cell (p := ⟨ga, ri * 7, none⟩) lga).trans p0; have e1 := (hw.out.cell (p := ⟨ga, ri * 7 + 1, none⟩) lga).trans p1; have e2 := (hw.out.cell (p := ⟨ga, ri * 7 + 2, none⟩) lga).trans p2; have e3 := (hw.out.cell (p := ⟨ga, ri * 7 + 3, none⟩) lga).trans p3; have e4 := (hw.out.cell (p := ⟨ga, ri * 7 + 4, none⟩) lga).trans p4; have e5 := (hw.out.cell (p := ⟨ga, ri * 7 + 5, none⟩) lga).trans p5; have e6 := (hw.out.cell (p := ⟨ga, ri * 7 + 6, none⟩) lga).trans p6; have e7 := (hw.out.cell (p := ⟨gf, ri, none⟩) lgf).trans p7
                  go_simp
                simp only [Act.put, List.getElem_toArray, List.getElem_cons_succ, List.getElem_cons_zero, List.setIfInBounds_toArray, List.set_cons_zero, List.set_cons_succ]
                refine wpAnyH_ready (rs := [8, 9]) (by kernel_rfl) (by simp) ?_
                refine AllReadyH.cons rfl (fun K hK => ?_) ?_
                · rw [if_pos (by rfl)]
                  go_simp
                  have hn23 := Cz.new X0 #[.int .u8 0, .int .u64 0, .int .u64 0, .string ⟨#[]⟩, .slice none 0 0, .int .i64 0, .bool false] 84
                  have hb23 : Below X0.heap.size X0 (X0.alloc (.cells #[.int .u8 0, .int .u64 0, .int .u64 0, .string ⟨#[]⟩, .slice none 0 0, .int .i64 0, .bool false] 84)) := (Below.refl _ _).alloc (Nat.le_refl _) _
                  have hs23 : Hid (Below wr.heap.size wr (X0.alloc (.cells #[.int .u8 0, .int .u64 0, .int .u64 0, .string ⟨#[]⟩, .slice none 0 0, .int .i64 0, .bool false] 84))) := Lib.hid (hS.out.trans (hb23.mono hS.out.size))
                  have hge23 : wr.heap.size ≤ X0.heap.size := hS.out.size
                  generalize (X0.alloc (.cells #[.int .u8 0, .int .u64 0, .int .u64 0, .string ⟨#[]⟩, .slice none 0 0, .int .i64 0, .bool false] 84)) = Y23 at hn23 hb23 hs23 ⊢
                  obtain ⟨b23, hbe23⟩ : ∃ z, X0.heap.size = z := ⟨_, rfl⟩
                  rw [hbe23] at hn23 hge23 ⊢
                  have l23 := hn23.lt
                  clear hb23 hbe23
                  refine hK.out _ _ hs23 (fun hS => ?_)
                  clear hK
                  (try go_frame)
                  refine wpAnyH_ready (rs := [9]) (by kernel_rfl) (by simp) ?_
                  refine AllReadyH.cons rfl (fun K hK => ?_) AllReadyH.nil
                  rw [if_pos (by rfl)]
                  go_simp
                  have hn24 := Cz.new Y23 #[.int .i64 0] 3
                  have hb24 : Below Y23.heap.size Y23 (Y23.alloc (.cells #[.int .i64 0] 3)) := (Below.refl _ _).alloc (Nat.le_refl _) _
                  have hs24 : Hid (Below wr.heap.size wr (Y23.alloc (.cells #[.int .i64 0] 3))) := Lib.hid (hS.out.trans (hb24.mono hS.out.size))
                  have hge24 : wr.heap.size ≤ Y23.heap.size := hS.out.size
                  have hne : Y23.heap.size ≠ b23 := (by have := hn23.lt; omega)
                  replace hn23 := hn23.step hb24
                  generalize (Y23.alloc (.cells #[.int .i64 0] 3)) = Z24 at hn24 hb24 hs24 hn23 ⊢
                  obtain ⟨b24, hbe24⟩ : ∃ z, Y23.heap.size = z := ⟨_, rfl⟩
                  rw [hbe24] at hn24 hge24 hne ⊢
                  have l24 := hn24.lt
                  clear hb24 hbe24
                  have l23b := hn23.lt
                  refine hK.out _ _ hs24 (fun hS => ?_)
                  clear hK
                  (try go_frame)
                  refine wpAnyH_ready (rs := [10]) (by kernel_rfl) (by simp) ?_
                  refine AllReadyH.cons rfl (fun K hK => ?_) AllReadyH.nil
                  rw [if_pos (by rfl)]
                  have cc := hn23.c; have ff := hn23.f
                  have x0 := cc 0; have x1 := cc 1; have x2 := cc 2; have x3 := cc 3; have x4 := cc 4; have x5 := cc 5; have x6 := cc 6
                  have y0 := ff 0; have y1 := ff 1; have y2 := ff 2; have y3 := ff 3; have y4 := ff 4; have y5 := ff 5; have y6 := ff 6
                  simp at x0 x1 x2 x3 x4 x5 x6
                  clear cc ff
                  go_simp
                  have hm23 := hn23.put7 (.int .u8 (kx : Int)) (.int .u64 (gx : Int)) (.int .u64 (fx : Int)) (.string (bs tx)) (.slice ra nr rcp) (.int .i64 (ux : Int)) (.bool wx)
                  have hbu := ButS.put7 b23 Z24 (.int .u8 (kx : Int)) (.int .u64 (gx : Int)) (.int .u64 (fx : Int)) (.string (bs tx)) (.slice ra nr rcp) (.int .i64 (ux : Int)) (.bool wx)
                  have hm24 := hn24.but hbu (by omega)
                  have hs10 : Hid (Below wr.heap.size wr (((((((Z24.setCell ⟨b23, 0, none⟩ (.int .u8 (kx : Int))).setCell ⟨b23, 1, none⟩ (.int .u64 (gx : Int))).setCell ⟨b23, 2, none⟩ (.int .u64 (fx : Int))).setCell ⟨b23, 3, none⟩ (.string (bs tx))).setCell ⟨b23, 4, none⟩ (.slice ra nr rcp)).setCell ⟨b23, 5, none⟩ (.int .i64 (ux : Int))).setCell ⟨b23, 6, none⟩ (.bool wx))) := Lib.hid (below_but hS.out hbu (fun k h => by omega) (Nat.le_refl _))
                  clear x0 x1 x2 x3 x4 x5 x6 y0 y1 y2 y3 y4 y5 y6 hbu hn23 hn24
                  generalize (((((((Z24.setCell ⟨b23, 0, none⟩ (.int .u8 (kx : Int))).setCell ⟨b23, 1, none⟩ (.int .u64 (gx : Int))).setCell ⟨b23, 2, none⟩ (.int .u64 (fx : Int))).setCell ⟨b23, 3, none⟩ (.string (bs tx))).setCell ⟨b23, 4, none⟩ (.slice ra nr rcp)).setCell ⟨b23, 5, none⟩ (.int .i64 (ux : Int))).setCell ⟨b23, 6, none⟩ (.bool wx)) = V1 at hm23 hm24 hs10 ⊢
                  refine hK.out _ _ hs10 (fun hS => ?_)
                  clear hK
                  (try go_frame)
                  refine wpAnyH_ready (rs := [11]) (by kernel_rfl) (by simp) ?_
                  refine AllReadyH.cons rfl (fun K hK => ?_) AllReadyH.nil
                  rw [if_pos (by rfl)]
                  have x0 := hm24.c 0; have y0 := hm24.f 0
                  simp at x0
                  go_simp
                  have hk24 := hm24.set 0 (.int .i64 (fl : Int))
                  simp at hk24
                  have hbu : ButS (fun k => k = b24) V1 (V1.setCell ⟨b24, 0, none⟩ (.int .i64 (fl : Int))) := ButS.set (S := fun k => k = b24) V1 (p := ⟨b24, 0, none⟩) rfl _
                  have hk23 := hm23.but hbu (by omega)
                  have hs11 : Hid (Below wr.heap.size wr (V1.setCell ⟨b24, 0, none⟩ (.int .i64 (fl : Int)))) := Lib.hid (below_but hS.out hbu (fun k h => by omega) (Nat.le_refl _))
                  clear x0 y0 hbu hm23 hm24
                  generalize (V1.setCell ⟨b24, 0, none⟩ (.int .i64 (fl : Int))) = V2 at hk23 hk24 hs11 ⊢
                  refine hK.out _ _ hs11 (fun hS => ?_)
                  clear hK
                  (try go_frame)
                  refine wpAnyH_done (by kernel_rfl) ?_ _
                  clear hS
                  go_wp2_with fail
                  go_meet
                  exact ⟨b23, b24, rfl, rfl, by omega, by omega, by omega, Lib.hid hk23, Lib.hid hk24, hs11⟩
                refine AllReadyH.cons rfl (fun K hK => ?_) AllReadyH.nil
                rw [if_pos (by rfl)]
                go_simp
                have hn24 := Cz.new X0 #[.int .i64 0] 3
                have hb24 : Below X0.heap.size X0 (X0.alloc (.cells #[.int .i64 0] 3)) := (Below.refl _ _).alloc (Nat.le_refl _) _
                have hs24 : Hid (Below wr.heap.size wr (X0.alloc (.cells #[.int .i64 0] 3))) := Lib.hid (hS.out.trans (hb24.mono hS.out.size))
                have hge24 : wr.heap.size ≤ X0.heap.size := hS.out.size
                generalize (X0.alloc (.cells #[.int .i64 0] 3)) = Y24 at hn24 hb24 hs24 ⊢
                obtain ⟨b24, hbe24⟩ : ∃ z, X0.heap.size = z := ⟨_, rfl⟩
                rw [hbe24] at hn24 hge24 ⊢
                have l24 := hn24.lt
                clear hb24 hbe24
                refine hK.out _ _ hs24 (fun hS => ?_)
                clear hK
                (try go_frame)
                refine wpAnyH_ready (rs := [8]) (by kernel_rfl) (by simp) ?_
                refine AllReadyH.cons rfl (fun K hK => ?_) AllReadyH.nil
                rw [if_pos (by rfl)]
                go_simp
                have hn23 := Cz.new Y24 #[.int .u8 0, .int .u64 0, .int .u64 0, .string ⟨#[]⟩, .slice none 0 0, .int .i64 0, .bool false] 84
                have hb23 : Below Y24.heap.size Y24 (Y24.alloc (.cells #[.int .u8 0, .int .u64 0, .int .u64 0, .string ⟨#[]⟩, .slice none 0 0, .int .i64 0, .bool false] 84)) := (Below.refl _ _).alloc (Nat.le_refl _) _
                have hs23 : Hid (Below wr.heap.size wr (Y24.alloc (.cells #[.int .u8 0, .int .u64 0, .int .u64 0, .string ⟨#[]⟩, .slice none 0 0, .int .i64 0, .bool false] 84))) := Lib.hid (hS.out.trans (hb23.mono hS.out.size))
                have hge23 : wr.heap.size ≤ Y24.heap.size := hS.out.size
                have hne : Y24.heap.size ≠ b24 := (by have := hn24.lt; omega)
                replace hn24 := hn24.step hb23
                generalize (Y24.alloc (.cells #[.int .u8 0, .int .u64 0, .int .u64 0, .string ⟨#[]⟩, .slice none 0 0, .int .i64 0, .bool false] 84)) = Z23 at hn23 hb23 hs23 hn24 ⊢
                obtain ⟨b23, hbe23⟩ : ∃ z, Y24.heap.size = z := ⟨_, rfl⟩
                rw [hbe23] at hn23 hge23 hne ⊢
                have l23 := hn23.lt
                clear hb23 hbe23
                have l24b := hn24.lt
                refine hK.out _ _ hs23 (fun hS => ?_)
                clear hK
                (try go_frame)
                refine wpAnyH_ready (rs := [10]) (by kernel_rfl) (by simp) ?_
                refine AllReadyH.cons rfl (fun K hK => ?_) AllReadyH.nil
                rw [if_pos (by rfl)]
                have cc := hn23.c; have ff := hn23.f
                have x0 := cc 0; have x1 := cc 1; have x2 := cc 2; have x3 := cc 3; have x4 := cc 4; have x5 := cc 5; have x6 := cc 6
                have y0 := ff 0; have y1 := ff 1; have y2 := ff 2; have y3 := ff 3; have y4 := ff 4; have y5 := ff 5; have y6 := ff 6
                simp at x0 x1 x2 x3 x4 x5 x6
                clear cc ff
                go_simp
                have hm23 := hn23.put7 (.int .u8 (kx : Int)) (.int .u64 (gx : Int)) (.int .u64 (fx : Int)) (.string (bs tx)) (.slice ra nr rcp) (.int .i64 (ux : Int)) (.bool wx)
                have hbu := ButS.put7 b23 Z23 (.int .u8 (kx : Int)) (.int .u64 (gx : Int)) (.int .u64 (fx : Int)) (.string (bs tx)) (.slice ra nr rcp) (.int .i64 (ux : Int)) (.bool wx)
                have hm24 := hn24.but hbu (by omega)
                have hs10 : Hid (Below wr.heap.size wr (((((((Z23.setCell ⟨b23, 0, none⟩ (.int .u8 (kx : Int))).setCell ⟨b23, 1, none⟩ (.int .u64 (gx : Int))).setCell ⟨b23, 2, none⟩ (.int .u64 (fx : Int))).setCell ⟨b23, 3, none⟩ (.string (bs tx))).setCell ⟨b23, 4, none⟩ (.slice ra nr rcp)).setCell ⟨b23, 5, none⟩ (.int .i64 (ux : Int))).setCell ⟨b23, 6, none⟩ (.bool wx))) := Lib.hid (below_but hS.out hbu (fun k h => by omega) (Nat.le_refl _))
                clear x0 x1 x2 x3 x4 x5 x6 y0 y1 y2 y3 y4 y5 y6 hbu hn23 hn24
                generalize (((((((Z23.setCell ⟨b23, 0, none⟩ (.int .u8 (kx : Int))).setCell ⟨b23, 1, none⟩ (.int .u64 (gx : Int))).setCell ⟨b23, 2, none⟩ (.int .u64 (fx : Int))).setCell ⟨b23, 3, none⟩ (.string (bs tx))).setCell ⟨b23, 4, none⟩ (.slice ra nr rcp)).setCell ⟨b23, 5, none⟩ (.int .i64 (ux : Int))).setCell ⟨b23, 6, none⟩ (.bool wx)) = V1 at hm23 hm24 hs10 ⊢
                refine hK.out _ _ hs10 (fun hS => ?_)
                clear hK
                (try go_frame)
                refine wpAnyH_ready (rs := [11]) (by kernel_rfl) (by simp) ?_
                refine AllReadyH.cons rfl (fun K hK => ?_) AllReadyH.nil
                rw [if_pos (by rfl)]
                have x0 := hm24.c 0; have y0 := hm24.f 0
                simp at x0
                go_simp
                have hk24 := hm24.set 0 (.int .i64 (fl : Int))
                simp at hk24
                have hbu : ButS (fun k => k = b24) V1 (V1.setCell ⟨b24, 0, none⟩ (.int .i64 (fl : Int))) := ButS.set (S := fun k => k = b24) V1 (p := ⟨b24, 0, none⟩) rfl _
                have hk23 := hm23.but hbu (by omega)
                have hs11 : Hid (Below wr.heap.size wr (V1.setCell ⟨b24, 0, none⟩ (.int .i64 (fl : Int)))) := Lib.hid (below_but hS.out hbu (fun k h => by omega) (Nat.le_refl _))
                clear x0 y0 hbu hm23 hm24
                generalize (V1.setCell ⟨b24, 0, none⟩ (.int .i64 (fl : Int))) = V2 at hk23 hk24 hs11 ⊢
                refine hK.out _ _ hs11 (fun hS => ?_)
                clear hK
                (try go_frame)
                refine wpAnyH_done (by kernel_rfl) ?_ _
                clear hS
                go_wp2_with fail
                go_meet
                exact ⟨b23, b24, rfl, rfl, by omega, by omega, by omega, Lib.hid hk23, Lib.hid hk24, hs11⟩
          case rest =>
            obtain ⟨b23, b24, rfl, rfl, hb34, hge23, hge24, HZ23, HZ24, HBX⟩ := hcut
            have HL2 := Lib.hid (HLP.out.step HBX.out)
            have hlook := HL2.out.hm.look Try.underlying89 (zeroInt wc) fl (by have := HBN.out.2.2.2; simp only [smP] at this; omega)
            rw [show (lqOf t0 f0 Gq).C fl = none from if_neg HNEW.out] at hlook
            dsimp only [Option.getD] at hlook
            obtain ⟨w27, hput, hm27, hg27⟩ := HL2.out.hm.put (by have := hnR3'; omega) Try.underlying89 fl (by have := HBN.out.2.2.2; simp only [smP] at this; omega) (.int .i64 1)
            have hbm : ButS (fun k => k = m) wc w27 := ButS.row hg27 (fun j e => by cases e; rfl)
            have hkm : ∀ k, k = m → knd wc k = none := fun k e => by rw [e]; exact HL2.out.hm.knd
            have HL3 := Lib.hid (HL2.out.put hm27 hg27)
            have HY23 := Lib.hid (HZ23.out.kn hbm hkm (by decide)); have HY24 := Lib.hid (HZ24.out.kn hbm hkm (by decide))
            have h01 : IntKind.i64.wrap (0 + 1) = 1 := by decide
            have c24 := HZ24.out.c 0
            simp at c24
            clear hbm hkm hm27 hg27
            go_upto_region 28 with fail
            clear hlook hput c24
            obtain ⟨nx, hnx⟩ : ∃ z, fx + nr = z := ⟨_, rfl⟩
            have HNXT : Hid (∀ W : World, Calls Try.prog 47 #[.agg (sgC kx gx fx tx (.slice ra nr rcp) ux wx)] W fun e w' => e = .returned (.int .u64 (nx : Int)) ∧ Below W.heap.size W w') := Lib.hid (fun W => by rw [← hnx]; exact seg_Next W kx gx fx ux nr tx ra rcp wx (by have := HBN.out.1; simp only [smP] at this; have := HNRX.out; omega))
            have HNX := Lib.hid hnx
            clear hnx
            refine wp_region_held_drew (S := fun w' => Hid (Cz w' b23 84 (sgC kx gx fx tx (.slice ra nr rcp) ux wx))) (by kernel_rfl) (Lib.hid (HY23.out.step (Below.drew (Below.refl _ _)))) (fun hS => ?_)
            have hX0b : Below w27.heap.size w27 w27.drew := Below.drew (Below.refl _ _)
            generalize w27.drew = X0 at hS hX0b ⊢
            refine wpAnyH_take (i := 0) (v := .pointer (some ⟨x, 0, none⟩)) rfl (by kernel_rfl) (by kernel_rfl) (by kernel_rfl) (fun _ _ _ h => h) (Or.inl ⟨by rfl, fun w' hw => ?_⟩) hS ?_
            · have hx1 := hw.out.c; have x0 := hx1 0; have x1 := hx1 1; have x2 := hx1 2; have x3 := hx1 3; have x4 := hx1 4; have x5 := hx1 5; have x6 := hx1 6; simp at x0 x1 x2 x3 x4 x5 x6; clear hx1
              go_simp
            simp only [Act.put, List.getElem_toArray, List.getElem_cons_zero, List.setIfInBounds_toArray, List.set_cons_zero, List.set_cons_succ]
            refine wpAnyH_take (i := 1) (v := .pointer (some ⟨x, 0, none⟩)) rfl (by kernel_rfl) (by kernel_rfl) (by kernel_rfl) (fun _ _ _ h => h) (Or.inl ⟨by rfl, fun w' hw => ?_⟩) hS ?_
            · have hx1 := hw.out.c; have x0 := hx1 0; have x1 := hx1 1; have x2 := hx1 2; have x3 := hx1 3; have x4 := hx1 4; have x5 := hx1 5; have x6 := hx1 6; simp at x0 x1 x2 x3 x4 x5 x6; clear hx1
              go_simp
            simp only [Act.put, List.getElem_toArray, List.getElem_cons_succ, List.getElem_cons_zero, List.setIfInBounds_toArray, List.set_cons_zero, List.set_cons_succ]
            refine wpAnyH_take (i := 2) (v := .pointer (some ⟨b23, 1, none⟩)) rfl (by kernel_rfl) (by kernel_rfl) (by kernel_rfl) (fun _ _ _ h => h) (Or.inl ⟨by rfl, fun w' hw => ?_⟩) hS ?_
            · have hx1 := hw.out.c; have x0 := hx1 0; have x1 := hx1 1; have x2 := hx1 2; have x3 := hx1 3; have x4 := hx1 4; have x5 := hx1 5; have x6 := hx1 6; simp at x0 x1 x2 x3 x4 x5 x6; clear hx1
              go_simp
            simp only [Act.put, List.getElem_toArray, List.getElem_cons_succ, List.getElem_cons_zero, List.setIfInBounds_toArray, List.set_cons_zero, List.set_cons_succ]
            refine wpAnyH_take (i := 3) (v := .int .u64 (gx : Int)) rfl (by kernel_rfl) (by kernel_rfl) (by kernel_rfl) (fun _ _ _ h => h) (Or.inl ⟨by rfl, fun w' hw => ?_⟩) hS ?_
            · have hx1 := hw.out.c; have x0 := hx1 0; have x1 := hx1 1; have x2 := hx1 2; have x3 := hx1 3; have x4 := hx1 4; have x5 := hx1 5; have x6 := hx1 6; simp at x0 x1 x2 x3 x4 x5 x6; clear hx1
              go_simp
            simp only [Act.put, List.getElem_toArray, List.getElem_cons_succ, List.getElem_cons_zero, List.setIfInBounds_toArray, List.set_cons_zero, List.set_cons_succ]
            refine wpAnyH_take (i := 4) (v := .agg (sgC kx gx fx tx (.slice ra nr rcp) ux wx)) rfl (by kernel_rfl) (by kernel_rfl) (by kernel_rfl) (fun _ _ _ h => h) (Or.inl ⟨by rfl, fun w' hw => ?_⟩) hS ?_
            · have hx1 := hw.out.c; have x0 := hx1 0; have x1 := hx1 1; have x2 := hx1 2; have x3 := hx1 3; have x4 := hx1 4; have x5 := hx1 5; have x6 := hx1 6; simp at x0 x1 x2 x3 x4 x5 x6; clear hx1
              go_simp
            simp only [Act.put, List.getElem_toArray, List.getElem_cons_succ, List.getElem_cons_zero, List.setIfInBounds_toArray, List.set_cons_zero, List.set_cons_succ]
            refine wpAnyH_ready (rs := [5]) (by kernel_rfl) (by simp) ?_
            refine AllReadyH.cons rfl (fun K hK => ?_) AllReadyH.nil
            rw [if_pos (by rfl)]
            have HLa := Lib.hid (HL3.out.step hX0b)
            go_simp
            refine (HNXT.out X0).mono ?_
            rintro e wn ⟨rfl, hbn⟩
            have HLb := Lib.hid (HLa.out.step hbn)
            have hn23 := hS.out.step hbn
            have hn24 := (HY24.out.step hX0b).step hbn
            clear hbn HLa
            refine hK.out _ _ (Lib.hid hn23) (fun hS => ?_)
            clear hK
            (try go_frame)
            refine wpAnyH_take (i := 6) (v := .pointer (some ⟨x, 0, none⟩)) rfl (by kernel_rfl) (by kernel_rfl) (by kernel_rfl) (fun _ _ _ h => h) (Or.inl ⟨by rfl, fun w' hw => ?_⟩) hS ?_
            · have hx1 := hw.out.c; have x0 := hx1 0; have x1 := hx1 1; have x2 := hx1 2; have x3 := hx1 3; have x4 := hx1 4; have x5 := hx1 5; have x6 := hx1 6; simp at x0 x1 x2 x3 x4 x5 x6; clear hx1
              go_simp
            simp only [Act.put, List.getElem_toArray, List.getElem_cons_succ, List.getElem_cons_zero, List.setIfInBounds_toArray, List.set_cons_zero, List.set_cons_succ]
            refine wpAnyH_take (i := 7) (v := .pointer (some ⟨x, 4, none⟩)) rfl (by kernel_rfl) (by kernel_rfl) (by kernel_rfl) (fun _ _ _ h => h) (Or.inl ⟨by rfl, fun w' hw => ?_⟩) hS ?_
            · have hx1 := hw.out.c; have x0 := hx1 0; have x1 := hx1 1; have x2 := hx1 2; have x3 := hx1 3; have x4 := hx1 4; have x5 := hx1 5; have x6 := hx1 6; simp at x0 x1 x2 x3 x4 x5 x6; clear hx1
              go_simp
            simp only [Act.put, List.getElem_toArray, List.getElem_cons_succ, List.getElem_cons_zero, List.setIfInBounds_toArray, List.set_cons_zero, List.set_cons_succ]
            refine wpAnyH_ready (rs := [8]) (by kernel_rfl) (by simp) ?_
            refine AllReadyH.cons rfl (fun K hK => ?_) AllReadyH.nil
            rw [if_pos (by rfl)]
            have pz := HLb.out.hx.c 4; have qz := HLb.out.hx.f 4
            simp at pz
            go_simp
            have HLc := Lib.hid (HLb.out.setG gx)
            have hbu : ButS (fun k => k = x) wn (wn.setCell ⟨x, 4, none⟩ (.int .u64 (gx : Int))) := ButS.set (S := fun k => k = x) wn (p := ⟨x, 4, none⟩) rfl _
            have hn23 := hS.out.kn hbu (K := some 62) (fun k e => by rw [e]; exact HLb.out.hx.k) (by decide)
            replace hn24 := hn24.kn hbu (K := some 62) (fun k e => by rw [e]; exact HLb.out.hx.k) (by decide)
            clear pz qz hbu
            generalize (wn.setCell ⟨x, 4, none⟩ (.int .u64 (gx : Int))) = w28a at HLc hn23 hn24 ⊢
            refine hK.out _ _ (Lib.hid hn23) (fun hS => ?_)
            clear hK
            (try go_frame)
            refine wpAnyH_take (i := 9) (v := .pointer (some ⟨x, 0, none⟩)) rfl (by kernel_rfl) (by kernel_rfl) (by kernel_rfl) (fun _ _ _ h => h) (Or.inl ⟨by rfl, fun w' hw => ?_⟩) hS ?_
            · have hx1 := hw.out.c; have x0 := hx1 0; have x1 := hx1 1; have x2 := hx1 2; have x3 := hx1 3; have x4 := hx1 4; have x5 := hx1 5; have x6 := hx1 6; simp at x0 x1 x2 x3 x4 x5 x6; clear hx1
              go_simp
            simp only [Act.put, List.getElem_toArray, List.getElem_cons_succ, List.getElem_cons_zero, List.setIfInBounds_toArray, List.set_cons_zero, List.set_cons_succ]
            refine wpAnyH_take (i := 10) (v := .pointer (some ⟨x, 6, none⟩)) rfl (by kernel_rfl) (by kernel_rfl) (by kernel_rfl) (fun _ _ _ h => h) (Or.inl ⟨by rfl, fun w' hw => ?_⟩) hS ?_
            · have hx1 := hw.out.c; have x0 := hx1 0; have x1 := hx1 1; have x2 := hx1 2; have x3 := hx1 3; have x4 := hx1 4; have x5 := hx1 5; have x6 := hx1 6; simp at x0 x1 x2 x3 x4 x5 x6; clear hx1
              go_simp
            simp only [Act.put, List.getElem_toArray, List.getElem_cons_succ, List.getElem_cons_zero, List.setIfInBounds_toArray, List.set_cons_zero, List.set_cons_succ]
            refine wpAnyH_ready (rs := [11]) (by kernel_rfl) (by simp) ?_
            refine AllReadyH.cons rfl (fun K hK => ?_) AllReadyH.nil
            rw [if_pos (by rfl)]
            have pz := HLc.out.hx.c 6; have qz := HLc.out.hx.f 6
            simp at pz
            go_simp
            have HL5 := Lib.hid (HLc.out.setN nx)
            have hbu : ButS (fun k => k = x) w28a (w28a.setCell ⟨x, 6, none⟩ (.int .u64 (nx : Int))) := ButS.set (S := fun k => k = x) w28a (p := ⟨x, 6, none⟩) rfl _
            have hn23 := hS.out.kn hbu (K := some 62) (fun k e => by rw [e]; exact HLc.out.hx.k) (by decide)
            replace hn24 := hn24.kn hbu (K := some 62) (fun k e => by rw [e]; exact HLc.out.hx.k) (by decide)
            clear pz qz hbu
            generalize (w28a.setCell ⟨x, 6, none⟩ (.int .u64 (nx : Int))) = w28 at HL5 hn23 hn24 ⊢
            refine hK.out _ _ (Lib.hid hn23) (fun hS => ?_)
            clear hK
            (try go_frame)
            refine wpAnyH_done (by kernel_rfl) ?_ _
            have HK23 := hS
            clear hS
            have hFl : (lqOf t0 f0 Gq).F.length ≤ 1000000 ∧ (lqOf t0 f0 Gq).Z.length ≤ 1000000 := by
              have h1 : Gq.length = q := by rw [← HGQ.out]; unfold gsOf; rw [List.length_map, List.length_take]; have := HNR.out; omega
              constructor
              · show (Gq.map _).length ≤ _; rw [List.length_map]; omega
              · show (Gq.map _).length ≤ _; rw [List.length_map]; omega
            have hfA : fv.ownBlock ≠ some b24 := fun e => by have := (own_k HLP.out.fr b24 e).1; omega
            have hsA : sv.ownBlock ≠ some b24 := fun e => by have := (own_k HLP.out.zr b24 e).1; omega
            have HAB : Hid (∀ W v1 l1 v2 l2, A2 w8.heap.size w28 fv sv v1 l1 v2 l2 W → Hid (Cz W x 62 (walC d gx 0 nx fv sv)) ∧ Hid (Cz W b24 3 #[.int .i64 (fl : Int)] ∧ Cz W b23 84 (sgC kx gx fx tx (.slice ra nr rcp) ux wx))) := Lib.hid (fun W v1 l1 v2 l2 ha => by
              have n : ∀ k, (fv.ownBlock = some k ∨ sv.ownBlock = some k) → knd w28 k = some 3 := fun k e => e.elim (fun e => (own_k HL5.out.fr k e).2) (fun e => (own_k HL5.out.zr k e).2)
              exact ⟨Lib.hid (HL5.out.hx.kn ha.bu n (by decide)), Lib.hid ⟨hn24.but ha.bu (fun e => e.elim hfA hsA), HK23.out.kn ha.bu n (by decide)⟩⟩)
            have HB8 := Lib.hid HL5.out.be.size
            obtain ⟨nF, hnF⟩ : ∃ z, ((lqOf t0 f0 Gq).F ++ [fl]).length = z := ⟨_, rfl⟩
            obtain ⟨nZ, hnZ⟩ : ∃ z, ((lqOf t0 f0 Gq).Z ++ [ux]).length = z := ⟨_, rfl⟩
            have HNF := Lib.hid hnF; have HNZ := Lib.hid hnZ
            clear hnF hnZ
            go_upto_region 29 with fail
            go_cut [] (fun wx3 => ∃ v1 v2 : Value, Hid (LpF w8 d b0 x kb m (q + 1) ⟨gx, 0, nx, t0, f0, (lqOf t0 f0 Gq).F ++ [fl], (lqOf t0 f0 Gq).Z ++ [ux], (lqOf t0 f0 Gq).R, (lqOf t0 f0 Gq).cs, fun z => if z = fl then some (.int .i64 1) else (lqOf t0 f0 Gq).C z⟩ v1 v2 rv u20 cvs wx3) ∧ Hid (Cz wx3 b23 84 (sgC kx gx fx tx (.slice ra nr rcp) ux wx)) ∧ Hid (Cz wx3 b24 3 #[.int .i64 (fl : Int)]) ∧ v1.ownBlock ≠ some b24 ∧ v2.ownBlock ≠ some b24)
            case first =>
              refine wp_region_L 19 (fun w' => Hid (Cz w' x 62 (walC d gx 0 nx fv sv))) (fun w' => Hid (Cz w' b24 3 #[.int .i64 (fl : Int)] ∧ Cz w' b23 84 (sgC kx gx fx tx (.slice ra nr rcp) ux wx))) (by kernel_rfl) (SL.all ((HAB.out _ _ _ _ _ (HL5.out.a2.step (Below.drew (Below.refl _ _)))).1) ((HAB.out _ _ _ _ _ (HL5.out.a2.step (Below.drew (Below.refl _ _)))).2)) (fun hS => ?_)
              have hX0b : Below w28.heap.size w28 w28.drew := Below.drew (Below.refl _ _)
              generalize w28.drew = X0 at hS hX0b ⊢
              have ha := HL5.out.a2.step hX0b
              refine wpAnyL_takeB (i := 0) (v := .pointer (some ⟨x, 0, none⟩)) rfl (by kernel_rfl) (by kernel_rfl) (by kernel_rfl) (fun _ _ _ h => h) (by kernel_rfl) (Or.inl ⟨by rfl, fun w' hw => ?_⟩) hS (fun hS => ?_)
              · have h1 := hw.out.1.c 0; have h2 := hw.out.2.c 5; simp at h1 h2
                go_simp
              simp only [Act.put, List.getElem_toArray, List.getElem_cons_zero, List.setIfInBounds_toArray, List.set_cons_zero, List.set_cons_succ]
              refine wpAnyL_takeB (i := 1) (v := .pointer (some ⟨x, 0, none⟩)) rfl (by kernel_rfl) (by kernel_rfl) (by kernel_rfl) (fun _ _ _ h => h) (by kernel_rfl) (Or.inl ⟨by rfl, fun w' hw => ?_⟩) hS (fun hS => ?_)
              · have h1 := hw.out.1.c 0; have h2 := hw.out.2.c 5; simp at h1 h2
                go_simp
              simp only [Act.put, List.getElem_toArray, List.getElem_cons_succ, List.getElem_cons_zero, List.setIfInBounds_toArray, List.set_cons_zero, List.set_cons_succ]
              refine wpAnyL_takeB (i := 2) (v := .pointer (some ⟨x, 0, none⟩)) rfl (by kernel_rfl) (by kernel_rfl) (by kernel_rfl) (fun _ _ _ h => h) (by kernel_rfl) (Or.inl ⟨by rfl, fun w' hw => ?_⟩) hS (fun hS => ?_)
              · have h1 := hw.out.1.c 0; have h2 := hw.out.2.c 5; simp at h1 h2
                go_simp
              simp only [Act.put, List.getElem_toArray, List.getElem_cons_succ, List.getElem_cons_zero, List.setIfInBounds_toArray, List.set_cons_zero, List.set_cons_succ]
              refine wpAnyL_takeB (i := 3) (v := .pointer (some ⟨x, 0, none⟩)) rfl (by kernel_rfl) (by kernel_rfl) (by kernel_rfl) (fun _ _ _ h => h) (by kernel_rfl) (Or.inl ⟨by rfl, fun w' hw => ?_⟩) hS (fun hS => ?_)
              · have h1 := hw.out.1.c 0; have h2 := hw.out.2.c 5; simp at h1 h2
                go_simp
              simp only [Act.put, List.getElem_toArray, List.getElem_cons_succ, List.getElem_cons_zero, List.setIfInBounds_toArray, List.set_cons_zero, List.set_cons_succ]
              refine wpAnyL_takeB (i := 4) (v := .pointer (some ⟨x, 7, none⟩)) rfl (by kernel_rfl) (by kernel_rfl) (by kernel_rfl) (fun _ _ _ h => h) (by kernel_rfl) (Or.inl ⟨by rfl, fun w' hw => ?_⟩) hS (fun hS => ?_)
              · have h1 := hw.out.1.c 0; have h2 := hw.out.2.c 5; simp at h1 h2
                go_simp
              simp only [Act.put, List.getElem_toArray, List.getElem_cons_succ, List.getElem_cons_zero, List.setIfInBounds_toArray, List.set_cons_zero, List.set_cons_succ]
              refine wpAnyL_take (i := 5) (v := fv) rfl (by kernel_rfl) (by kernel_rfl) (by kernel_rfl) (fun _ _ _ h => h) (by kernel_rfl) (Or.inl ⟨by rfl, fun w' hw => ?_⟩) hS (fun hS => ?_)
              · have hx1 := hw.1.out.c; have a7 := hx1 7; have a8 := hx1 8; simp at a7 a8; clear hx1
                go_simp
              simp only [Act.put, List.getElem_toArray, List.getElem_cons_succ, List.getElem_cons_zero, List.setIfInBounds_toArray, List.set_cons_zero, List.set_cons_succ]
              refine wpAnyL_takeB (i := 6) (v := .int .i64 (fl : Int)) rfl (by kernel_rfl) (by kernel_rfl) (by kernel_rfl) (fun _ _ _ h => h) (by kernel_rfl) (Or.inl ⟨by rfl, fun w' hw => ?_⟩) hS (fun hS => ?_)
              · have h1 := hw.out.1.c 0; have h2 := hw.out.2.c 5; simp at h1 h2
                go_simp
              simp only [Act.put, List.getElem_toArray, List.getElem_cons_succ, List.getElem_cons_zero, List.setIfInBounds_toArray, List.set_cons_zero, List.set_cons_succ]
              refine wpAnyL_takeB (i := 9) (v := .pointer (some ⟨x, 0, none⟩)) rfl (by kernel_rfl) (by kernel_rfl) (by kernel_rfl) (fun _ _ _ h => h) (by kernel_rfl) (Or.inl ⟨by rfl, fun w' hw => ?_⟩) hS (fun hS => ?_)
              · have h1 := hw.out.1.c 0; have h2 := hw.out.2.c 5; simp at h1 h2
                go_simp
              simp only [Act.put, List.getElem_toArray, List.getElem_cons_succ, List.getElem_cons_zero, List.setIfInBounds_toArray, List.set_cons_zero, List.set_cons_succ]
              refine wpAnyL_takeB (i := 10) (v := .pointer (some ⟨x, 0, none⟩)) rfl (by kernel_rfl) (by kernel_rfl) (by kernel_rfl) (fun _ _ _ h => h) (by kernel_rfl) (Or.inl ⟨by rfl, fun w' hw => ?_⟩) hS (fun hS => ?_)
              · have h1 := hw.out.1.c 0; have h2 := hw.out.2.c 5; simp at h1 h2
                go_simp
              simp only [Act.put, List.getElem_toArray, List.getElem_cons_succ, List.getElem_cons_zero, List.setIfInBounds_toArray, List.set_cons_zero, List.set_cons_succ]
              refine wpAnyL_takeB (i := 11) (v := .pointer (some ⟨x, 8, none⟩)) rfl (by kernel_rfl) (by kernel_rfl) (by kernel_rfl) (fun _ _ _ h => h) (by kernel_rfl) (Or.inl ⟨by rfl, fun w' hw => ?_⟩) hS (fun hS => ?_)
              · have h1 := hw.out.1.c 0; have h2 := hw.out.2.c 5; simp at h1 h2
                go_simp
              simp only [Act.put, List.getElem_toArray, List.getElem_cons_succ, List.getElem_cons_zero, List.setIfInBounds_toArray, List.set_cons_zero, List.set_cons_succ]
              refine wpAnyL_take (i := 12) (v := sv) rfl (by kernel_rfl) (by kernel_rfl) (by kernel_rfl) (fun _ _ _ h => h) (by kernel_rfl) (Or.inl ⟨by rfl, fun w' hw => ?_⟩) hS (fun hS => ?_)
              · have hx1 := hw.1.out.c; have a7 := hx1 7; have a8 := hx1 8; simp at a7 a8; clear hx1
                go_simp
              simp only [Act.put, List.getElem_toArray, List.getElem_cons_succ, List.getElem_cons_zero, List.setIfInBounds_toArray, List.set_cons_zero, List.set_cons_succ]
              refine wpAnyL_takeB (i := 13) (v := .pointer (some ⟨b23, 5, none⟩)) rfl (by kernel_rfl) (by kernel_rfl) (by kernel_rfl) (fun _ _ _ h => h) (by kernel_rfl) (Or.inl ⟨by rfl, fun w' hw => ?_⟩) hS (fun hS => ?_)
              · have h1 := hw.out.1.c 0; have h2 := hw.out.2.c 5; simp at h1 h2
                go_simp
              simp only [Act.put, List.getElem_toArray, List.getElem_cons_succ, List.getElem_cons_zero, List.setIfInBounds_toArray, List.set_cons_zero, List.set_cons_succ]
              refine wpAnyL_takeB (i := 14) (v := .int .i64 (ux : Int)) rfl (by kernel_rfl) (by kernel_rfl) (by kernel_rfl) (fun _ _ _ h => h) (by kernel_rfl) (Or.inl ⟨by rfl, fun w' hw => ?_⟩) hS (fun hS => ?_)
              · have h1 := hw.out.1.c 0; have h2 := hw.out.2.c 5; simp at h1 h2
                go_simp
              simp only [Act.put, List.getElem_toArray, List.getElem_cons_succ, List.getElem_cons_zero, List.setIfInBounds_toArray, List.set_cons_zero, List.set_cons_succ]
              refine wpAnyL_ready (rs := [7, 15]) (by kernel_rfl) (by simp) ?_
              refine AllReadyL.cons rfl (fun K hK => ?_) ?_
              · rw [if_pos (by rfl)]
                go_simp
                have hz7 := Cz.new X0 #[.int .i64 (fl : Int)] 3
                have hb : Below X0.heap.size X0 (X0.alloc (.cells #[.int .i64 (fl : Int)] 3)) := (Below.refl _ _).alloc (Nat.le_refl _) _
                have hge7 : w28.heap.size ≤ X0.heap.size := ha.bu.size
                replace ha := ha.step hb
                generalize (X0.alloc (.cells #[.int .i64 (fl : Int)] 3)) = X0a at hz7 hb ha ⊢
                obtain ⟨g7, hg7⟩ : ∃ z, X0.heap.size = z := ⟨_, rfl⟩
                rw [hg7] at hz7 hge7 ⊢
                clear hg7 hb
                refine hK.out _ _ (SL.all (HAB.out _ _ _ _ _ ha).1 (HAB.out _ _ _ _ _ ha).2) (fun hS => ?_)
                clear hK
                (try go_frame)
                refine wpAnyL_ready (rs := [8, 15]) (by kernel_rfl) (by simp) ?_
                refine AllReadyL.cons rfl (fun K hK => ?_) ?_
                · rw [if_pos (by rfl)]
                  refine wp_appI (.tmp 129) (.tmp 131) rfl rfl ha.r1 rfl hz7 hFl.1 (by have := ha.bu.size; have := HB8.out; omega) ?_
                  intro v8 X0ap hown hg hat
                  obtain ⟨a8, c8, hv8⟩ := ownShape hown
                  rw [HNF.out] at hv8
                  subst hv8
                  replace ha := ha.one (by have := ha.bu.size; have := HB8.out; omega) hown hg hat
                  clear hown hg hat hz7 hge7
                  refine hK.out _ _ (SL.all (HAB.out _ _ _ _ _ ha).1 (HAB.out _ _ _ _ _ ha).2) (fun hS => ?_)
                  clear hK
                  (try go_frame)
                  refine wpAnyL_ready (rs := [15]) (by kernel_rfl) (by simp) ?_
                  refine AllReadyL.cons rfl (fun K hK => ?_) AllReadyL.nil
                  rw [if_pos (by rfl)]
                  go_simp
                  have hz15 := Cz.new X0ap #[.int .i64 (ux : Int)] 3
                  have hb : Below X0ap.heap.size X0ap (X0ap.alloc (.cells #[.int .i64 (ux : Int)] 3)) := (Below.refl _ _).alloc (Nat.le_refl _) _
                  have hge15 : w28.heap.size ≤ X0ap.heap.size := ha.bu.size
                  replace ha := ha.step hb
                  generalize (X0ap.alloc (.cells #[.int .i64 (ux : Int)] 3)) = X0apb at hz15 hb ha ⊢
                  obtain ⟨g15, hg15⟩ : ∃ z, X0ap.heap.size = z := ⟨_, rfl⟩
                  rw [hg15] at hz15 hge15 ⊢
                  clear hg15 hb
                  refine hK.out _ _ (SL.all (HAB.out _ _ _ _ _ ha).1 (HAB.out _ _ _ _ _ ha).2) (fun hS => ?_)
                  clear hK
                  (try go_frame)
                  refine wpAnyL_ready (rs := [16]) (by kernel_rfl) (by simp) ?_
                  refine AllReadyL.cons rfl (fun K hK => ?_) AllReadyL.nil
                  rw [if_pos (by rfl)]
                  refine wp_appI (.tmp 136) (.tmp 139) rfl rfl ha.r2 rfl hz15 hFl.2 (by have := ha.bu.size; have := HB8.out; omega) ?_
                  intro v16 X0apbq hown hg hat
                  obtain ⟨a16, c16, hv8⟩ := ownShape hown
                  rw [HNZ.out] at hv8
                  subst hv8
                  replace ha := (ha.swap.one (by have := ha.bu.size; have := HB8.out; omega) hown hg hat).swap
                  clear hown hg hat hz15 hge15
                  refine hK.out _ _ (SL.all (HAB.out _ _ _ _ _ ha).1 (HAB.out _ _ _ _ _ ha).2) (fun hS => ?_)
                  clear hK
                  (try go_frame)
                  refine wpAnyL_takeB (i := 17) (v := .pointer (some ⟨x, 0, none⟩)) rfl (by kernel_rfl) (by kernel_rfl) (by kernel_rfl) (fun _ _ _ h => h) (by kernel_rfl) (Or.inl ⟨by rfl, fun w' hw => ?_⟩) hS (fun hS => ?_)
                  · have h1 := hw.out.1.c 0; have h2 := hw.out.2.c 5; simp at h1 h2
                    go_simp
                  simp only [Act.put, List.getElem_toArray, List.getElem_cons_succ, List.getElem_cons_zero, List.setIfInBounds_toArray, List.set_cons_zero, List.set_cons_succ]
                  refine wpAnyL_takeB (i := 18) (v := .pointer (some ⟨x, 7, none⟩)) rfl (by kernel_rfl) (by kernel_rfl) (by kernel_rfl) (fun _ _ _ h => h) (by kernel_rfl) (Or.inl ⟨by rfl, fun w' hw => ?_⟩) hS (fun hS => ?_)
                  · have h1 := hw.out.1.c 0; have h2 := hw.out.2.c 5; simp at h1 h2
                    go_simp
                  simp only [Act.put, List.getElem_toArray, List.getElem_cons_succ, List.getElem_cons_zero, List.setIfInBounds_toArray, List.set_cons_zero, List.set_cons_succ]
                  refine wpAnyL_ready (rs := [19]) (by kernel_rfl) (by simp) ?_
                  refine AllReadyL.cons rfl (fun K hK => ?_) AllReadyL.nil
                  rw [if_pos (by rfl)]
                  have hx1 := (HAB.out _ _ _ _ _ ha).1.out; have hB1 := (HAB.out _ _ _ _ _ ha).2.out
                  have pz := hx1.c 7; have qz := hx1.f 7
                  simp at pz
                  go_simp
                  have hbu : ButS (fun k => k = x) X0apbq (X0apbq.setCell ⟨x, 7, none⟩ (.slice a8 nF c8)) := ButS.set (S := fun k => k = x) X0apbq (p := ⟨x, 7, none⟩) rfl _
                  have kk : ∀ k, k = x → knd X0apbq k = some 62 := fun k e => by rw [e]; exact hx1.k
                  have hB2 : Hid (Cz (X0apbq.setCell ⟨x, 7, none⟩ (.slice a8 nF c8)) b24 3 #[.int .i64 (fl : Int)] ∧ Cz (X0apbq.setCell ⟨x, 7, none⟩ (.slice a8 nF c8)) b23 84 (sgC kx gx fx tx (.slice ra nr rcp) ux wx)) := Lib.hid ⟨hB1.1.kn hbu kk (by decide), hB1.2.kn hbu kk (by decide)⟩
                  have hx2 := hx1.set 7 (.slice a8 nF c8)
                  clear pz qz hbu kk hB1 hx1
                  refine hK.out _ _ (SL.late (by kernel_rfl) hB2) (fun hS => ?_)
                  clear hK
                  (try go_frame)
                  refine wpAnyL_takeB (i := 20) (v := .pointer (some ⟨x, 0, none⟩)) rfl (by kernel_rfl) (by kernel_rfl) (by kernel_rfl) (fun _ _ _ h => h) (by kernel_rfl) (Or.inl ⟨by rfl, fun w' hw => ?_⟩) hS (fun hS => ?_)
                  · have h1 := hw.out.1.c 0; have h2 := hw.out.2.c 5; simp at h1 h2
                    go_simp
                  simp only [Act.put, List.getElem_toArray, List.getElem_cons_succ, List.getElem_cons_zero, List.setIfInBounds_toArray, List.set_cons_zero, List.set_cons_succ]
                  refine wpAnyL_takeB (i := 21) (v := .pointer (some ⟨x, 8, none⟩)) rfl (by kernel_rfl) (by kernel_rfl) (by kernel_rfl) (fun _ _ _ h => h) (by kernel_rfl) (Or.inl ⟨by rfl, fun w' hw => ?_⟩) hS (fun hS => ?_)
                  · have h1 := hw.out.1.c 0; have h2 := hw.out.2.c 5; simp at h1 h2
                    go_simp
                  simp only [Act.put, List.getElem_toArray, List.getElem_cons_succ, List.getElem_cons_zero, List.setIfInBounds_toArray, List.set_cons_zero, List.set_cons_succ]
                  refine wpAnyL_ready (rs := [22]) (by kernel_rfl) (by simp) ?_
                  refine AllReadyL.cons rfl (fun K hK => ?_) AllReadyL.nil
                  rw [if_pos (by rfl)]
                  have pz := hx2.c 8; have qz := hx2.f 8
                  simp at pz
                  go_simp
                  have hbu : ButS (fun k => k = x) (X0apbq.setCell ⟨x, 7, none⟩ (.slice a8 nF c8)) ((X0apbq.setCell ⟨x, 7, none⟩ (.slice a8 nF c8)).setCell ⟨x, 8, none⟩ (.slice a16 nZ c16)) := ButS.set (S := fun k => k = x) (X0apbq.setCell ⟨x, 7, none⟩ (.slice a8 nF c8)) (p := ⟨x, 8, none⟩) rfl _
                  have kk : ∀ k, k = x → knd (X0apbq.setCell ⟨x, 7, none⟩ (.slice a8 nF c8)) k = some 62 := fun k e => by rw [e]; exact hx2.k
                  have hB3 : Hid (Cz ((X0apbq.setCell ⟨x, 7, none⟩ (.slice a8 nF c8)).setCell ⟨x, 8, none⟩ (.slice a16 nZ c16)) b24 3 #[.int .i64 (fl : Int)] ∧ Cz ((X0apbq.setCell ⟨x, 7, none⟩ (.slice a8 nF c8)).setCell ⟨x, 8, none⟩ (.slice a16 nZ c16)) b23 84 (sgC kx gx fx tx (.slice ra nr rcp) ux wx)) := Lib.hid ⟨hB2.out.1.kn hbu kk (by decide), hB2.out.2.kn hbu kk (by decide)⟩
                  clear pz qz hbu kk hB2 hx2
                  refine hK.out _ _ (SL.late (by kernel_rfl) hB3) (fun hS => ?_)
                  clear hK
                  (try go_frame)
                  refine wpAnyL_done (by kernel_rfl) ?_ _
                  clear hS
                  go_wp2_with fail
                  go_meet
                  exact ⟨(.slice a8 nF c8), (.slice a16 nZ c16), Lib.hid (HL5.out.two ha), Lib.hid hB3.out.2, Lib.hid hB3.out.1, ha.far b24 hn24.lt hfA hsA⟩
                refine AllReadyL.cons rfl (fun K hK => ?_) AllReadyL.nil
                rw [if_pos (by rfl)]
                go_simp
                have hz15 := Cz.new X0a #[.int .i64 (ux : Int)] 3
                have hb : Below X0a.heap.size X0a (X0a.alloc (.cells #[.int .i64 (ux : Int)] 3)) := (Below.refl _ _).alloc (Nat.le_refl _) _
                have hge15 : w28.heap.size ≤ X0a.heap.size := ha.bu.size
                replace ha := ha.step hb
                replace hz7 := hz7.step hb
                generalize (X0a.alloc (.cells #[.int .i64 (ux : Int)] 3)) = X0ab at hz15 hb ha hz7 ⊢
                obtain ⟨g15, hg15⟩ : ∃ z, X0a.heap.size = z := ⟨_, rfl⟩
                rw [hg15] at hz15 hge15 ⊢
                clear hg15 hb
                refine hK.out _ _ (SL.all (HAB.out _ _ _ _ _ ha).1 (HAB.out _ _ _ _ _ ha).2) (fun hS => ?_)
                clear hK
                (try go_frame)
                refine wpAnyL_ready (rs := [8]) (by kernel_rfl) (by simp) ?_
                refine AllReadyL.cons rfl (fun K hK => ?_) AllReadyL.nil
                rw [if_pos (by rfl)]
                refine wp_appI (.tmp 129) (.tmp 131) rfl rfl ha.r1 rfl hz7 hFl.1 (by have := ha.bu.size; have := HB8.out; omega) ?_
                intro v8 X0abp hown hg hat
                obtain ⟨a8, c8, hv8⟩ := ownShape hown
                rw [HNF.out] at hv8
                subst hv8
                replace hz15 := hz15.but (ButS.row hg (S := fun k => fv.ownBlock = some k) (fun j e => e)) (fun e => by have := (own_k HL5.out.fr g15 e).1; omega)
                replace ha := ha.one (by have := ha.bu.size; have := HB8.out; omega) hown hg hat
                clear hown hg hat hz7 hge7
                refine hK.out _ _ (SL.all (HAB.out _ _ _ _ _ ha).1 (HAB.out _ _ _ _ _ ha).2) (fun hS => ?_)
                clear hK
                (try go_frame)
                refine wpAnyL_ready (rs := [16]) (by kernel_rfl) (by simp) ?_
                refine AllReadyL.cons rfl (fun K hK => ?_) AllReadyL.nil
                rw [if_pos (by rfl)]
                refine wp_appI (.tmp 136) (.tmp 139) rfl rfl ha.r2 rfl hz15 hFl.2 (by have := ha.bu.size; have := HB8.out; omega) ?_
                intro v16 X0abpq hown hg hat
                obtain ⟨a16, c16, hv8⟩ := ownShape hown
                rw [HNZ.out] at hv8
                subst hv8
                replace ha := (ha.swap.one (by have := ha.bu.size; have := HB8.out; omega) hown hg hat).swap
                clear hown hg hat hz15 hge15
                refine hK.out _ _ (SL.all (HAB.out _ _ _ _ _ ha).1 (HAB.out _ _ _ _ _ ha).2) (fun hS => ?_)
                clear hK
                (try go_frame)
                refine wpAnyL_takeB (i := 17) (v := .pointer (some ⟨x, 0, none⟩)) rfl (by kernel_rfl) (by kernel_rfl) (by kernel_rfl) (fun _ _ _ h => h) (by kernel_rfl) (Or.inl ⟨by rfl, fun w' hw => ?_⟩) hS (fun hS => ?_)
                · have h1 := hw.out.1.c 0; have h2 := hw.out.2.c 5; simp at h1 h2
                  go_simp
                simp only [Act.put, List.getElem_toArray, List.getElem_cons_succ, List.getElem_cons_zero, List.setIfInBounds_toArray, List.set_cons_zero, List.set_cons_succ]
                refine wpAnyL_takeB (i := 18) (v := .pointer (some ⟨x, 7, none⟩)) rfl (by kernel_rfl) (by kernel_rfl) (by kernel_rfl) (fun _ _ _ h => h) (by kernel_rfl) (Or.inl ⟨by rfl, fun w' hw => ?_⟩) hS (fun hS => ?_)
                · have h1 := hw.out.1.c 0; have h2 := hw.out.2.c 5; simp at h1 h2
                  go_simp
                simp only [Act.put, List.getElem_toArray, List.getElem_cons_succ, List.getElem_cons_zero, List.setIfInBounds_toArray, List.set_cons_zero, List.set_cons_succ]
                refine wpAnyL_ready (rs := [19]) (by kernel_rfl) (by simp) ?_
                refine AllReadyL.cons rfl (fun K hK => ?_) AllReadyL.nil
                rw [if_pos (by rfl)]
                have hx1 := (HAB.out _ _ _ _ _ ha).1.out; have hB1 := (HAB.out _ _ _ _ _ ha).2.out
                have pz := hx1.c 7; have qz := hx1.f 7
                simp at pz
                go_simp
                have hbu : ButS (fun k => k = x) X0abpq (X0abpq.setCell ⟨x, 7, none⟩ (.slice a8 nF c8)) := ButS.set (S := fun k => k = x) X0abpq (p := ⟨x, 7, none⟩) rfl _
                have kk : ∀ k, k = x → knd X0abpq k = some 62 := fun k e => by rw [e]; exact hx1.k
                have hB2 : Hid (Cz (X0abpq.setCell ⟨x, 7, none⟩ (.slice a8 nF c8)) b24 3 #[.int .i64 (fl : Int)] ∧ Cz (X0abpq.setCell ⟨x, 7, none⟩ (.slice a8 nF c8)) b23 84 (sgC kx gx fx tx (.slice ra nr rcp) ux wx)) := Lib.hid ⟨hB1.1.kn hbu kk (by decide), hB1.2.kn hbu kk (by decide)⟩
                have hx2 := hx1.set 7 (.slice a8 nF c8)
                clear pz qz hbu kk hB1 hx1
                refine hK.out _ _ (SL.late (by kernel_rfl) hB2) (fun hS => ?_)
                clear hK
                (try go_frame)
                refine wpAnyL_takeB (i := 20) (v := .pointer (some ⟨x, 0, none⟩)) rfl (by kernel_rfl) (by kernel_rfl) (by kernel_rfl) (fun _ _ _ h => h) (by kernel_rfl) (Or.inl ⟨by rfl, fun w' hw => ?_⟩) hS (fun hS => ?_)
                · have h1 := hw.out.1.c 0; have h2 := hw.out.2.c 5; simp at h1 h2
                  go_simp
                simp only [Act.put, List.getElem_toArray, List.getElem_cons_succ, List.getElem_cons_zero, List.setIfInBounds_toArray, List.set_cons_zero, List.set_cons_succ]
                refine wpAnyL_takeB (i := 21) (v := .pointer (some ⟨x, 8, none⟩)) rfl (by kernel_rfl) (by kernel_rfl) (by kernel_rfl) (fun _ _ _ h => h) (by kernel_rfl) (Or.inl ⟨by rfl, fun w' hw => ?_⟩) hS (fun hS => ?_)
                · have h1 := hw.out.1.c 0; have h2 := hw.out.2.c 5; simp at h1 h2
                  go_simp
                simp only [Act.put, List.getElem_toArray, List.getElem_cons_succ, List.getElem_cons_zero, List.setIfInBounds_toArray, List.set_cons_zero, List.set_cons_succ]
                refine wpAnyL_ready (rs := [22]) (by kernel_rfl) (by simp) ?_
                refine AllReadyL.cons rfl (fun K hK => ?_) AllReadyL.nil
                rw [if_pos (by rfl)]
                have pz := hx2.c 8; have qz := hx2.f 8
                simp at pz
                go_simp
                have hbu : ButS (fun k => k = x) (X0abpq.setCell ⟨x, 7, none⟩ (.slice a8 nF c8)) ((X0abpq.setCell ⟨x, 7, none⟩ (.slice a8 nF c8)).setCell ⟨x, 8, none⟩ (.slice a16 nZ c16)) := ButS.set (S := fun k => k = x) (X0abpq.setCell ⟨x, 7, none⟩ (.slice a8 nF c8)) (p := ⟨x, 8, none⟩) rfl _
                have kk : ∀ k, k = x → knd (X0abpq.setCell ⟨x, 7, none⟩ (.slice a8 nF c8)) k = some 62 := fun k e => by rw [e]; exact hx2.k
                have hB3 : Hid (Cz ((X0abpq.setCell ⟨x, 7, none⟩ (.slice a8 nF c8)).setCell ⟨x, 8, none⟩ (.slice a16 nZ c16)) b24 3 #[.int .i64 (fl : Int)] ∧ Cz ((X0abpq.setCell ⟨x, 7, none⟩ (.slice a8 nF c8)).setCell ⟨x, 8, none⟩ (.slice a16 nZ c16)) b23 84 (sgC kx gx fx tx (.slice ra nr rcp) ux wx)) := Lib.hid ⟨hB2.out.1.kn hbu kk (by decide), hB2.out.2.kn hbu kk (by decide)⟩
                clear pz qz hbu kk hB2 hx2
                refine hK.out _ _ (SL.late (by kernel_rfl) hB3) (fun hS => ?_)
                clear hK
                (try go_frame)
                refine wpAnyL_done (by kernel_rfl) ?_ _
                clear hS
                go_wp2_with fail
                go_meet
                exact ⟨(.slice a8 nF c8), (.slice a16 nZ c16), Lib.hid (HL5.out.two ha), Lib.hid hB3.out.2, Lib.hid hB3.out.1, ha.far b24 hn24.lt hfA hsA⟩
              refine AllReadyL.cons rfl (fun K hK => ?_) AllReadyL.nil
              rw [if_pos (by rfl)]
              go_simp
              have hz15 := Cz.new X0 #[.int .i64 (ux : Int)] 3
              have hb : Below X0.heap.size X0 (X0.alloc (.cells #[.int .i64 (ux : Int)] 3)) := (Below.refl _ _).alloc (Nat.le_refl _) _
              have hge15 : w28.heap.size ≤ X0.heap.size := ha.bu.size
              replace ha := ha.step hb
              generalize (X0.alloc (.cells #[.int .i64 (ux : Int)] 3)) = X0b at hz15 hb ha ⊢
              obtain ⟨g15, hg15⟩ : ∃ z, X0.heap.size = z := ⟨_, rfl⟩
              rw [hg15] at hz15 hge15 ⊢
              clear hg15 hb
              refine hK.out _ _ (SL.all (HAB.out _ _ _ _ _ ha).1 (HAB.out _ _ _ _ _ ha).2) (fun hS => ?_)
              clear hK
              (try go_frame)
              refine wpAnyL_ready (rs := [7]) (by kernel_rfl) (by simp) ?_
              refine AllReadyL.cons rfl (fun K hK => ?_) AllReadyL.nil
              rw [if_pos (by rfl)]
              go_simp
              have hz7 := Cz.new X0b #[.int .i64 (fl : Int)] 3
              have hb : Below X0b.heap.size X0b (X0b.alloc (.cells #[.int .i64 (fl : Int)] 3)) := (Below.refl _ _).alloc (Nat.le_refl _) _
              have hge7 : w28.heap.size ≤ X0b.heap.size := ha.bu.size
              replace ha := ha.step hb
              replace hz15 := hz15.step hb
              generalize (X0b.alloc (.cells #[.int .i64 (fl : Int)] 3)) = X0ba at hz7 hb ha hz15 ⊢
              obtain ⟨g7, hg7⟩ : ∃ z, X0b.heap.size = z := ⟨_, rfl⟩
              rw [hg7] at hz7 hge7 ⊢
              clear hg7 hb
              refine hK.out _ _ (SL.all (HAB.out _ _ _ _ _ ha).1 (HAB.out _ _ _ _ _ ha).2) (fun hS => ?_)
              clear hK
              (try go_frame)
              refine wpAnyL_ready (rs := [8]) (by kernel_rfl) (by simp) ?_
              refine AllReadyL.cons rfl (fun K hK => ?_) AllReadyL.nil
              rw [if_pos (by rfl)]
              refine wp_appI (.tmp 129) (.tmp 131) rfl rfl ha.r1 rfl hz7 hFl.1 (by have := ha.bu.size; have := HB8.out; omega) ?_
              intro v8 X0bap hown hg hat
              obtain ⟨a8, c8, hv8⟩ := ownShape hown
              rw [HNF.out] at hv8
              subst hv8
              replace hz15 := hz15.but (ButS.row hg (S := fun k => fv.ownBlock = some k) (fun j e => e)) (fun e => by have := (own_k HL5.out.fr g15 e).1; omega)
              replace ha := ha.one (by have := ha.bu.size; have := HB8.out; omega) hown hg hat
              clear hown hg hat hz7 hge7
              refine hK.out _ _ (SL.all (HAB.out _ _ _ _ _ ha).1 (HAB.out _ _ _ _ _ ha).2) (fun hS => ?_)
              clear hK
              (try go_frame)
              refine wpAnyL_ready (rs := [16]) (by kernel_rfl) (by simp) ?_
              refine AllReadyL.cons rfl (fun K hK => ?_) AllReadyL.nil
              rw [if_pos (by rfl)]
              refine wp_appI (.tmp 136) (.tmp 139) rfl rfl ha.r2 rfl hz15 hFl.2 (by have := ha.bu.size; have := HB8.out; omega) ?_
              intro v16 X0bapq hown hg hat
              obtain ⟨a16, c16, hv8⟩ := ownShape hown
              rw [HNZ.out] at hv8
              subst hv8
              replace ha := (ha.swap.one (by have := ha.bu.size; have := HB8.out; omega) hown hg hat).swap
              clear hown hg hat hz15 hge15
              refine hK.out _ _ (SL.all (HAB.out _ _ _ _ _ ha).1 (HAB.out _ _ _ _ _ ha).2) (fun hS => ?_)
              clear hK
              (try go_frame)
              refine wpAnyL_takeB (i := 17) (v := .pointer (some ⟨x, 0, none⟩)) rfl (by kernel_rfl) (by kernel_rfl) (by kernel_rfl) (fun _ _ _ h => h) (by kernel_rfl) (Or.inl ⟨by rfl, fun w' hw => ?_⟩) hS (fun hS => ?_)
              · have h1 := hw.out.1.c 0; have h2 := hw.out.2.c 5; simp at h1 h2
                go_simp
              simp only [Act.put, List.getElem_toArray, List.getElem_cons_succ, List.getElem_cons_zero, List.setIfInBounds_toArray, List.set_cons_zero, List.set_cons_succ]
              refine wpAnyL_takeB (i := 18) (v := .pointer (some ⟨x, 7, none⟩)) rfl (by kernel_rfl) (by kernel_rfl) (by kernel_rfl) (fun _ _ _ h => h) (by kernel_rfl) (Or.inl ⟨by rfl, fun w' hw => ?_⟩) hS (fun hS => ?_)
              · have h1 := hw.out.1.c 0; have h2 := hw.out.2.c 5; simp at h1 h2
                go_simp
              simp only [Act.put, List.getElem_toArray, List.getElem_cons_succ, List.getElem_cons_zero, List.setIfInBounds_toArray, List.set_cons_zero, List.set_cons_succ]
              refine wpAnyL_ready (rs := [19]) (by kernel_rfl) (by simp) ?_
              refine AllReadyL.cons rfl (fun K hK => ?_) AllReadyL.nil
              rw [if_pos (by rfl)]
              have hx1 := (HAB.out _ _ _ _ _ ha).1.out; have hB1 := (HAB.out _ _ _ _ _ ha).2.out
              have pz := hx1.c 7; have qz := hx1.f 7
              simp at pz
              go_simp
              have hbu : ButS (fun k => k = x) X0bapq (X0bapq.setCell ⟨x, 7, none⟩ (.slice a8 nF c8)) := ButS.set (S := fun k => k = x) X0bapq (p := ⟨x, 7, none⟩) rfl _
              have kk : ∀ k, k = x → knd X0bapq k = some 62 := fun k e => by rw [e]; exact hx1.k
              have hB2 : Hid (Cz (X0bapq.setCell ⟨x, 7, none⟩ (.slice a8 nF c8)) b24 3 #[.int .i64 (fl : Int)] ∧ Cz (X0bapq.setCell ⟨x, 7, none⟩ (.slice a8 nF c8)) b23 84 (sgC kx gx fx tx (.slice ra nr rcp) ux wx)) := Lib.hid ⟨hB1.1.kn hbu kk (by decide), hB1.2.kn hbu kk (by decide)⟩
              have hx2 := hx1.set 7 (.slice a8 nF c8)
              clear pz qz hbu kk hB1 hx1
              refine hK.out _ _ (SL.late (by kernel_rfl) hB2) (fun hS => ?_)
              clear hK
              (try go_frame)
              refine wpAnyL_takeB (i := 20) (v := .pointer (some ⟨x, 0, none⟩)) rfl (by kernel_rfl) (by kernel_rfl) (by kernel_rfl) (fun _ _ _ h => h) (by kernel_rfl) (Or.inl ⟨by rfl, fun w' hw => ?_⟩) hS (fun hS => ?_)
              · have h1 := hw.out.1.c 0; have h2 := hw.out.2.c 5; simp at h1 h2
                go_simp
              simp only [Act.put, List.getElem_toArray, List.getElem_cons_succ, List.getElem_cons_zero, List.setIfInBounds_toArray, List.set_cons_zero, List.set_cons_succ]
              refine wpAnyL_takeB (i := 21) (v := .pointer (some ⟨x, 8, none⟩)) rfl (by kernel_rfl) (by kernel_rfl) (by kernel_rfl) (fun _ _ _ h => h) (by kernel_rfl) (Or.inl ⟨by rfl, fun w' hw => ?_⟩) hS (fun hS => ?_)
              · have h1 := hw.out.1.c 0; have h2 := hw.out.2.c 5; simp at h1 h2
                go_simp
              simp only [Act.put, List.getElem_toArray, List.getElem_cons_succ, List.getElem_cons_zero, List.setIfInBounds_toArray, List.set_cons_zero, List.set_cons_succ]
              refine wpAnyL_ready (rs := [22]) (by kernel_rfl) (by simp) ?_
              refine AllReadyL.cons rfl (fun K hK => ?_) AllReadyL.nil
              rw [if_pos (by rfl)]
              have pz := hx2.c 8; have qz := hx2.f 8
              simp at pz
              go_simp
              have hbu : ButS (fun k => k = x) (X0bapq.setCell ⟨x, 7, none⟩ (.slice a8 nF c8)) ((X0bapq.setCell ⟨x, 7, none⟩ (.slice a8 nF c8)).setCell ⟨x, 8, none⟩ (.slice a16 nZ c16)) := ButS.set (S := fun k => k = x) (X0bapq.setCell ⟨x, 7, none⟩ (.slice a8 nF c8)) (p := ⟨x, 8, none⟩) rfl _
              have kk : ∀ k, k = x → knd (X0bapq.setCell ⟨x, 7, none⟩ (.slice a8 nF c8)) k = some 62 := fun k e => by rw [e]; exact hx2.k
              have hB3 : Hid (Cz ((X0bapq.setCell ⟨x, 7, none⟩ (.slice a8 nF c8)).setCell ⟨x, 8, none⟩ (.slice a16 nZ c16)) b24 3 #[.int .i64 (fl : Int)] ∧ Cz ((X0bapq.setCell ⟨x, 7, none⟩ (.slice a8 nF c8)).setCell ⟨x, 8, none⟩ (.slice a16 nZ c16)) b23 84 (sgC kx gx fx tx (.slice ra nr rcp) ux wx)) := Lib.hid ⟨hB2.out.1.kn hbu kk (by decide), hB2.out.2.kn hbu kk (by decide)⟩
              clear pz qz hbu kk hB2 hx2
              refine hK.out _ _ (SL.late (by kernel_rfl) hB3) (fun hS => ?_)
              clear hK
              (try go_frame)
              refine wpAnyL_done (by kernel_rfl) ?_ _
              clear hS
              go_wp2_with fail
              go_meet
              exact ⟨(.slice a8 nF c8), (.slice a16 nZ c16), Lib.hid (HL5.out.two ha), Lib.hid hB3.out.2, Lib.hid hB3.out.1, ha.far b24 hn24.lt hfA hsA⟩
            case rest =>
              obtain ⟨v1, v2, HL6, HW23, HW24, hv1, hv2⟩ := hcut
              have kz := HL6.out.hk.c 2; have kf := HL6.out.hk.f 2
              have s4 := HW23.out.c 4
              simp at kz s4
              obtain ⟨i1, hi1, hi1z, hi1s, hi1b⟩ := info_parts infoStr'
              obtain ⟨nRR, hnRR⟩ : ∃ z, (lqOf t0 f0 Gq).R.length = z := ⟨_, rfl⟩
              have HRRL := Lib.hid hnRR
              have hnRR3 : nRR ≤ 3000000 := by
                have h1 : ∀ G : List (Nat × Wl.Sg), (∀ y ∈ G, y.2.recs.length ≤ 1000000) → (G.flatMap (·.2.recs)).length ≤ G.length * 1000000 := fun G => by
                  induction G with
                  | nil => intro _; simp
                  | cons y r ih => intro hh; rw [List.flatMap_cons, List.length_append, List.length_cons]; have := ih (fun y hy => hh y (List.mem_cons_of_mem _ hy)); have := hh y (by simp); omega
                have h2 := h1 Gq (fun y hy => by
                  rw [← HGQ.out] at hy
                  unfold gsOf at hy
                  obtain ⟨j, hj, rfl⟩ := List.mem_map.1 hy
                  have hjl : j < (psF D.now 3).length := by rw [HPD.out]; exact HLT2.out j (List.mem_of_mem_take hj)
                  have hmem : (psF D.now 3).getD j (0, sgZ) ∈ psF D.now 3 := by rw [List.getD_eq_getElem?_getD, List.getElem?_eq_getElem hjl]; exact List.getElem_mem hjl
                  exact (HBND.out _ hmem).2.2.1)
                have h3 : Gq.length ≤ 3 := by rw [← HGQ.out]; unfold gsOf; rw [List.length_map, List.length_take]; have := HNR.out; omega
                rw [← hnRR]
                show (Gq.flatMap _).length ≤ _
                have : Gq.length * 1000000 ≤ 3 * 1000000 := Nat.mul_le_mul_right _ h3
                omega
              have hnr3 : nr ≤ 1000000 := by rw [← HNRX.out]; exact HBN.out.2.2.1
              have HRV : Hid (wc.ownsRow w8.heap.size 9 1 rv nRR (strsV (lqOf t0 f0 Gq).R)) := Lib.hid (by rw [← hnRR]; exact HL6.out.rr)
              have HS8 := Lib.hid HL6.out.be.size
              have HSRC : Hid ((ra = none ∧ nr = 0 ∧ rcp = 0) ∨ ∃ g9, ra = some ⟨g9, 0, none⟩ ∧ ∀ (j : Nat) (u : Value), (strsV rx)[j]? = some u → wc.cell? ⟨g9, j, none⟩ = some u) := Lib.hid (by
                rcases HROWN.2 with ⟨h1, h2⟩ | ⟨g9, cap9, cur9, h1, h2, h3, _⟩
                · simp only [Value.slice.injEq] at h1
                  exact Or.inl ⟨h1.1, by rw [← HNRX.out]; exact h2, h1.2.2⟩
                · simp only [Value.slice.injEq] at h1
                  refine Or.inr ⟨g9, h1.1, fun j u hu => ?_⟩
                  have := World.ownsRow.cells HROWN (g := g9) (by rw [h1.1]; rfl) j u hu
                  rw [Addr.add_lit, Nat.zero_add] at this
                  exact (HL6.out.be.cell (p := ⟨g9, j, none⟩) ((Array.getElem?_eq_some_iff.1 h3).1)).trans this)
              have HSTL : Hid ((strsV rx).length = nr) := Lib.hid (by unfold strsV; rw [List.length_map]; exact HNRX.out)
              have HSTO : Hid (∀ u ∈ strsV rx, u.oneCell' = true) := Lib.hid (fun u hu => by unfold strsV at hu; obtain ⟨z, _, rfl⟩ := List.mem_map.1 hu; rfl)
              clear hnRR
              obtain ⟨arv, crv, hrvS⟩ := ownShape HRV.out
              subst hrvS
              have HF8 := Lib.hid (HL6.out.fr)
              go_upto_region 30 with fail
              go_cut [] (fun wx4 => ∃ rv' : Value, Hid (LpF w8 d b0 x kb m (q + 1) ⟨gx, 0, nx, t0, f0, (lqOf t0 f0 Gq).F ++ [fl], (lqOf t0 f0 Gq).Z ++ [ux], (lqOf t0 f0 Gq).R ++ rx, (lqOf t0 f0 Gq).cs, fun z => if z = fl then some (.int .i64 1) else (lqOf t0 f0 Gq).C z⟩ v1 v2 rv' u20 cvs wx4) ∧ Hid (Cz wx4 b23 84 (sgC kx gx fx tx (.slice ra nr rcp) ux wx)) ∧ Hid (Cz wx4 b24 3 #[.int .i64 (fl : Int)]))
              case first =>
                rcases HSRC.out with ⟨e1, e2, e3⟩ | ⟨g9, e1, hg9⟩
                · have hnil : rx = [] := List.length_eq_zero_iff.1 (HNRX.out.trans e2)
                  rw [e1, e2, e3] at s4
                  go_wp2_with (at_builtin; refine wpList_append_own_none rfl _ _ 33 rfl w8.heap.size 9 i1 1 Try.underlying33 hi1 (.slice arv nRR crv) nRR (strsV (lqOf t0 f0 Gq).R) rfl HRV.out rfl ?_)
                  go_meet
                  have hb2 : ButS (fun k => k = kb) wc (wc.setCell ⟨kb, 2, none⟩ (.slice arv nRR crv)) := ButS.set (S := fun k => k = kb) wc (p := ⟨kb, 2, none⟩) rfl _
                  have n2 : ∀ k, k = kb → knd wc k = some 45 := fun k e => by rw [e]; exact HL6.out.hk.k
                  refine ⟨.slice arv nRR crv, Lib.hid (HL6.out.recs (R' := (lqOf t0 f0 Gq).R ++ rx) ?_ ⟨rfl, rfl, rfl, Nat.le_refl _, fun _ _ _ => rfl⟩), Lib.hid (HW23.out.kn hb2 n2 (by decide)), Lib.hid (HW24.out.kn hb2 n2 (by decide))⟩
                  rw [hnil, List.append_nil]; exact HL6.out.rr
                · rw [e1] at s4
                  have kzb : ∀ w30 : World, wc.grownBy w30 (Value.slice arv nRR crv).ownBlock → Cz w30 kb 45 (kepC t0 f0 (.slice arv nRR crv)) ∧ Cz w30 b23 84 (sgC kx gx fx tx (.slice ra nr rcp) ux wx) ∧ Cz w30 b24 3 #[.int .i64 (fl : Int)] := fun w30 hg => by
                    have hb : ButS (fun k => (Value.slice arv nRR crv).ownBlock = some k) wc w30 := ButS.row hg (fun j e => e)
                    have n : ∀ k, (Value.slice arv nRR crv).ownBlock = some k → knd wc k = some 9 := fun k e => (own_k HL6.out.rr k e).2
                    exact ⟨HL6.out.hk.kn hb n (by decide), HW23.out.kn hb n (by decide), HW24.out.kn hb n (by decide)⟩
                  have KZB := Lib.hid kzb
                  clear kzb
                  go_wp2_with (at_builtin; refine wpList_append_own _ rfl _ _ 33 rfl w8.heap.size 9 i1 (.string ⟨#[]⟩) 1 16 Try.underlying33 hi1 hi1z hi1s hi1b rfl (by decide) (.slice arv nRR crv) nRR (strsV (lqOf t0 f0 Gq).R) rfl HRV.out ⟨g9, 0, none⟩ nr rcp (strsV rx) rfl (by rw [HSTL.out]; omega) (fun j u hu => by rw [Addr.add_lit, Nat.zero_add]; exact hg9 j u hu) HSTO.out (by unfold maxLen; omega) (by omega) HS8.out ?_; intro v30 w30 hown30 hg30 _; obtain ⟨a30, c30, hv30⟩ := ownShape hown30; subst hv30; have Hown30 := Lib.hid hown30; have Hg30 := Lib.hid hg30; have kz30 := (KZB.out w30 hg30).1.c 2; have kf30 := (KZB.out w30 hg30).1.f 2; simp at kz30; clear hown30 hg30)
                  go_meet
                  have hkk := KZB.out w30 Hg30.out
                  have hb2 : ButS (fun k => k = kb) w30 (w30.setCell ⟨kb, 2, none⟩ (.slice a30 (nRR + nr) c30)) := ButS.set (S := fun k => k = kb) w30 (p := ⟨kb, 2, none⟩) rfl _
                  have n2 : ∀ k, k = kb → knd w30 k = some 45 := fun k e => by rw [e]; exact hkk.1.k
                  refine ⟨.slice a30 (nRR + nr) c30, Lib.hid (HL6.out.recs (R' := (lqOf t0 f0 Gq).R ++ rx) ?_ Hg30.out), Lib.hid (hkk.2.1.kn hb2 n2 (by decide)), Lib.hid (hkk.2.2.kn hb2 n2 (by decide))⟩
                  rw [List.length_append, HRRL.out, HNRX.out]
                  unfold strsV
                  rw [List.map_append]
                  exact Hown30.out
              case rest =>
                obtain ⟨rv', HL7, HQ23, HQ24⟩ := hcut
                have HEQ : Hid (lqOf t0 f0 (gsOf (psF D.now 3) (rw.take (q + 1))) = ⟨gx, 0, nx, t0, f0, (lqOf t0 f0 Gq).F ++ [fl], (lqOf t0 f0 Gq).Z ++ [ux], (lqOf t0 f0 Gq).R ++ rx, (lqOf t0 f0 Gq).cs ++ (if wx then [] else [.cut (fl : Int) ux]), fun z => if z = fl then some (.int .i64 1) else (lqOf t0 f0 Gq).C z⟩) := Lib.hid (by rw [HTAKE.out, lqOf_snoc, ← HNX.out, ← HNRX.out]; rfl)
                have c6 := HQ23.out.c 6
                simp at c6
                cases wx with
                | true =>
                  go_wp2_with fail
                  go_roundw
                  case rel =>
                    refine ⟨q + 1, v1, v2, rv', cvs, HQ.out, by go_num, ?_⟩
                    rw [HEQ.out]
                    simp only [if_true, List.append_nil]
                    exact HL7
                  case measure => have := HQ.out; simp [intOf]; omega
                | false =>
                  obtain ⟨i2, hi2, hi2z, hi2s, hi2b⟩ := info_parts infoFn0
                  have hcv : cvs.length ≤ 3 := by
                    rw [HL7.out.ln]
                    show ((Gq.filter _).map _).length ≤ 3
                    rw [List.length_map]
                    have h3 : Gq.length ≤ 3 := by rw [← HGQ.out]; unfold gsOf; rw [List.length_map, List.length_take]; have := HNR.out; omega
                    have := List.length_filter_le (fun y : Nat × Wl.Sg => !y.2.whole) Gq
                    omega
                  obtain ⟨ncv, hncv⟩ : ∃ z, cvs.length = z := ⟨_, rfl⟩
                  rw [hncv] at hcv
                  have HCV : Hid (wc.ownsRow w8.heap.size 41 1 u20 ncv cvs) := Lib.hid (by rw [← hncv]; exact HL7.out.cr)
                  have HNCV := Lib.hid hncv
                  clear hncv
                  have HS9 := Lib.hid HL7.out.be.size
                  go_wp2_with (first
                    | (at_builtin; refine wpList_append_own _ rfl _ _ 76 rfl w8.heap.size 41 i2 .nilFunc 1 8 Try.underlying76 hi2 hi2z hi2s hi2b rfl (by decide) u20 ncv cvs rfl (ownBelow HCV.out ((Below.refl _ _).alloc (Nat.le_refl _) _)) ⟨wc.heap.size, 0, none⟩ 1 1 [.func (.func 48) #[] #[.pointer (some ⟨b0, 0, none⟩), .pointer (some ⟨b24, 0, none⟩), .pointer (some ⟨b23, 0, none⟩)]] rfl rfl (World.news_of_block (MapKept.heap_alloc _ _).1) (by intro u hu; simp only [List.mem_cons, List.mem_nil_iff, or_false] at hu; rcases hu with rfl; rfl) (by unfold maxLen; omega) (by omega) (by have := HS9.out; simp; omega) ?_; intro v32 w32 hown32 hg32 _; have Hown32 := Lib.hid hown32; have Hg32 := Lib.hid hg32; clear hown32 hg32)
                    | fail)
                  go_roundw
                  case rel =>
                    have hba : Below wc.heap.size wc (wc.alloc (.cells #[.func (.func 48) #[] #[.pointer (some ⟨b0, 0, none⟩), .pointer (some ⟨b24, 0, none⟩), .pointer (some ⟨b23, 0, none⟩)]] 41)) := (Below.refl _ _).alloc (Nat.le_refl _) _
                    refine ⟨q + 1, v1, v2, rv', cvs ++ [.func (.func 48) #[] #[.pointer (some ⟨b0, 0, none⟩), .pointer (some ⟨b24, 0, none⟩), .pointer (some ⟨b23, 0, none⟩)]], HQ.out, by go_num, ?_⟩
                    rw [HEQ.out]
                    have hle := HLP.out.be.size
                    refine Lib.hid ((HL7.out.step hba).calls (c := .cut (fl : Int) ux) (by rw [List.length_append, HNCV.out]; exact Hown32.out) Hg32.out (Or.inl ⟨b24, b23, ux, _, (fl : Int), rfl, rfl, HQ24.out.step hba, HQ23.out.step hba, rfl, hv1, hv2, by omega, by omega⟩))
                  case measure => have := HQ.out; simp [intOf]; omega
        · obtain rfl : q = nR := by omega
          rw [List.take_of_length_le (by rw [HNR.out]; exact Nat.le_refl _)] at HLP
          have HGOK : Hid (∀ y ∈ gsOf (psF D.now 3) rw, y.1 < 3 ∧ y.2.used ≤ (D.now y.1).length) := Lib.hid (fun y hy => by
            have h1 := psF_mem (gsOf_mem (fun i hi => by rw [HPD.out]; exact HLT2.out i hi) hy)
            exact ⟨h1.1, (parse_bound h1.2 (HT.out _ h1.1)).2.1⟩)
          have HGND := Lib.hid (gsOf_nodup (psF_nodup D.now 3) HND.out (fun i hi => by rw [HPD.out]; exact HLT2.out i hi))
          have HGLEN : Hid ((gsOf (psF D.now 3) rw).length ≤ 3) := Lib.hid (by unfold gsOf; rw [List.length_map, HNR.out]; exact hnR3')
          have HF00 : Hid (((psF D.now 3).getD (rw.getD 0 0) (0, sgZ)).2.first = f0 ∧ ((psF D.now 3).getD (rw.getD 0 0) (0, sgZ)).2.text = t0) := Lib.hid (by
            have e1 : (psF D.now 3).getD r0 (0, sgZ) = smP ts := by rw [← HTP.out, List.getD_eq_getElem?_getD, List.getElem?_map, HTS.out]; rfl
            rw [HRW.out, List.getD_cons_zero, e1]
            exact ⟨HF0.out, HT0.out⟩)
          obtain ⟨GL, hGL⟩ : ∃ z, gsOf (psF D.now 3) rw = z := ⟨_, rfl⟩
          have HGL2 := Lib.hid hGL
          rw [hGL] at HLP HGOK HGND HGLEN ⊢
          have kf := HLP.out.hk.c 1; have kg := HLP.out.hk.f 1
          simp at kf
          have xz := HLP.out.hx.c 5; have xf := HLP.out.hx.f 5
          simp at xz
          clear hGL HGA HGR HRC HCE8 HGF HNT HTP HTS HRW HPD HBND HT0 HF0 hr0 hr0i
          go_upto_region 35 with fail
          refine wp_abs (F := fun W => Hid (LpF w8 d b0 x kb m q { lqOf t0 f0 GL with f := f0 } fv sv rv u20 cvs W)) (Lib.hid (HLP.out.setF f0)) ?_
          intro w34 HLS
          have HB834 := Lib.hid HLS.out.be
          clear kf kg xz xf HLP
          have HGT : Hid (∀ (W : World), Below w8.heap.size w8 W → ∀ k, k < 3 → W.cell? ⟨g, k, none⟩ = some (.string (bs (D.now k)))) := Lib.hid (fun W hW k hk => (hW.cell (p := ⟨g, k, none⟩) (by have := HA8.out.be.size; have := HGL.out; show g < _; omega)).trans ((HA8.out.be.cell (p := ⟨g, k, none⟩) HGL.out).trans (HG.out k hk)))
          have HLS0 : Hid (LpF w8 d b0 x kb m q { lqOf t0 f0 GL with f := f0, cs := cutD (tornC GL ++ restC (GL.map (·.1)) D.now 0) } fv sv rv u20 cvs w34) := Lib.hid (by
            have h1 := HLS.out
            have h2 := tornC_cs t0 f0 GL
            rw [show restC (GL.map (·.1)) D.now 0 = [] from rfl, List.append_nil, ← h2]
            exact h1)
          clear HLS
          go_wp2_with fail
          go_loopw [20, 166] (fun cv i wr => ∃ (k : Nat) (cvs : List Value), k ≤ 3 ∧ i = .int .i64 k ∧ Hid (LpF w8 d b0 x kb m q { lqOf t0 f0 GL with f := f0, cs := cutD (tornC GL ++ restC (GL.map (·.1)) D.now k) } fv sv rv cv cvs wr)) (fun _ i _ => 3 - (intOf i).toNat)
          case atStart => exact ⟨0, cvs, by omega, rfl, HLS0⟩
          case round =>
            obtain ⟨k, cvs, hk, rfl, HLR⟩ := hrel
            clear HLS0
            by_cases hlt : k < 3
            · have HLTK := Lib.hid hlt
              have hki : (k : Int) < 3 := by omega
              obtain ⟨s, hs⟩ : ∃ s, D.now k = s := ⟨_, rfl⟩
              have HSK := Lib.hid hs
              have cg := HGT.out wr HLR.out.be k hlt
              rw [hs] at cg
              clear hs
              go_upto_region 38 with fail
              refine wp_abs (F := fun W => Hid (LpF w8 d b0 x kb m q { lqOf t0 f0 GL with f := f0, cs := cutD (tornC GL ++ restC (GL.map (·.1)) D.now k) } fv sv rv u20 cvs W) ∧ Hid (Cz W wr.heap.size 3 #[.int .i64 (k : Int)])) ⟨Lib.hid (HLR.out.step ((Below.refl _ _).alloc (Nat.le_refl _) _)), Lib.hid (Cz.new _ _ _)⟩ ?_
              rintro w37 ⟨HLU, HZ37⟩
              have HSZ := Lib.hid HLR.out.be.size
              obtain ⟨bx, hbx⟩ : ∃ z, wr.heap.size = z := ⟨_, rfl⟩
              rw [hbx] at HZ37 HSZ ⊢
              have HNFV : Hid (fv.ownBlock ≠ some bx ∧ sv.ownBlock ≠ some bx) := Lib.hid ⟨fun e => by have := (own_k HLR.out.fr bx e).1; omega, fun e => by have := (own_k HLR.out.zr bx e).1; omega⟩
              clear HLR cg hbx
              have cx := HZ37.out.c 0
              simp at cx
              have hlook := HLU.out.hm.look Try.underlying89 (zeroInt w37) k (by omega)
              by_cases hin : k ∈ GL.map (·.1)
              · rw [show (lqOf t0 f0 GL).C k = some (.int .i64 1) from if_pos hin] at hlook
                dsimp only [Option.getD] at hlook
                have HIN := Lib.hid hin
                clear hin
                go_wp2_with fail
                go_roundw
                case rel =>
                  refine ⟨k + 1, cvs, HLTK.out, by go_num, ?_⟩
                  rw [show restC (GL.map (·.1)) D.now (k + 1) = restC (GL.map (·.1)) D.now k from by show _ ++ _ = _; rw [if_pos (Or.inl HIN.out), List.append_nil]]
                  exact HLU
                case measure => have := HLTK.out; simp [intOf]; omega
              · rw [show (lqOf t0 f0 GL).C k = none from if_neg hin] at hlook
                dsimp only [Option.getD] at hlook
                have HIN := Lib.hid hin
                clear hin
                by_cases hse : s = []
                · have hem : (bs s).toList.isEmpty = true := by rw [bs_empty]; simpa using hse
                  have HSE := Lib.hid hse
                  clear hse
                  go_wp2_with fail
                  go_roundw
                  case rel =>
                    refine ⟨k + 1, cvs, HLTK.out, by go_num, ?_⟩
                    rw [show restC (GL.map (·.1)) D.now (k + 1) = restC (GL.map (·.1)) D.now k from by show _ ++ _ = _; rw [if_pos (Or.inr (HSK.out.trans HSE.out)), List.append_nil]]
                    exact HLU
                  case measure => have := HLTK.out; simp [intOf]; omega
                · have hem : (bs s).toList.isEmpty = false := by rw [bs_empty]; simpa using hse
                  have HSE := Lib.hid hse
                  clear hse
                  obtain ⟨i2, hi2, hi2z, hi2s, hi2b⟩ := info_parts infoFn0
                  have hcv : cvs.length ≤ 6 := by
                    rw [HLU.out.ln]
                    show (cutD _).length ≤ 6
                    unfold cutD
                    rw [List.length_map, List.length_append]
                    have h1 := restC_len (GL.map (·.1)) D.now k
                    have h2 : (tornC GL).length ≤ GL.length := by unfold tornC; rw [List.length_map]; exact List.length_filter_le _ _
                    have := HGLEN.out
                    omega
                  obtain ⟨ncv, hncv⟩ : ∃ z, cvs.length = z := ⟨_, rfl⟩
                  rw [hncv] at hcv
                  have HCV : Hid (w37.ownsRow w8.heap.size 41 1 u20 ncv cvs) := Lib.hid (by rw [← hncv]; exact HLU.out.cr)
                  have HNCV := Lib.hid hncv
                  clear hncv
                  have HS9 := Lib.hid HLU.out.be.size
                  go_wp2_with (first
                    | (at_builtin; refine wpList_append_own _ rfl _ _ 76 rfl w8.heap.size 41 i2 .nilFunc 1 8 Try.underlying76 hi2 hi2z hi2s hi2b rfl (by decide) u20 ncv cvs rfl (ownBelow HCV.out ((Below.refl _ _).alloc (Nat.le_refl _) _)) ⟨w37.heap.size, 0, none⟩ 1 1 [.func (.func 49) #[] #[.pointer (some ⟨b0, 0, none⟩), .pointer (some ⟨bx, 0, none⟩)]] rfl rfl (World.news_of_block (MapKept.heap_alloc _ _).1) (by intro u hu; simp only [List.mem_cons, List.mem_nil_iff, or_false] at hu; rcases hu with rfl; rfl) (by unfold maxLen; omega) (by omega) (by have := HS9.out; simp; omega) ?_; intro v32 w32 hown32 hg32 _; have Hown32 := Lib.hid hown32; have Hg32 := Lib.hid hg32; clear hown32 hg32)
                    | fail)
                  go_roundw
                  case rel =>
                    have hba : Below w37.heap.size w37 (w37.alloc (.cells #[.func (.func 49) #[] #[.pointer (some ⟨b0, 0, none⟩), .pointer (some ⟨bx, 0, none⟩)]] 41)) := (Below.refl _ _).alloc (Nat.le_refl _) _
                    refine ⟨k + 1, cvs ++ [.func (.func 49) #[] #[.pointer (some ⟨b0, 0, none⟩), .pointer (some ⟨bx, 0, none⟩)]], HLTK.out, by go_num, ?_⟩
                    rw [show cutD (tornC GL ++ restC (GL.map (·.1)) D.now (k + 1)) = cutD (tornC GL ++ restC (GL.map (·.1)) D.now k) ++ [.cut (k : Int) 0] from by
                      rw [show restC (GL.map (·.1)) D.now (k + 1) = restC (GL.map (·.1)) D.now k ++ [(k, 0)] from by show _ ++ _ = _; rw [if_neg (fun h => h.elim HIN.out (fun h => HSE.out (HSK.out.symm.trans h)))]]
                      unfold cutD; rw [← List.append_assoc, List.map_append]; rfl]
                    have hsz := HSZ.out
                    refine Lib.hid ((HLU.out.step hba).calls (c := .cut (k : Int) 0) (by rw [List.length_append, HNCV.out]; exact Hown32.out) Hg32.out (Or.inr ⟨bx, (k : Int), rfl, rfl, HZ37.out.step hba, HNFV.out.1, HNFV.out.2, hsz⟩))
                  case measure => have := HLTK.out; simp [intOf]; omega
            · obtain rfl : k = 3 := by omega
              have HLU : Hid (LpF w8 d b0 x kb m q { lqOf t0 f0 GL with f := f0, cs := cutD (cutsL GL D.now) } fv sv rv u20 cvs wr) := HLR
              clear HLR
              have hc0 := HLU.out.h0.c 0
              simp at hc0
              obtain ⟨i2, hi2, hi2z, hi2s, hi2b⟩ := info_parts infoFn0
              have hcv : cvs.length ≤ 6 := by
                rw [HLU.out.ln]
                show (cutD _).length ≤ 6
                unfold cutD cutsL
                rw [List.length_map, List.length_append]
                have h1 := restC_len (GL.map (·.1)) D.now 3
                have h2 : (tornC GL).length ≤ GL.length := by unfold tornC; rw [List.length_map]; exact List.length_filter_le _ _
                have := HGLEN.out
                omega
              obtain ⟨ncv, hncv⟩ : ∃ z, cvs.length = z := ⟨_, rfl⟩
              rw [hncv] at hcv
              have HCV : Hid (wr.ownsRow w8.heap.size 41 1 u20 ncv cvs) := Lib.hid (by rw [← hncv]; exact HLU.out.cr)
              have HNCV := Lib.hid hncv
              clear hncv
              have HS9 := Lib.hid HLU.out.be.size
              go_wp2_with (first
                | (at_builtin; refine wpList_append_own _ rfl _ _ 76 rfl w8.heap.size 41 i2 .nilFunc 1 8 Try.underlying76 hi2 hi2z hi2s hi2b rfl (by decide) u20 ncv cvs rfl (ownBelow HCV.out ((Below.refl _ _).alloc (Nat.le_refl _) _)) ⟨wr.heap.size, 0, none⟩ 1 1 [.func (.func 38) #[.pointer (some ⟨d, 0, none⟩)] #[]] rfl rfl (World.news_of_block (MapKept.heap_alloc _ _).1) (by intro u hu; simp only [List.mem_cons, List.mem_nil_iff, or_false] at hu; rcases hu with rfl; rfl) (by unfold maxLen; omega) (by omega) (by have := HS9.out; simp; omega) ?_; intro v32 w32 hown32 hg32 _; have Hown32 := Lib.hid hown32; have Hg32 := Lib.hid hg32; clear hown32 hg32)
                | fail)
              obtain ⟨a32, c32, rfl⟩ := ownShape Hown32.out
              have hba : Below wr.heap.size wr (wr.alloc (.cells #[.func (.func 38) #[.pointer (some ⟨d, 0, none⟩)] #[]] 41)) := (Below.refl _ _).alloc (Nat.le_refl _) _
              obtain ⟨hE, hB, h0, hC⟩ := (HLU.out.step hba).grow Hg32.out
              have hB8 : Below w8.heap.size w8 w32 := (HLU.out.step hba).be.trans hB
              have hB4 : Below w4.heap.size w4 w32 := HA8.out.be.trans (hB8.mono HA8.out.be.size)
              have hBw : Below w.heap.size w w32 := HB4.out.trans (hB4.mono HB4.out.size)
              have hk4 := HK4.out.step hB4
              obtain ⟨g5, rfl⟩ : ∃ g5, a32 = some ⟨g5, 0, none⟩ := by
                rcases Hown32.out.2 with ⟨h', hn'⟩ | ⟨g', cap', cur, h', _⟩
                · simp at hn'
                · simp only [Value.slice.injEq] at h'; exact ⟨g', h'.1⟩
              have hg5b := ownAbove Hown32.out g5 rfl
              have hs8 : w.heap.size ≤ w8.heap.size := by have := HB4.out.size; have := HA8.out.be.size; omega
              have hlen : (cvs ++ [Value.func (.func 38) #[.pointer (some ⟨d, 0, none⟩)] #[]]).length = (cutD (cutsL GL D.now) ++ [Dc.sync]).length := by
                rw [List.length_append, List.length_append, HLU.out.ln]; rfl
              have hcl : (cutD (cutsL GL D.now) ++ [Dc.sync]).length = ncv + 1 := by rw [← hlen, List.length_append, HNCV.out]; rfl
              have hrow5 : ∀ i v, (cvs ++ [Value.func (.func 38) #[.pointer (some ⟨d, 0, none⟩)] #[]])[i]? = some v → w32.cell? ⟨g5, i, none⟩ = some v := fun i v hv => by
                have hi := (List.getElem?_eq_some_iff.1 hv).1
                rw [World.ownsRow.cellAt Hown32.out i (by rw [hlen, hcl] at hi; omega)]
                exact hv
              have hst := wal_steps w32 (some ⟨g5, 0, none⟩) c32 (cvs ++ [Value.func (.func 38) #[.pointer (some ⟨d, 0, none⟩)] #[]]) (cutD (cutsL GL D.now) ++ [Dc.sync]) (H.out.step hBw) HK.out (by rw [hcl]; have := HL.out; omega) hlen
                (Or.inr ⟨g5, rfl, fun hs => by have := hop _ hs; omega, (own_k Hown32.out g5 rfl).1, hrow5⟩)
                (fun i v c hv hc => by
                  by_cases hi : i < cvs.length
                  · rw [List.getElem?_append_left hi] at hv
                    rw [List.getElem?_append_left (by have := HLU.out.ln; have h2 : cvs.length = (cutD (cutsL GL D.now)).length := this; omega)] at hc
                    exact (hC i v c hv hc).doer h0 (fun k hs => by have := hop _ hs; omega) (fun hs => by have := hop _ hs; have := HBE.out; omega)
                  · have h2 : cvs.length = (cutD (cutsL GL D.now)).length := HLU.out.ln
                    rw [List.getElem?_append_right (by omega)] at hv
                    rw [List.getElem?_append_right (by omega), ← h2] at hc
                    have h3 : i - cvs.length = 0 := by have := (List.getElem?_eq_some_iff.1 hv).1; simpa using this
                    rw [h3] at hv hc
                    simp only [List.getElem?_cons_zero, Option.some.injEq] at hv hc
                    subst hv; subst hc
                    exact doer_sync _ _ _)
                (opD_steps HF.out HN.out HGOK.out HGND.out).2
              rw [(opD_steps HF.out HN.out HGOK.out HGND.out).1, hcl] at hst
              have HST := Lib.hid hst
              have HE := Lib.hid hE; have HK5 := Lib.hid hk4; have HBW := Lib.hid hBw
              clear hE hB h0 hC hB8 hB4 hBw hk4 hrow5 hst hlen hcl hg5b hc0 hba
              refine HST.out.mono ?_
              rintro e w6 ⟨rfl, g1, bb⟩
              have G1 := Lib.hid g1; have BB := Lib.hid bb
              have HE6 := Lib.hid (HE.out.but bb (fun k hs => by have := hop _ hs; omega))
              have HK6 := Lib.hid (HK5.out.but bb (fun hs => by have := hop _ hs; have := HBE2.out; omega))
              obtain ⟨arv, crv, hrvS⟩ := ownShape HE6.out.rr
              dsimp only at hrvS
              subst hrvS
              have c0 := HE6.out.hk.c 0; have c1 := HE6.out.hk.c 1; have c2 := HE6.out.hk.c 2
              have z0 := HK6.out.c 0; have z1 := HK6.out.c 1; have z2 := HK6.out.c 2
              have y0 := HK6.out.f 0; have y1 := HK6.out.f 1; have y2 := HK6.out.f 2
              simp at c0 c1 c2 z0 z1 z2
              clear g1 bb HST HK5
              go_wp2_with fail
              go_region
              all_goals go_wp2_with fail
              have hb7 : ButS (fun k => k = b2) w6 (((((w6.setCell ⟨b2, 0, none⟩ (.string (bs (lqOf t0 f0 GL).text))).setCell ⟨b2, 1, none⟩ (.int .u64 ((lqOf t0 f0 GL).first : Int))).setCell ⟨b2, 2, none⟩ (.slice arv (lqOf t0 f0 GL).R.length crv))).drew) := (((ButS.set (S := fun k => k = b2) w6 (p := ⟨b2, 0, none⟩) rfl _).trans (ButS.set (S := fun k => k = b2) _ (p := ⟨b2, 1, none⟩) rfl _)).trans (ButS.set (S := fun k => k = b2) _ (p := ⟨b2, 2, none⟩) rfl _)).trans ⟨rfl, rfl, rfl, Nat.le_refl _, fun _ _ _ => rfl⟩
              have hz7 : Cz (((((w6.setCell ⟨b2, 0, none⟩ (.string (bs (lqOf t0 f0 GL).text))).setCell ⟨b2, 1, none⟩ (.int .u64 ((lqOf t0 f0 GL).first : Int))).setCell ⟨b2, 2, none⟩ (.slice arv (lqOf t0 f0 GL).R.length crv))).drew) b2 45 (kepC (lqOf t0 f0 GL).text (lqOf t0 f0 GL).first (.slice arv (lqOf t0 f0 GL).R.length crv)) := by
                have := ((HK6.out.set 0 (.string (bs (lqOf t0 f0 GL).text))).set 1 (.int .u64 ((lqOf t0 f0 GL).first : Int))).set 2 (.slice arv (lqOf t0 f0 GL).R.length crv)
                simp at this
                exact this
              generalize ((((w6.setCell ⟨b2, 0, none⟩ (.string (bs (lqOf t0 f0 GL).text))).setCell ⟨b2, 1, none⟩ (.int .u64 ((lqOf t0 f0 GL).first : Int))).setCell ⟨b2, 2, none⟩ (.slice arv (lqOf t0 f0 GL).R.length crv))).drew = w7 at hb7 hz7 ⊢
              have lb2 : b2 < w4.heap.size := HK4.out.lt
              have s8 := HA8.out.be.size
              have hE7 := HE6.out.but hb7 (fun k e => by subst e; omega)
              have hbw := HBW.out.size
              have hw4 := HB4.out.size
              have hw832 : w8.heap.size ≤ w32.heap.size := by have := HS9.out; have := Hg32.out.size; simp at this; omega
              have hb2e := HBE2.out
              have hd7 := G1.out.but hb7 (fun k hk e => by
                subst e
                rcases hk with hk | hk
                · have := hop _ hk; omega
                · omega)
              have z0 := hz7.c 0; have z1 := hz7.c 1; have z2 := hz7.c 2
              simp at z0 z1 z2
              have HE7 := Lib.hid hE7; have HD7 := Lib.hid hd7; have HB7 := Lib.hid hb7
              clear hE7 hd7 hb7 hz7
              rw [HF00.out.1, HF00.out.2, HGL2.out]
              have hT := HE7.out.tB
              refine bodyPost_ret (v := .tuple #[.pointer (some ⟨x, 0, none⟩), .agg (kepC t0 f0 (.slice arv (lqOf t0 f0 GL).R.length crv)), .int .i64 0]) ?_ rfl ?_
              · simp [results, Try.results19, go_sem, z0, z1, z2]; exact ⟨rfl, rfl⟩
              refine ⟨x, Gr S w32 w6, opT x fv sv, arv, crv, rfl, HD7.out, HE7.out.wal, fun k hk ht => ?_, fun k hk => ?_, fun k hk => ?_, ?_, ?_, fun b hb => ⟨fun hs => ?_, HE7.out.rvN b hb⟩⟩
              · have h1 := hT k ht
                rcases hk with hk | hk
                · have := hop _ hk; omega
                · have h2 := HE.out.wal.own k ht; omega
              · rcases hk with hk | hk
                · exact Or.inl hk
                · exact Or.inr (by omega)
              · have := hT k hk; omega
              · exact ((ButS.of HBW.out).trans BB.out).gr (HB7.out.mono (fun k e => Or.inr (by have := HK6.out.lt; subst e; omega)))
              · exact ownsRow_lower HE7.out.rr (by omega)
              · have h1 := ownAbove HE7.out.rr b hb
                rcases hs with hk | hk
                · have := hop _ hk; omega
                · have h2 := (own_k HE.out.rr b hb).1; omega
      
end Go.Proofs.Ytniflkggcceagaa
