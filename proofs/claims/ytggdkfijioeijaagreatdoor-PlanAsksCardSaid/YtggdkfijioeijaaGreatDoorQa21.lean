/- Contract: ref27.Map's Split. -/
import Derived.Test.YtggdkfijioeijaaGreatDoorQa17
import Derived.Test.YtggdkfijioeijaaGreatDoorQa20
import Derived.Deep.RegionLaw
namespace Go.Proofs.YtggdkfijioeijaaGreatDoor
open Go Go.RowKit Go.Maps
def DpS (nb base : Nat) (ev : Value) (sp : List (Nat × Nat)) (w : World) : Prop := ∃ a cp, w.heap[nb]? = some (.cells #[ev, .slice a sp.length cp] 88 (0, 0)) ∧ w.ownsRow base 99 2 (.slice a sp.length cp) sp.length (spV sp)
theorem DpS.below {nb base : Nat} {ev : Value} {sp : List (Nat × Nat)} {W W' : World} (h : DpS nb base ev sp W) (hb : Below W.heap.size W W') : DpS nb base ev sp W' := by
  obtain ⟨a, cp, h1, h2⟩ := h
  exact ⟨a, cp, (hb.block nb (lt_of_block h1)).trans h1, ownBelow h2 hb⟩
theorem dps_step {w w' : World} {nb base c s n cp cp' : Nat} {ev : Value} {sp : List (Nat × Nat)} {a a' : Option Addr} (hB : w.heap[nb]? = some (.cells #[ev, .slice a n cp] 88 (0, 0))) (hnb : nb < base) (hb : Below base w w')
    (hrow : w'.ownsRow base 99 2 (.slice a' (addS sp c s).length cp') (addS sp c s).length (spV (addS sp c s))) :
    w'.cell? ⟨nb, 1, none⟩ = some (.slice a n cp) ∧ w'.frozen? ⟨nb, 1, none⟩ = false ∧ ∃ X, w'.setCell ⟨nb, 1, none⟩ (.slice a' (addS sp c s).length cp') = X ∧ DpS nb base ev (addS sp c s) X ∧ KX nb base w X := by
  have hB' := (hb.block nb hnb).trans hB
  refine ⟨cell_of hB' 1, frozen_of hB' 1, _, rfl, ⟨a', cp', setCell_block hB' _, ownsRow_setCell_below hrow (by dsimp only; omega) _⟩, (KX.of hb).trans (KX.set base w' ⟨nb, 1, none⟩ _)⟩
theorem DpS.doc {nb base e1 : Nat} {sp : List (Nat × Nat)} {W : World} (h : DpS nb base (.int .u64 (e1 : Int)) sp W) (hne : sp ≠ []) : DocAt W nb e1 sp := by
  obtain ⟨a, cp, h1, h2⟩ := h
  have hpos := List.length_pos_iff.2 hne
  obtain ⟨g, rfl, hbg⟩ : ∃ g, a = some ⟨g, 0, none⟩ ∧ base ≤ g := by
    rcases h2.2 with ⟨_, h⟩ | ⟨g', cap', cur, h', hB, _⟩
    · omega
    · simp only [Value.slice.injEq] at h'; exact ⟨g', h'.1, hB⟩
  obtain ⟨C, T, F, hg⟩ := own_cells h2 g rfl
  refine ⟨g, cp, h1, lt_of_block hg, fun i hi => ?_⟩
  obtain ⟨s1, s2⟩ := spV_at sp i hi
  exact ⟨(World.ownsRow.cellAt h2 (i * 2) (by omega)).trans s1, (World.ownsRow.cellAt h2 (i * 2 + 1) (by omega)).trans s2⟩
theorem allW_fit {O : Nat → Nat} {sp : List (Nat × Nat)} (h : SpI O sp M64) {f t : Nat} (hft : f ≤ t) (ht : t < M64) : AllW sp f t (O f) sp.length ↔ ∀ u, f ≤ u → u ≤ t → O u = O f := by
  constructor
  · intro hA u h1 h2
    obtain ⟨k, hk, a, b⟩ := cover h (u := u) (Nat.lt_of_le_of_lt h2 ht)
    rw [h.at_ hk a b]
    exact hA k hk (Nat.le_trans a h2) (Nat.le_trans h1 b)
  · intro hF k hk a b
    have hn := (endOf_next h hk).1
    have e := h.at_ hk (u := max f (sp.getD k d0).1) (Nat.le_max_right _ _) (Nat.max_le.2 ⟨b, hn⟩)
    rw [← e]
    exact hF _ (Nat.le_max_left _ _) (Nat.max_le.2 ⟨hft, a⟩)
def SplitD (O : Nat → Nat) (f t tw e1 : Nat) (sp : List (Nat × Nat)) (w : World) (en : Ending) (w' : World) : Prop := Below w.heap.size w w' ∧ ∃ c : Int, SplitC O f t tw e1 (splitL sp f t tw).length c ∧
  ((c ≠ 0 ∧ en = .returned (.tuple #[.pointer none, .int .u32 0, .int .i64 c])) ∨ (c = 0 ∧ ∃ n, en = .returned (.tuple #[.pointer (some ⟨n, 0, none⟩), .int .u32 (O f : Nat), .int .i64 0]) ∧ DocAt w' n e1 (splitL sp f t tw)))
theorem splitC_not {O : Nat → Nat} {f t tw e1 L : Nat} (hb : ¬ BadArg f t tw) (h : ¬ FitO O f t tw) : SplitC O f t tw e1 L 270 := Or.inr (Or.inl ⟨hb, h, rfl⟩)
theorem splitC_full {O : Nat → Nat} {f t tw e1 L : Nat} (hb : ¬ BadArg f t tw) (h : FitO O f t tw) (h2 : 2048 < L ∨ e1 = 0) : SplitC O f t tw e1 L 4 := Or.inr (Or.inr (Or.inl ⟨hb, h, h2, rfl⟩))
theorem splitC_ok {O : Nat → Nat} {f t tw e1 L : Nat} (hb : ¬ BadArg f t tw) (h : FitO O f t tw) (h2 : ¬ (2048 < L ∨ e1 = 0)) : SplitC O f t tw e1 L 0 := Or.inr (Or.inr (Or.inr ⟨hb, h, h2, rfl⟩))
theorem foldW_upto (f t tw : Nat) (sp : List (Nat × Nat)) (k : Nat) : (upto (nthRg sp) (k + 1)).foldl (stepW f t tw) [] = stepW f t tw ((upto (nthRg sp) k).foldl (stepW f t tw) []) (nthRg sp k) := by
  rw [upto_succ, List.foldl_append, List.foldl_cons, List.foldl_nil]

set_option maxRecDepth 100000 in
set_option maxHeartbeats 2000000 in
theorem d27_Split_arg (m f t tw : Nat) (w : World) (ha : BadArg f t tw) :
    Calls Tryz.prog 22 #[.pointer (some ⟨m, 0, none⟩), .agg #[.int .u64 (f : Int), .int .u64 (t : Int)], .int .u32 (tw : Int)] w fun en w' => en = .returned (.tuple #[.pointer none, .int .u32 0, .int .i64 2]) ∧ Below w.heap.size w w' := by
  by_cases hft : t < f
  · have h1' : (t : Int) < (f : Int) := by omega
    clear ha
    go_enter Tryz.func22, Tryz.ntmps22
    go_wp2_with fail
    refine bodyPost_ret (v := .tuple #[.pointer none, .int .u32 0, .int .i64 2]) (by simp [results, Tryz.results22, go_sem]) rfl ⟨rfl, (Below.refl _ _).alloc (Nat.le_refl _) _⟩
  · have h1' : ¬ (t : Int) < (f : Int) := by omega
    obtain rfl : tw = 0 := ha.resolve_left hft
    clear ha
    go_enter Tryz.func22, Tryz.ntmps22
    go_wp2_with fail
    refine bodyPost_ret (v := .tuple #[.pointer none, .int .u32 0, .int .i64 2]) (by simp [results, Tryz.results22, go_sem]) rfl ⟨rfl, (Below.refl _ _).alloc (Nat.le_refl _) _⟩

set_option maxRecDepth 100000 in
set_option maxHeartbeats 8000000 in
theorem d27_Split_do (m e f t tw : Nat) (sp : List (Nat × Nat)) (w : World) (hD : DocAt w m e sp) (hl : sp.length ≤ 10000) (O : Nat → Nat) (hS : SpI O sp M64) (ht : t < M64) (hbad : ¬ BadArg f t tw) (hO : ∀ u, 1 ≤ O u) :
    Calls Tryz.prog 22 #[.pointer (some ⟨m, 0, none⟩), .agg #[.int .u64 (f : Int), .int .u64 (t : Int)], .int .u32 (tw : Int)] w (SplitD O f t tw ((e + 1) % M64) sp w) := by
  have hft : f ≤ t := Nat.le_of_not_lt (fun h => hbad (Or.inl h))
  have htw : tw ≠ 0 := fun h => hbad (Or.inr h)
  have hfi : ¬ (t : Int) < (f : Int) := by omega
  have htb : ((tw : Int) == 0) = false := by simp; omega
  have hC := hS.canon hl
  have hA : Below w.heap.size w (w.alloc (.cells #[.int .u64 (f : Int), .int .u64 (t : Int)] 27)) := (Below.refl _ _).alloc (Nat.le_refl _) _
  have hwh := d27_whose m e f t sp _ (hD.below hA) hC
  have hlo : lastO sp f sp.length = O f := lastO_law hS (Nat.lt_of_le_of_lt hft ht)
  rw [hlo] at hwh
  have hall := allW_fit hS hft ht
  obtain ⟨was, hwas⟩ : ∃ x, O f = x := ⟨_, rfl⟩
  obtain ⟨e1, he1⟩ : ∃ x, (e + 1) % M64 = x := ⟨_, rfl⟩
  have hwas1 : 1 ≤ was := by rw [← hwas]; exact hO f
  have hew : IntKind.u64.wrap ((e : Int) + 1) = (e1 : Int) := by rw [IntKind.wrap_u64, ← he1]; show _ = (((e + 1) % 18446744073709551616 : Nat) : Int); omega
  rw [he1]
  have hfit : FitO O f t tw ↔ AllW sp f t was sp.length ∧ was ≠ tw := by unfold FitO; rw [hwas]; exact and_congr_left' (by rw [← hwas]; exact hall.symm)
  rw [hwas] at hwh
  have HFIT := Lib.hid hfit; have HBAD := Lib.hid hbad; have HWAS := Lib.hid hwas; have HWH := Lib.hid hwh; have HS := Lib.hid hS; have HCN := Lib.hid hC; have HD := Lib.hid hD
  clear hlo hall hwas he1 hfit hwh hC hbad hO hA hD hS
  obtain ⟨W0, hW0⟩ : ∃ W0, w.alloc (.cells #[.int .u64 (f : Int), .int .u64 (t : Int)] 27) = W0 := ⟨_, rfl⟩
  obtain ⟨hz0, g0, hb0⟩ := alloc_keep hW0
  rw [hW0] at HWH
  have x0 : W0.cell? ⟨w.heap.size, 0, none⟩ = some (.int .u64 (f : Int)) := cell_of g0 0
  have x1 : W0.cell? ⟨w.heap.size, 1, none⟩ = some (.int .u64 (t : Int)) := cell_of g0 1
  go_enter Tryz.func22, Tryz.ntmps22
  go_upto_region 1 with fail
  clear hW0
  go_wp2_with fail
  refine HWH.out.mono ?_
  rintro en w1 ⟨h | h, hb1⟩
  rotate_left
  · obtain ⟨hno, rfl⟩ := h
    have HB := Lib.hid (hb0.trans (hb1.mono hb0.size))
    have HNO := Lib.hid (fun h => hno (HFIT.out.1 h).1)
    clear hb0 hb1 hno HWH x0 x1
    go_wp2_with fail
    refine bodyPost_ret (v := .tuple #[.pointer none, .int .u32 0, .int .i64 270]) (by simp [results, Tryz.results22, go_sem]) rfl ⟨HB.out, 270, splitC_not HBAD.out HNO.out, Or.inl ⟨by decide, rfl⟩⟩
  obtain ⟨hyes, rfl⟩ := h
  have hb01 := hb0.trans (hb1.mono hb0.size)
  have hwb : ((was : Int) == 0) = false := by simp; omega
  by_cases hwt : was = tw
  · have hwtb : ((was : Int) == (tw : Int)) = true := by simp [hwt]
    have HB := Lib.hid hb01
    have HNO := Lib.hid (fun h => (HFIT.out.1 h).2 hwt)
    clear hb01 hb0 hb1 hyes hwt HWH x0 x1
    go_wp2_with fail
    refine bodyPost_ret (v := .tuple #[.pointer none, .int .u32 0, .int .i64 270]) (by simp [results, Tryz.results22, go_sem]) rfl ⟨HB.out, 270, splitC_not HBAD.out HNO.out, Or.inl ⟨by decide, rfl⟩⟩
  have hwtb : ((was : Int) == (tw : Int)) = false := by simp; omega
  have HFI := Lib.hid (HFIT.out.2 ⟨hyes, hwt⟩)
  have hD1 := HD.out.below hb01
  obtain ⟨g, cp, h1, h2, h3⟩ := id hD1
  have m0 : w1.cell? ⟨m, 0, none⟩ = some (.int .u64 (e : Int)) := cell_of h1 0
  have hml := lt_of_block h1
  obtain ⟨B, hB⟩ : ∃ x, w1.heap.size = x := ⟨_, rfl⟩
  obtain ⟨w2, hw2⟩ : ∃ w2, w1.alloc (.cells #[.int .u64 (e1 : Int), .slice none 0 0] 88) = w2 := ⟨_, rfl⟩
  obtain ⟨hz2, gB, ha2⟩ := alloc_keep hw2
  rw [hB] at hz2 gB ha2 hml h2
  have hs1 := hb1.size
  have hwB : w.heap.size + 1 ≤ B := by omega
  obtain ⟨L, hL⟩ : ∃ x, sp.length = x := ⟨_, rfl⟩
  rw [hL] at h1 h3 hl
  have hkeep : ∀ W', KX B (B + 1) w2 W' → W'.cell? ⟨m, 1, none⟩ = some (.slice (some ⟨g, 0, none⟩) L cp) ∧ W'.cell? ⟨w.heap.size, 0, none⟩ = some (.int .u64 (f : Int)) ∧ W'.cell? ⟨w.heap.size, 1, none⟩ = some (.int .u64 (t : Int)) ∧ (∀ i, i < L → W'.cell? ⟨g, i * 2, none⟩ = some (.int .u64 ((sp.getD i d0).1 : Int)) ∧ W'.cell? ⟨g, i * 2 + 1, none⟩ = some (.int .u32 ((sp.getD i d0).2 : Int))) ∧ DocAt W' m e sp ∧ Below w.heap.size w W' := fun W' hk => by
    have hb : Below B w1 W' := ha2.trans (hk.below (Nat.le_succ _) (Nat.le_refl _))
    have g0' := (hb.block _ (by omega)).trans ((hb1.block _ (by omega)).trans g0)
    exact ⟨cell_of ((hb.block m hml).trans h1) 1, cell_of g0' 0, cell_of g0' 1, fun i hi => ⟨(hb.cell (p := ⟨g, i * 2, none⟩) h2).trans (h3 i hi).1, (hb.cell (p := ⟨g, i * 2 + 1, none⟩) h2).trans (h3 i hi).2⟩, hD1.below (by rw [hB]; exact hb), hb01.trans (hb.mono (by omega))⟩
  have hdp0 : DpS B (B + 1) (.int .u64 (e1 : Int)) [] w2 := ⟨none, 0, gB, World.ownsRow_nil _ _ _ _⟩
  have HKEEP := Lib.hid hkeep; have HDP0 := Lib.hid hdp0; have HZ2 := Lib.hid hz2; have HL := Lib.hid hL
  have HLAW := Lib.hid (splitW_eq HS.out f t tw); have HNE := Lib.hid (splitL_law tw hft HS.out).ne
  obtain ⟨n1, _⟩ := hkeep w2 (KX.refl _ _ _)
  clear hb01 hb0 hb1 hyes hwt HWH x0 x1 h1 h2 h3 hkeep hdp0 hz2 gB ha2 hD1 hml hs1 hz0 g0 hL HD htw hwas1
  go_upto_region 7 with fail
  clear hw2 m0
  go_wp2_with fail
  go_loopw [11] (fun i wr => ∃ k : Nat, k ≤ L ∧ i = .int .i64 k ∧ Hid (DpS B (B + 1) (.int .u64 (e1 : Int)) ((upto (nthRg sp) k).foldl (stepW f t tw) []) wr) ∧ Hid (KX B (B + 1) w2 wr)) (fun i _ => L - (intOf i).toNat)
  case atStart => exact ⟨0, Nat.zero_le _, rfl, HDP0, Lib.hid (KX.refl _ _ _)⟩
  case round =>
    obtain ⟨k, hk, rfl, HDP, HKX⟩ := hrel
    obtain ⟨m1, x0, x1, hgc, hdoc, hbw⟩ := HKEEP.out wr HKX.out
    have hzr : B + 1 ≤ wr.heap.size := by have := HKX.out.size; have := HZ2.out; omega
    by_cases hlt : k < L
    · obtain ⟨k0, k1⟩ := hgc k hlt
      have HEND := Lib.hid (fun (n : Nat) => d27_end m e k sp (wr.drewN n) (hdoc.drew n) HCN.out (by rw [HL.out]; exact hlt))
      have hlq : ((upto (nthRg sp) k).foldl (stepW f t tw) []).length ≤ 30000 := by
        have := foldW_length f t tw (upto (nthRg sp) k) []
        rw [upto_length] at this; simp at this; omega
      have hfo := foldW_upto f t tw sp k
      obtain ⟨sq, hsq⟩ : ∃ x, (upto (nthRg sp) k).foldl (stepW f t tw) [] = x := ⟨_, rfl⟩
      rw [hsq] at HDP hlq hfo
      obtain ⟨a1, ha1⟩ : ∃ x, (sp.getD k d0).1 = x := ⟨_, rfl⟩
      obtain ⟨s, hs⟩ : ∃ x, (sp.getD k d0).2 = x := ⟨_, rfl⟩
      obtain ⟨b1, hb1⟩ : ∃ x, endOf sp k = x := ⟨_, rfl⟩
      obtain ⟨mx, hmx⟩ : ∃ z, max f a1 = z := ⟨_, rfl⟩
      obtain ⟨t1, ht1⟩ : ∃ z, (t + 1) % M64 = z := ⟨_, rfl⟩
      have hmxi : max (a1 : Int) (f : Int) = (mx : Int) := by omega
      have ht1i : IntKind.u64.wrap ((t : Int) + 1) = (t1 : Int) := by rw [IntKind.wrap_u64, ← ht1]; show _ = (((t + 1) % 18446744073709551616 : Nat) : Int); omega
      have hstep : stepW f t tw sq (nthRg sp k) = if a1 ≤ t ∧ f ≤ b1 then (if t < b1 then addS (addS (if a1 < f then addS sq a1 s else sq) mx tw) t1 s else addS (if a1 < f then addS sq a1 s else sq) mx tw) else addS sq a1 s := by
        have h1 : nthRg sp k = (a1, b1, s) := by unfold nthRg; rw [ha1, hb1, hs]
        rw [h1]
        unfold stepW
        by_cases hm : a1 ≤ t ∧ f ≤ b1
        · rw [if_pos (show Meets f t (a1, b1, s) from hm), if_pos hm]; simp only [hmx, ht1]
        · rw [if_neg (show ¬ Meets f t (a1, b1, s) from hm), if_neg hm]
      rw [ha1] at k0; rw [hs] at k1; rw [hb1] at HEND
      have HFOL := Lib.hid (hfo.trans hstep)
      have hkl' : (k : Int) < (L : Int) := by omega
      have HA1 := Lib.hid ha1; have HS1 := Lib.hid hs
      clear hfo hstep hsq ha1 hs hb1 hmx ht1 hgc hdoc hbw
      by_cases hm1 : b1 < f
      · have hm1i : (b1 : Int) < (f : Int) := by omega
        have HFO := Lib.hid (HFOL.out.trans (if_neg (fun h => by omega)))
        go_wp2_with fail
        go_quiet (exact (HEND.out _).mono (fun e wz h => ⟨h.1, ⟨_, h.2⟩⟩))
        obtain ⟨X0, hX0⟩ : ∃ X, wr.drewN nq = X := ⟨_, rfl⟩
        have hbq : Below wr.heap.size wr X0 := by rw [← hX0]; exact below_dr (Below.refl _ _) _
        rw [hX0]
        have HP0 := Lib.hid (HDP.out.below hbq); have HK0 := Lib.hid (HKX.out.trans (KX.of (hbq.mono hzr)))
        have z0 := hbq.size
        clear hX0 hbq HEND m1 x0 x1 k0 k1
        obtain ⟨m1, x0, x1, hgc, _⟩ := HKEEP.out X0 HK0.out
        obtain ⟨k0, k1⟩ := hgc k hlt
        rw [HA1.out] at k0; rw [HS1.out] at k1
        obtain ⟨av0, cv0, bq0, rq0⟩ := HP0.out
        obtain ⟨nn0, hnn0⟩ : ∃ x, sq.length = x := ⟨_, rfl⟩
        rw [hnn0] at bq0 rq0
        have c1n : X0.cell? ⟨B, 1, none⟩ = some (.slice av0 nn0 cv0) := cell_of bq0 1
        have HBQ0 := Lib.hid bq0; have HRQ0 := Lib.hid rq0; have HNN0 := Lib.hid hnn0
        have hnl0 : nn0 ≤ 30000 := by omega
        clear hgc bq0 rq0 hnn0
        go_wp2_with fail
        refine (d27_add (B + 1) a1 s nn0 cv0 av0 sq X0 HNN0.out (by omega) (by omega) HRQ0.out).mono ?_
        rintro e Y0 ⟨ax, cx, rfl, hrow, hb⟩
        obtain ⟨y1, y2, X1, hX1, hp, hk⟩ := dps_step HBQ0.out (Nat.lt_succ_self B) hb hrow; have hsz := hb.size; have HP1 := Lib.hid hp; have HK1 := Lib.hid (HK0.out.trans hk); clear hp hk hrow hb
        have z1 := HK1.out.size
        have l1 := addS_length sq a1 s
        clear m1 x0 x1 k0 k1 c1n
        obtain ⟨m1, x0, x1, hgc, _⟩ := HKEEP.out X1 HK1.out
        obtain ⟨k0, k1⟩ := hgc k hlt
        rw [HA1.out] at k0; rw [HS1.out] at k1
        obtain ⟨av1, cv1, bq1, rq1⟩ := HP1.out
        obtain ⟨nn1, hnn1⟩ : ∃ x, (addS sq a1 s).length = x := ⟨_, rfl⟩
        rw [hnn1] at bq1 rq1
        have c1n : X1.cell? ⟨B, 1, none⟩ = some (.slice av1 nn1 cv1) := cell_of bq1 1
        have HBQ1 := Lib.hid bq1; have HRQ1 := Lib.hid rq1; have HNN1 := Lib.hid hnn1; have hnl1 : nn1 ≤ 30000 + 1 := by have := HNN0.out; omega
        have hzx1 : B + 1 ≤ X1.heap.size := by have := HZ2.out; omega
        clear hgc bq1 rq1 hnn1 l1 z1
        go_wp2_with fail
        go_roundw
        case rel => exact ⟨k + 1, by omega, by go_num, Lib.hid (by rw [HFO.out]; exact HP1.out), HK1⟩
        case measure => simp [intOf]; omega
      · have hm1i : ¬ (b1 : Int) < (f : Int) := by omega
        by_cases hm2 : t < a1
        · have hm2i : (t : Int) < (a1 : Int) := by omega
          have HFO := Lib.hid (HFOL.out.trans (if_neg (fun h => by omega)))
          go_wp2_with fail
          go_quiet (exact (HEND.out _).mono (fun e wz h => ⟨h.1, ⟨_, h.2⟩⟩))
          obtain ⟨X0, hX0⟩ : ∃ X, wr.drewN nq = X := ⟨_, rfl⟩
          have hbq : Below wr.heap.size wr X0 := by rw [← hX0]; exact below_dr (Below.refl _ _) _
          rw [hX0]
          have HP0 := Lib.hid (HDP.out.below hbq); have HK0 := Lib.hid (HKX.out.trans (KX.of (hbq.mono hzr)))
          have z0 := hbq.size
          clear hX0 hbq HEND m1 x0 x1 k0 k1
          obtain ⟨m1, x0, x1, hgc, _⟩ := HKEEP.out X0 HK0.out
          obtain ⟨k0, k1⟩ := hgc k hlt
          rw [HA1.out] at k0; rw [HS1.out] at k1
          obtain ⟨av0, cv0, bq0, rq0⟩ := HP0.out
          obtain ⟨nn0, hnn0⟩ : ∃ x, sq.length = x := ⟨_, rfl⟩
          rw [hnn0] at bq0 rq0
          have c1n : X0.cell? ⟨B, 1, none⟩ = some (.slice av0 nn0 cv0) := cell_of bq0 1
          have HBQ0 := Lib.hid bq0; have HRQ0 := Lib.hid rq0; have HNN0 := Lib.hid hnn0
          have hnl0 : nn0 ≤ 30000 := by omega
          clear hgc bq0 rq0 hnn0
          go_wp2_with fail
          refine (d27_add (B + 1) a1 s nn0 cv0 av0 sq X0 HNN0.out (by omega) (by omega) HRQ0.out).mono ?_
          rintro e Y0 ⟨ax, cx, rfl, hrow, hb⟩
          obtain ⟨y1, y2, X1, hX1, hp, hk⟩ := dps_step HBQ0.out (Nat.lt_succ_self B) hb hrow; have hsz := hb.size; have HP1 := Lib.hid hp; have HK1 := Lib.hid (HK0.out.trans hk); clear hp hk hrow hb
          have z1 := HK1.out.size
          have l1 := addS_length sq a1 s
          clear m1 x0 x1 k0 k1 c1n
          obtain ⟨m1, x0, x1, hgc, _⟩ := HKEEP.out X1 HK1.out
          obtain ⟨k0, k1⟩ := hgc k hlt
          rw [HA1.out] at k0; rw [HS1.out] at k1
          obtain ⟨av1, cv1, bq1, rq1⟩ := HP1.out
          obtain ⟨nn1, hnn1⟩ : ∃ x, (addS sq a1 s).length = x := ⟨_, rfl⟩
          rw [hnn1] at bq1 rq1
          have c1n : X1.cell? ⟨B, 1, none⟩ = some (.slice av1 nn1 cv1) := cell_of bq1 1
          have HBQ1 := Lib.hid bq1; have HRQ1 := Lib.hid rq1; have HNN1 := Lib.hid hnn1; have hnl1 : nn1 ≤ 30000 + 1 := by have := HNN0.out; omega
          have hzx1 : B + 1 ≤ X1.heap.size := by have := HZ2.out; omega
          clear hgc bq1 rq1 hnn1 l1 z1
          go_wp2_with fail
          go_roundw
          case rel => exact ⟨k + 1, by omega, by go_num, Lib.hid (by rw [HFO.out]; exact HP1.out), HK1⟩
          case measure => simp [intOf]; omega
        · have hm2i : ¬ (t : Int) < (a1 : Int) := by omega
          have HSWM := Lib.hid (HFOL.out.trans (if_pos (by omega)))
          go_wp2_with fail
          go_quiet (exact (HEND.out _).mono (fun e wz h => ⟨h.1, ⟨_, h.2⟩⟩))
          obtain ⟨X0, hX0⟩ : ∃ X, wr.drewN nq = X := ⟨_, rfl⟩
          have hbq : Below wr.heap.size wr X0 := by rw [← hX0]; exact below_dr (Below.refl _ _) _
          rw [hX0]
          have HP0 := Lib.hid (HDP.out.below hbq); have HK0 := Lib.hid (HKX.out.trans (KX.of (hbq.mono hzr)))
          have z0 := hbq.size
          clear hX0 hbq HEND m1 x0 x1 k0 k1
          obtain ⟨m1, x0, x1, hgc, _⟩ := HKEEP.out X0 HK0.out
          obtain ⟨k0, k1⟩ := hgc k hlt
          rw [HA1.out] at k0; rw [HS1.out] at k1
          obtain ⟨av0, cv0, bq0, rq0⟩ := HP0.out
          obtain ⟨nn0, hnn0⟩ : ∃ x, sq.length = x := ⟨_, rfl⟩
          rw [hnn0] at bq0 rq0
          have c1n : X0.cell? ⟨B, 1, none⟩ = some (.slice av0 nn0 cv0) := cell_of bq0 1
          have HBQ0 := Lib.hid bq0; have HRQ0 := Lib.hid rq0; have HNN0 := Lib.hid hnn0
          have hnl0 : nn0 ≤ 30000 := by omega
          clear hgc bq0 rq0 hnn0
          by_cases hc1 : a1 < f
          · have hc1i : (a1 : Int) < (f : Int) := by omega
            by_cases hc3 : t < b1
            · have hc3i : (t : Int) < (b1 : Int) := by omega
              have HFO := Lib.hid (HSWM.out.trans (by rw [if_pos hc3, if_pos hc1]))
              go_wp2_with fail
              refine (d27_add (B + 1) a1 s nn0 cv0 av0 sq X0 HNN0.out (by omega) (by omega) HRQ0.out).mono ?_
              rintro e Y0 ⟨ax, cx, rfl, hrow, hb⟩
              obtain ⟨y1, y2, X1, hX1, hp, hk⟩ := dps_step HBQ0.out (Nat.lt_succ_self B) hb hrow; have hsz := hb.size; have HP1 := Lib.hid hp; have HK1 := Lib.hid (HK0.out.trans hk); clear hp hk hrow hb
              have z1 := HK1.out.size
              have l1 := addS_length sq a1 s
              clear m1 x0 x1 k0 k1 c1n
              obtain ⟨m1, x0, x1, hgc, _⟩ := HKEEP.out X1 HK1.out
              obtain ⟨k0, k1⟩ := hgc k hlt
              rw [HA1.out] at k0; rw [HS1.out] at k1
              obtain ⟨av1, cv1, bq1, rq1⟩ := HP1.out
              obtain ⟨nn1, hnn1⟩ : ∃ x, (addS sq a1 s).length = x := ⟨_, rfl⟩
              rw [hnn1] at bq1 rq1
              have c1n : X1.cell? ⟨B, 1, none⟩ = some (.slice av1 nn1 cv1) := cell_of bq1 1
              have HBQ1 := Lib.hid bq1; have HRQ1 := Lib.hid rq1; have HNN1 := Lib.hid hnn1; have hnl1 : nn1 ≤ 30000 + 1 := by have := HNN0.out; omega
              have hzx1 : B + 1 ≤ X1.heap.size := by have := HZ2.out; omega
              clear hgc bq1 rq1 hnn1 l1 z1
              go_wp2_with fail
              have HADD1 := Lib.hid (d27_add (B + 1) mx tw nn1 cv1 av1 (addS sq a1 s) X1.drew HNN1.out (by omega) (by show B + 1 ≤ X1.heap.size; omega) (rowBelow HRQ1.out (Below.drew (Below.refl _ _))))
              go_region_law ((go_simp; go_at_call 54; refine HADD1.out.mono ?_; rintro e Y1 ⟨ax, cx, rfl, hrow, hb⟩; obtain ⟨y1, y2, X2, hX2, hp, hk⟩ := dps_step (show X1.drew.heap[B]? = _ from HBQ1.out) (Nat.lt_succ_self B) hb hrow; have hsz := hb.size; have HP2 := Lib.hid hp; have HK2 := Lib.hid (HK1.out.trans ((KX.of (Below.drew (Below.refl (B + 1) X1))).trans hk)); clear hp hk hrow hb))
              all_goals (
                have z2 := HK2.out.size
                have l2 := addS_length (addS sq a1 s) mx tw
                clear m1 x0 x1 k0 k1 c1n
                obtain ⟨m1, x0, x1, hgc, _⟩ := HKEEP.out X2 HK2.out
                obtain ⟨k0, k1⟩ := hgc k hlt
                rw [HA1.out] at k0; rw [HS1.out] at k1
                obtain ⟨av2, cv2, bq2, rq2⟩ := HP2.out
                obtain ⟨nn2, hnn2⟩ : ∃ x, (addS (addS sq a1 s) mx tw).length = x := ⟨_, rfl⟩
                rw [hnn2] at bq2 rq2
                have c1n : X2.cell? ⟨B, 1, none⟩ = some (.slice av2 nn2 cv2) := cell_of bq2 1
                have HBQ2 := Lib.hid bq2; have HRQ2 := Lib.hid rq2; have HNN2 := Lib.hid hnn2; have hnl2 : nn2 ≤ 30000 + 2 := by have := HNN1.out; omega
                have hzx2 : B + 1 ≤ X2.heap.size := by have := HZ2.out; omega
                clear hgc bq2 rq2 hnn2 l2 z2
                go_wp2_with fail
                have HADD2 := Lib.hid (d27_add (B + 1) t1 s nn2 cv2 av2 (addS (addS sq a1 s) mx tw) X2.drew HNN2.out (by omega) (by show B + 1 ≤ X2.heap.size; omega) (rowBelow HRQ2.out (Below.drew (Below.refl _ _))))
                go_region_law ((go_simp; go_at_call 54; refine HADD2.out.mono ?_; rintro e Y2 ⟨ax, cx, rfl, hrow, hb⟩; obtain ⟨y1, y2, X3, hX3, hp, hk⟩ := dps_step (show X2.drew.heap[B]? = _ from HBQ2.out) (Nat.lt_succ_self B) hb hrow; have hsz := hb.size; have HP3 := Lib.hid hp; have HK3 := Lib.hid (HK2.out.trans ((KX.of (Below.drew (Below.refl (B + 1) X2))).trans hk)); clear hp hk hrow hb))
                all_goals (
                  have z3 := HK3.out.size
                  have l3 := addS_length (addS (addS sq a1 s) mx tw) t1 s
                  clear m1 x0 x1 k0 k1 c1n
                  obtain ⟨m1, x0, x1, hgc, _⟩ := HKEEP.out X3 HK3.out
                  obtain ⟨k0, k1⟩ := hgc k hlt
                  rw [HA1.out] at k0; rw [HS1.out] at k1
                  obtain ⟨av3, cv3, bq3, rq3⟩ := HP3.out
                  obtain ⟨nn3, hnn3⟩ : ∃ x, (addS (addS (addS sq a1 s) mx tw) t1 s).length = x := ⟨_, rfl⟩
                  rw [hnn3] at bq3 rq3
                  have c1n : X3.cell? ⟨B, 1, none⟩ = some (.slice av3 nn3 cv3) := cell_of bq3 1
                  have HBQ3 := Lib.hid bq3; have HRQ3 := Lib.hid rq3; have HNN3 := Lib.hid hnn3; have hnl3 : nn3 ≤ 30000 + 3 := by have := HNN2.out; omega
                  have hzx3 : B + 1 ≤ X3.heap.size := by have := HZ2.out; omega
                  clear hgc bq3 rq3 hnn3 l3 z3
                  go_wp2_with fail
                  go_roundw
                  case rel => exact ⟨k + 1, by omega, by go_num, Lib.hid (by rw [HFO.out]; exact HP3.out), HK3⟩
                  case measure => simp [intOf]; omega))
            · have hc3i : ¬ (t : Int) < (b1 : Int) := by omega
              have HFO := Lib.hid (HSWM.out.trans (by rw [if_neg hc3, if_pos hc1]))
              go_wp2_with fail
              refine (d27_add (B + 1) a1 s nn0 cv0 av0 sq X0 HNN0.out (by omega) (by omega) HRQ0.out).mono ?_
              rintro e Y0 ⟨ax, cx, rfl, hrow, hb⟩
              obtain ⟨y1, y2, X1, hX1, hp, hk⟩ := dps_step HBQ0.out (Nat.lt_succ_self B) hb hrow; have hsz := hb.size; have HP1 := Lib.hid hp; have HK1 := Lib.hid (HK0.out.trans hk); clear hp hk hrow hb
              have z1 := HK1.out.size
              have l1 := addS_length sq a1 s
              clear m1 x0 x1 k0 k1 c1n
              obtain ⟨m1, x0, x1, hgc, _⟩ := HKEEP.out X1 HK1.out
              obtain ⟨k0, k1⟩ := hgc k hlt
              rw [HA1.out] at k0; rw [HS1.out] at k1
              obtain ⟨av1, cv1, bq1, rq1⟩ := HP1.out
              obtain ⟨nn1, hnn1⟩ : ∃ x, (addS sq a1 s).length = x := ⟨_, rfl⟩
              rw [hnn1] at bq1 rq1
              have c1n : X1.cell? ⟨B, 1, none⟩ = some (.slice av1 nn1 cv1) := cell_of bq1 1
              have HBQ1 := Lib.hid bq1; have HRQ1 := Lib.hid rq1; have HNN1 := Lib.hid hnn1; have hnl1 : nn1 ≤ 30000 + 1 := by have := HNN0.out; omega
              have hzx1 : B + 1 ≤ X1.heap.size := by have := HZ2.out; omega
              clear hgc bq1 rq1 hnn1 l1 z1
              go_wp2_with fail
              have HADD1 := Lib.hid (d27_add (B + 1) mx tw nn1 cv1 av1 (addS sq a1 s) X1.drew HNN1.out (by omega) (by show B + 1 ≤ X1.heap.size; omega) (rowBelow HRQ1.out (Below.drew (Below.refl _ _))))
              go_region_law ((go_simp; go_at_call 54; refine HADD1.out.mono ?_; rintro e Y1 ⟨ax, cx, rfl, hrow, hb⟩; obtain ⟨y1, y2, X2, hX2, hp, hk⟩ := dps_step (show X1.drew.heap[B]? = _ from HBQ1.out) (Nat.lt_succ_self B) hb hrow; have hsz := hb.size; have HP2 := Lib.hid hp; have HK2 := Lib.hid (HK1.out.trans ((KX.of (Below.drew (Below.refl (B + 1) X1))).trans hk)); clear hp hk hrow hb))
              all_goals (
                have z2 := HK2.out.size
                have l2 := addS_length (addS sq a1 s) mx tw
                clear m1 x0 x1 k0 k1 c1n
                obtain ⟨m1, x0, x1, hgc, _⟩ := HKEEP.out X2 HK2.out
                obtain ⟨k0, k1⟩ := hgc k hlt
                rw [HA1.out] at k0; rw [HS1.out] at k1
                obtain ⟨av2, cv2, bq2, rq2⟩ := HP2.out
                obtain ⟨nn2, hnn2⟩ : ∃ x, (addS (addS sq a1 s) mx tw).length = x := ⟨_, rfl⟩
                rw [hnn2] at bq2 rq2
                have c1n : X2.cell? ⟨B, 1, none⟩ = some (.slice av2 nn2 cv2) := cell_of bq2 1
                have HBQ2 := Lib.hid bq2; have HRQ2 := Lib.hid rq2; have HNN2 := Lib.hid hnn2; have hnl2 : nn2 ≤ 30000 + 2 := by have := HNN1.out; omega
                have hzx2 : B + 1 ≤ X2.heap.size := by have := HZ2.out; omega
                clear hgc bq2 rq2 hnn2 l2 z2
                go_wp2_with fail
                go_roundw
                case rel => exact ⟨k + 1, by omega, by go_num, Lib.hid (by rw [HFO.out]; exact HP2.out), HK2⟩
                case measure => simp [intOf]; omega)
          · have hc1i : ¬ (a1 : Int) < (f : Int) := by omega
            by_cases hc3 : t < b1
            · have hc3i : (t : Int) < (b1 : Int) := by omega
              have HFO := Lib.hid (HSWM.out.trans (by rw [if_pos hc3, if_neg hc1]))
              go_wp2_with fail
              have HADD0 := Lib.hid (d27_add (B + 1) mx tw nn0 cv0 av0 sq X0.drew HNN0.out (by omega) (by show B + 1 ≤ X0.heap.size; omega) (rowBelow HRQ0.out (Below.drew (Below.refl _ _))))
              go_region_law ((go_simp; go_at_call 54; refine HADD0.out.mono ?_; rintro e Y0 ⟨ax, cx, rfl, hrow, hb⟩; obtain ⟨y1, y2, X1, hX1, hp, hk⟩ := dps_step (show X0.drew.heap[B]? = _ from HBQ0.out) (Nat.lt_succ_self B) hb hrow; have hsz := hb.size; have HP1 := Lib.hid hp; have HK1 := Lib.hid (HK0.out.trans ((KX.of (Below.drew (Below.refl (B + 1) X0))).trans hk)); clear hp hk hrow hb))
              all_goals (
                have z1 := HK1.out.size
                have l1 := addS_length sq mx tw
                clear m1 x0 x1 k0 k1 c1n
                obtain ⟨m1, x0, x1, hgc, _⟩ := HKEEP.out X1 HK1.out
                obtain ⟨k0, k1⟩ := hgc k hlt
                rw [HA1.out] at k0; rw [HS1.out] at k1
                obtain ⟨av1, cv1, bq1, rq1⟩ := HP1.out
                obtain ⟨nn1, hnn1⟩ : ∃ x, (addS sq mx tw).length = x := ⟨_, rfl⟩
                rw [hnn1] at bq1 rq1
                have c1n : X1.cell? ⟨B, 1, none⟩ = some (.slice av1 nn1 cv1) := cell_of bq1 1
                have HBQ1 := Lib.hid bq1; have HRQ1 := Lib.hid rq1; have HNN1 := Lib.hid hnn1; have hnl1 : nn1 ≤ 30000 + 1 := by have := HNN0.out; omega
                have hzx1 : B + 1 ≤ X1.heap.size := by have := HZ2.out; omega
                clear hgc bq1 rq1 hnn1 l1 z1
                go_wp2_with fail
                have HADD1 := Lib.hid (d27_add (B + 1) t1 s nn1 cv1 av1 (addS sq mx tw) X1.drew HNN1.out (by omega) (by show B + 1 ≤ X1.heap.size; omega) (rowBelow HRQ1.out (Below.drew (Below.refl _ _))))
                go_region_law ((go_simp; go_at_call 54; refine HADD1.out.mono ?_; rintro e Y1 ⟨ax, cx, rfl, hrow, hb⟩; obtain ⟨y1, y2, X2, hX2, hp, hk⟩ := dps_step (show X1.drew.heap[B]? = _ from HBQ1.out) (Nat.lt_succ_self B) hb hrow; have hsz := hb.size; have HP2 := Lib.hid hp; have HK2 := Lib.hid (HK1.out.trans ((KX.of (Below.drew (Below.refl (B + 1) X1))).trans hk)); clear hp hk hrow hb))
                all_goals (
                  have z2 := HK2.out.size
                  have l2 := addS_length (addS sq mx tw) t1 s
                  clear m1 x0 x1 k0 k1 c1n
                  obtain ⟨m1, x0, x1, hgc, _⟩ := HKEEP.out X2 HK2.out
                  obtain ⟨k0, k1⟩ := hgc k hlt
                  rw [HA1.out] at k0; rw [HS1.out] at k1
                  obtain ⟨av2, cv2, bq2, rq2⟩ := HP2.out
                  obtain ⟨nn2, hnn2⟩ : ∃ x, (addS (addS sq mx tw) t1 s).length = x := ⟨_, rfl⟩
                  rw [hnn2] at bq2 rq2
                  have c1n : X2.cell? ⟨B, 1, none⟩ = some (.slice av2 nn2 cv2) := cell_of bq2 1
                  have HBQ2 := Lib.hid bq2; have HRQ2 := Lib.hid rq2; have HNN2 := Lib.hid hnn2; have hnl2 : nn2 ≤ 30000 + 2 := by have := HNN1.out; omega
                  have hzx2 : B + 1 ≤ X2.heap.size := by have := HZ2.out; omega
                  clear hgc bq2 rq2 hnn2 l2 z2
                  go_wp2_with fail
                  go_roundw
                  case rel => exact ⟨k + 1, by omega, by go_num, Lib.hid (by rw [HFO.out]; exact HP2.out), HK2⟩
                  case measure => simp [intOf]; omega))
            · have hc3i : ¬ (t : Int) < (b1 : Int) := by omega
              have HFO := Lib.hid (HSWM.out.trans (by rw [if_neg hc3, if_neg hc1]))
              go_wp2_with fail
              have HADD0 := Lib.hid (d27_add (B + 1) mx tw nn0 cv0 av0 sq X0.drew HNN0.out (by omega) (by show B + 1 ≤ X0.heap.size; omega) (rowBelow HRQ0.out (Below.drew (Below.refl _ _))))
              go_region_law ((go_simp; go_at_call 54; refine HADD0.out.mono ?_; rintro e Y0 ⟨ax, cx, rfl, hrow, hb⟩; obtain ⟨y1, y2, X1, hX1, hp, hk⟩ := dps_step (show X0.drew.heap[B]? = _ from HBQ0.out) (Nat.lt_succ_self B) hb hrow; have hsz := hb.size; have HP1 := Lib.hid hp; have HK1 := Lib.hid (HK0.out.trans ((KX.of (Below.drew (Below.refl (B + 1) X0))).trans hk)); clear hp hk hrow hb))
              all_goals (
                have z1 := HK1.out.size
                have l1 := addS_length sq mx tw
                clear m1 x0 x1 k0 k1 c1n
                obtain ⟨m1, x0, x1, hgc, _⟩ := HKEEP.out X1 HK1.out
                obtain ⟨k0, k1⟩ := hgc k hlt
                rw [HA1.out] at k0; rw [HS1.out] at k1
                obtain ⟨av1, cv1, bq1, rq1⟩ := HP1.out
                obtain ⟨nn1, hnn1⟩ : ∃ x, (addS sq mx tw).length = x := ⟨_, rfl⟩
                rw [hnn1] at bq1 rq1
                have c1n : X1.cell? ⟨B, 1, none⟩ = some (.slice av1 nn1 cv1) := cell_of bq1 1
                have HBQ1 := Lib.hid bq1; have HRQ1 := Lib.hid rq1; have HNN1 := Lib.hid hnn1; have hnl1 : nn1 ≤ 30000 + 1 := by have := HNN0.out; omega
                have hzx1 : B + 1 ≤ X1.heap.size := by have := HZ2.out; omega
                clear hgc bq1 rq1 hnn1 l1 z1
                go_wp2_with fail
                go_roundw
                case rel => exact ⟨k + 1, by omega, by go_num, Lib.hid (by rw [HFO.out]; exact HP1.out), HK1⟩
                case measure => simp [intOf]; omega)
    · obtain rfl : k = L := by omega
      obtain ⟨SL, hSL⟩ : ∃ z, splitL sp f t tw = z := ⟨_, rfl⟩
      have hdp := HDP.out
      rw [← HL.out, HLAW.out, hSL] at hdp
      obtain ⟨a, cq, q1, q2⟩ := id hdp
      obtain ⟨N, hN⟩ : ∃ z, SL.length = z := ⟨_, rfl⟩
      rw [hN] at q1
      have n0 : wr.cell? ⟨B, 0, none⟩ = some (.int .u64 (e1 : Int)) := cell_of q1 0
      have n1 : wr.cell? ⟨B, 1, none⟩ = some (.slice a N cq) := cell_of q1 1
      have HDPE := Lib.hid hdp; have HN := Lib.hid hN; have HSL := Lib.hid hSL; have HBW := Lib.hid hbw
      clear hdp q1 q2 hN hSL HDP hgc hdoc hbw
      by_cases hlen : 2048 < N
      · have hleni : (2048 : Int) < (N : Int) := by omega
        go_wp2_with fail
        refine bodyPost_ret (v := .tuple #[.pointer none, .int .u32 0, .int .i64 4]) (by simp [results, Tryz.results22, go_sem]) rfl ⟨HBW.out, 4, splitC_full HBAD.out HFI.out (Or.inl (by rw [HSL.out, HN.out]; exact hlen)), Or.inl ⟨by decide, rfl⟩⟩
      · have hleni : ¬ (2048 : Int) < (N : Int) := by omega
        by_cases he : e1 = 0
        · have heb : ((e1 : Int) == 0) = true := by simp [he]
          have HE := Lib.hid he
          clear he
          go_wp2_with fail
          refine bodyPost_ret (v := .tuple #[.pointer none, .int .u32 0, .int .i64 4]) (by simp [results, Tryz.results22, go_sem]) rfl ⟨HBW.out, 4, splitC_full HBAD.out HFI.out (Or.inr HE.out), Or.inl ⟨by decide, rfl⟩⟩
        · have heb : ((e1 : Int) == 0) = false := by simp; omega
          have HE := Lib.hid he
          clear he
          go_wp2_with fail
          refine bodyPost_ret (v := .tuple #[.pointer (some ⟨B, 0, none⟩), .int .u32 (was : Int), .int .i64 0]) (by simp [results, Tryz.results22, go_sem]) rfl ⟨HBW.out, 0, splitC_ok HBAD.out HFI.out (fun h => h.elim (fun h => hlen (by rw [HSL.out, HN.out] at h; exact h)) HE.out), Or.inr ⟨rfl, B, by rw [HWAS.out], ?_⟩⟩
          have hdd := HDPE.out.doc (fun h => HNE.out (HSL.out.trans h))
          rw [HSL.out]; exact hdd
theorem d27_Split (m e f t tw : Nat) (sp : List (Nat × Nat)) (w : World) (hD : DocAt w m e sp) (hl : sp.length ≤ 10000) (O : Nat → Nat) (hS : SpI O sp M64) (ht : t < M64) (hO : ∀ u, 1 ≤ O u) :
    Calls Tryz.prog 22 #[.pointer (some ⟨m, 0, none⟩), .agg #[.int .u64 (f : Int), .int .u64 (t : Int)], .int .u32 (tw : Int)] w (SplitD O f t tw ((e + 1) % M64) sp w) := by
  by_cases hb : BadArg f t tw
  · exact (d27_Split_arg m f t tw w hb).mono fun en w' ⟨h1, h2⟩ => ⟨h2, 2, Or.inl ⟨hb, rfl⟩, Or.inl ⟨by decide, h1⟩⟩
  · exact d27_Split_do m e f t tw sp w hD hl O hS ht hb hO
end Go.Proofs.YtggdkfijioeijaaGreatDoor
