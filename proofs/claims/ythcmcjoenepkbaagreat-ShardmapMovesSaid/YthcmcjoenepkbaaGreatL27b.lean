/- Law 27: ShardmapBack's walk. -/
import Derived.Test.YthcmcjoenepkbaaGreatSmA
import Derived.Test.YthcmcjoenepkbaaGreatR27a
import Derived.Test.YthcmcjoenepkbaaGreatSm7
import Derived.Test.YthcmcjoenepkbaaGreatMof
import Derived.Test.YthcmcjoenepkbaaGreatWk27
namespace Go.Proofs.YthcmcjoenepkbaaGreat
open Go Go.RowKit Go.Maps

structure Mv where
  f : Nat
  t : Nat
  tw : Nat
  i : Bool
  at_ : Nat
  off : Nat
  len : Nat
structure Mv.Ok (v : Mv) : Prop where
  f : v.f < M64
  t : v.t < M64
  tw : v.tw < 4294967296
  at_ : v.at_ < 256
  off : v.off < M64
  len : v.len < M64
abbrev mvC (v : Mv) : Array Value := #[.int .u64 (v.f : Int), .int .u64 (v.t : Int), .int .u32 (v.tw : Int), .bool v.i, .int .u8 (v.at_ : Int), .int .u64 (v.off : Int), .int .u64 (v.len : Int)]
theorem law27_ofV (v : Mv) (hv : v.Ok) (m e : Nat) (sp : List (Nat × Nat)) (w : World) (hD : DocAt w m e sp) {O : Nat → Nat} (hS : SpI O sp M64) (hl2 : sp.length ≤ 10000) :
    Calls Tryz.prog 7 #[.agg (mvC v), .pointer (some ⟨m, 0, none⟩)] w (OfG w) :=
  law27_of v.f v.t v.tw v.i v.at_ v.off v.len m e sp w hv.f hv.t hv.tw hv.at_ hv.off hv.len hD (hS.canon hl2).pos hl2 (hS.canon hl2).b64
def MvIn (g : Nat) (v : Mv) (w : World) : Prop := w.cell? ⟨g, 0, none⟩ = some (.int .u64 (v.f : Int)) ∧ w.cell? ⟨g, 1, none⟩ = some (.int .u64 (v.t : Int)) ∧ w.cell? ⟨g, 2, none⟩ = some (.int .u32 (v.tw : Int)) ∧ w.cell? ⟨g, 3, none⟩ = some (.bool v.i) ∧ w.cell? ⟨g, 4, none⟩ = some (.int .u8 (v.at_ : Int)) ∧ w.cell? ⟨g, 5, none⟩ = some (.int .u64 (v.off : Int)) ∧ w.cell? ⟨g, 6, none⟩ = some (.int .u64 (v.len : Int))
theorem mvIn_of {g : Nat} {v : Mv} {w : World} {T : TypeId} (h : w.heap[g]? = some (.cells (mvC v) T (0, 0))) : MvIn g v w :=
  ⟨cell_of h 0, cell_of h 1, cell_of h 2, cell_of h 3, cell_of h 4, cell_of h 5, cell_of h 6⟩
def RgIn (g f t : Nat) (w : World) : Prop := w.cell? ⟨g, 0, none⟩ = some (.int .u64 (f : Int)) ∧ w.cell? ⟨g, 1, none⟩ = some (.int .u64 (t : Int))
theorem few_lt {n k : Nat} (hn : 1 ≤ n ∧ n ≤ 4) (hk : 1 ≤ k) (u : Nat) : 1 ≤ ownS (fewS n) k u ∧ ownS (fewS n) k u < 4294967296 := by
  have := fewS_mem (ownS_mem (S := fewS n) (k := k) (h := u) (by rw [fewS_length]; exact hn.1) hk)
  omega

set_option maxRecDepth 100000 in
set_option maxHeartbeats 8000000 in
theorem law27_back (p s : Nat) (va vb : Mv) (hp : p < 256) (hs : s < 256) (ha : va.Ok) (hb : vb.Ok) (w : World) :
    Calls Tryz.prog 3 #[.int .u8 (p : Int), .int .u8 (s : Int), .agg (mvC va), .agg (mvC vb)] w fun e w' => e = .returned (.bool true) ∧ Below w.heap.size w w' := by
  obtain ⟨W0, hW0⟩ : ∃ W0, (w.alloc (.cells (mvC va) 27)).alloc (.cells (mvC vb) 27) = W0 := ⟨_, rfl⟩
  have hB0 : Below w.heap.size w W0 := by rw [← hW0]; exact ((Below.refl _ _).alloc (Nat.le_refl _) _).alloc (by simp) _
  have hz0 : W0.heap.size = w.heap.size + 2 := by rw [← hW0]; simp
  have d1 : W0.heap[w.heap.size]? = some (.cells (mvC va) 27) := by rw [← hW0]; exact two1 _ _ _
  have d2 : W0.heap[w.heap.size + 1]? = some (.cells (mvC vb) 27) := by rw [← hW0]; exact two2 _ _ _
  have ka : ∀ w', Below W0.heap.size W0 w' → MvIn w.heap.size va w' ∧ MvIn (w.heap.size + 1) vb w' := fun w' h => ⟨mvIn_of ((h.block _ (by omega)).trans d1), mvIn_of ((h.block _ (by omega)).trans d2)⟩
  have KA := Lib.hid ka; have HB0 := Lib.hid hB0; have HF := Lib.hid (law27_first p s hp hs W0)
  have HPS := Lib.hid (show (1 ≤ 1 + s % 4 ∧ 1 + s % 4 ≤ 4) ∧ 1 ≤ 1 + p % 6 by omega)
  have HA := Lib.hid ha; have HBV := Lib.hid hb
  clear ka hB0 hz0 d1 d2 ha hb hp hs
  go_enter Tryz.func3, Tryz.ntmps3
  go_upto_region 1 with fail
  clear hW0
  go_wp2_with fail
  refine HF.out.mono ?_
  rintro e w1 ⟨m, r, sp, rfl, hM, hD, hS, hl, hb1⟩
  obtain ⟨O, hO⟩ : ∃ O, ownS (fewS (1 + s % 4)) (1 + p % 6) = O := ⟨_, rfl⟩
  have hO1 : ∀ u, 1 ≤ O u ∧ O u < 4294967296 := fun u => by rw [← hO]; exact few_lt HPS.out.1 HPS.out.2 u
  rw [hO] at hS
  have hm : ∀ w', Below w1.heap.size w1 w' → MapAt w' m 1 sp := fun w' h => hM.below h
  have hd : ∀ w', Below w1.heap.size w1 w' → DocAt w' r 1 sp := fun w' h => hD.below h
  have HM := Lib.hid hm; have HD := Lib.hid hd; have HS := Lib.hid hS; have HL := Lib.hid hl; have HB1 := Lib.hid hb1; have HO := Lib.hid hO1
  have HOA := Lib.hid (law27_ofV va HA.out r 1 sp w1 hD hS (by omega))
  obtain ⟨⟨x0, x1, x2, x3, x4, x5, x6⟩, _⟩ := KA.out w1 hb1
  clear hM hD hS hl hb1 hm hd hO1 hO HF HPS
  go_wp2_with fail
  refine HOA.out.mono ?_
  rintro e w2 ⟨f, t, tw, rfl, hf, ht, htw, hb2⟩
  have HB2 := Lib.hid (HB1.out.trans (hb2.mono HB1.out.size)); have HB12 := Lib.hid hb2
  have HX := Lib.hid (And.intro hf (And.intro ht htw))
  obtain ⟨W2, hW2⟩ : ∃ W2, w2.alloc (.cells #[.int .u64 (f : Int), .int .u64 (t : Int)] 24) = W2 := ⟨_, rfl⟩
  obtain ⟨hz2, g2, ha2⟩ := alloc_keep hW2
  have hb12 : Below w1.heap.size w1 W2 := hb2.trans (ha2.mono hb2.size)
  have HB2 := Lib.hid (HB1.out.trans (hb12.mono HB1.out.size)); have HB12 := Lib.hid hb12
  have hxr : ∀ w', Below W2.heap.size W2 w' → RgIn w2.heap.size f t w' := fun w' h => ⟨cell_of ((h.block _ (by omega)).trans g2) 0, cell_of ((h.block _ (by omega)).trans g2) 1⟩
  have HXR := Lib.hid hxr
  have HX := Lib.hid (And.intro hf (And.intro ht htw))
  obtain ⟨_, y0, y1, y2, y3, y4, y5, y6⟩ := KA.out W2 HB2.out
  have HOB := Lib.hid (law27_ofV vb HBV.out r 1 sp W2 (HD.out W2 hb12) HS.out (by have := HL.out; omega))
  clear hb2 hf ht htw x0 x1 x2 x3 x4 x5 x6 HOA hz2 g2 ha2 hb12 hxr
  go_upto_region 5 with fail
  clear hW2
  go_wp2_with fail
  refine HOB.out.mono ?_
  rintro e w3 ⟨f', t', tw', rfl, hf, ht, htw, hb3⟩
  obtain ⟨W3, hW3⟩ : ∃ W3, w3.alloc (.cells #[.int .u64 (f' : Int), .int .u64 (t' : Int)] 24) = W3 := ⟨_, rfl⟩
  obtain ⟨hz3, g3, ha3⟩ := alloc_keep hW3
  have hb23 : Below W2.heap.size W2 W3 := hb3.trans (ha3.mono hb3.size)
  have hb13 : Below w1.heap.size w1 W3 := HB12.out.trans (hb23.mono HB12.out.size)
  have hr3 : ∀ w', Below W3.heap.size W3 w' → RgIn w2.heap.size f t w' ∧ RgIn w3.heap.size f' t' w' := fun w' h => ⟨HXR.out w' (hb23.trans (h.mono hb23.size)), cell_of ((h.block _ (by omega)).trans g3) 0, cell_of ((h.block _ (by omega)).trans g3) 1⟩
  have HRG := Lib.hid hr3; have HY := Lib.hid (And.intro hf (And.intro ht htw))
  have HM3 := Lib.hid (show ∀ w', Below W3.heap.size W3 w' → MapAt w' m 1 sp from fun w' h => HM.out w' (hb13.trans (h.mono hb13.size)))
  have HB3 := Lib.hid (HB0.out.trans ((HB1.out.trans (hb13.mono HB1.out.size)).mono HB0.out.size))
  have HSP1 := Lib.hid (map_Split m 1 f t tw sp W3 (HM3.out W3 (Below.refl _ _)) (by have := HL.out; omega) O HS.out HX.out.2.1)
  have hwk := fun (w' : World) => law27_works w'
  have HWK := Lib.hid hwk
  obtain ⟨⟨x0, x1⟩, _, _⟩ := HRG.out W3 (Below.refl _ _)
  clear hb3 hf ht htw y0 y1 y2 y3 y4 y5 y6 HOB hz3 g3 ha3 hb23 hb13 hr3 hwk HXR HB12 HB2 HD HM KA HB0 HB1 HA HBV
  go_upto_region 6 with fail
  clear hW3
  go_wp2_with fail
  refine HSP1.out.mono ?_
  rintro e w4 ⟨hb4, c, hc, ⟨hc0, rfl⟩ | ⟨rfl, n, rfl, hN, _⟩⟩
  · have HB4 := Lib.hid (HB3.out.trans (hb4.mono HB3.out.size))
    have hcb : (c != 0) = true := by simpa using hc0
    clear hb4 hc HSP1 x0 x1 hc0
    go_wp2_with fail
    refine (HWK.out _).mono ?_
    rintro e w5 ⟨rfl, hb5⟩
    have HB5 := Lib.hid (HB4.out.trans (hb5.mono HB4.out.size))
    clear hb5
    go_wp2_with fail
    go_ret
    exact ⟨rfl, HB5.out⟩
  obtain ⟨hbad, hfit, _⟩ := hc.zero
  have hft : f ≤ t := Nat.le_of_not_lt (fun h => hbad (Or.inl h))
  have hSL : SpI (splitO O f t tw) (splitL sp f t tw) M64 := splitL_law tw hft HS.out
  have hlen1 := splitL_length sp f t tw
  have hl1 : (splitL sp f t tw).length ≤ 75 := by have := HL.out; omega
  have hown : splitO O f t tw f = tw := splitO_in ⟨Nat.le_refl _, hft⟩
  have hback : splitO (splitO O f t tw) f t (O f) = O := splitO_back tw hfit.1
  have hSLL : splitL (splitL sp f t tw) f t (O f) = sp := SpI.uniq (by have := splitL_law (O f) hft hSL; rw [hback] at this; exact this) HS.out
  have hfit2 : FitO (splitO O f t tw) f t (O f) := ⟨fun u h1 h2 => by rw [splitO_in ⟨h1, h2⟩, hown], by rw [hown]; exact fun h => hfit.2 h.symm⟩
  have hbad2 : ¬ BadArg f t (O f) := fun h => h.elim (fun h => by omega) (fun h => by have := (HO.out f).1; omega)
  have hr4 : ∀ w', Below w4.heap.size w4 w' → RgIn w2.heap.size f t w' ∧ RgIn w3.heap.size f' t' w' ∧ MapAt w' m 1 sp ∧ MapAt w' n 2 (splitL sp f t tw) := fun w' h => by
    have hb := hb4.trans (h.mono hb4.size)
    exact ⟨(HRG.out w' hb).1, (HRG.out w' hb).2, HM3.out w' hb, hN.below h⟩
  have HB4 := Lib.hid (HB3.out.trans (hb4.mono HB3.out.size))
  have HSP2 := Lib.hid (map_Split n 2 f t (O f) (splitL sp f t tw) w4 hN (by omega) _ hSL HX.out.2.1)
  obtain ⟨⟨x0, x1⟩, _⟩ := hr4 w4 (Below.refl _ _)
  have HR4 := Lib.hid hr4; have HSL := Lib.hid hSL; have HL1 := Lib.hid hl1; have HOWN := Lib.hid hown; have HSLL := Lib.hid hSLL
  have HFIT := Lib.hid (And.intro hbad hfit); have HC2 := Lib.hid (And.intro hfit2 hbad2)
  clear hb4 hc hbad hfit hft hSL hlen1 hl1 hown hback hSLL hfit2 hbad2 hN hr4 HSP1 HRG HM3 HB3
  obtain ⟨was, hwas⟩ : ∃ was, O f = was := ⟨_, rfl⟩
  have HWAS := Lib.hid hwas
  rw [hwas] at HSP2 ⊢
  clear hwas
  go_wp2_with fail
  refine HSP2.out.mono ?_
  rintro e w5 ⟨hb5, c, hc, ⟨hc0, rfl⟩ | ⟨rfl, n2, rfl, hN2, _⟩⟩
  · exfalso
    rw [← HWAS.out] at hc
    exact hc0 (hc.is0 HC2.out.2 HC2.out.1 (fun h => h.elim (fun h => by rw [HSLL.out] at h; have := HL.out; omega) (fun h => absurd h (by decide))))
  rw [← HWAS.out, HSLL.out, show (2 + 1) % M64 = 3 from rfl] at hN2
  rw [HOWN.out]
  have HB5 := Lib.hid (HB4.out.trans (hb5.mono HB4.out.size))
  have hr5 : ∀ w', Below w5.heap.size w5 w' → RgIn w2.heap.size f t w' ∧ RgIn w3.heap.size f' t' w' ∧ MapAt w' m 1 sp ∧ MapAt w' n 2 (splitL sp f t tw) ∧ MapAt w' n2 3 sp := fun w' h => by
    obtain ⟨h1, h2, h3, h4⟩ := HR4.out w' (hb5.trans (h.mono hb5.size))
    exact ⟨h1, h2, h3, h4, hN2.below h⟩
  have HR5 := Lib.hid hr5; have HE := Lib.hid (map_Epoch n2 3 sp w5 hN2)
  clear hb5 hc hN2 hr5 HR4 HSP2 x0 x1
  go_wp2_with fail
  refine HE.out.mono ?_
  rintro e w6 ⟨rfl, hb6⟩
  have HB6 := Lib.hid (HB5.out.trans (hb6.mono HB5.out.size)); have HB56 := Lib.hid hb6
  have HS5 := Lib.hid (map_Spans n2 3 sp w6 (HR5.out w6 hb6).2.2.2.2 (by have := HL.out; omega))
  clear hb6 HE
  go_wp2_with fail
  refine HS5.out.mono ?_
  rintro e w7 ⟨v, rfl, hrow, hb7⟩
  obtain ⟨L, hLn⟩ : ∃ L, sp.length = L := ⟨_, rfl⟩
  have hL25 : L ≤ 25 := by have := HL.out; omega
  have hLpos : 1 ≤ L := by rw [← hLn]; exact List.length_pos_iff.2 HS.out.ne
  rw [hLn] at hrow
  obtain ⟨L1, hL1⟩ : ∃ L1, L = L1 + 1 := ⟨L - 1, by omega⟩
  obtain ⟨g7, c7, rfl⟩ : ∃ g c, v = .slice (some ⟨g, 0, none⟩) L c := by rw [hL1] at hrow ⊢; exact ownsRow_succ hrow
  have hc7 := cells_of_row hrow hLn
  have hg7 := block_lt_of_cell (hc7 0 (by omega)).1
  have HB57 := Lib.hid (HB56.out.trans (hb7.mono HB56.out.size)); have HB7 := Lib.hid (HB6.out.trans (hb7.mono HB6.out.size))
  have hs8 := map_Spans m 1 sp w7 (HR5.out w7 HB57.out).2.2.1 (by have := HL.out; omega)
  rw [hLn] at hs8
  have HC7 := Lib.hid (show ∀ w', Below w7.heap.size w7 w' → ∀ i, i < L → w'.cell? ⟨g7, i * 2, none⟩ = some (.int .u64 ((sp.getD i d0).1 : Int)) ∧ w'.cell? ⟨g7, i * 2 + 1, none⟩ = some (.int .u32 ((sp.getD i d0).2 : Int)) from fun w' h i hi => ⟨(h.cell (p := ⟨g7, i * 2, none⟩) hg7).trans (hc7 i hi).1, (h.cell (p := ⟨g7, i * 2 + 1, none⟩) hg7).trans (hc7 i hi).2⟩)
  have HS8 := Lib.hid hs8; have HLN := Lib.hid hLn; have HLP := Lib.hid hLpos; have HL1L := Lib.hid hL1
  clear hrow hb7 hc7 hg7 hs8 hLn hLpos hL1 HS5
  go_wp2_with fail
  refine HS8.out.mono ?_
  rintro e w8 ⟨v, rfl, hrow, hb8⟩
  obtain ⟨g8, c8, rfl⟩ : ∃ g c, v = .slice (some ⟨g, 0, none⟩) L c := by
    have h := HL1L.out
    subst h; exact ownsRow_succ hrow
  have HC8 := Lib.hid (cells_of_row hrow HLN.out); have HC78 := Lib.hid (HC7.out w8 hb8)
  have HB58 := Lib.hid (HB57.out.trans (hb8.mono HB57.out.size)); have HB8 := Lib.hid (HB7.out.trans (hb8.mono HB7.out.size))
  clear hrow hb8 HC7 HS8 HB7 HB57 HB6 HB56
  go_wp2_with fail
  go_loopw [23] (fun i wr => ∃ k : Nat, k ≤ L ∧ i = .int .i64 k ∧ ∃ nd, wr = w8.drewN nd) (fun i _ => L - (intOf i).toNat)
  case atStart => exact ⟨0, Nat.zero_le _, rfl, 0, rfl⟩
  case round =>
    obtain ⟨k, hk, rfl, nd, rfl⟩ := hrel
    by_cases hlt : k < L
    · obtain ⟨a0, a1⟩ := HC78.out k hlt
      obtain ⟨b0, b1⟩ := HC8.out k hlt
      obtain ⟨q, hq⟩ : ∃ q, (sp.getD k d0).1 = q := ⟨_, rfl⟩
      obtain ⟨u, hu⟩ : ∃ q, (sp.getD k d0).2 = q := ⟨_, rfl⟩
      rw [hq] at a0 b0; rw [hu] at a1 b1
      have hkl : ((k : Int) < (L : Int)) = True := by simp; omega
      have hkl' : (k : Int) < (L : Int) := by omega
      clear hq hu
      go_wp2_with fail
      go_quiet (fail)
      go_wp2_with fail
      go_roundw
      case rel => exact ⟨k + 1, by omega, by go_num, _, rfl⟩
      case measure => simp [intOf]; omega
    · obtain rfl : k = L := by omega
      have hb9 : Below w8.heap.size w8 (w8.drewN nd) := below_dr (Below.refl _ _) nd
      obtain ⟨w9, hw9⟩ : ∃ w9, w8.drewN nd = w9 := ⟨_, rfl⟩
      rw [hw9] at hb9 ⊢
      have HB9 := Lib.hid (HB8.out.trans (hb9.mono HB8.out.size))
      have HB59 := Lib.hid (HB58.out.trans (hb9.mono HB58.out.size))
      obtain ⟨⟨x0, x1⟩, ⟨y0, y1⟩, hm9, hn9, _⟩ := HR5.out w9 HB59.out
      have HM9 := Lib.hid hm9; have HN9 := Lib.hid hn9
      clear hb9 hw9 hm9 hn9 HC8 HC78 HB8 HB58
      by_cases ho1 : f' ≤ t
      · by_cases ho2 : f ≤ t'
        · go_wp2_with fail
          refine (HWK.out _).mono ?_
          rintro e wa ⟨rfl, hba⟩
          have HBA := Lib.hid (HB9.out.trans (hba.mono HB9.out.size))
          clear hba
          go_wp2_with fail
          go_ret
          exact ⟨rfl, HBA.out⟩
        · have HAP := Lib.hid (show ¬ (f' ≤ t ∧ f ≤ t') from fun h => ho2 h.2)
          have hlu := splitL_length (splitL sp f t tw) f' t' tw'
          have hlw := splitL_length sp f' t' tw'
          have HFL := Lib.hid (show (2048 < (splitL (splitL sp f t tw) f' t' tw').length ∨ (2 + 1) % M64 = 0) ↔ (2048 < (splitL sp f' t' tw').length ∨ (1 + 1) % M64 = 0) from ⟨fun h => h.elim (fun h => by have := HL1.out; omega) (fun h => absurd h (by decide)), fun h => h.elim (fun h => by have := HL.out; omega) (fun h => absurd h (by decide))⟩)
          have HSU := Lib.hid (map_Split n 2 f' t' tw' (splitL sp f t tw) w9 HN9.out (by have := HL1.out; omega) _ HSL.out HY.out.2.1)
          clear hlu hlw
          go_wp2_with fail
          refine HSU.out.mono ?_
          rintro e wa ⟨hba, cu, hcu, hu⟩
          have HBA := Lib.hid (HB9.out.trans (hba.mono HB9.out.size))
          have HB5A := Lib.hid (HB59.out.trans (hba.mono HB59.out.size))
          have HSV := Lib.hid (map_Split m 1 f' t' tw' sp wa (HR5.out wa HB5A.out).2.2.1 (by have := HL.out; omega) O HS.out HY.out.2.1)
          have HCU := Lib.hid hcu
          obtain ⟨⟨x0, x1⟩, ⟨y0, y1⟩, _⟩ := HR5.out wa HB5A.out
          clear hcu
          rcases hu with ⟨hcu0, rfl⟩ | ⟨rfl, nu, rfl, hU, _⟩
          · have hcb : (cu != 0) = true := by simpa using hcu0
            clear hba HSU hcu0
            go_wp2_with fail
            refine HSV.out.mono ?_
            rintro e wb ⟨hbb, cv, hcv, hv⟩
            obtain rfl : cu = cv := HCU.out.same hcv (fun h => fitO_swap tw HAP.out h) HFL.out
            have HBB := Lib.hid (HBA.out.trans (hbb.mono HBA.out.size))
            clear hcv hbb HSV
            rcases hv with ⟨_, rfl⟩ | ⟨h, _⟩
            · go_wp2_with fail
              refine (HWK.out _).mono ?_
              rintro e wc ⟨rfl, hbc⟩
              have HBC := Lib.hid (HBB.out.trans (hbc.mono HBB.out.size))
              clear hbc
              go_wp2_with fail
              go_ret
              exact ⟨rfl, HBC.out⟩
            · subst h; exact absurd hcb (by decide)
          · have HU := Lib.hid (fun w' (h : Below wa.heap.size wa w') => MapAt.below hU h)
            clear hba HSU hU
            go_wp2_with fail
            refine HSV.out.mono ?_
            rintro e wb ⟨hbb, cv, hcv, hv⟩
            obtain rfl : 0 = cv := HCU.out.same hcv (fun h => fitO_swap tw HAP.out h) HFL.out
            have HBB := Lib.hid (HBA.out.trans (hbb.mono HBA.out.size))
            have HB5B := Lib.hid (HB5A.out.trans (hbb.mono HB5A.out.size))
            have HUB := Lib.hid (HU.out wb hbb); have HCV := Lib.hid hcv; have HBAB := Lib.hid hbb
            clear hcv hbb HSV
            rcases hv with ⟨h, _⟩ | ⟨_, nv, rfl, hV, _⟩
            · exact absurd rfl h
            obtain ⟨hbad, hfit, _⟩ := HCV.out.zero
            have hft : f' ≤ t' := Nat.le_of_not_lt (fun h => hbad (Or.inl h))
            have hSV : SpI (splitO O f' t' tw') (splitL sp f' t' tw') M64 := splitL_law tw' hft HS.out
            have hlv := splitL_length sp f' t' tw'
            have hftx : f ≤ t := Nat.le_of_not_lt (fun h => HFIT.out.1 (Or.inl h))
            have hapx : ¬ (f ≤ t' ∧ f' ≤ t) := fun h => HAP.out ⟨h.2, h.1⟩
            have hfitx : FitO (splitO O f' t' tw') f t tw := (fitO_swap tw' hapx HFIT.out.1).2 HFIT.out.2
            have heq : splitL (splitL sp f' t' tw') f t tw = splitL (splitL sp f t tw) f' t' tw' := by
              have h1 := splitL_law tw hftx hSV
              have h2 := splitL_law tw' hft HSL.out
              rw [splitO_swap O tw' tw hapx] at h1
              exact h1.uniq h2
            have hlx := splitL_length (splitL sp f' t' tw') f t tw
            have HSW := Lib.hid (map_Split nv 2 f t tw (splitL sp f' t' tw') wb hV (by have := HL.out; omega) _ hSV HX.out.2.1)
            have HEQ := Lib.hid heq; have HFX := Lib.hid (And.intro HFIT.out.1 hfitx)
            have HLX := Lib.hid (show (splitL (splitL sp f' t' tw') f t tw).length ≤ 225 by have := HL.out; omega)
            have HSX := Lib.hid (splitL_law tw hftx hSV)
            obtain ⟨⟨x0, x1⟩, _⟩ := HR5.out wb HB5B.out
            clear hbad hfit hft hSV hlv hftx hapx hfitx heq hlx hV HU 
            go_wp2_with fail
            refine HSW.out.mono ?_
            rintro e wc ⟨hbc, cx, hcx, ⟨hcx0, rfl⟩ | ⟨rfl, nx, rfl, hX, _⟩⟩
            · exfalso
              exact hcx0 (hcx.is0 HFX.out.1 HFX.out.2 (fun h => h.elim (fun h => by have := HLX.out; omega) (fun h => absurd h (by decide))))
            have hlt64 : ∀ x ∈ splitL (splitL sp f' t' tw') f t tw, x.1 < M64 := HSX.out.lt
            have hlt32 : ∀ x ∈ splitL (splitL sp f' t' tw') f t tw, x.2 < 4294967296 := HSX.out.b32 (splitO_lt (splitO_lt (fun u => (HO.out u).2) HY.out.2.2) HX.out.2.2)
            have hby1 := map_Bytes nx 3 _ wc hX (by have := HLX.out; omega) (by decide) hlt64 hlt32
            have HBC := Lib.hid (HBB.out.trans (hbc.mono HBB.out.size)); have HUC := Lib.hid (HUB.out.below hbc)
            rw [HEQ.out] at hby1 hlt64 hlt32
            have HBY1 := Lib.hid hby1; have H64 := Lib.hid hlt64; have H32 := Lib.hid hlt32
            clear hby1 hlt64 hlt32 hbc hcx hX HSW
            go_wp2_with fail
            refine HBY1.out.mono ?_
            rintro e wd ⟨rfl, hbd⟩
            have HBD := Lib.hid (HBC.out.trans (hbd.mono HBC.out.size))
            have HBY2 := Lib.hid (map_Bytes nu 3 _ wd (HUC.out.below hbd) (by rw [← HEQ.out]; have := HLX.out; omega) (by decide) H64.out H32.out)
            clear hbd HBY1
            obtain ⟨S, hS⟩ : ∃ S, sb (encM 3 (splitL (splitL sp f t tw) f' t' tw')) = S := ⟨_, rfl⟩
            rw [hS] at HBY2 ⊢
            clear hS
            go_wp2_with fail
            refine HBY2.out.mono ?_
            rintro e we ⟨rfl, hbe⟩
            have HBE := Lib.hid (HBD.out.trans (hbe.mono HBD.out.size))
            clear hbe HBY2
            go_wp2_with fail
            refine (HWK.out _).mono ?_
            rintro e wf ⟨rfl, hbf⟩
            have HBF := Lib.hid (HBE.out.trans (hbf.mono HBE.out.size))
            clear hbf
            go_wp2_with fail
            go_ret
            exact ⟨rfl, HBF.out⟩
      · have HAP := Lib.hid (show ¬ (f' ≤ t ∧ f ≤ t') from fun h => ho1 h.1)
        have hlu := splitL_length (splitL sp f t tw) f' t' tw'
        have hlw := splitL_length sp f' t' tw'
        have HFL := Lib.hid (show (2048 < (splitL (splitL sp f t tw) f' t' tw').length ∨ (2 + 1) % M64 = 0) ↔ (2048 < (splitL sp f' t' tw').length ∨ (1 + 1) % M64 = 0) from ⟨fun h => h.elim (fun h => by have := HL1.out; omega) (fun h => absurd h (by decide)), fun h => h.elim (fun h => by have := HL.out; omega) (fun h => absurd h (by decide))⟩)
        have HSU := Lib.hid (map_Split n 2 f' t' tw' (splitL sp f t tw) w9 HN9.out (by have := HL1.out; omega) _ HSL.out HY.out.2.1)
        clear hlu hlw
        go_wp2_with fail
        refine HSU.out.mono ?_
        rintro e wa ⟨hba, cu, hcu, hu⟩
        have HBA := Lib.hid (HB9.out.trans (hba.mono HB9.out.size))
        have HB5A := Lib.hid (HB59.out.trans (hba.mono HB59.out.size))
        have HSV := Lib.hid (map_Split m 1 f' t' tw' sp wa (HR5.out wa HB5A.out).2.2.1 (by have := HL.out; omega) O HS.out HY.out.2.1)
        have HCU := Lib.hid hcu
        obtain ⟨⟨x0, x1⟩, ⟨y0, y1⟩, _⟩ := HR5.out wa HB5A.out
        clear hcu
        rcases hu with ⟨hcu0, rfl⟩ | ⟨rfl, nu, rfl, hU, _⟩
        · have hcb : (cu != 0) = true := by simpa using hcu0
          clear hba HSU hcu0
          go_wp2_with fail
          refine HSV.out.mono ?_
          rintro e wb ⟨hbb, cv, hcv, hv⟩
          obtain rfl : cu = cv := HCU.out.same hcv (fun h => fitO_swap tw HAP.out h) HFL.out
          have HBB := Lib.hid (HBA.out.trans (hbb.mono HBA.out.size))
          clear hcv hbb HSV
          rcases hv with ⟨_, rfl⟩ | ⟨h, _⟩
          · go_wp2_with fail
            refine (HWK.out _).mono ?_
            rintro e wc ⟨rfl, hbc⟩
            have HBC := Lib.hid (HBB.out.trans (hbc.mono HBB.out.size))
            clear hbc
            go_wp2_with fail
            go_ret
            exact ⟨rfl, HBC.out⟩
          · subst h; exact absurd hcb (by decide)
        · have HU := Lib.hid (fun w' (h : Below wa.heap.size wa w') => MapAt.below hU h)
          clear hba HSU hU
          go_wp2_with fail
          refine HSV.out.mono ?_
          rintro e wb ⟨hbb, cv, hcv, hv⟩
          obtain rfl : 0 = cv := HCU.out.same hcv (fun h => fitO_swap tw HAP.out h) HFL.out
          have HBB := Lib.hid (HBA.out.trans (hbb.mono HBA.out.size))
          have HB5B := Lib.hid (HB5A.out.trans (hbb.mono HB5A.out.size))
          have HUB := Lib.hid (HU.out wb hbb); have HCV := Lib.hid hcv; have HBAB := Lib.hid hbb
          clear hcv hbb HSV
          rcases hv with ⟨h, _⟩ | ⟨_, nv, rfl, hV, _⟩
          · exact absurd rfl h
          obtain ⟨hbad, hfit, _⟩ := HCV.out.zero
          have hft : f' ≤ t' := Nat.le_of_not_lt (fun h => hbad (Or.inl h))
          have hSV : SpI (splitO O f' t' tw') (splitL sp f' t' tw') M64 := splitL_law tw' hft HS.out
          have hlv := splitL_length sp f' t' tw'
          have hftx : f ≤ t := Nat.le_of_not_lt (fun h => HFIT.out.1 (Or.inl h))
          have hapx : ¬ (f ≤ t' ∧ f' ≤ t) := fun h => HAP.out ⟨h.2, h.1⟩
          have hfitx : FitO (splitO O f' t' tw') f t tw := (fitO_swap tw' hapx HFIT.out.1).2 HFIT.out.2
          have heq : splitL (splitL sp f' t' tw') f t tw = splitL (splitL sp f t tw) f' t' tw' := by
            have h1 := splitL_law tw hftx hSV
            have h2 := splitL_law tw' hft HSL.out
            rw [splitO_swap O tw' tw hapx] at h1
            exact h1.uniq h2
          have hlx := splitL_length (splitL sp f' t' tw') f t tw
          have HSW := Lib.hid (map_Split nv 2 f t tw (splitL sp f' t' tw') wb hV (by have := HL.out; omega) _ hSV HX.out.2.1)
          have HEQ := Lib.hid heq; have HFX := Lib.hid (And.intro HFIT.out.1 hfitx)
          have HLX := Lib.hid (show (splitL (splitL sp f' t' tw') f t tw).length ≤ 225 by have := HL.out; omega)
          have HSX := Lib.hid (splitL_law tw hftx hSV)
          obtain ⟨⟨x0, x1⟩, _⟩ := HR5.out wb HB5B.out
          clear hbad hfit hft hSV hlv hftx hapx hfitx heq hlx hV HU 
          go_wp2_with fail
          refine HSW.out.mono ?_
          rintro e wc ⟨hbc, cx, hcx, ⟨hcx0, rfl⟩ | ⟨rfl, nx, rfl, hX, _⟩⟩
          · exfalso
            exact hcx0 (hcx.is0 HFX.out.1 HFX.out.2 (fun h => h.elim (fun h => by have := HLX.out; omega) (fun h => absurd h (by decide))))
          have hlt64 : ∀ x ∈ splitL (splitL sp f' t' tw') f t tw, x.1 < M64 := HSX.out.lt
          have hlt32 : ∀ x ∈ splitL (splitL sp f' t' tw') f t tw, x.2 < 4294967296 := HSX.out.b32 (splitO_lt (splitO_lt (fun u => (HO.out u).2) HY.out.2.2) HX.out.2.2)
          have hby1 := map_Bytes nx 3 _ wc hX (by have := HLX.out; omega) (by decide) hlt64 hlt32
          have HBC := Lib.hid (HBB.out.trans (hbc.mono HBB.out.size)); have HUC := Lib.hid (HUB.out.below hbc)
          rw [HEQ.out] at hby1 hlt64 hlt32
          have HBY1 := Lib.hid hby1; have H64 := Lib.hid hlt64; have H32 := Lib.hid hlt32
          clear hby1 hlt64 hlt32 hbc hcx hX HSW
          go_wp2_with fail
          refine HBY1.out.mono ?_
          rintro e wd ⟨rfl, hbd⟩
          have HBD := Lib.hid (HBC.out.trans (hbd.mono HBC.out.size))
          have HBY2 := Lib.hid (map_Bytes nu 3 _ wd (HUC.out.below hbd) (by rw [← HEQ.out]; have := HLX.out; omega) (by decide) H64.out H32.out)
          clear hbd HBY1
          obtain ⟨S, hS⟩ : ∃ S, sb (encM 3 (splitL (splitL sp f t tw) f' t' tw')) = S := ⟨_, rfl⟩
          rw [hS] at HBY2 ⊢
          clear hS
          go_wp2_with fail
          refine HBY2.out.mono ?_
          rintro e we ⟨rfl, hbe⟩
          have HBE := Lib.hid (HBD.out.trans (hbe.mono HBD.out.size))
          clear hbe HBY2
          go_wp2_with fail
          refine (HWK.out _).mono ?_
          rintro e wf ⟨rfl, hbf⟩
          have HBF := Lib.hid (HBE.out.trans (hbf.mono HBE.out.size))
          clear hbf
          go_wp2_with fail
          go_ret
          exact ⟨rfl, HBF.out⟩
end Go.Proofs.YthcmcjoenepkbaaGreat
