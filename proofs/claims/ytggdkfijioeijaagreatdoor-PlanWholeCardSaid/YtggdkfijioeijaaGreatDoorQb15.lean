/- Law 28: World, whatever the moves: the program's map and the document's are the same after any splits. Moves that came in, opened for this seat's walks. -/
import Derived.Test.YtggdkfijioeijaaGreatDoorQb00
import Derived.Test.YtggdkfijioeijaaGreatDoorQb14
import Derived.Deep.RegionHeld3
import Derived.Deep.CutBlock
namespace Go.Proofs.YtggdkfijioeijaaGreatDoor
open Go Go.RowKit Go.Maps
structure Pmv where
 f : Nat
 t : Nat
 tw : Nat
def dPm : Pmv := ⟨0, 0, 0⟩
def pmC (x : Pmv) : List Value := [.int .u64 (x.f : Int), .int .u64 (x.t : Int), .int .u32 (x.tw : Int)]
structure Pmv.Ok (x : Pmv) : Prop where
 f : x.f < M64
 t : x.t < M64
 tw : x.tw < 4294967296
abbrev IsPms (w : World) (v : Value) (l : List Pmv) : Prop := IsL 3 pmC dPm w v l
theorem pm_cells {x : Pmv} {w : World} {b o : Nat} (h : ∀ j u, (pmC x)[j]? = some u → w.cell? ⟨b, o + j, none⟩ = some u) : w.cell? ⟨b, o, none⟩ = some (.int .u64 (x.f : Int)) ∧ w.cell? ⟨b, o + 1, none⟩ = some (.int .u64 (x.t : Int)) ∧ w.cell? ⟨b, o + 2, none⟩ = some (.int .u32 (x.tw : Int)) := ⟨h 0 _ rfl, h 1 _ rfl, h 2 _ rfl⟩
theorem SplitR.uni {O : Nat → Nat} {f t tw e1 : Nat} {sp : List (Nat × Nat)} {w w' : World} {en : Ending} (h : SplitR O f t tw e1 sp w en w') :
  ∃ (pn : Option Addr) (wz c : Int), en = .returned (.tuple #[.pointer pn, .int .u32 wz, .int .i64 c]) ∧ SplitC O f t tw e1 (splitL sp f t tw).length c ∧ Below w.heap.size w w' ∧ (c = 0 → ∃ n, pn = some ⟨n, 0, none⟩ ∧ MapAt w' n e1 (splitL sp f t tw)) := by
 obtain ⟨hb, c, hc, ⟨h0, rfl⟩ | ⟨rfl, n, rfl, hM, _⟩⟩ := h
 ·exact ⟨_, _, _, rfl, hc, hb, fun h => absurd h h0⟩
 ·exact ⟨_, _, _, rfl, hc, hb, fun _ => ⟨n, rfl, hM⟩⟩
theorem SplitD.uni {O : Nat → Nat} {f t tw e1 : Nat} {sp : List (Nat × Nat)} {w w' : World} {en : Ending} (h : SplitD O f t tw e1 sp w en w') :
  ∃ (pn : Option Addr) (wz c : Int), en = .returned (.tuple #[.pointer pn, .int .u32 wz, .int .i64 c]) ∧ SplitC O f t tw e1 (splitL sp f t tw).length c ∧ Below w.heap.size w w' ∧ (c = 0 → ∃ n, pn = some ⟨n, 0, none⟩ ∧ DocAt w' n e1 (splitL sp f t tw)) := by
 obtain ⟨hb, c, hc, ⟨h0, rfl⟩ | ⟨rfl, n, rfl, hM⟩⟩ := h
 ·exact ⟨_, _, _, rfl, hc, hb, fun h => absurd h h0⟩
 ·exact ⟨_, _, _, rfl, hc, hb, fun _ => ⟨n, rfl, hM⟩⟩
def WorldG (w : World) (e : Ending) (w' : World) : Prop := ∃ m r ep sp O, e = .returned (.tuple #[.pointer (some ⟨m, 0, none⟩), .pointer (some ⟨r, 0, none⟩)]) ∧ MapAt w' m ep sp ∧ DocAt w' r ep sp ∧ SpI O sp M64 ∧ sp.length ≤ 2048 ∧ (∀ u, 1 ≤ O u ∧ O u < 4294967296) ∧ ep ≤ 1000 ∧ Below w.heap.size w w'
set_option maxRecDepth 100000 in
set_option maxHeartbeats 4000000 in
theorem law28_worldM (p s : Nat) (hp : p < 256) (hs : s < 256) (av0 : Option Addr) (LN cp0 : Nat) (lm : List Pmv) (w : World) (hv : IsPms w (.slice av0 LN cp0) lm) (hLN : lm.length = LN) (hok : ∀ x ∈ lm, x.Ok) (hl10 : LN ≤ 10) :
    Calls Tryz.prog 9 #[.int .u8 (p : Int), .int .u8 (s : Int), .slice av0 LN cp0] w (WorldG w) := by
  obtain ⟨i0, hi, hz0, hz1, hz2⟩ := info_parts infoW32
  have HV := Lib.hid (fun (w' : World) (h : Below w.heap.size w w') => hv.below h (Nat.le_refl _))
  have HLN := Lib.hid hLN; have HOK := Lib.hid hok
  clear hv hLN hok
  obtain ⟨q, hq⟩ : ∃ q, s % 4 = q := ⟨_, rfl⟩
  obtain ⟨n, hn⟩ : ∃ n, 1 + s % 4 = n := ⟨_, rfl⟩
  obtain ⟨k, hk⟩ : ∃ k, 1 + p % 4 = k := ⟨_, rfl⟩
  have hqi : (s : Int) % 4 = (q : Int) := by omega
  have hq32 : IntKind.u32.wrap (q : Int) = (q : Int) := by rw [IntKind.wrap_u32]; omega
  have hki : (1 : Int) + (p : Int) % 4 = (k : Int) := by omega
  have hk1 : 1 ≤ k ∧ k ≤ 4 := by omega
  have hn1 : 1 ≤ n ∧ n ≤ 4 ∧ n ≤ q + 1 ∧ q < n := by omega
  clear hq hn hk
  go_enter Tryz.func9, Tryz.ntmps9
  go_wp2_with fail
  go_loopw [8, 9] (fun v i wr => ∃ j : Nat, j ≤ n ∧ i = .int .u32 j ∧ (∃ a c, v = .slice a j c) ∧ Hid (wr.ownsRow w.heap.size 28 1 v j ((fewS j).map (fun s : Nat => Value.int .u32 (s : Int)))) ∧ Hid (Below w.heap.size w wr)) (fun _ i _ => n - (intOf i).toNat)
  case atStart => exact ⟨0, Nat.zero_le _, rfl, ⟨none, 0, rfl⟩, Lib.hid (World.ownsRow_nil _ _ _ _), Lib.hid (Below.refl _ _)⟩
  case round =>
    obtain ⟨j, hj, rfl, ⟨av, cv, rfl⟩, HROW, HB⟩ := hrel
    by_cases hlt : j < n
    · obtain ⟨j1, hj1⟩ : ∃ j1, j + 1 = j1 := ⟨_, rfl⟩
      have hji : (j : Int) + 1 = (j1 : Int) := by omega
      have hjw : IntKind.u32.wrap (j1 : Int) = (j1 : Int) := by rw [IntKind.wrap_u32]; omega
      have hle : ((j : Int) ≤ (q : Int)) = True := by simp; omega
      have HJ1 := Lib.hid hj1
      have hle' : (j : Int) ≤ (q : Int) := by omega
      clear hj1
      go_wp2_with (
        at_builtin
        refine wpList_append_lies _ rfl (.tmp 30) (.tmp 33) 64 rfl w.heap.size 28 i0 (.int .u32 0) 1 4 Tryz.underlying64 hi hz0 hz1 hz2 rfl (by decide) _ j ((fewS j).map (fun s : Nat => Value.int .u32 (s : Int))) rfl (HROW.out.alloc _) ⟨wr.heap.size, 0, none⟩ 1 1 [.int .u32 (j1 : Int)] rfl rfl (cell_one_new32 _ _ _) (few_one _) (by decide) (by unfold maxLen; omega) (by omega) (by have := HB.out.size; simp; omega) (wr.heap.size + 1) (by simp) ?go
        intro g cp w8 hown8 hg8 _hat _hlt8
        replace hown8 : w8.ownsRow w.heap.size 28 1 (.slice (some ⟨g, 0, none⟩) (j + 1) cp) (j + 1) ((fewS (j + 1)).map (fun s : Nat => Value.int .u32 (s : Int))) := (by rw [fewS_succ, List.map_append, show ([j + 1] : List Nat).map (fun s : Nat => Value.int .u32 (s : Int)) = [.int .u32 (j1 : Int)] by rw [HJ1.out]; rfl]; exact hown8)
        have hB8 : Below w.heap.size w w8 := (HB.out.alloc HB.out.size _).grown hg8 (by simp; have := HB.out.size; omega) (fun k hk => by have := own_above HROW.out k hk; omega)
        have HB8 := Lib.hid hB8; have HO8 := Lib.hid hown8
        clear hown8 hg8 _hat _hlt8 hB8)
      go_roundw
      case rel => exact ⟨j + 1, by omega, by rw [← hji]; rfl, ⟨_, _, rfl⟩, HO8, HB8⟩
      case measure => simp [intOf]; omega
    · obtain rfl : j = n := by omega
      have hle : ((j : Int) ≤ (q : Int)) = False := by simp; omega
      have hle' : ¬ (j : Int) ≤ (q : Int) := by omega
      obtain ⟨g, rfl⟩ : ∃ g, av = some ⟨g, 0, none⟩ := by
        rcases HROW.out.2 with ⟨h', hn0⟩ | ⟨g, cap, cur, h', _⟩
        · omega
        · simp only [Value.slice.injEq] at h'
          exact ⟨g, h'.1⟩
      have hfl := fewS_length j
      have hcell : ∀ i, i < j → wr.cell? ⟨g, i, none⟩ = some (.int .u32 (((fewS j).getD i 0 : Nat) : Int)) := fun i hi => by
        rw [World.ownsRow.cellAt HROW.out i (by omega), List.getElem?_map, List.getD_eq_getElem?_getD, List.getElem?_eq_getElem (by omega)]; rfl
      have hgl := block_lt_of_cell (hcell 0 (by omega))
      have hnew := ringNew (fewS j) k g 0 cv wr hgl (fun i hi => by rw [Nat.zero_add]; exact hcell i (by omega)) hk1.1 (by omega) (by omega) (by omega) (fewS_nodup j) (fun x hx => by have := fewS_mem hx; omega)
      have hspots := fun w' (h : Below wr.heap.size wr w') => ref26_Spots (fewS j) k g cv w' (by omega) (by omega) (fun x hx => by have := fewS_mem hx; omega) (fun i hi => (h.cell (p := ⟨g, i, none⟩) hgl).trans (hcell i (by omega)))
      have hpl : (puts (fewS j) k).length = j * k := by rw [puts_length, hfl]
      have hpl1 : 1 ≤ j * k := Nat.mul_pos (by omega) (by omega)
      have hpl2 : j * k ≤ 4 * 4 := Nat.mul_le_mul (by omega) (by omega)
      rw [hfl] at hnew hspots
      rw [hpl] at hspots
      obtain ⟨L, hL⟩ : ∃ L, j * k = L := ⟨_, rfl⟩
      rw [hL] at hspots hpl hpl1 hpl2
      have HSPOT := Lib.hid hspots; have HNEW := Lib.hid hnew; have HPL := Lib.hid hpl; have HFL := Lib.hid hfl
      clear hspots hnew hpl hL hcell HROW hfl
      go_wp2_with fail
      refine HNEW.out.mono ?_
      rintro e w1 ⟨r, rfl, hR, hb1⟩
      have HR := Lib.hid hR; have HB1 := Lib.hid hb1
      clear hR hb1
      go_wp2_with fail
      refine (map_New r (fewS j) k w1 HR.out).mono ?_
      rintro e w2 ⟨m, sp, rfl, hM, hsp, hl, hm, hb2⟩
      have HM := Lib.hid hM; have HSP := Lib.hid hsp; have HB2 := Lib.hid (HB1.out.trans (hb2.mono HB1.out.size))
      have HLL := Lib.hid hl
      clear hM hsp hl hb2
      go_wp2_with fail
      refine (HSPOT.out w2 HB2.out).mono ?_
      rintro e w3 ⟨v, rfl, hrow, hb3⟩
      obtain ⟨g3, c3, rfl, hc3⟩ : ∃ g3 c3, v = .slice (some ⟨g3, 0, none⟩) L c3 ∧ ∀ i, i < L → w3.cell? ⟨g3, i * 2, none⟩ = some (.int .u64 (((puts (fewS j) k).getD i d0).1 : Int)) ∧ w3.cell? ⟨g3, i * 2 + 1, none⟩ = some (.int .u32 (((puts (fewS j) k).getD i d0).2 : Int)) := by
        rcases hrow.2 with ⟨_, h0⟩ | ⟨g', cap', cur, rfl, _⟩
        · omega
        · refine ⟨g', cap', rfl, fun i hi => ?_⟩
          obtain ⟨s1, s2⟩ := spV_at (puts (fewS j) k) i (by rw [HPL.out]; exact hi)
          exact ⟨(World.ownsRow.cellAt hrow (i * 2) (by omega)).trans s1, (World.ownsRow.cellAt hrow (i * 2 + 1) (by omega)).trans s2⟩
      have hspans := ref26_Spans (puts (fewS j) k) g3 c3 w3 (puts_inb (fun x hx => by have := fewS_mem hx; show x < 4294967296; omega)) (by rw [HPL.out]; exact hpl1) (by rw [HPL.out]; omega) (fun i hi => hc3 i (by rw [← HPL.out]; exact hi))
      rw [HPL.out] at hspans
      have HSPANS := Lib.hid hspans; have HB3 := Lib.hid (HB2.out.trans (hb3.mono HB2.out.size))
      have HM3 := Lib.hid (HM.out.below hb3)
      clear hspans hb3 hrow hc3
      go_wp2_with fail
      refine HSPANS.out.mono ?_
      rintro e w4 ⟨g4, c4, sp4, rfl, hrow4, hsp4, hl4, hb4⟩
      obtain rfl := hsp4.uniq (b := sp) HSP.out
      have hcells := cells_of_row hrow4 rfl
      have hpos := List.length_pos_iff.2 HSP.out.ne
      have hg4 := block_lt_of_cell (hcells 0 hpos).1
      have HB4 := Lib.hid (HB3.out.trans (hb4.mono HB3.out.size))
      have HM4 := Lib.hid (HM3.out.below hb4)
      have HC4 := Lib.hid hcells
      clear hrow4 hsp4 hb4 hcells
      obtain ⟨l4, hl4e⟩ : ∃ l4, sp4.length = l4 := ⟨_, rfl⟩
      rw [hl4e]
      have HL4 := Lib.hid hl4e
      clear hl4e
      go_wp2_with fail
      obtain ⟨W5, hW5⟩ : ∃ W5, w4.alloc (.cells #[.int .u64 1, .slice (some ⟨g4, 0, none⟩) l4 c4] 88) = W5 := ⟨_, rfl⟩
      obtain ⟨hz5, hg5, hb5⟩ := alloc_keep hW5
      obtain ⟨R5, hR5⟩ : ∃ R5, w4.heap.size = R5 := ⟨_, rfl⟩
      have hba := HB.out.trans (HB4.out.mono HB.out.size)
      have HM5 := Lib.hid (HM4.out.below hb5)
      have HD5 : Hid (DocAt W5 R5 1 sp4) := Lib.hid ⟨g4, c4, by rw [← hR5, HL4.out]; exact hg5, by rw [hz5]; omega, fun i hi => by
        obtain ⟨a, b⟩ := HC4.out i hi
        exact ⟨(hb5.cell (p := ⟨g4, i * 2, none⟩) hg4).trans a, (hb5.cell (p := ⟨g4, i * 2 + 1, none⟩) hg4).trans b⟩⟩
      have HB5 := Lib.hid (hba.trans (hb5.mono hba.size))
      have HLS := Lib.hid (show sp4.length ≤ 2048 by omega)
      rw [hW5, hR5]
      have HOO : Hid (∀ u, 1 ≤ ownS (fewS j) k u ∧ ownS (fewS j) k u < 4294967296) := Lib.hid (fun u => by
        have := fewS_mem (ownS_mem (h := u) (S := fewS j) (k := k) (by rw [fewS_length]; omega) (by omega))
        omega)
      clear hW5 hz5 hg5 hb5 hR5 hba hg4
      go_loopw [13, 15, 16] (fun vm vd vi wr2 => ∃ (q m r ep : Nat) (sp : List (Nat × Nat)) (O : Nat → Nat), q ≤ LN ∧ vi = .int .i64 q ∧ vm = .pointer (some ⟨m, 0, none⟩) ∧ vd = .pointer (some ⟨r, 0, none⟩) ∧ Hid (MapAt wr2 m ep sp) ∧ Hid (DocAt wr2 r ep sp) ∧ Hid (SpI O sp M64) ∧ Hid (sp.length ≤ 2048) ∧ Hid (∀ u, 1 ≤ O u ∧ O u < 4294967296) ∧ Hid (ep ≤ 1 + q) ∧ Hid (Below w.heap.size w wr2)) (fun _ _ i _ => LN - (intOf i).toNat)
      case atStart => exact ⟨0, m, R5, 1, sp4, _, Nat.zero_le _, rfl, rfl, rfl, HM5, HD5, HSP, HLS, HOO, Lib.hid (by omega), HB5⟩
      case round =>
        clear HM5 HD5 HSP HLS HOO HB5 HM4 HB4 HC4 HL4 HB HB1 HB2 HB3 HM HM3 HPL HFL HSPOT HNEW HR HSPANS HLL
        obtain ⟨U, hU⟩ : ∃ U, wr = U := ⟨_, rfl⟩
        subst hU
        obtain ⟨q, m, r, ep, sp, O, hq, rfl, rfl, rfl, HM, HD, HS, HL, HO, HE, HB⟩ := hrel
        by_cases hlt : q < LN
        · have hqi : (q : Int) < (LN : Int) := by omega
          have hql : q < lm.length := by rw [HLN.out]; exact hlt
          obtain ⟨a', cp', he, hcc⟩ := HV.out _ HB.out
          obtain ⟨b, off, rfl, hbl, hcc⟩ := hcc.resolve_left (fun h => by rw [h] at hql; simp at hql)
          cases he
          have hx0 := pm_cells (hcc q hql)
          obtain ⟨f, t, tw, ht, htw, hx⟩ : ∃ f t tw : Nat, t < M64 ∧ tw < 4294967296 ∧ (wr.cell? ⟨b, off + q * 3, none⟩ = some (.int .u64 (f : Int)) ∧ wr.cell? ⟨b, off + q * 3 + 1, none⟩ = some (.int .u64 (t : Int)) ∧ wr.cell? ⟨b, off + q * 3 + 2, none⟩ = some (.int .u32 (tw : Int))) := by
            have ho := HOK.out (lm.getD q dPm) (by rw [List.getD_eq_getElem?_getD, List.getElem?_eq_getElem hql]; exact List.getElem_mem _)
            exact ⟨_, _, _, ho.t, ho.tw, hx0⟩
          have HFT := Lib.hid (And.intro ht htw)
          have HX : Hid (∀ w', Below wr.heap.size wr w' → w'.cell? ⟨b, off + q * 3, none⟩ = some (.int .u64 (f : Int)) ∧ w'.cell? ⟨b, off + q * 3 + 1, none⟩ = some (.int .u64 (t : Int)) ∧ w'.cell? ⟨b, off + q * 3 + 2, none⟩ = some (.int .u32 (tw : Int))) := Lib.hid (fun w' h => by
            have hl := cell_lt hx.1
            exact ⟨(h.cell (p := ⟨b, off + q * 3, none⟩) hl).trans hx.1, (h.cell (p := ⟨b, off + q * 3 + 1, none⟩) hl).trans hx.2.1, (h.cell (p := ⟨b, off + q * 3 + 2, none⟩) hl).trans hx.2.2⟩)
          have HSM := Lib.hid (fun w' (h : Below wr.heap.size wr w') => map_Split m ep f t tw sp w' (HM.out.below h) (by have := HL.out; omega) O HS.out ht)
          have HSD := Lib.hid (fun w' (h : Below wr.heap.size wr w') => d27_Split r ep f t tw sp w' (HD.out.below h) (by have := HL.out; omega) O HS.out ht (fun u => (HO.out u).1))
          have keepS : Hid (∀ w', Below wr.heap.size wr w' → w'.cell? ⟨b, off + q * 3, none⟩ = some (.int .u64 (f : Int)) ∧ w'.cell? ⟨b, off + q * 3 + 1, none⟩ = some (.int .u64 (t : Int)) ∧ w'.cell? ⟨b, off + q * 3 + 2, none⟩ = some (.int .u32 (tw : Int)) ∧ Hid (Below wr.heap.size wr w')) := Lib.hid (fun w' h => ⟨(HX.out w' h).1, (HX.out w' h).2.1, (HX.out w' h).2.2, Lib.hid h⟩)
          have keepB : Hid (∀ w' : World, (w'.cell? ⟨b, off + q * 3, none⟩ = some (.int .u64 (f : Int)) ∧ w'.cell? ⟨b, off + q * 3 + 1, none⟩ = some (.int .u64 (t : Int)) ∧ w'.cell? ⟨b, off + q * 3 + 2, none⟩ = some (.int .u32 (tw : Int)) ∧ Hid (Below wr.heap.size wr w')) → Below wr.heap.size wr w') := Lib.hid (fun w' h => h.2.2.2.out)
          obtain ⟨x0, x1, x2⟩ := hx
          clear hcc hbl hql ht htw hx0
          go_upto_region 17 with fail
          go_cut [17, 18, 19] (fun v17 v18 v19 wx => ∃ (pn : Option Addr) (wz c : Int), v17 = .pointer pn ∧ v18 = .int .u32 wz ∧ v19 = .int .i64 c ∧ Hid (SplitC O f t tw ((ep + 1) % M64) (splitL sp f t tw).length c) ∧ Hid (c = 0 → ∃ n, pn = some ⟨n, 0, none⟩ ∧ MapAt wx n ((ep + 1) % M64) (splitL sp f t tw)) ∧ Hid (Below wr.heap.size wr wx))
          case first =>
            go_region_held3 (fun w' => w'.cell? ⟨b, off + q * 3, none⟩ = some (.int .u64 (f : Int)) ∧ w'.cell? ⟨b, off + q * 3 + 1, none⟩ = some (.int .u64 (t : Int)) ∧ w'.cell? ⟨b, off + q * 3 + 2, none⟩ = some (.int .u32 (tw : Int)) ∧ Hid (Below wr.heap.size wr w'))
              (first
                | exact keepS.out _ HB3.out
                | exact keepS.out _ (Below.refl _ _).drew)
              (first
                | (go_at_call 28; refine (HSM.out _ (keepB.out _ (by assumption))).mono ?_; intro en w3 h3; obtain ⟨pn, wz, c, rfl, hc, hb3, h3⟩ := SplitR.uni h3; have HC := Lib.hid hc; have HB3 : Hid (Below wr.heap.size wr w3) := Lib.hid ((keepB.out _ (by assumption)).trans (hb3.mono (keepB.out _ (by assumption)).size)); have H3 := Lib.hid h3; clear hc hb3 h3))
            all_goals (
              go_wp2_with fail
              go_meet
              case rel => exact ⟨_, _, _, rfl, rfl, rfl, HC, H3, HB3⟩)
          case rest =>
          obtain ⟨pn, wz, c, rfl, rfl, rfl, HC, H3, HB3⟩ := hcut
          obtain ⟨W3, hW3⟩ : ∃ U, wc = U := ⟨_, rfl⟩
          subst wc
          clear x0 x1 x2 HSM
          obtain ⟨x0, x1, x2⟩ := HX.out W3 HB3.out
          go_upto_region 18 with fail
          go_cut [20, 21, 22] (fun v17 v18 v19 wx => ∃ (pn : Option Addr) (wz c : Int), v17 = .pointer pn ∧ v18 = .int .u32 wz ∧ v19 = .int .i64 c ∧ Hid (SplitC O f t tw ((ep + 1) % M64) (splitL sp f t tw).length c) ∧ Hid (c = 0 → ∃ n, pn = some ⟨n, 0, none⟩ ∧ DocAt wx n ((ep + 1) % M64) (splitL sp f t tw)) ∧ Hid (Below wr.heap.size wr wx) ∧ Hid (Below W3.heap.size W3 wx))
          case first =>
            have HD3 : Hid (Below W3.heap.size W3 W3.drew) := Lib.hid (Below.refl _ _).drew
            go_region_held3 (fun w' => w'.cell? ⟨b, off + q * 3, none⟩ = some (.int .u64 (f : Int)) ∧ w'.cell? ⟨b, off + q * 3 + 1, none⟩ = some (.int .u64 (t : Int)) ∧ w'.cell? ⟨b, off + q * 3 + 2, none⟩ = some (.int .u32 (tw : Int)) ∧ Hid (Below wr.heap.size wr w'))
              (first
                | exact keepS.out _ HB5.out
                | exact keepS.out _ (HB3.out.trans (HD3.out.mono HB3.out.size)))
              (first
                | (go_at_call 22; refine (HSD.out _ (keepB.out _ (by assumption))).mono ?_; intro en w5 h5; obtain ⟨pd, wz2, c2, rfl, hc2, hb5, h5⟩ := SplitD.uni h5; have HC2 := Lib.hid hc2; have HB5 : Hid (Below wr.heap.size wr w5) := Lib.hid ((keepB.out _ (by assumption)).trans (hb5.mono (keepB.out _ (by assumption)).size)); have HB35 : Hid (Below W3.heap.size W3 w5) := Lib.hid (HD3.out.trans (hb5.mono HD3.out.size)); have H5 := Lib.hid h5; clear hc2 hb5 h5))
            all_goals (
              go_wp2_with fail
              go_meet
              case rel => exact ⟨_, _, _, rfl, rfl, rfl, HC2, H5, HB5, HB35⟩)
          case rest =>
          obtain ⟨pd, wz2, c2, rfl, rfl, rfl, HC2, H5, HB5, HB35⟩ := hcut
          have hc2 := HC2.out
          have h5 := H5.out
          have hb35 := HB35.out
          have hbw := HB5.out
          obtain rfl : c2 = c := hc2.same HC.out (fun _ => Iff.rfl) Iff.rfl
          have HBN := Lib.hid (HB.out.trans (hbw.mono HB.out.size))
          by_cases h0 : c2 = 0
          · obtain ⟨n, hn, hM'⟩ := H3.out h0
            obtain ⟨n2, hn2, hD'⟩ := h5 h0
            subst hn hn2 h0
            have hz := hc2.zero
            have hft : f ≤ t := Nat.le_of_not_lt (fun h => hz.1 (Or.inl h))
            have hm64 : (ep + 1) % M64 = ep + 1 := Nat.mod_eq_of_lt (by have := HE.out; show ep + 1 < 18446744073709551616; omega)
            rw [hm64] at hM' hD'
            have HM7 := Lib.hid (hM'.below hb35); have HD7 := Lib.hid hD'
            have HS7 := Lib.hid (splitL_law tw hft HS.out)
            have HL7 : Hid ((splitL sp f t tw).length ≤ 2048) := Lib.hid (Nat.le_of_not_lt (fun h => hz.2.2 (Or.inl h)))
            have HO7 : Hid (∀ u, 1 ≤ splitO O f t tw u ∧ splitO O f t tw u < 4294967296) := Lib.hid (fun u => by
              unfold splitO
              have h1 := HFT.out.2
              have h2 : tw ≠ 0 := fun h => hz.1 (Or.inr h)
              split
              · exact ⟨Nat.pos_of_ne_zero h2, h1⟩
              · exact HO.out u)
            clear hM' hD' hz hft hm64 hb35 hbw hc2 h5 x0 x1 x2
            go_wp2_with fail
            go_roundw
            case rel => exact ⟨q + 1, n, n2, ep + 1, splitL sp f t tw, splitO O f t tw, by omega, by go_num, rfl, rfl, HM7, HD7, HS7, HL7, HO7, Lib.hid (by have := HE.out; omega), HBN⟩
            case measure => simp [intOf]; omega
          · have hcb : (c2 == 0) = false := by simpa using h0
            have HM7 := Lib.hid (HM.out.below hbw); have HD7 := Lib.hid (HD.out.below hbw)
            clear hb35 hbw hc2 h5 x0 x1 x2
            go_wp2_with fail
            go_roundw
            case rel => exact ⟨q + 1, m, r, ep, sp, O, by omega, by go_num, rfl, rfl, HM7, HD7, HS, HL, HO, Lib.hid (by have := HE.out; omega), HBN⟩
            case measure => simp [intOf]; omega
        · have hqi : ¬ (q : Int) < (LN : Int) := by omega
          go_wp2_with fail
          go_ret2
          exact ⟨m, r, ep, sp, O, rfl, HM.out, HD.out, HS.out, HL.out, HO.out, by have := HE.out; omega, HB.out⟩
end Go.Proofs.YtggdkfijioeijaaGreatDoor
namespace Go.Proofs.YtggdkfijioeijaaGreatDoor
open Go Go.ChangeShapes Go.WideShapes Go.ChangeAt Go.RowKit
theorem list3 {α : Type} {l : List α} (h : l.length = 3) : ∃ c0 c1 c2, l = [c0, c1, c2] := by
 match l, h with
 | [c0, c1, c2], _ => exact ⟨c0, c1, c2, rfl⟩
def pmData {H : Type} (x : Pmv) : DataW H := .agg [rgData x.f x.t, .lit (.int .u32 (x.tw : Int))]
theorem cU32 : Tryz.prog.cellsOf 28 = 1 := by kernel_rfl
theorem cPm : Tryz.prog.cellsOf 92 = 3 := by kernel_rfl
theorem addrThree {a : Addr} (h : a = ⟨a.block, a.off, none⟩) (i j : Nat) : (a.add i).add j = ⟨a.block, a.off + i + j, none⟩ := by
 rw [h]
 unfold Addr.add
 by_cases e : i = 0
 ·subst e
  simp only [if_true, Nat.add_zero]
  by_cases e2 : j = 0
  ·subst e2; simp
  ·simp [e2]
 ·simp only [e, if_false]
  by_cases e2 : j = 0
  ·subst e2; simp
  ·simp [e2]
section
variable {H : Type} {enc : TypeId × Value → H} {w : World} {base : Nat} {sp : Nat → Bool} {held : Bool}
set_option maxRecDepth 100000 in
theorem trod_pm {fuel : Nat} {cs : List Value} {x : DataW H × List MemPlace} (h : DataW.trod enc Tryz.prog w base sp held fuel 92 cs = some x) : ∃ v : Pmv, v.Ok ∧ cs = pmC v ∧ x = (pmData v, []) := by
 obtain ⟨xs, n, _, rfl, hl, hlen, hf⟩ := DataW.trod_struct Tryz.underlying92 h
 rw [cPm] at hl
 obtain ⟨c0, c1, c2, rfl⟩ := list3 hl
 obtain ⟨y0, y1, rfl⟩ := list2 hlen
 have h0 : DataW.trod enc Tryz.prog w base sp held n 27 [c0, c1] = some y0 := by simpa [cRg] using hf 0 _ rfl
 have h1 : DataW.trod enc Tryz.prog w base sp held n 28 [c2] = some y1 := by simpa [cU32] using hf 1 _ rfl
 obtain ⟨f, t, o1, o2, e0, rfl⟩ := trod_rg h0
 obtain ⟨a2, e2, rfl, w2⟩ := DataW.trod_int Tryz.underlying28 h1
 obtain ⟨n2, rfl, o3⟩ := nat_of (M := 4294967296) (wf_u32 w2)
 refine ⟨⟨f, t, n2⟩, ⟨o1, o2, o3⟩, ?_, ?_⟩
 ·simp only [List.cons.injEq, and_true] at e0 e2
  rw [e0.1, e0.2, e2]; rfl
 ·first | rfl | simp [pmData]
set_option maxRecDepth 100000 in
theorem open_pms {r : Reach} {b0 : Nat} {v : Value} {d : DataW H} {ps : List MemPlace} (hval : Value.okWide Tryz.prog w r b0 22 v) (hd : DataW.Trod enc Tryz.prog w base sp held 22 v d ps) :
  ∃ l : List Pmv, IsPms w v l ∧ ∀ x ∈ l, x.Ok := by
 obtain ⟨a0, len0, cap0, rfl⟩ := okWide_slice Tryz.underlying22 hval
 obtain ⟨fuel, hf⟩ := hd
 rcases Go.Deep.open_slice Tryz.underlying22 hf with ⟨hcs, hx⟩ | ⟨a, len, cap, m, n, D, Pl, hcs, _, hl, _, hm, hx, hel⟩
 ·have hv : Value.slice a0 len0 cap0 = .slice none 0 0 := by simpa [Value.cells] using hcs
  rw [hv]
  exact ⟨[], IsL.nil _ _ _ _, by simp⟩
 ·have hv : Value.slice a0 len0 cap0 = .slice (some a) len cap := by simpa [Value.cells] using hcs
  rw [hv]
  have hlm : len ≤ m := by rw [hm]; split <;> omega
  have hE : ∀ i, ∃ e : Pmv, i < len → e.Ok ∧ ∀ j, j < 3 → w.cell? ((a.add (i * 3)).add j) = (pmC e)[j]? := by
   intro i
   by_cases hi : i < len
   ·obtain ⟨cs', h1, h2⟩ := hel i (by omega)
    rw [cPm] at h1
    obtain ⟨e, ho, rfl, he⟩ := trod_pm h2
    exact ⟨e, fun _ => ⟨ho, (World.cells?_some h1).2.2⟩⟩
   ·exact ⟨dPm, fun h => absurd h hi⟩
  obtain ⟨E, hE⟩ := Classical.axiomOfChoice hE
  refine ⟨(List.range len).map E, ⟨some a, cap, by simp, ?_⟩, fun x hx => ?_⟩
  ·by_cases h0 : len = 0
   ·left; subst h0; rfl
   ·right
    have h00 := (hE 0 (by omega)).2 0 (by omega)
    have ha0 : (a.add (0 * 3)).add 0 = a := by unfold Addr.add; simp
    rw [ha0] at h00
    have hs : a = ⟨a.block, a.off, none⟩ := spot_none (v := .int .u64 ((E 0).f : Int)) h00
    refine ⟨a.block, a.off, by rw [← hs], block_lt_of_cell (v := .int .u64 ((E 0).f : Int)) h00, fun i hi j u hu => ?_⟩
    have hi' : i < len := by simpa using hi
    have hg : ((List.range len).map E).getD i dPm = E i := by simp [List.getD_eq_getElem?_getD, hi']
    rw [hg] at hu
    have hj : j < 3 := by have := (List.getElem?_eq_some_iff.1 hu).1; simpa [pmC] using this
    have hc := (hE i hi').2 j hj
    rw [addrThree hs] at hc
    exact hc.trans hu
  ·obtain ⟨i, hi, rfl⟩ := List.mem_map.1 hx
   exact (hE i (List.mem_range.1 hi)).1
end
end Go.Proofs.YtggdkfijioeijaaGreatDoor
