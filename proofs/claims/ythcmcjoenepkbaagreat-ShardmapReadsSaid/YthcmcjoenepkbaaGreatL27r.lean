/- Law 27: ShardmapReads' walk. -/
import Derived.Test.YthcmcjoenepkbaaGreatRdC
import Derived.Test.YthcmcjoenepkbaaGreatSame
import Derived.Test.YthcmcjoenepkbaaGreatL27b
import Derived.Laws.IdiomStrings
import Derived.Laws.BytesArg
namespace Go.Proofs.YthcmcjoenepkbaaGreat
open Go Go.RowKit Go.Maps

theorem encM_length (e : Nat) (sp : List (Nat × Nat)) : (encM e sp).length = 12 + 12 * sp.length := by
  have hx : ∀ l : List (Nat × Nat), (l.flatMap encX).length = 12 * l.length := fun l => by
    induction l with
    | nil => rfl
    | cons a l ih => rw [List.flatMap_cons, List.length_append, ih]; simp [encX, Sh.put_length]; omega
  unfold encM
  simp [hx, Sh.put_length]
  omega
theorem bytesRow_get (S : ByteArray) (cap i : Nat) (hi : i < S.size) : (bytesRow S cap)[i]? = some (.int .u8 ((S.data[i]?.getD 0).toNat : Int)) := by
  have hi' : i < S.data.size := hi
  unfold bytesRow
  rw [Array.getElem?_append_left (by simpa using hi'), Array.getElem?_map, Array.getElem?_eq_getElem hi']
  rfl
theorem bytes_set (S : ByteArray) (cap j : Nat) (z : Int) : ∃ xs : List Int, xs.length = S.size ∧ ∀ i, i < S.size → ((bytesRow S cap).setIfInBounds j (.int .u8 z))[i]? = some (.int .u8 (xs.getD i 0)) := by
  refine ⟨(List.range S.size).map (fun i => if j = i then z else ((S.data[i]?.getD 0).toNat : Int)), by simp, fun i hi => ?_⟩
  have hg : ((List.range S.size).map (fun i => if j = i then z else ((S.data[i]?.getD 0).toNat : Int))).getD i 0 = if j = i then z else ((S.data[i]?.getD 0).toNat : Int) := by
    rw [List.getD_eq_getElem?_getD, List.getElem?_map, List.getElem?_range hi]; rfl
  rw [hg, Array.getElem?_setIfInBounds]
  have hb := bytesRow_get S cap i hi
  have hsz := (Array.getElem?_eq_some_iff.1 hb).1
  by_cases e : j = i
  · rw [if_pos e, if_pos (by omega), if_pos e]
  · rw [if_neg e, if_neg e]; exact hb
theorem frozen_mark {W : World} {b n j : Nat} {C : Array Value} {t : TypeId} (h : W.heap[b]? = some (.cells C t (n, n + 1))) (hj : j < n) : W.frozen? ⟨b, j, none⟩ = false := by
  unfold World.frozen?
  rw [h]
  simp; omega
set_option maxRecDepth 100000 in
set_option maxHeartbeats 8000000 in
theorem law27_reads (s : ByteArray) (p q at_ tz : Nat) (own : Bool) (a : Option Addr) (L cp : Nat) (l : List Mv) (hp : p < 256) (hq : q < 256) (hat : at_ < 65536) (hL : l.length = L)
    (w : World) (hmv : l = [] ∨ ∃ b off, a = some ⟨b, off, none⟩ ∧ b < w.heap.size ∧ ∀ i, i < L → ∀ j, j < 7 → w.cell? ⟨b, off + i * 7 + j, none⟩ = (mvC (l.getD i ⟨0, 0, 0, false, 0, 0, 0⟩)).toList[j]?) (hok : ∀ x ∈ l, x.Ok) :
    Calls Tryz.prog 4 #[.string s, .int .u8 (p : Int), .int .u8 (q : Int), .slice a L cp, .bool own, .int .u16 (at_ : Int), .int .u8 (tz : Int)] w fun e w' => e = .returned (.bool true) ∧ Below w.heap.size w w' := by
  have HWK := Lib.hid (fun (w' : World) => law27_works w')
  have HMV := Lib.hid hmv; have HOK := Lib.hid hok; have HLL := Lib.hid hL
  have hF := law27_first p q hp hq w
  have HPS := Lib.hid (show (1 ≤ 1 + q % 4 ∧ 1 + q % 4 ≤ 4) ∧ 1 ≤ 1 + p % 6 by omega)
  have HF := Lib.hid hF
  clear hF hmv hok hL hp hq
  by_cases hs2 : 2000 < s.size
  · have hsi : (2000 : Int) < (s.size : Int) := by omega
    go_enter Tryz.func4, Tryz.ntmps4
    go_wp2_with fail
    refine (HWK.out _).mono ?_
    rintro e w1 ⟨rfl, hb1⟩
    have HB1 := Lib.hid hb1
    clear hb1
    go_wp2_with fail
    go_ret
    exact ⟨rfl, HB1.out⟩
  have hsi : ¬ (2000 : Int) < (s.size : Int) := by omega
  by_cases hl2 : 20 < L
  · have hli : (20 : Int) < (L : Int) := by omega
    go_enter Tryz.func4, Tryz.ntmps4
    go_wp2_with fail
    refine (HWK.out _).mono ?_
    rintro e w1 ⟨rfl, hb1⟩
    have HB1 := Lib.hid hb1
    clear hb1
    go_wp2_with fail
    go_ret
    exact ⟨rfl, HB1.out⟩
  have hli : ¬ (20 : Int) < (L : Int) := by omega
  cases own with
  | false =>
    have HBT := Lib.hid (Below.refl w.heap.size w)
    have HSS := Lib.hid (show s.size ≤ 1000000 by omega)
    clear HF HPS HMV HOK
    go_enter Tryz.func4, Tryz.ntmps4
    go_wp2_with fail
    refine (map_Read s HSS.out w).mono ?_
    rintro e wa ⟨hba, ⟨hno, rfl⟩ | ⟨hrd, mm, rfl, hMM⟩⟩
    · have HBA := Lib.hid (HBT.out.trans (hba.mono HBT.out.size)); have HNO := Lib.hid hno
      have HRD := Lib.hid (d27_Read s HSS.out wa)
      clear hba hno
      go_wp2_with fail
      refine HRD.out.mono ?_
      rintro e wb ⟨hbb, ⟨_, rfl⟩ | ⟨hrd, _⟩⟩
      · have HBB := Lib.hid (HBA.out.trans (hbb.mono HBA.out.size))
        clear hbb HRD
        go_wp2_with fail
        refine (HWK.out _).mono ?_
        rintro e wc ⟨rfl, hbc⟩
        have HBC := Lib.hid (HBB.out.trans (hbc.mono HBB.out.size))
        clear hbc
        go_wp2_with fail
        go_ret
        exact ⟨rfl, HBC.out⟩
      · exact absurd hrd HNO.out
    · have HBA := Lib.hid (HBT.out.trans (hba.mono HBT.out.size)); have HYES := Lib.hid hrd; have HMM := Lib.hid hMM
      have HRD := Lib.hid (d27_Read s HSS.out wa)
      clear hba hrd hMM
      go_wp2_with fail
      refine HRD.out.mono ?_
      rintro e wb ⟨hbb, ⟨hno, _⟩ | ⟨_, rr, rfl, hDD⟩⟩
      · exact absurd HYES.out hno
      · have HBB := Lib.hid (HBA.out.trans (hbb.mono HBA.out.size))
        have hlen := upto_length (ent s) (rdN s)
        have HSM := Lib.hid (law27_same mm rr (rdE s) (upto (ent s) (rdN s)) wb (HMM.out.below hbb) hDD (by rw [hlen]; exact HYES.out.1.lo) (by rw [hlen]; have := HYES.out.1.hi; omega) (num8_lt s 0) (ents_64 s _) (ents_32 s _))
        clear hbb hDD hlen HRD
        go_wp2_with fail
        refine HSM.out.mono ?_
        rintro e wc ⟨rfl, hbc⟩
        have HBC := Lib.hid (HBB.out.trans (hbc.mono HBB.out.size))
        clear hbc HSM
        go_wp2_with fail
        refine (HWK.out _).mono ?_
        rintro e wd ⟨rfl, hbd⟩
        have HBD := Lib.hid (HBC.out.trans (hbd.mono HBC.out.size))
        clear hbd
        go_wp2_with fail
        go_ret
        exact ⟨rfl, HBD.out⟩
  | true =>
    go_enter Tryz.func4, Tryz.ntmps4
    go_wp2_with fail
    refine HF.out.mono ?_
    rintro e w1 ⟨m, r, sp, rfl, hM, hD, hS, hl, hb1⟩
    obtain ⟨O, hO⟩ : ∃ O, ownS (fewS (1 + q % 4)) (1 + p % 6) = O := ⟨_, rfl⟩
    have hO1 : ∀ u, 1 ≤ O u ∧ O u < 4294967296 := fun u => by rw [← hO]; exact few_lt HPS.out.1 HPS.out.2 u
    rw [hO] at hS
    have HD := Lib.hid hD; have HS := Lib.hid hS; have HL := Lib.hid hl; have HB1 := Lib.hid hb1; have HO := Lib.hid hO1
    clear hM hD hS hl hb1 hO1 hO HF HPS
    go_wp2_with fail
    go_loopw [16, 17] (fun v i wr => ∃ (k r e : Nat) (sp : List (Nat × Nat)) (O : Nat → Nat), k ≤ L ∧ i = .int .i64 k ∧ v = .pointer (some ⟨r, 0, none⟩) ∧ Hid (DocAt wr r e sp) ∧ Hid (SpI O sp M64) ∧ Hid (sp.length ≤ 2048) ∧ Hid (∀ u, 1 ≤ O u ∧ O u < 4294967296) ∧ Hid (e ≤ k + 1) ∧ Hid (Below w.heap.size w wr)) (fun _ i _ => L - (intOf i).toNat)
    case atStart => exact ⟨0, r, 1, sp, O, Nat.zero_le _, rfl, rfl, HD, HS, Lib.hid (by have := HL.out; omega), HO, Lib.hid (Nat.le_refl _), HB1⟩
    case round =>
      clear HD HS HL HB1 HO
      obtain ⟨k, r, e, sp, O, hk, rfl, rfl, HD, HS, HL, HO, HE, HB⟩ := hrel
      by_cases hlt : k < L
      · obtain ⟨b, off, rfl, hbl, hmc⟩ := HMV.out.resolve_left (fun h => by have := HLL.out; rw [h] at this; simp at this; omega)
        have hmk := hmc k hlt
        have hvok := HOK.out (l.getD k ⟨0, 0, 0, false, 0, 0, 0⟩) (by rw [List.getD_eq_getElem?_getD, List.getElem?_eq_getElem (by rw [HLL.out]; exact hlt)]; exact List.getElem_mem _)
        obtain ⟨v, hv⟩ : ∃ v, l.getD k (⟨0, 0, 0, false, 0, 0, 0⟩ : Mv) = v := ⟨_, rfl⟩
        rw [hv] at hmk hvok
        obtain ⟨ad, had⟩ : ∃ ad, off + k * 7 = ad := ⟨_, rfl⟩
        have hw : ∀ j, j < 7 → wr.cell? ⟨b, off + k * 7 + j, none⟩ = (mvC v).toList[j]? := fun j hj => (HB.out.cell (p := ⟨b, off + k * 7 + j, none⟩) hbl).trans (hmk j hj)
        have x0 : wr.cell? ⟨b, off + k * 7, none⟩ = some (.int .u64 (v.f : Int)) := hw 0 (by decide)
        have x1 : wr.cell? ⟨b, off + k * 7 + 1, none⟩ = some (.int .u64 (v.t : Int)) := hw 1 (by decide)
        have x2 : wr.cell? ⟨b, off + k * 7 + 2, none⟩ = some (.int .u32 (v.tw : Int)) := hw 2 (by decide)
        have x3 : wr.cell? ⟨b, off + k * 7 + 3, none⟩ = some (.bool v.i) := hw 3 (by decide)
        have x4 : wr.cell? ⟨b, off + k * 7 + 4, none⟩ = some (.int .u8 (v.at_ : Int)) := hw 4 (by decide)
        have x5 : wr.cell? ⟨b, off + k * 7 + 5, none⟩ = some (.int .u64 (v.off : Int)) := hw 5 (by decide)
        have x6 : wr.cell? ⟨b, off + k * 7 + 6, none⟩ = some (.int .u64 (v.len : Int)) := hw 6 (by decide)
        have hkl : (k : Int) < (L : Int) := by omega
        have HOF := Lib.hid (law27_ofV v hvok r e sp wr HD.out HS.out (by have := HL.out; omega))
        clear hmc hmk hvok hv hw had
        go_wp2_with fail
        refine HOF.out.mono ?_
        rintro en w2 ⟨f, t, tw, rfl, hf, ht, htw, hb2⟩
        obtain ⟨W2, hW2⟩ : ∃ W2, w2.alloc (.cells #[.int .u64 (f : Int), .int .u64 (t : Int)] 24) = W2 := ⟨_, rfl⟩
        obtain ⟨hz2, g2, ha2⟩ := alloc_keep hW2
        have hbw : Below wr.heap.size wr W2 := hb2.trans (ha2.mono hb2.size)
        have y0 : W2.cell? ⟨w2.heap.size, 0, none⟩ = some (.int .u64 (f : Int)) := cell_of g2 0
        have y1 : W2.cell? ⟨w2.heap.size, 1, none⟩ = some (.int .u64 (t : Int)) := cell_of g2 1
        have hd2 := HD.out.below hbw
        have HB2 := Lib.hid (HB.out.trans (hbw.mono HB.out.size)); have HD2 := Lib.hid hd2
        have HSP := Lib.hid (d27_Split r e f t tw sp W2 hd2 (by have := HL.out; omega) O HS.out ht (fun u => (HO.out u).1))
        have HTW := Lib.hid htw; have HTT := Lib.hid ht
        clear hb2 hf ht htw hz2 g2 ha2 hbw hd2 x0 x1 x2 x3 x4 x5 x6 HOF
        go_upto_region 11 with fail
        clear hW2
        go_wp2_with fail
        refine HSP.out.mono ?_
        rintro en w3 ⟨hb3, c, hc, ⟨hc0, rfl⟩ | ⟨rfl, n, rfl, hN⟩⟩
        · have HB3 := Lib.hid (HB2.out.trans (hb3.mono HB2.out.size)); have HD3 := Lib.hid (HD2.out.below hb3)
          clear hb3 hc hc0 HSP y0 y1
          go_wp2_with fail
          go_roundw
          case rel => exact ⟨k + 1, r, e, sp, O, by omega, by go_num, rfl, HD3, HS, HL, HO, Lib.hid (by have := HE.out; omega), HB3⟩
          case measure => simp [intOf]; omega
        · have HB3 := Lib.hid (HB2.out.trans (hb3.mono HB2.out.size))
          have hz := hc.zero
          have hft : f ≤ t := Nat.le_of_not_lt (fun h => hz.1 (Or.inl h))
          have hm64 : (e + 1) % M64 = e + 1 := Nat.mod_eq_of_lt (by have := HE.out; show e + 1 < 18446744073709551616; omega)
          rw [hm64] at hN
          have HN := Lib.hid hN; have HSN := Lib.hid (splitL_law tw hft HS.out); have HLN := Lib.hid (show (splitL sp f t tw).length ≤ 2048 from Nat.le_of_not_lt (fun h => hz.2.2 (Or.inl h)))
          have HON := Lib.hid (show ∀ u, 1 ≤ splitO O f t tw u ∧ splitO O f t tw u < 4294967296 from fun u => by
            refine ⟨?_, splitO_lt (fun u => (HO.out u).2) HTW.out u⟩
            unfold splitO; split
            · exact Nat.pos_of_ne_zero (fun h => hz.1 (Or.inr h))
            · exact (HO.out u).1)
          clear hb3 hc hz hft hm64 hN HSP y0 y1
          go_wp2_with fail
          go_roundw
          case rel => exact ⟨k + 1, n, e + 1, splitL sp f t tw, splitO O f t tw, by omega, by go_num, rfl, HN, HSN, HLN, HON, Lib.hid (by have := HE.out; omega), HB3⟩
          case measure => simp [intOf]; omega
      · obtain rfl : k = L := by omega
        have hby := d27_Bytes r e sp wr HD.out (by have := HL.out; omega) (by have := HE.out; show e < 18446744073709551616; omega) HS.out.lt (HS.out.b32 (fun u => (HO.out u).2))
        obtain ⟨S, hS⟩ : ∃ S, sb (encM e sp) = S := ⟨_, rfl⟩
        have hSz : S.size = 12 + 12 * sp.length := by rw [← hS, sb_size, encM_length]
        rw [hS] at hby
        have HBY := Lib.hid hby
        clear hby hS
        have hsp1 := List.length_pos_iff.2 HS.out.ne
        have hspl := HL.out
        obtain ⟨N, hN⟩ : ∃ N, S.size = N := ⟨_, rfl⟩
        have hN1 : 1 ≤ N ∧ N ≤ 30000 := by omega
        have HNS := Lib.hid hN
        clear hSz hN hsp1 hspl
        go_wp2_with fail
        refine HBY.out.mono ?_
        rintro en wb ⟨rfl, hbb⟩
        have HBB := Lib.hid (HB.out.trans (hbb.mono HB.out.size))
        have kc := run_bytes_of_string (P := Tryz.prog) wb 9 49 5 S Tryz.underlying9 Tryz.underlying49 Tryz.underlying5
        obtain ⟨cap, hcap⟩ : ∃ cap, grownCap wb S.size 0 5 = cap := ⟨_, rfl⟩
        rw [hcap] at kc
        obtain ⟨B, hB⟩ : ∃ B, wb.heap.size = B := ⟨_, rfl⟩
        obtain ⟨Z, hZ⟩ : ∃ Z, (bytesRow S cap).size = Z := ⟨_, rfl⟩
        rw [hZ] at kc
        obtain ⟨Wv, hWv⟩ : ∃ Wv, wb.drew.alloc (.cells (bytesRow S cap) 5 (Z, Z + 1)) = Wv := ⟨_, rfl⟩
        obtain ⟨hzv, gv, hav⟩ := alloc_keep hWv
        have hbv : Below wb.heap.size wb Wv := (Below.drew (Below.refl _ _)).trans hav
        have gvB : Wv.heap[B]? = some (.cells (bytesRow S cap) 5 (Z, Z + 1)) := by rw [← hB]; exact gv
        rw [hWv, hB, HNS.out] at kc
        obtain ⟨j, hj⟩ : ∃ j, at_ % N = j := ⟨_, rfl⟩
        have hjN : j < N := by rw [← hj]; exact Nat.mod_lt _ (by omega)
        have hji : (at_ : Int) % (N : Int) = (j : Int) := by omega
        have hjt : (at_ : Int).tmod (N : Int) = (j : Int) := by rw [Int.tmod_eq_emod_of_nonneg (by omega)]; exact hji
        have hN0 : ((N : Int) == 0) = false := by simp; omega
        have hbr := bytesRow_get S cap j (by rw [HNS.out]; exact hjN)
        have hjZ : j < Z := by rw [← hZ]; exact (Array.getElem?_eq_some_iff.1 hbr).1
        obtain ⟨vj, hvj⟩ : ∃ vj, ((S.data[j]?.getD 0).toNat : Int) = vj := ⟨_, rfl⟩
        rw [hvj] at hbr
        have cj : Wv.cell? ⟨B, j, none⟩ = some (.int .u8 vj) := by unfold World.cell?; rw [gvB]; exact hbr
        have fj : Wv.frozen? ⟨B, j, none⟩ = false := frozen_mark gvB hjZ
        obtain ⟨Wx, hWx⟩ : ∃ Wx, Wv.setCell ⟨B, j, none⟩ (.int .u8 (tz : Int)) = Wx := ⟨_, rfl⟩
        have gx : Wx.heap[B]? = some (.cells ((bytesRow S cap).setIfInBounds j (.int .u8 (tz : Int))) 5 (Z, Z + 1)) := by rw [← hWx]; exact setCell_block (i := j) gvB _
        obtain ⟨xs, hxl, hxs⟩ := bytes_set S cap j (tz : Int)
        have kc2 := run_convert_bytes_arg (P := Tryz.prog) Wx 49 5 Tryz.underlying49 Tryz.underlying5 B 0 N cap xs (by rw [hxl, HNS.out]) (fun i hi => by rw [Nat.zero_add]; unfold World.cell?; rw [gx]; exact hxs i (by rw [HNS.out]; exact hi)) 9 Tryz.underlying9
        obtain ⟨S2, hS2⟩ : ∃ S2, strOfNums xs = S2 := ⟨_, rfl⟩
        have hS2z : S2.size ≤ 1000000 := by rw [← hS2, strOfNums_size, hxl, HNS.out]; omega
        rw [hS2] at kc2
        have hbx : Below wb.heap.size wb Wx := by rw [← hWx]; exact hbv.trans (below_set _ _ (by show wb.heap.size ≤ B; omega))
        have HBT := Lib.hid (HBB.out.trans (hbx.mono HBB.out.size))
        have HSS := Lib.hid hS2z
        have hjii : (j : Int) < (N : Int) := by omega
        clear hbb hcap hB hZ hWv hzv gv hav hbv gvB hj hbr hjZ hvj gx hxl hxs hS2 hS2z hbx HBY
        go_upto_region 17 with fail
        clear kc kc2 hWx cj fj hji hjt hN0 hjii
        go_wp2_with fail
        refine (map_Read S2 HSS.out Wx).mono ?_
        rintro e wa ⟨hba, ⟨hno, rfl⟩ | ⟨hrd, mm, rfl, hMM⟩⟩
        · have HBA := Lib.hid (HBT.out.trans (hba.mono HBT.out.size)); have HNO := Lib.hid hno
          have HRD := Lib.hid (d27_Read S2 HSS.out wa)
          clear hba hno
          go_wp2_with fail
          refine HRD.out.mono ?_
          rintro e wb ⟨hbb, ⟨_, rfl⟩ | ⟨hrd, _⟩⟩
          · have HBB := Lib.hid (HBA.out.trans (hbb.mono HBA.out.size))
            clear hbb HRD
            go_wp2_with fail
            refine (HWK.out _).mono ?_
            rintro e wc ⟨rfl, hbc⟩
            have HBC := Lib.hid (HBB.out.trans (hbc.mono HBB.out.size))
            clear hbc
            go_wp2_with fail
            go_ret
            exact ⟨rfl, HBC.out⟩
          · exact absurd hrd HNO.out
        · have HBA := Lib.hid (HBT.out.trans (hba.mono HBT.out.size)); have HYES := Lib.hid hrd; have HMM := Lib.hid hMM
          have HRD := Lib.hid (d27_Read S2 HSS.out wa)
          clear hba hrd hMM
          go_wp2_with fail
          refine HRD.out.mono ?_
          rintro e wb ⟨hbb, ⟨hno, _⟩ | ⟨_, rr, rfl, hDD⟩⟩
          · exact absurd HYES.out hno
          · have HBB := Lib.hid (HBA.out.trans (hbb.mono HBA.out.size))
            have hlen := upto_length (ent S2) (rdN S2)
            have HSM := Lib.hid (law27_same mm rr (rdE S2) (upto (ent S2) (rdN S2)) wb (HMM.out.below hbb) hDD (by rw [hlen]; exact HYES.out.1.lo) (by rw [hlen]; have := HYES.out.1.hi; omega) (num8_lt S2 0) (ents_64 S2 _) (ents_32 S2 _))
            clear hbb hDD hlen HRD
            go_wp2_with fail
            refine HSM.out.mono ?_
            rintro e wc ⟨rfl, hbc⟩
            have HBC := Lib.hid (HBB.out.trans (hbc.mono HBB.out.size))
            clear hbc HSM
            go_wp2_with fail
            refine (HWK.out _).mono ?_
            rintro e wd ⟨rfl, hbd⟩
            have HBD := Lib.hid (HBC.out.trans (hbd.mono HBC.out.size))
            clear hbd
            go_wp2_with fail
            go_ret
            exact ⟨rfl, HBD.out⟩
end Go.Proofs.YthcmcjoenepkbaaGreat
