/- Law 28: PlanWhole's walk. PlanWhole's walk, for the arguments as they come in. -/
import Derived.Test.YtggdkfijioeijaaGreatDoorQb17
import Derived.Test.YtggdkfijioeijaaGreatDoorQb20
import Derived.Test.YtggdkfijioeijaaGreatDoorQb21
import Derived.Test.YtggdkfijioeijaaGreatDoorQb23
namespace Go.Proofs.YtggdkfijioeijaaGreatDoor
open Go Go.RowKit Go.Maps
theorem lt_bytes {a b : ByteArray} (h : a.data.toList < b.data.toList) : Op.bytesLess a.toList b.toList = true := by
 rw [bytesLess_eq, ByteArray.toList_eq, ByteArray.toList_eq]; simpa using h
theorem isAsks_at {w : World} {a : Option Addr} {n c i : Nat} {L : List Ask} (h : IsAsks w (.slice a n c) L) (hi : i < L.length) : ∃ b off, a = some ⟨b, off, none⟩ ∧ b < w.heap.size ∧ ∃ x1 x2 x3 x4 d1 d2 d3 d4,
  (∀ j u, (askV (L.getD i dAsk) (.slice x1 (L.getD i dAsk).reads.length d1) (.slice x2 (L.getD i dAsk).readAt.length d2) (.slice x3 (L.getD i dAsk).edits.length d3) (.slice x4 (L.getD i dAsk).editAt.length d4))[j]? = some u → w.cell? ⟨b, off + i * 11 + j, none⟩ = some u) ∧
  IsRds w (.slice x1 (L.getD i dAsk).reads.length d1) (L.getD i dAsk).reads ∧ IsIxs w (.slice x2 (L.getD i dAsk).readAt.length d2) (L.getD i dAsk).readAt ∧ IsEds w (.slice x3 (L.getD i dAsk).edits.length d3) (L.getD i dAsk).edits ∧ IsIxs w (.slice x4 (L.getD i dAsk).editAt.length d4) (L.getD i dAsk).editAt := by
 obtain ⟨a', c', he, h⟩ := h
 cases he
 obtain ⟨b, off, rfl, hb, hc⟩ := h.resolve_left (fun h => by rw [h] at hi; simp at hi)
 obtain ⟨v1, v2, v3, v4, h0, h1, h2, h3, h4⟩ := hc i hi
 obtain ⟨x1, d1, rfl⟩ := isl_shape h1
 obtain ⟨x2, d2, rfl⟩ := isl_shape h2
 obtain ⟨x3, d3, rfl⟩ := isl_shape h3
 obtain ⟨x4, d4, rfl⟩ := isl_shape h4
 exact ⟨b, off, rfl, hb, x1, x2, x3, x4, d1, d2, d3, d4, h0, h1, h2, h3, h4⟩
theorem take_map_snoc {α β : Type} (f : α → β) (l : List α) (d : α) {k : Nat} (h : k < l.length) : (l.take (k + 1)).map f = (l.take k).map f ++ [f (l.getD k d)] := by
 rw [List.take_succ_eq_append_getElem h, List.map_append, List.getD_eq_getElem?_getD, List.getElem?_eq_getElem h]; rfl
theorem gtC_snoc (n : Nat) (l : List Nat) {k : Nat} (h : k < l.length) : ((l.take (k + 1)).map (gotOf n)).flatMap gtC = ((l.take k).map (gotOf n)).flatMap gtC ++ [.int .u64 (upN n (l.getD k 0) : Int), .int .u8 0, .string ⟨#[]⟩, .int .i64 0] := by
 rw [take_map_snoc (gotOf n) l 0 h, flat_snoc]; rfl
theorem nuC_snoc (n : Nat) (l : List Nat) {k : Nat} (h : k < l.length) : ((l.take (k + 1)).map (dnN n)).flatMap nuC = ((l.take k).map (dnN n)).flatMap nuC ++ [.int .u64 (dnN n (l.getD k 0) : Int)] := by
 rw [take_map_snoc (dnN n) l 0 h, flat_snoc]; rfl
theorem TI.set {B C f : Nat} {T : Nat → Tl} {V : Nat → Nat → Value} {v u : Value} {i : Nat} {w : World} (h : TI B T V v i w) (hC : C < B) : TI B T V v i (w.setCell ⟨C, f, none⟩ u) :=
 ⟨ownsRow_setCell_below h.row (by dsimp only; omega) _, fun j hj => ⟨ownsRow_setCell_below (h.rows j hj).g (by dsimp only; omega) _, ownsRow_setCell_below (h.rows j hj).u (by dsimp only; omega) _, ownsRow_setCell_below (h.rows j hj).s (by dsimp only; omega) _⟩⟩
theorem isl_none {α : Type} {k : Nat} {C : α → List Value} {z : α} {w w' : World} {v : Value} {l : List α} (h : IsL k C z w v l) (hl : l = []) : IsL k C z w' v l := by
 obtain ⟨a, c, rfl, _⟩ := h
 exact ⟨a, c, rfl, Or.inl hl⟩
theorem isAsks_off {w w' : World} {v vR vE : Value} {L : List Ask} {B kind f t tw : Nat} {pre : ByteArray} (h : IsAsks w v L) (hb : w.heap[B]? = some (.cells (callC kind vR vE pre f t tw) 30 (0, 0))) (hr : ∀ A ∈ L, A.reads = [] ∧ A.readAt = [] ∧ A.edits = [] ∧ A.editAt = []) (hbut : ButS (fun k => k = B) w w') : IsAsks w' v L := by
 obtain ⟨a, c, rfl, h⟩ := h
 refine ⟨a, c, rfl, ?_⟩
 rcases h with h | ⟨b, off, rfl, hlt, hc⟩
 ·exact Or.inl h
 ·refine Or.inr ⟨b, off, rfl, Nat.lt_of_lt_of_le hlt hbut.size, fun i hi => ?_⟩
  obtain ⟨v1, v2, v3, v4, h0, h1, h2, h3, h4⟩ := hc i hi
  have hne : b ≠ B := by
   intro e
   subst e
   have q0 := h0 0 _ rfl
   have q10 := h0 10 _ rfl
   have hs : ∀ j, w.cell? ⟨b, j, none⟩ = (callC kind vR vE pre f t tw)[j]? := fun j => by
    unfold World.cell?; rw [hb]; rfl
   rw [hs] at q0 q10
   have := (Array.getElem?_eq_some_iff.1 q10).1
   have h7 : (callC kind vR vE pre f t tw).size = 7 := rfl
   omega
  obtain ⟨r0, r1, r2, r3⟩ := hr _ (getD_mem' L i dAsk hi)
  exact ⟨v1, v2, v3, v4, fun j u hu => (hbut.cell (p := ⟨b, off + i * 11 + j, none⟩) hlt hne).trans (h0 j u hu), isl_none h1 r0, isl_none h2 r1, isl_none h3 r2, isl_none h4 r3⟩
theorem getD_map_tell (n : Nat) (nms : List ByteArray) (L : List Ask) (i : Nat) (h : i < L.length) : (L.map (tell n nms)).getD i dTl = tell n nms (L.getD i dAsk) := getD_map' _ L i dTl dAsk h
set_option maxRecDepth 100000 in
set_option maxHeartbeats 8000000 in
theorem law28_whole (p s : Nat) (hp : p < 256) (hs : s < 256) (av0 : Option Addr) (LN cp0 : Nat) (lm : List Pmv) (kind : Nat) (rds : List Rd) (eds : List Ed) (aR : Option Addr) (nr cR : Nat) (aE : Option Addr) (ne cE : Nat) (pre : ByteArray) (f t tw : Nat) (n : Nat) (aN : Option Addr) (nn cN : Nat) (nms : List ByteArray) (w : World) (hv : IsPms w (.slice av0 LN cp0) lm) (hLN : lm.length = LN) (hok : ∀ y ∈ lm, y.Ok)
    (hk : kind < 256) (ht : t < M64) (htw : tw < 4294967296) (hnr : rds.length = nr) (hne : eds.length = ne) (hR : IsRds w (.slice aR nr cR) rds) (hE : IsEds w (.slice aE ne cE) eds) (hnR : NilOk (.slice aR nr cR)) (hnE : NilOk (.slice aE ne cE)) (hek : ∀ x ∈ eds, x.kind < 256)
    (hpz : pre.size ≤ 140737488351232) (hrz : ∀ r ∈ rds, r.path.size ≤ 140737488351232) (hez : ∀ x ∈ eds, x.path.size ≤ 140737488351232 ∧ x.text.size ≤ 140737488351232) (_hn64 : n < 18446744073709551616) (hN : IsNas w (.slice aN nn cN) nms) (hnn : nms.length = nn) (hnN : NilOk (.slice aN nn cN)) (hnz : ∀ x ∈ nms, x.size ≤ 140737488351232) (hm : MX w) :
    Calls Tryz.prog 4 #[.int .u8 (p : Int), .int .u8 (s : Int), .slice av0 LN cp0, .agg (callC kind (.slice aR nr cR) (.slice aE ne cE) pre f t tw), .int .u64 (n : Int), .slice aN nn cN] w fun e w' => e = .returned (.bool true) ∧ Below w.heap.size w w' := by
  have HNM := Lib.hid (fun (w' : World) (h : Below w.heap.size w w') => hN.below h (Nat.le_refl _))
  have HNN := Lib.hid hnn; have HNON := Lib.hid hnN; have HNZ := Lib.hid hnz
  obtain ⟨iG, iG0, iG1, iG2, iG3⟩ := info_parts infoGt
  obtain ⟨iU, iU0, iU1, iU2, iU3⟩ := info_parts infoW64
  obtain ⟨iS, iS0, iS1, iS2, iS3⟩ := info_parts infoSt1
  obtain ⟨iT, iT0, iT1, iT2, iT3⟩ := info_parts infoTl
  have IG0 := Lib.hid iG0; have IG1 := Lib.hid iG1; have IG2 := Lib.hid iG2; have IG3 := Lib.hid iG3
  have IU0 := Lib.hid iU0; have IU1 := Lib.hid iU1; have IU2 := Lib.hid iU2; have IU3 := Lib.hid iU3
  have IS0 := Lib.hid iS0; have IS1 := Lib.hid iS1; have IS2 := Lib.hid iS2; have IS3 := Lib.hid iS3
  have IT0 := Lib.hid iT0; have IT1 := Lib.hid iT1; have IT2 := Lib.hid iT2; have IT3 := Lib.hid iT3
  clear iG0 iG1 iG2 iG3 iU0 iU1 iU2 iU3 iS0 iS1 iS2 iS3 iT0 iT1 iT2 iT3 hN hnn hnN hnz
  have HWK := Lib.hid (fun (w' : World) (h : Below w.heap.size w w') => law28_works w' (hm.below h (Nat.le_refl _)))
  have HMX := Lib.hid (fun (w' : World) (h : Below w.heap.size w w') => hm.below h (Nat.le_refl _))
  have HV := Lib.hid (fun (w' : World) (h : Below w.heap.size w w') => hv.below h (Nat.le_refl _))
  have HR := Lib.hid (fun (w' : World) (h : Below w.heap.size w w') => hR.below h (Nat.le_refl _))
  have HE := Lib.hid (fun (w' : World) (h : Below w.heap.size w w') => hE.below h (Nat.le_refl _))
  have hgetR : ∀ i, i < rds.length → rds.getD i dRd ∈ rds := fun i hi => by rw [List.getD_eq_getElem?_getD, List.getElem?_eq_getElem hi]; exact List.getElem_mem _
  have hgetE : ∀ i, i < eds.length → eds.getD i dEd ∈ eds := fun i hi => by rw [List.getD_eq_getElem?_getD, List.getElem?_eq_getElem hi]; exact List.getElem_mem _
  have HHV := Lib.hid (fun (w' : World) (h : Below w.heap.size w w') => law28_heavy kind rds eds (.slice aR nr cR) (.slice aE ne cE) pre f t tw av0 LN cp0 w' (hR.below h (Nat.le_refl _)) (hE.below h (Nat.le_refl _)) hpz (fun i hi => hrz _ (hgetR i hi)) (fun i hi => hez _ (hgetE i hi)))
  have HSR : Hid (∀ r ∈ rds, SmallRd r) := Lib.hid (fun r hr => ⟨hrz r hr⟩)
  have HSE : Hid (∀ x ∈ eds, SmallEd x) := Lib.hid (fun x hx => ⟨(hez x hx).1, (hez x hx).2, hek x hx⟩)
  have HLN := Lib.hid hLN; have HOK := Lib.hid hok; have HNR := Lib.hid hnr; have HNE := Lib.hid hne; have HNOR := Lib.hid hnR; have HNOE := Lib.hid hnE; have HPZ := Lib.hid hpz
  have HME : Hid (∀ (P : ByteArray → Prop), ((∀ i, i < rds.length → P (rds.getD i dRd).path) → ∀ r ∈ rds, P r.path) ∧ ((∀ i, i < eds.length → P (eds.getD i dEd).path) → ∀ x ∈ eds, P x.path)) := Lib.hid (fun P => ⟨fun h r hr => by
    obtain ⟨i, hi, rfl⟩ := List.mem_iff_getElem.1 hr
    have := h i hi
    rwa [List.getD_eq_getElem?_getD, List.getElem?_eq_getElem hi] at this, fun h r hr => by
    obtain ⟨i, hi, rfl⟩ := List.mem_iff_getElem.1 hr
    have := h i hi
    rwa [List.getD_eq_getElem?_getD, List.getElem?_eq_getElem hi] at this⟩)
  clear hv hLN hok hnr hne hR hE hnR hnE hek hpz hrz hez hm hgetR hgetE
  obtain ⟨W0, hW0⟩ : ∃ W0, w.alloc (.cells (callC kind (.slice aR nr cR) (.slice aE ne cE) pre f t tw) 30) = W0 := ⟨_, rfl⟩
  obtain ⟨hz0, hblk, hB0⟩ := alloc_keep hW0
  obtain ⟨B, hB⟩ : ∃ B, w.heap.size = B := ⟨_, rfl⟩
  have HKB := Lib.hid (fun (U : World) (h : Below W0.heap.size W0 U) => show U.cell? ⟨B, 0, none⟩ = some (.int .u8 (kind : Int)) ∧ U.cell? ⟨B, 1, none⟩ = some (.slice aR nr cR) ∧ U.cell? ⟨B, 2, none⟩ = some (.slice aE ne cE) ∧ U.cell? ⟨B, 3, none⟩ = some (.string pre) ∧ U.cell? ⟨B, 4, none⟩ = some (.int .u64 (f : Int)) ∧ U.cell? ⟨B, 5, none⟩ = some (.int .u64 (t : Int)) ∧ U.cell? ⟨B, 6, none⟩ = some (.int .u32 (tw : Int)) from by
    have k := (h.block _ (Array.getElem?_eq_some_iff.1 hblk).1).trans hblk
    rw [hB] at k
    exact ⟨cell_of k 0, cell_of k 1, cell_of k 2, cell_of k 3, cell_of k 4, cell_of k 5, cell_of k 6⟩)
  have HB0 := Lib.hid hB0
  obtain ⟨k0, k1, k2, k3, k4, k5, k6⟩ := HKB.out W0 (Below.refl _ _)
  have HBK := Lib.hid (fun (U : World) (h : Below W0.heap.size W0 U) => show U.heap[B]? = some (.cells (callC kind (.slice aR nr cR) (.slice aE ne cE) pre f t tw) 30 (0, 0)) from by
    have k := (h.block _ (Array.getElem?_eq_some_iff.1 hblk).1).trans hblk
    rw [hB] at k
    exact k)
  clear hz0 hblk hB0
  go_enter Tryz.func4, Tryz.ntmps4
  go_upto_region 1 with fail
  clear hW0
  have HBS := Lib.hid hB
  clear hB
  go_wp2_with fail
  refine (HHV.out _ HB0.out).mono ?_
  rintro e w1 ⟨b, rfl, hsm, hb1⟩
  have HBW1 := Lib.hid (HB0.out.trans (hb1.mono HB0.out.size))
  have HB01 := Lib.hid hb1
  cases b with
  | true =>
    as_aux_lemma =>
      clear hsm hb1 k0 k1 k2 k3 k4 k5 k6
      go_wp2_with fail
      refine (HWK.out _ HBW1.out).mono ?_
      rintro e wq ⟨rfl, hbq⟩
      have HBQ := Lib.hid (HBW1.out.trans (hbq.mono HBW1.out.size))
      clear hbq
      go_wp2_with fail
      go_ret
      exact ⟨rfl, HBQ.out⟩
  | false =>
    as_aux_lemma =>
  obtain ⟨s1, s2, s3, s4, s5, s6⟩ := hsm rfl
  have HPR : Hid (∀ r ∈ rds, r.path.size ≤ 100000) := Lib.hid ((HME.out (fun x => x.size ≤ 100000)).1 (fun i hi => Nat.le_trans (s5 i hi) (by decide)))
  have HPE : Hid (∀ x ∈ eds, x.path.size ≤ 100000) := Lib.hid ((HME.out (fun x => x.size ≤ 100000)).2 (fun i hi => Nat.le_trans (s6 i hi).1 (by decide)))
  have HS1 : Hid (rds.length ≤ 1000) := Lib.hid (by omega)
  have HS2 : Hid (eds.length ≤ 1000) := Lib.hid (by omega)
  have HWD := Lib.hid (law28_worldM p s hp hs av0 LN cp0 lm w1 (HV.out _ HBW1.out) HLN.out HOK.out s3)
  clear hsm hb1 s1 s2 s3 s4 s5 s6 k0 k1 k2 k3 k4 k5 k6
  by_cases h10 : 10 < nn
  · have h10i : (10 : Int) < (nn : Int) := by omega
    go_wp2_with fail
    refine (HWK.out _ HBW1.out).mono ?_
    rintro e wq ⟨rfl, hbq⟩
    have HBQ := Lib.hid (HBW1.out.trans (hbq.mono HBW1.out.size))
    clear hbq
    go_wp2_with fail
    go_ret
    exact ⟨rfl, HBQ.out⟩
  have h10i : ¬ (10 : Int) < (nn : Int) := by omega
  go_wp2_with fail
  refine HWD.out.mono ?_
  rintro e w2 ⟨m, r, ep, sp, O, rfl, hM, _, hS, hl, hO, _, hb2⟩
  have HB02 := Lib.hid (HB01.out.trans (hb2.mono HB01.out.size))
  have HBW2 := Lib.hid (HB0.out.trans (HB02.out.mono HB0.out.size))
  have HM := Lib.hid (fun (U : World) (h : Below w2.heap.size w2 U) => hM.below h)
  have HS := Lib.hid hS; have HL := Lib.hid hl; have HO := Lib.hid hO
  have HCP := Lib.hid (fun (U : World) (h : Below w.heap.size w U) => law28_copied kind rds eds (.slice aR nr cR) (.slice aE ne cE) pre f t tw U (HR.out U h) (HE.out U h) HNOR.out HNOE.out HS1.out HS2.out)
  obtain ⟨k0, k1, k2, k3, k4, k5, k6⟩ := HKB.out w2 HB02.out
  clear hM hS hl hO hb2 HWD
  go_wp2_with fail
  refine (HCP.out _ HBW2.out).mono ?_
  rintro e w3 ⟨v1, v2, rfl, i1, i2, hb3⟩
  have HA1 := Lib.hid (asks_any m ep kind sp O rds eds v1 v2 pre f t tw w3 (HM.out _ hb3) (by have := HL.out; omega) HS.out HO.out ht htw hk i1 i2 (HMX.out _ (HBW2.out.trans (hb3.mono HBW2.out.size))) HSR.out HSE.out HS1.out HS2.out HPZ.out HPR.out HPE.out)
  have HB23 := Lib.hid hb3
  clear i1 i2 hb3 k0 k1 k2 k3 k4 k5 k6
  go_wp2_with fail
  refine HA1.out.mono ?_
  rintro e w4 ⟨va, z, L, rfl, ia, sa, hb4⟩
  have HB24 := Lib.hid (HB23.out.trans (hb4.mono HB23.out.size))
  have HB04 := Lib.hid (HB02.out.trans (HB24.out.mono HB02.out.size))
  have HBW4 := Lib.hid (HB0.out.trans (HB04.out.mono HB0.out.size))
  clear hb4 HA1
  by_cases hz : z ≠ 0
  · have hzb : (z != (0 : Int)) = true := by simp [hz]
    clear ia sa hz
    go_wp2_with fail
    refine (HWK.out _ HBW4.out).mono ?_
    rintro e wq ⟨rfl, hbq⟩
    have HBQ := Lib.hid (HBW4.out.trans (hbq.mono HBW4.out.size))
    clear hbq
    go_wp2_with fail
    go_ret
    exact ⟨rfl, HBQ.out⟩
  obtain rfl : z = 0 := by omega
  clear hz
  obtain ⟨hwh, hkd⟩ := sa.whole
  have hlen := sa.len HS.out HO.out htw
  have hlen2 := sa.len2 HL.out HS1.out HS2.out
  have hsmall := sa.small HS1.out HS2.out
  have HWH := Lib.hid hwh; have HKD := Lib.hid hkd; have HSM := Lib.hid hsmall
  have HIA := Lib.hid ia
  obtain ⟨a1, c1, rfl⟩ := isAsks_shape ia
  obtain ⟨N, hN⟩ : ∃ N, L.length = N := ⟨_, rfl⟩
  rw [hN] at HIA hlen hlen2 ⊢
  have HNL := Lib.hid hN; have HL5 := Lib.hid hlen2
  obtain ⟨TT, hTT⟩ : ∃ TT : Nat → Tl, (fun j => tell n nms (L.getD j dAsk)) = TT := ⟨_, rfl⟩
  have HTT := Lib.hid hTT
  have HW4 : Hid (∀ U, Below w4.heap.size w4 U → Below w.heap.size w U ∧ Below W0.heap.size W0 U ∧ Below w2.heap.size w2 U) := Lib.hid (fun U h => ⟨HBW4.out.trans (h.mono HBW4.out.size), HB04.out.trans (h.mono HB04.out.size), HB24.out.trans (h.mono HB24.out.size)⟩)
  have HOF := Lib.hid (fun (x : ByteArray) (hx : x.size ≤ 100000) (U : World) (h : Below w4.heap.size w4 U) => map_Of m ep sp x hx U (HM.out _ (HW4.out U h).2.2) (by have := HL.out; omega) O HS.out)
  have hnn10 : nn ≤ 10 := by omega
  have hBw4 : B < w4.heap.size := block_lt_of_cell (HKB.out w4 HB04.out).1
  clear sa ia hN hTT hwh hkd hsmall h10 hlen2
  go_wp2_with fail
  go_loopw [17, 18] (fun vt vi wr => ∃ (i : Nat) (at' : Option Addr) (ct : Nat), i ≤ N ∧ vt = .slice at' i ct ∧ vi = .int .i64 i ∧ Hid (∃ V, TI w4.heap.size TT V (.slice at' i ct) i wr) ∧ Hid (Below w4.heap.size w4 wr)) (fun _ vi _ => N - (intOf vi).toNat)
  case atStart => exact ⟨0, none, 0, Nat.zero_le _, rfl, rfl, Lib.hid ⟨fun _ _ => .slice none 0 0, TI.start _ _ _ _⟩, Lib.hid (Below.refl _ _)⟩
  case round =>
    as_aux_lemma =>
      obtain ⟨i, at', ct, hi, rfl, rfl, HTI, HBr⟩ := hrel
      by_cases hlt : i < N
      · have hii : (i : Int) < (N : Int) := by omega
        have hil : i < L.length := by rw [HNL.out]; exact hlt
        obtain ⟨b1, o1, rfl, hb1, x1, x2, x3, x4, d1, d2, d3, d4, hca, hi1, hi2, hi3, hi4⟩ := isAsks_at HIA.out hil
        obtain ⟨hrl, hel, hrr, hee⟩ := HWH.out.ok (L.getD i dAsk) (getD_mem' L i dAsk hil)
        obtain ⟨q1, _, q3, _⟩ := HSM.out (L.getD i dAsk) (getD_mem' L i dAsk hil)
        have htt : TT i = tell n nms (L.getD i dAsk) := by rw [← HTT.out]
        obtain ⟨A, hA⟩ : ∃ A, L.getD i dAsk = A := ⟨_, rfl⟩
        have HAE := Lib.hid hA
        rw [hA] at hca hi1 hi2 hi3 hi4 hrl hel hrr hee q1 q3 htt
        rw [← hrl] at hca hi2
        rw [← hel] at hca hi4
        obtain ⟨mr, hmr⟩ : ∃ mr, A.reads.length = mr := ⟨_, rfl⟩
        obtain ⟨me, hme⟩ : ∃ me, A.edits.length = me := ⟨_, rfl⟩
        obtain ⟨sh, hsh⟩ : ∃ sh, A.shard = sh := ⟨_, rfl⟩
        obtain ⟨li, hli⟩ : ∃ li, A.list = li := ⟨_, rfl⟩
        have HLI := Lib.hid hli
        rw [hmr] at hca hi1 hi2 hrl hrr q1
        rw [hme] at hca hi3 hi4 hel hee q3
        have HCA := Lib.hid (fun (U : World) (h : Below w4.heap.size w4 U) (j : Nat) (u : Value) (hu : (askV A (.slice x1 mr d1) (.slice x2 mr d2) (.slice x3 me d3) (.slice x4 me d4))[j]? = some u) => (h.cell (p := ⟨b1, o1 + i * 11 + j, none⟩) hb1).trans (hca j u hu))
        have HI1 := Lib.hid hi1; have HI2 := Lib.hid hi2; have HI3 := Lib.hid hi3; have HI4 := Lib.hid hi4
        have HRL := Lib.hid hrl; have HEL := Lib.hid hel; have HRR := Lib.hid hrr; have HEE := Lib.hid hee; have HTA := Lib.hid htt
        have HMR := Lib.hid hmr; have HME2 := Lib.hid hme; have HSH := Lib.hid hsh
        have HC0 := Lib.hid (fun (U : World) (h : Below w4.heap.size w4 U) => show U.cell? ⟨b1, o1 + i * 11, none⟩ = some (.int .u32 (sh : Int)) ∧ U.cell? ⟨b1, o1 + i * 11 + 1, none⟩ = some (.slice x1 mr d1) ∧ U.cell? ⟨b1, o1 + i * 11 + 2, none⟩ = some (.slice x2 mr d2) ∧ U.cell? ⟨b1, o1 + i * 11 + 3, none⟩ = some (.slice x3 me d3) ∧ U.cell? ⟨b1, o1 + i * 11 + 4, none⟩ = some (.slice x4 me d4) ∧ U.cell? ⟨b1, o1 + i * 11 + 5, none⟩ = some (.bool li) from by
          rw [← HSH.out, ← HLI.out]
          exact ⟨HCA.out U h 0 _ rfl, HCA.out U h 1 _ rfl, HCA.out U h 2 _ rfl, HCA.out U h 3 _ rfl, HCA.out U h 4 _ rfl, HCA.out U h 5 _ rfl⟩)
        obtain ⟨VV, hTI⟩ := HTI.out
        have HTV := Lib.hid hTI
        have hiN : i ≤ 4294967296 := by omega
        clear hca hi1 hi2 hi3 hi4 hrl hel hrr hee htt hmr hme hsh hli hA hTI HTI
        go_upto_region 13 with fail
        go_cut [108] (fun v108 wx => v108 = .bool false ∧ Hid (Below wr.heap.size wr wx))
        case first =>
          as_aux_lemma =>
            by_cases hi0 : i = 0
            · have h0i : ¬ (0 : Int) < (i : Int) := by omega
              have h0d : decide ((0 : Int) < (i : Int)) = false := by simp; omega
              have h0n : decide (0 < i) = false := by simp [hi0]
              have h0p : ¬ 0 < i := by omega
              clear hi0
              refine wp_region_quiet (C := fun w' => Hid (Below wr.heap.size wr w')) (by kernel_rfl) (by kernel_rfl) (Lib.hid (Below.drew (Below.refl _ _))) ?_
              refine (reg13a _ ?_ i b1 o1 N c1 mr me d1 d2 d3 d4 sh x1 x2 x3 x4 ?_ ?_ (fun w' hw' => ?_) hii h0i h0p h0n (fun f hf => ?_) : _)
              · exact rfl
              · exact rfl
              · exact rfl
              · obtain ⟨f0, f1, f2, f3, f4, f5⟩ := HC0.out w' (HBr.out.trans (hw'.out.mono HBr.out.size))
                exact ⟨f0, f1, f2, f3, f4⟩
              intro W6 hW6
              rw [AF_splice]
              simp only [splice, Nat.reduceAdd, hf]
              go_wp2_with fail
              go_meet
              case rel => exact ⟨rfl, hW6⟩
            · have h0i : (0 : Int) < (i : Int) := by omega
              have h0d : decide ((0 : Int) < (i : Int)) = true := by simp; omega
              obtain ⟨i', hi'⟩ : ∃ i', i - 1 = i' := ⟨_, rfl⟩
              have hil' : i' < L.length := by omega
              obtain ⟨b2, o2, hbe, hb2, _, _, _, _, _, _, _, _, hcb, _⟩ := isAsks_at HIA.out hil'
              cases hbe
              have hup : (L.getD i' dAsk).shard < sh := by
                rw [← HSH.out, ← HAE.out]
                have h := List.pairwise_iff_getElem.1 HWH.out.up i' i hil' (by omega) (by omega)
                rw [List.getD_eq_getElem?_getD, List.getElem?_eq_getElem hil', List.getD_eq_getElem?_getD, List.getElem?_eq_getElem (by omega)]
                exact h
              obtain ⟨sh', hsh'⟩ : ∃ sh', (L.getD i' dAsk).shard = sh' := ⟨_, rfl⟩
              rw [hsh'] at hup
              have HF6 : Hid (∀ U, Below w4.heap.size w4 U → U.cell? ⟨b1, o1 + i' * 11, none⟩ = some (.int .u32 (sh' : Int))) := Lib.hid (fun U h => by rw [← hsh']; exact (h.cell (p := ⟨b1, o1 + i' * 11, none⟩) hb1).trans (hcb 0 _ rfl))
              have hsi : (i : Int) - 1 = (i' : Int) := by omega
              have hin : (i' : Int) < (N : Int) := by omega
              have hiw' : IntKind.i64.wrap (i' : Int) = (i' : Int) := by rw [IntKind.wrap_i64]; omega
              have hgs : ¬ (sh : Int) ≤ (sh' : Int) := by omega
              have hgd : decide ((sh : Int) ≤ (sh' : Int)) = false := by simp; omega
              have h0p : 0 < i := by omega
              have h0n : decide (0 < i) = true := by simp; omega
              clear hcb hsh' hil' hi' hup hi0
              refine wp_region_quiet (C := fun w' => Hid (Below wr.heap.size wr w')) (by kernel_rfl) (by kernel_rfl) (Lib.hid (Below.drew (Below.refl _ _))) ?_
              refine (reg13b _ ?_ i i' sh' b1 o1 N c1 mr me d1 d2 d3 d4 sh x1 x2 x3 x4 ?_ ?_ (fun w' hw' => ?_) hii h0i h0p h0n hsi hiw' hin hgs hgd (fun f hf => ?_) : _)
              · exact rfl
              · exact rfl
              · exact rfl
              · obtain ⟨f0, f1, f2, f3, f4, f5⟩ := HC0.out w' (HBr.out.trans (hw'.out.mono HBr.out.size))
                exact ⟨f0, f1, f2, f3, f4, HF6.out w' (HBr.out.trans (hw'.out.mono HBr.out.size))⟩
              intro W6 hW6
              rw [AF_splice]
              simp only [splice, Nat.reduceAdd, hf]
              go_wp2_with fail
              go_meet
              case rel => exact ⟨rfl, hW6⟩
        case rest =>
          as_aux_lemma =>
        obtain ⟨rfl, HBX⟩ := hcut
        obtain ⟨f0, f1, f2, f3, f4, f5⟩ := HC0.out wc (HBr.out.trans (HBX.out.mono HBr.out.size))
        have HTC := Lib.hid (HTV.out.below HBX.out)
        have HB4c := Lib.hid (HBr.out.trans (HBX.out.mono HBr.out.size))
        obtain ⟨Wc, hWc⟩ : ∃ U, wc = U := ⟨_, rfl⟩
        subst wc
        clear HTV HBX HBr
        go_upto_region 16 with fail
        obtain ⟨W3, hW3⟩ : ∃ W3, Wc.alloc (.cells #[.int .u32 (sh : Int), .slice none 0 0, .slice none 0 0, .slice none 0 0] 54) = W3 := ⟨_, rfl⟩
        obtain ⟨hz3, hg3, hb3⟩ := alloc_keep hW3
        obtain ⟨q, hq⟩ : ∃ q, Wc.heap.size = q := ⟨_, rfl⟩
        rw [hW3, hq]
        rw [hq] at hz3 hg3 hb3
        have HTX : Hid (TX q sh (.slice none 0 0) (.slice none 0 0) (.slice none 0 0) W3) := Lib.hid hg3
        have hw4q : w4.heap.size ≤ q := by rw [← hq]; exact HB4c.out.size
        have HWQ := Lib.hid (fun (U : World) (h : Below q Wc U) => show Below w4.heap.size w4 U from HB4c.out.trans (h.mono hw4q))
        have HZ3 := Lib.hid hz3; have HB3 := Lib.hid hb3; have HQ := Lib.hid hq
        clear hW3 hz3 hg3 hb3 hq f0 f1 f2 f3 f4 f5
        go_wp2_with fail
        go_loopw [20] (fun vk wr => ∃ (kk : Nat) (a : Option Addr) (c : Nat), kk ≤ mr ∧ vk = .int .i64 kk ∧ Hid (TX q sh (.slice a kk c) (.slice none 0 0) (.slice none 0 0) wr) ∧ Hid (wr.ownsRow (q + 1) 61 4 (.slice a kk c) kk (((A.readAt.take kk).map (gotOf n)).flatMap gtC)) ∧ Hid (KX q (q + 1) W3 wr)) (fun vk _ => mr - (intOf vk).toNat)
        case atStart => exact ⟨0, none, 0, Nat.zero_le _, rfl, HTX, Lib.hid (World.ownsRow_nil _ _ _ _), Lib.hid (KX.refl _ _ _)⟩
        case round =>
          as_aux_lemma =>
            clear HTX
            obtain ⟨kk, a, c, hkk, rfl, HTX, HR0, HK⟩ := hrel
            have hqz : (q + 1) ≤ wr.heap.size := by have := HK.out.size; have := HZ3.out; omega
            have hbq : q < (q + 1) := Nat.lt_succ_self q
            have HPB : Hid (Below q Wc wr) := Lib.hid (HB3.out.trans (HK.out.below (Nat.le_of_lt hbq) (Nat.le_refl _)))
            have HP4 : Hid (Below w4.heap.size w4 wr) := Lib.hid (HWQ.out _ HPB.out)
            obtain ⟨f0, f1, f2, f3, f4, f5⟩ := HC0.out wr HP4.out
            by_cases hlk : kk < mr
            · have hki : (kk : Int) < (mr : Int) := by omega
              obtain ⟨hr1, hr2, hr3⟩ := HRR.out kk hlk
              have hkx : kk < A.readAt.length := by rw [← HRL.out]; exact hlk
              obtain ⟨e2, g2, rfl, hx2⟩ := isl_at3 HI2.out hkx
              obtain ⟨e1, g1, rfl, hx1⟩ := isl_at3 HI1.out (show kk < A.reads.length by rw [HMR.out]; exact hlk)
              have hl1 : e1 < w4.heap.size := block_lt_of_cell (hx1 0 _ rfl)
              have hl2 : e2 < w4.heap.size := block_lt_of_cell (hx2 0 _ rfl)
              obtain ⟨bR, oR, rfl, hxr⟩ := isl_at3 (HR.out w (Below.refl _ _)) hr1
              have hlr : bR < w.heap.size := block_lt_of_cell (hxr 0 _ rfl)
              obtain ⟨y, hy⟩ : ∃ y, A.reads.getD kk dRd = y := ⟨_, rfl⟩
              obtain ⟨ia, hia⟩ : ∃ g, A.readAt.getD kk 0 = g := ⟨_, rfl⟩
              rw [hia] at hr1 hr2 hx2 hxr
              rw [hy] at hr2 hr3 hx1
              rw [hr2] at hxr
              rw [HNR.out] at hr1
              rw [HSH.out] at hr3
              have hps : y.path.size ≤ 100000 := by rw [← hr2]; exact HPR.out _ (getD_mem' _ _ _ (by rw [HNR.out]; exact hr1))
              have hnr1 : nr ≤ 1000 := by rw [← HNR.out]; exact HS1.out
              have HYC := Lib.hid (fun (U : World) (h : Below w4.heap.size w4 U) => show U.cell? ⟨e2, g2 + kk, none⟩ = some (.int .i64 (ia : Int)) ∧ U.cell? ⟨e1, g1 + kk * 2, none⟩ = some (.string y.path) ∧ U.cell? ⟨e1, g1 + kk * 2 + 1, none⟩ = some (.int .u64 (y.n : Int)) ∧ U.cell? ⟨bR, oR + ia * 2, none⟩ = some (.string y.path) ∧ U.cell? ⟨bR, oR + ia * 2 + 1, none⟩ = some (.int .u64 (y.n : Int)) ∧ U.cell? ⟨B, 1, none⟩ = some (.slice (some ⟨bR, oR, none⟩) nr cR) from by
                have hz2 := hx2 0 _ rfl
                rw [Nat.mul_one, Nat.add_zero] at hz2
                exact ⟨(h.cell (p := ⟨e2, _, none⟩) hl2).trans hz2, (h.cell (p := ⟨e1, _, none⟩) hl1).trans (hx1 0 _ rfl), (h.cell (p := ⟨e1, _, none⟩) hl1).trans (hx1 1 _ rfl), ((HW4.out U h).1.cell (p := ⟨bR, _, none⟩) hlr).trans (hxr 0 _ rfl), ((HW4.out U h).1.cell (p := ⟨bR, _, none⟩) hlr).trans (hxr 1 _ rfl), (HKB.out U (HW4.out U h).2.1).2.1⟩)
              have HOY := Lib.hid (fun (U : World) (h : Below w4.heap.size w4 U) => HOF.out y.path hps U h)
              rw [hr3] at HOY
              obtain ⟨uu, huu⟩ : ∃ u, upN n ia = u := ⟨_, rfl⟩
              have hwr := upN_wrap n ia
              rw [huu] at hwr
              have hiw : IntKind.u64.wrap (ia : Int) = (ia : Int) := by rw [IntKind.wrap_u64]; omega
              have hia0 : ¬ (ia : Int) < 0 := by omega
              have hia1 : ¬ (nr : Int) ≤ (ia : Int) := by omega
              have hia2 : (ia : Int) < (nr : Int) := by omega
              have hiad : decide ((ia : Int) < 0) = false := by simp
              have hiae : decide ((nr : Int) ≤ (ia : Int)) = false := by simp; omega
              have HIA2 := Lib.hid hia; have HUU := Lib.hid huu; have HKX0 := Lib.hid hkx
              obtain ⟨y0, y1, y2, y3, y4, y5⟩ := HYC.out wr HP4.out
              have hql : q < wr.heap.size := by omega
              clear hr1 hr2 hr3 hx1 hx2 hxr hl1 hl2 hlr hy hia hps hnr1 huu hkx
              go_upto_region 20 with fail
              clear f0 f1 f2 f3 f4 f5 y0 y1 y2 y3 y4 y5
              refine wp_region_quiet (C := fun w' => Hid (Below wr.heap.size wr w')) (by kernel_rfl) (by kernel_rfl) (Lib.hid (Below.drew (Below.refl _ _))) ?_
              refine (reg20 _ ?_ B m ia i kk nr cR bR oR b1 o1 N c1 e1 g1 mr d1 sh y ?_ ?_ ?_ ?_ ?_ ?_ (fun w' hw' => ?_) (fun w' hw' => ?_) hia0 hiad hia1 hiae hia2 hki hii (fun f hf => ?_) : _)
              · exact rfl
              · exact rfl
              · exact rfl
              · exact rfl
              · exact rfl
              · exact rfl
              · exact rfl
              · obtain ⟨f0, f1, f2, f3, f4, f5⟩ := HC0.out w' (HP4.out.trans (hw'.out.mono HP4.out.size))
                obtain ⟨y0, y1, y2, y3, y4, y5⟩ := HYC.out w' (HP4.out.trans (hw'.out.mono HP4.out.size))
                exact ⟨y5, y3, y4, f0, f1, y1, y2⟩
              · exact (HOY.out w' (HP4.out.trans (hw'.out.mono HP4.out.size))).mono (fun e w6 ⟨he, hb⟩ => ⟨he, Lib.hid (hw'.out.trans (hb.mono hw'.out.size))⟩)
              intro W6 hW6
              rw [AF_splice]
              simp only [splice, Nat.reduceAdd, hf]
              have HT6 := Lib.hid (HTX.out.below hql hW6.out)
              have HR6 := Lib.hid (ownBelow HR0.out hW6.out)
              have HK6 : Hid (KX q (q + 1) W3 W6) := Lib.hid (HK.out.trans (KX.of (hW6.out.mono hqz)))
              have hz6 : (q + 1) ≤ W6.heap.size := by have := hW6.out.size; omega
              obtain ⟨t0, t1, t2, t3⟩ := HT6.out.cells
              clear hW6 HR0 HK HTX HPB HP4 HOY HYC
              go_wp2_with (
                at_builtin
                refine wpList_append_lies _ rfl (.tmp 175) (.tmp 182) 51 rfl (q + 1) 61 iG (.agg #[.int .u64 0, .int .u8 0, .string ByteArray.empty, .int .i64 0]) 4 40 Tryz.underlying51 IG0.out IG1.out IG2.out IG3.out rfl (by decide) _ kk (((A.readAt.take kk).map (gotOf n)).flatMap gtC) rfl (HR6.out.alloc _) ⟨W6.heap.size, 0, none⟩ 1 1 [.int .u64 (uu : Int), .int .u8 0, .string ⟨#[]⟩, .int .i64 0] rfl rfl (World.news_of_block (MapKept.heap_alloc _ _).1) (by intro u hu; simp only [List.mem_cons, List.mem_nil_iff, or_false] at hu; rcases hu with rfl | rfl | rfl | rfl <;> rfl) (by decide) (by unfold maxLen; omega) (by omega) (by simp; omega) (W6.heap.size + 1) (by simp) ?goG
                intro g8 cp8 w8 hown8 hg8 hat8 hlt8
                have hU : Below W6.heap.size W6 (W6.alloc (.cells [.int .u64 (uu : Int), .int .u8 0, .string ⟨#[]⟩, .int .i64 0].toArray 61)) := (Below.refl _ _).alloc (Nat.le_refl _) _
                obtain ⟨hx8, ⟨X, hX, hcX, hrX, hkX⟩, _, _⟩ := tx_app hbq HT6.out hU hz6 hg8 (fun k hk => own_above2 HR6.out k hk) hown8
                have e1' := hx8.cells.2.1
                have z1' := hx8.frozen 1
                have HCX := Lib.hid hcX; have HRX := Lib.hid hrX; have HKX := Lib.hid (HK6.out.trans hkX)
                clear hown8 hg8 hat8 hlt8 hU hx8 hcX hrX hkX)
              go_roundw
              case rel => exact ⟨kk + 1, _, _, by omega, by go_num, HCX, Lib.hid (by rw [gtC_snoc n A.readAt HKX0.out, HIA2.out, HUU.out]; exact HRX.out), HKX⟩
              case measure => simp [intOf]; omega
            obtain rfl : kk = mr := by omega
            have hki : ¬ (kk : Int) < (kk : Int) := by omega
            obtain ⟨W47, hW47⟩ : ∃ U, wr = U := ⟨_, rfl⟩
            subst wr
            obtain ⟨a0, ha0⟩ : ∃ x, a = x := ⟨_, rfl⟩; obtain ⟨c0, hc0⟩ : ∃ x, c = x := ⟨_, rfl⟩; obtain ⟨mr, hmr⟩ : ∃ x, x = kk := ⟨_, rfl⟩
            subst a c
            subst hmr
            have hq47 : q < W47.heap.size := by omega
            have HB47 := HPB; have HR47 := HR0
            clear HPB HR0 HK HP4
            go_wp2_with fail
            clear f0 f1 f2 f3 f4 f5 hqz hbq
            go_loopw [22] (fun vk wr => ∃ (kk : Nat) (a : Option Addr) (c : Nat), kk ≤ me ∧ vk = .int .i64 kk ∧ Hid (TX q sh (.slice a0 mr c0) (.slice a kk c) (.slice none 0 0) wr) ∧ Hid (wr.ownsRow W47.heap.size 25 1 (.slice a kk c) kk (((A.editAt.take kk).map (dnN n)).flatMap nuC)) ∧ Hid (KX q W47.heap.size W47 wr)) (fun vk _ => me - (intOf vk).toNat)
            case atStart => exact ⟨0, none, 0, Nat.zero_le _, rfl, HTX, Lib.hid (World.ownsRow_nil _ _ _ _), Lib.hid (KX.refl _ _ _)⟩
            case round =>
              as_aux_lemma =>
                clear HTX
                obtain ⟨kk, a, c, hkk, rfl, HTX, HR0, HK⟩ := hrel
                have hqz : W47.heap.size ≤ wr.heap.size := by have := HK.out.size; have := HZ3.out; omega
                have hbq : q < W47.heap.size := hq47
                have HPB : Hid (Below q Wc wr) := Lib.hid (HB47.out.trans (HK.out.below (Nat.le_of_lt hbq) (Nat.le_refl _)))
                have HP4 : Hid (Below w4.heap.size w4 wr) := Lib.hid (HWQ.out _ HPB.out)
                obtain ⟨f0, f1, f2, f3, f4, f5⟩ := HC0.out wr HP4.out
                by_cases hlk : kk < me
                · have hki : (kk : Int) < (me : Int) := by omega
                  obtain ⟨hr1, hr2, hr3⟩ := HEE.out kk hlk
                  have hkx : kk < A.editAt.length := by rw [← HEL.out]; exact hlk
                  obtain ⟨e2, g2, rfl, hx2⟩ := isl_at3 HI4.out hkx
                  obtain ⟨e1, g1, rfl, hx1⟩ := isl_at3 HI3.out (show kk < A.edits.length by rw [HME2.out]; exact hlk)
                  have hl1 : e1 < w4.heap.size := block_lt_of_cell (hx1 0 _ rfl)
                  have hl2 : e2 < w4.heap.size := block_lt_of_cell (hx2 0 _ rfl)
                  obtain ⟨bR, oR, rfl, hxr⟩ := isl_at3 (HE.out w (Below.refl _ _)) hr1
                  have hlr : bR < w.heap.size := block_lt_of_cell (hxr 0 _ rfl)
                  obtain ⟨y, hy⟩ : ∃ y, A.edits.getD kk dEd = y := ⟨_, rfl⟩
                  obtain ⟨ia, hia⟩ : ∃ g, A.editAt.getD kk 0 = g := ⟨_, rfl⟩
                  rw [hia] at hr1 hr2 hx2 hxr
                  rw [hy] at hr2 hr3 hx1
                  rw [hr2] at hxr
                  rw [HNE.out] at hr1
                  rw [HSH.out] at hr3
                  have hps : y.path.size ≤ 100000 := by rw [← hr2]; exact HPE.out _ (getD_mem' _ _ _ (by rw [HNE.out]; exact hr1))
                  have hnr1 : ne ≤ 1000 := by rw [← HNE.out]; exact HS2.out
                  have HYC := Lib.hid (fun (U : World) (h : Below w4.heap.size w4 U) => show U.cell? ⟨e2, g2 + kk, none⟩ = some (.int .i64 (ia : Int)) ∧ U.cell? ⟨e1, g1 + kk * 6, none⟩ = some (.int .u8 (y.kind : Int)) ∧ U.cell? ⟨e1, g1 + kk * 6 + 1, none⟩ = some (.string y.path) ∧ U.cell? ⟨e1, g1 + kk * 6 + 2, none⟩ = some (.bool y.any) ∧ U.cell? ⟨e1, g1 + kk * 6 + 3, none⟩ = some (.int .u64 (y.want : Int)) ∧ U.cell? ⟨e1, g1 + kk * 6 + 4, none⟩ = some (.int .u64 (y.n : Int)) ∧ U.cell? ⟨e1, g1 + kk * 6 + 5, none⟩ = some (.string y.text) ∧ U.cell? ⟨bR, oR + ia * 6, none⟩ = some (.int .u8 (y.kind : Int)) ∧ U.cell? ⟨bR, oR + ia * 6 + 1, none⟩ = some (.string y.path) ∧ U.cell? ⟨bR, oR + ia * 6 + 2, none⟩ = some (.bool y.any) ∧ U.cell? ⟨bR, oR + ia * 6 + 3, none⟩ = some (.int .u64 (y.want : Int)) ∧ U.cell? ⟨bR, oR + ia * 6 + 4, none⟩ = some (.int .u64 (y.n : Int)) ∧ U.cell? ⟨bR, oR + ia * 6 + 5, none⟩ = some (.string y.text) ∧ U.cell? ⟨B, 2, none⟩ = some (.slice (some ⟨bR, oR, none⟩) ne cE) from by
                    have hz2 := hx2 0 _ rfl
                    rw [Nat.mul_one, Nat.add_zero] at hz2
                    exact ⟨(h.cell (p := ⟨e2, _, none⟩) hl2).trans hz2, (h.cell (p := ⟨e1, _, none⟩) hl1).trans (hx1 0 _ rfl), (h.cell (p := ⟨e1, _, none⟩) hl1).trans (hx1 1 _ rfl), (h.cell (p := ⟨e1, _, none⟩) hl1).trans (hx1 2 _ rfl), (h.cell (p := ⟨e1, _, none⟩) hl1).trans (hx1 3 _ rfl), (h.cell (p := ⟨e1, _, none⟩) hl1).trans (hx1 4 _ rfl), (h.cell (p := ⟨e1, _, none⟩) hl1).trans (hx1 5 _ rfl), ((HW4.out U h).1.cell (p := ⟨bR, _, none⟩) hlr).trans (hxr 0 _ rfl), ((HW4.out U h).1.cell (p := ⟨bR, _, none⟩) hlr).trans (hxr 1 _ rfl), ((HW4.out U h).1.cell (p := ⟨bR, _, none⟩) hlr).trans (hxr 2 _ rfl), ((HW4.out U h).1.cell (p := ⟨bR, _, none⟩) hlr).trans (hxr 3 _ rfl), ((HW4.out U h).1.cell (p := ⟨bR, _, none⟩) hlr).trans (hxr 4 _ rfl), ((HW4.out U h).1.cell (p := ⟨bR, _, none⟩) hlr).trans (hxr 5 _ rfl), (HKB.out U (HW4.out U h).2.1).2.2.1⟩)
                  have HOY := Lib.hid (fun (U : World) (h : Below w4.heap.size w4 U) => HOF.out y.path hps U h)
                  rw [hr3] at HOY
                  obtain ⟨uu, huu⟩ : ∃ u, dnN n ia = u := ⟨_, rfl⟩
                  have hwr := dnN_wrap n ia
                  rw [huu] at hwr
                  have hiw : IntKind.u64.wrap (ia : Int) = (ia : Int) := by rw [IntKind.wrap_u64]; omega
                  have hia0 : ¬ (ia : Int) < 0 := by omega
                  have hia1 : ¬ (ne : Int) ≤ (ia : Int) := by omega
                  have hia2 : (ia : Int) < (ne : Int) := by omega
                  have hiad : decide ((ia : Int) < 0) = false := by simp
                  have hiae : decide ((ne : Int) ≤ (ia : Int)) = false := by simp; omega
                  have HIA2 := Lib.hid hia; have HUU := Lib.hid huu; have HKX0 := Lib.hid hkx
                  obtain ⟨y0, y1, y2, y3, y4, y5, y6, y7, y8, y9, y10, y11, y12, y13⟩ := HYC.out wr HP4.out
                  have hql : q < wr.heap.size := by omega
                  clear hr1 hr2 hr3 hx1 hx2 hxr hl1 hl2 hlr hy hia hps hnr1 huu hkx
                  go_upto_region 27 with fail
                  clear f0 f1 f2 f3 f4 f5 y0 y1 y2 y3 y4 y5 y6 y7 y8 y9 y10 y11 y12 y13
                  refine wp_region_quiet (C := fun w' => Hid (Below wr.heap.size wr w')) (by kernel_rfl) (by kernel_rfl) (Lib.hid (Below.drew (Below.refl _ _))) ?_
                  refine (reg27 _ ?_ B m ia i kk ne cE bR oR b1 o1 N c1 e1 g1 me d3 sh y ?_ ?_ ?_ ?_ ?_ ?_ (fun w' hw' => ?_) (fun w' hw' => ?_) hia0 hiad hia1 hiae hia2 hki hii (fun f hf => ?_) : _)
                  · exact rfl
                  · exact rfl
                  · exact rfl
                  · exact rfl
                  · exact rfl
                  · exact rfl
                  · exact rfl
                  · obtain ⟨f0, f1, f2, f3, f4, f5⟩ := HC0.out w' (HP4.out.trans (hw'.out.mono HP4.out.size))
                    obtain ⟨y0, y1, y2, y3, y4, y5, y6, y7, y8, y9, y10, y11, y12, y13⟩ := HYC.out w' (HP4.out.trans (hw'.out.mono HP4.out.size))
                    exact ⟨y13, y7, y8, y9, y10, y11, y12, f0, f3, y1, y2, y3, y4, y5, y6⟩
                  · exact (HOY.out w' (HP4.out.trans (hw'.out.mono HP4.out.size))).mono (fun e w6 ⟨he, hb⟩ => ⟨he, Lib.hid (hw'.out.trans (hb.mono hw'.out.size))⟩)
                  intro W6 hW6
                  rw [AF_splice]
                  simp only [splice, Nat.reduceAdd, hf]
                  have HT6 := Lib.hid (HTX.out.below hql hW6.out)
                  have HR6 := Lib.hid (ownBelow HR0.out hW6.out)
                  have HK6 : Hid (KX q W47.heap.size W47 W6) := Lib.hid (HK.out.trans (KX.of (hW6.out.mono hqz)))
                  have hz6 : W47.heap.size ≤ W6.heap.size := by have := hW6.out.size; omega
                  obtain ⟨t0, t1, t2, t3⟩ := HT6.out.cells
                  clear hW6 HR0 HK HTX HPB HP4 HOY HYC
                  go_wp2_with (
                    at_builtin
                    refine wpList_append_lies _ rfl (.tmp 245) (.tmp 250) 52 rfl W47.heap.size 25 iU (.int .u64 0) 1 8 Tryz.underlying52 IU0.out IU1.out IU2.out IU3.out rfl (by decide) _ kk (((A.editAt.take kk).map (dnN n)).flatMap nuC) rfl (HR6.out.alloc _) ⟨W6.heap.size, 0, none⟩ 1 1 [.int .u64 (uu : Int)] rfl rfl (World.news_of_block (MapKept.heap_alloc _ _).1) (by intro u hu; simp only [List.mem_cons, List.mem_nil_iff, or_false] at hu; rcases hu with rfl <;> rfl) (by decide) (by unfold maxLen; omega) (by omega) (by simp; omega) (W6.heap.size + 1) (by simp) ?goU
                    intro g8 cp8 w8 hown8 hg8 hat8 hlt8
                    have hU : Below W6.heap.size W6 (W6.alloc (.cells [.int .u64 (uu : Int)].toArray 25)) := (Below.refl _ _).alloc (Nat.le_refl _) _
                    obtain ⟨hx8, _, ⟨X, hX, hcX, hrX, hkX⟩, _⟩ := tx_app hbq HT6.out hU hz6 hg8 (fun k hk => own_above2 HR6.out k hk) hown8
                    have e1' := hx8.cells.2.2.1
                    have z1' := hx8.frozen 2
                    have HCX := Lib.hid hcX; have HRX := Lib.hid hrX; have HKX := Lib.hid (HK6.out.trans hkX)
                    clear hown8 hg8 hat8 hlt8 hU hx8 hcX hrX hkX)
                  go_roundw
                  case rel => exact ⟨kk + 1, _, _, by omega, by go_num, HCX, Lib.hid (by rw [nuC_snoc n A.editAt HKX0.out, HIA2.out, HUU.out]; exact HRX.out), HKX⟩
                  case measure => simp [intOf]; omega
                obtain rfl : kk = me := by omega
                have hki : ¬ (kk : Int) < (kk : Int) := by omega
                obtain ⟨me, hme⟩ : ∃ x, x = kk := ⟨_, rfl⟩
                subst hme
                have hrow0 := row_kept HR47.out HK.out (Nat.lt_succ_self q)
                have hz47 : W47.heap.size ≤ wr.heap.size := HK.out.size
                have HROW0 := Lib.hid hrow0
                obtain ⟨W53, hW53⟩ : ∃ U, wr = U := ⟨_, rfl⟩
                subst wr
                clear hrow0 HR47 HK
                obtain ⟨t0, t1, t2, t3⟩ := HTX.out.cells
                have hbw53 : q < W53.heap.size := by omega
                cases li with
                | false =>
                  as_aux_lemma =>
                    have hnm : (tell n nms A).names = [] := if_neg (by rw [HLI.out]; decide)
                    have HROWA := HROW0; have HROWB := HR0; have HPX := HPB; have HTXX := HTX
                    have HROWC : Hid (W53.ownsRow q 9 1 (.slice none 0 0) (tell n nms A).names.length ((tell n nms A).names.flatMap naC)) := Lib.hid (by rw [hnm]; exact World.ownsRow_nil _ _ _ _)
                    clear hnm
                    go_upto_region 32 with fail
                    clear t0 t1 t2 t3 f0 f1 f2 f3 f4 f5
                    have HXW : Hid (Below Wc.heap.size Wc W53) := Lib.hid (by rw [HQ.out]; exact HPX.out)
                    have HTX2 := Lib.hid (HTC.out.below HXW.out)
                    have hRX : TRows w4.heap.size W53 (V3 (.slice a0 mr c0) (.slice a me c) (.slice none 0 0)) (tell n nms A) := by
                      have e0 := HROWA.out; have e1 := HROWB.out; have e2 := HROWC.out
                      rw [List.take_of_length_le (by rw [← HRL.out]; exact Nat.le_refl _)] at e0
                      rw [List.take_of_length_le (by rw [← HEL.out]; exact Nat.le_refl _)] at e1
                      have l0 : (tell n nms A).got.length = mr := by show (A.readAt.map _).length = mr; rw [List.length_map]; exact HRL.out.symm
                      have l1 : (tell n nms A).nums.length = me := by show (A.editAt.map _).length = me; rw [List.length_map]; exact HEL.out.symm
                      refine ⟨?_, ?_, ?_⟩
                      · rw [l0]; exact ownBase e0 (by omega)
                      · rw [l1]; exact ownBase e1 (by omega)
                      · exact ownBase e2 (by omega)
                    have HRXX := Lib.hid hRX
                    have hz4X : w4.heap.size ≤ W53.heap.size := by have := HXW.out.size; have := HB4c.out.size; omega
                    obtain ⟨t0, t1, t2, t3⟩ := HTXX.out.cells
                    clear hRX
                    go_wp2_with (
                      at_builtin
                      refine wpList_append_lies _ rfl (.tmp 263) (.tmp 265) 50 rfl w4.heap.size 54 iT (.agg #[.int .u32 0, .slice none 0 0, .slice none 0 0, .slice none 0 0]) 4 80 Tryz.underlying50 IT0.out IT1.out IT2.out IT3.out rfl (by decide) _ i ((List.range i).flatMap (tlCs VV TT)) rfl (HTX2.out.row.alloc _) ⟨W53.heap.size, 0, none⟩ 1 1 [.int .u32 (sh : Int), .slice a0 mr c0, .slice a me c, (.slice none 0 0)] rfl rfl (World.news_of_block (MapKept.heap_alloc _ _).1) (by intro u hu; simp only [List.mem_cons, List.mem_nil_iff, or_false] at hu; rcases hu with rfl | rfl | rfl | rfl <;> rfl) (by decide) (by unfold maxLen; omega) (by omega) (by simp; omega) (W53.heap.size + 1) (by simp) ?goTW
                      intro g9 cp9 w9 hown9 hg9 hat9 hlt9
                      have hU : Below W53.heap.size W53 (W53.alloc (.cells #[.int .u32 (sh : Int), .slice a0 mr c0, .slice a me c, (.slice none 0 0)] 54)) := (Below.refl _ _).alloc (Nat.le_refl _) _
                      have hTI9 := (HTX2.out.below hU).step HTA.out (HRXX.out.below hU) hg9 (by rw [show (tell n nms A).shard = sh from HSH.out]; exact hown9)
                      have hB9 : Below w4.heap.size w4 w9 := (HB4c.out.trans ((HXW.out.mono HB4c.out.size).trans (hU.mono hz4X))).trans ((grown_but hg9).below (fun k hk => own_above2 HTX2.out.row k hk) (Nat.le_trans hz4X hU.size))
                      have HTI9 := Lib.hid hTI9; have HB9 := Lib.hid hB9
                      clear hown9 hg9 hat9 hlt9 hU hTI9 hB9)
                    go_roundw
                    case rel => exact ⟨i + 1, _, _, by omega, rfl, by go_num, Lib.hid ⟨_, HTI9.out⟩, HB9⟩
                    case measure => simp [intOf]; omega
                | true =>
                  as_aux_lemma =>
                    have hnm : (tell n nms A).names = nms := if_pos (by rw [HLI.out])
                    go_upto_region 32 with (
                      at_builtin
                      refine wpList_append_copy rfl (.tmp 259) (.tmp 260) 49 rfl W53.heap.size 9 iS (.string ByteArray.empty) 16 Tryz.underlying49 IS0.out IS1.out IS2.out IS3.out rfl (by decide) rfl (.slice aN nn cN) nms rfl (HNM.out _ (HW4.out _ HP4.out).1) HNON.out naC_len (naC_ones nms) (by rw [HNN.out]; unfold maxLen; omega) (by rw [HNN.out]; omega) (Nat.le_refl _) ?goS
                      rw [HNN.out]
                      intro a3 c3 w8 hown8 hg8
                      obtain ⟨hx8, _, _, ⟨X, hX, hcX, hrX, hkX⟩⟩ := tx_app hbw53 HTX.out (Below.refl _ _) (Nat.le_refl _) hg8 (fun j hj => by cases hj) hown8
                      have e1' := hx8.cells.2.2.2; have z1' := hx8.frozen 3
                      have HTXX := Lib.hid hcX; have HRX := Lib.hid hrX; have HKX := Lib.hid hkX
                      clear hown8 hg8 hx8 hcX hrX hkX)
                    have HROWA := Lib.hid (row_kept HROW0.out HKX.out (Nat.lt_succ_self q))
                    have HROWB := Lib.hid (row_kept HR0.out HKX.out hq47)
                    have HPX : Hid (Below q Wc X) := Lib.hid (HPB.out.trans (HKX.out.below (Nat.le_of_lt hbw53) (Nat.le_refl _)))
                    have HROWC : Hid (X.ownsRow q 9 1 (.slice a3 nn c3) (tell n nms A).names.length ((tell n nms A).names.flatMap naC)) := Lib.hid (by rw [hnm, HNN.out]; exact ownBase HRX.out (Nat.le_of_lt hbw53))
                    clear hnm t0 t1 t2 t3 f0 f1 f2 f3 f4 f5
                    have HXW : Hid (Below Wc.heap.size Wc X) := Lib.hid (by rw [HQ.out]; exact HPX.out)
                    have HTX2 := Lib.hid (HTC.out.below HXW.out)
                    have hRX : TRows w4.heap.size X (V3 (.slice a0 mr c0) (.slice a me c) (.slice a3 nn c3)) (tell n nms A) := by
                      have e0 := HROWA.out; have e1 := HROWB.out; have e2 := HROWC.out
                      rw [List.take_of_length_le (by rw [← HRL.out]; exact Nat.le_refl _)] at e0
                      rw [List.take_of_length_le (by rw [← HEL.out]; exact Nat.le_refl _)] at e1
                      have l0 : (tell n nms A).got.length = mr := by show (A.readAt.map _).length = mr; rw [List.length_map]; exact HRL.out.symm
                      have l1 : (tell n nms A).nums.length = me := by show (A.editAt.map _).length = me; rw [List.length_map]; exact HEL.out.symm
                      refine ⟨?_, ?_, ?_⟩
                      · rw [l0]; exact ownBase e0 (by omega)
                      · rw [l1]; exact ownBase e1 (by omega)
                      · exact ownBase e2 (by omega)
                    have HRXX := Lib.hid hRX
                    have hz4X : w4.heap.size ≤ X.heap.size := by have := HXW.out.size; have := HB4c.out.size; omega
                    obtain ⟨t0, t1, t2, t3⟩ := HTXX.out.cells
                    clear hRX
                    go_wp2_with (
                      at_builtin
                      refine wpList_append_lies _ rfl (.tmp 263) (.tmp 265) 50 rfl w4.heap.size 54 iT (.agg #[.int .u32 0, .slice none 0 0, .slice none 0 0, .slice none 0 0]) 4 80 Tryz.underlying50 IT0.out IT1.out IT2.out IT3.out rfl (by decide) _ i ((List.range i).flatMap (tlCs VV TT)) rfl (HTX2.out.row.alloc _) ⟨X.heap.size, 0, none⟩ 1 1 [.int .u32 (sh : Int), .slice a0 mr c0, .slice a me c, (.slice a3 nn c3)] rfl rfl (World.news_of_block (MapKept.heap_alloc _ _).1) (by intro u hu; simp only [List.mem_cons, List.mem_nil_iff, or_false] at hu; rcases hu with rfl | rfl | rfl | rfl <;> rfl) (by decide) (by unfold maxLen; omega) (by omega) (by simp; omega) (X.heap.size + 1) (by simp) ?goTX
                      intro g9 cp9 w9 hown9 hg9 hat9 hlt9
                      have hU : Below X.heap.size X (X.alloc (.cells #[.int .u32 (sh : Int), .slice a0 mr c0, .slice a me c, (.slice a3 nn c3)] 54)) := (Below.refl _ _).alloc (Nat.le_refl _) _
                      have hTI9 := (HTX2.out.below hU).step HTA.out (HRXX.out.below hU) hg9 (by rw [show (tell n nms A).shard = sh from HSH.out]; exact hown9)
                      have hB9 : Below w4.heap.size w4 w9 := (HB4c.out.trans ((HXW.out.mono HB4c.out.size).trans (hU.mono hz4X))).trans ((grown_but hg9).below (fun k hk => own_above2 HTX2.out.row k hk) (Nat.le_trans hz4X hU.size))
                      have HTI9 := Lib.hid hTI9; have HB9 := Lib.hid hB9
                      clear hown9 hg9 hat9 hlt9 hU hTI9 hB9)
                    go_roundw
                    case rel => exact ⟨i + 1, _, _, by omega, rfl, by go_num, Lib.hid ⟨_, HTI9.out⟩, HB9⟩
                    case measure => simp [intOf]; omega
      obtain rfl : i = N := by omega
      have hii : ¬ (i : Int) < (i : Int) := by omega
      obtain ⟨VV, hTI⟩ := HTI.out
      have HTL : Hid (IsTold wr (.slice at' i ct) (L.map (tell n nms))) := Lib.hid (hTI.told (by rw [List.length_map]; exact HNL.out) (fun j hj => by rw [getD_map_tell n nms L j (by rw [HNL.out]; exact hj), ← HTT.out]))
      have HTV := Lib.hid hTI
      clear hTI HTI
      have HML := Lib.hid (merge_in HWH.out HS1.out HS2.out HSM.out n nms (by rw [HNN.out]; exact hnn10) HNZ.out)
      have HK0 := Lib.hid (fun (U : World) (h : Below w4.heap.size w4 U) => (HKB.out U (HW4.out U h).2.1))
      go_upto_region 33 with fail
      go_cut [327] (fun v327 wx => v327 = .bool false ∧ Hid (Below wr.heap.size wr wx))
      case first =>
        as_aux_lemma =>
          rcases HKD.out with ⟨rfl, _⟩ | ⟨rfl, _, ss, g1, g2, g3⟩ | ⟨rfl, _, hc, ss, g1, g2, g3⟩
          · as_aux_lemma =>
              clear HKD HTL HTV HIA
              refine wp_region_quiet (C := fun w' => Hid (Below wr.heap.size wr w')) (by kernel_rfl) (by kernel_rfl) (Lib.hid (Below.drew (Below.refl _ _))) ?_
              refine (reg33a _ ?_ B ?_ (fun w' hw' => ?_) (fun F hF => ?_) : _)
              · exact rfl
              · exact rfl
              · exact (HK0.out w' (HBr.out.trans (hw'.out.mono HBr.out.size))).1
              intro W6 hW6
              rw [AF_splice]
              simp only [splice, Nat.reduceAdd, hF]
              go_wp2_with fail
              go_meet
              case rel => exact ⟨rfl, hW6⟩
          · as_aux_lemma =>
              have HSHD := Lib.hid (fun (U : World) (h : Below wr.heap.size wr U) => map_Shards m ep sp U (HM.out _ (HW4.out U (HBr.out.trans (h.mono HBr.out.size))).2.2) (by have := HL.out; omega) O HS.out)
              have hssl : ss.length = i := by rw [← HNL.out, g3, List.length_map]
              have HG1 := Lib.hid g1; have HG2 := Lib.hid g2; have HSSL := Lib.hid hssl
              have hiib : ((i : Int) != (i : Int)) = false := by simp
              clear HKD HTL HTV HIA g1 g2 g3 hssl
              refine (reg33b (C := fun w' => Hid (Below wr.heap.size wr w')) _ ?_ B m i c1 a1 ?_ ?_ ?_ (Lib.hid (Below.drew (Below.refl _ _))) (fun w' hw' => ?_) (fun w' hw' => ?_) (fun F W6 hF hW6 => ?_) : _)
              · exact rfl
              · exact rfl
              · exact rfl
              · exact rfl
              · exact (HK0.out w' (HBr.out.trans (hw'.out.mono HBr.out.size))).1
              · refine (HSHD.out w' hw'.out).mono (fun e w8 hh => ?_)
                obtain ⟨g8, cp8, SS, he, _, _, _, u1, u2, _, hb8⟩ := hh
                have hSL : SS.length = i := (congrArg List.length (rise_eq u1 HG1.out (fun x => (u2 x).trans (HG2.out x).symm))).trans HSSL.out
                exact ⟨some ⟨g8, 0, none⟩, cp8, by rw [he, hSL], Lib.hid (hw'.out.trans (hb8.mono hw'.out.size))⟩
              rw [AF_splice]
              simp only [splice, Nat.reduceAdd, hF]
              go_wp2_with fail
              go_meet
              case rel => exact ⟨rfl, hW6⟩
          · as_aux_lemma =>
              have hne := (SplitC.zero hc).2.1.2
              have hex : ∃ s0 s1 : Nat, ss = [s0, s1] ∧ (decide (s0 = O f) == decide (s1 = O f)) = false ∧ (decide (s0 = tw) == decide (s1 = tw)) = false := by
                rcases split_two g1 g2 hne with h | h
                · exact ⟨_, _, h, by simp [Ne.symm hne], by simp [hne]⟩
                · exact ⟨_, _, h, by simp [Ne.symm hne], by simp [hne]⟩
              obtain ⟨s0, s1, hss, hgg, htt⟩ := hex
              have hL : L = [splA (O f) tw f t s0, splA (O f) tw f t s1] := by rw [g3, hss]; rfl
              have hi2 : i = 2 := by rw [← HNL.out, hL]; rfl
              have hib2 : ((i : Int) != 2) = false := by simp; omega
              have hi0n : ¬ i = 0 := by omega
              have hi0i : (0 : Int) < (i : Int) := by omega
              have hi1i : (1 : Int) < (i : Int) := by omega
              obtain ⟨b1, o1, rfl, hb1, _, _, _, _, _, _, _, _, hca, _⟩ := isAsks_at HIA.out (show 0 < L.length by rw [hL]; simp)
              obtain ⟨b2, o2, hbe, _, _, _, _, _, _, _, _, _, hcb, _⟩ := isAsks_at HIA.out (show 1 < L.length by rw [hL]; simp)
              cases hbe
              have hA0 : L.getD 0 dAsk = splA (O f) tw f t s0 := by rw [hL]; rfl
              have hA1 : L.getD 1 dAsk = splA (O f) tw f t s1 := by rw [hL]; rfl
              rw [hA0] at hca
              rw [hA1] at hcb
              obtain ⟨d0, hd0⟩ : ∃ d, decide (s0 = O f) = d := ⟨_, rfl⟩
              obtain ⟨d1, hd1⟩ : ∃ d, decide (s1 = O f) = d := ⟨_, rfl⟩
              obtain ⟨t0, ht0⟩ : ∃ d, decide (s0 = tw) = d := ⟨_, rfl⟩
              obtain ⟨t1, ht1⟩ : ∃ d, decide (s1 = tw) = d := ⟨_, rfl⟩
              have HCC := Lib.hid (fun (U : World) (h : Below w4.heap.size w4 U) => show U.cell? ⟨b1, o1 + 7, none⟩ = some (.bool d0) ∧ U.cell? ⟨b1, o1 + 8, none⟩ = some (.bool t0) ∧ U.cell? ⟨b1, o1 + 9, none⟩ = some (.int .u64 (f : Int)) ∧ U.cell? ⟨b1, o1 + 10, none⟩ = some (.int .u64 (t : Int)) ∧ U.cell? ⟨b1, o1 + 11 + 7, none⟩ = some (.bool d1) ∧ U.cell? ⟨b1, o1 + 11 + 8, none⟩ = some (.bool t1) ∧ U.cell? ⟨b1, o1 + 11 + 9, none⟩ = some (.int .u64 (f : Int)) ∧ U.cell? ⟨b1, o1 + 11 + 10, none⟩ = some (.int .u64 (t : Int)) from by
                rw [← hd0, ← hd1, ← ht0, ← ht1]
                have q : ∀ j u, _ → U.cell? ⟨b1, o1 + 0 * 11 + j, none⟩ = some u := fun j u hu => (h.cell (p := ⟨b1, _, none⟩) hb1).trans (hca j u hu)
                have q' : ∀ j u, _ → U.cell? ⟨b1, o1 + 1 * 11 + j, none⟩ = some u := fun j u hu => (h.cell (p := ⟨b1, _, none⟩) hb1).trans (hcb j u hu)
                rw [Nat.zero_mul, Nat.add_zero] at q
                rw [Nat.one_mul] at q'
                exact ⟨q 7 _ rfl, q 8 _ rfl, q 9 _ rfl, q 10 _ rfl, q' 7 _ rfl, q' 8 _ rfl, q' 9 _ rfl, q' 10 _ rfl⟩)
              rw [hd0, hd1] at hgg
              rw [ht0, ht1] at htt
              clear HKD HTL HTV HIA g1 g2 g3 hss hL hi2 hca hcb hA0 hA1 hd0 hd1 ht0 ht1 hne hc
              refine wp_region_quiet (C := fun w' => Hid (Below wr.heap.size wr w')) (by kernel_rfl) (by kernel_rfl) (Lib.hid (Below.drew (Below.refl _ _))) ?_
              refine (reg33c _ ?_ B b1 o1 i c1 f t d0 d1 t0 t1 ?_ ?_ (fun w' hw' => ?_) hib2 hi0n hi0i hi1i hgg htt (fun F hF => ?_) : _)
              · exact rfl
              · exact rfl
              · exact rfl
              · have hw4 := HBr.out.trans (hw'.out.mono HBr.out.size)
                obtain ⟨y7, y8, y9, y10, z7, z8, z9, z10⟩ := HCC.out w' hw4
                obtain ⟨k0, k1, k2, k3, k4, k5, k6⟩ := HK0.out w' hw4
                exact ⟨k0, y7, y8, y9, y10, z7, z8, z9, z10, k4, k5⟩
              intro W6 hW6
              rw [AF_splice]
              simp only [splice, Nat.reduceAdd, hF]
              go_wp2_with fail
              go_meet
              case rel => exact ⟨rfl, hW6⟩
      case rest =>
        as_aux_lemma =>
      obtain ⟨rfl, HBX⟩ := hcut
      have HB4 := Lib.hid (HBr.out.trans (HBX.out.mono HBr.out.size))
      have HTLc := Lib.hid (HTL.out.below HBX.out (Nat.le_refl _)); have HIAc := Lib.hid (HIA.out.below HB4.out (Nat.le_refl _)); have HTVc := Lib.hid (HTV.out.below HBX.out)
      obtain ⟨W9, hW9⟩ : ∃ U, wc = U := ⟨_, rfl⟩
      subst wc
      have hkd2 : (kind = 1 ∧ ∀ n names, ToldAll n rds.length eds.length L (L.map (tell n names))) ∨ (kind ≠ 1 ∧ (∀ A ∈ L, A.readAt = [] ∧ A.editAt = []) ∧ ∀ n names, ToldAll n 0 0 L (L.map (tell n names))) := by
        rcases HKD.out with h | ⟨rfl, h, _⟩ | ⟨rfl, h, _⟩
        · exact Or.inl h
        · exact Or.inr ⟨by decide, h, told_none h⟩
        · exact Or.inr ⟨by decide, h, told_none h⟩
      have HBB := Lib.hid (HBK.out W9 (HW4.out W9 HB4.out).2.1)
      have HBW9 := Lib.hid (HW4.out W9 HB4.out).1
      clear HBX HBr HTL HIA HTV HKD
      rcases hkd2 with ⟨rfl, hta⟩ | ⟨hk1, hnone, hta⟩
      · obtain ⟨tc1, tc2, tc3, tc4⟩ := hta n nms
        rw [HNL.out] at tc1 tc2 tc3 tc4
        rw [HNR.out] at tc1 tc3
        rw [HNE.out] at tc2 tc4
        have HBZ := HBB; have HIZ := HIAc; have HTZ := HTLc
        obtain ⟨WZ, hWZ⟩ : ∃ U, W9 = U := ⟨_, rfl⟩
        subst W9
        have HBWZ := HBW9
        have HMG := Lib.hid (merge_ok 1 f t tw nr ne cR cE i c1 ct aR aE a1 at' pre L (L.map (tell n nms)) (gotOf n) (dnN n) WZ HIZ.out HTZ.out HNL.out (by rw [List.length_map]; exact HNL.out) HL5.out (fun j hj => HML.out.fit j (by rw [HNL.out]; exact hj)) HML.out.r1 HML.out.e1 HML.out.n1 HML.out.r2 HML.out.e2 HML.out.n2 tc1 tc2 tc3 tc4)
        obtain ⟨k0, k1, k2, k3, k4, k5, k6⟩ : WZ.cell? ⟨B, 0, none⟩ = some (.int .u8 1) ∧ WZ.cell? ⟨B, 1, none⟩ = some (.slice aR nr cR) ∧ WZ.cell? ⟨B, 2, none⟩ = some (.slice aE ne cE) ∧ WZ.cell? ⟨B, 3, none⟩ = some (.string pre) ∧ WZ.cell? ⟨B, 4, none⟩ = some (.int .u64 (f : Int)) ∧ WZ.cell? ⟨B, 5, none⟩ = some (.int .u64 (t : Int)) ∧ WZ.cell? ⟨B, 6, none⟩ = some (.int .u32 (tw : Int)) := ⟨cell_of HBZ.out 0, cell_of HBZ.out 1, cell_of HBZ.out 2, cell_of HBZ.out 3, cell_of HBZ.out 4, cell_of HBZ.out 5, cell_of HBZ.out 6⟩
        clear tc1 tc2 tc3 tc4
        go_wp2_with fail
        refine HMG.out.mono ?_
        rintro e wm ⟨u1, u2, u3, nm, rfl, g1, g2, g3, gp, gl, hbm⟩
        obtain ⟨y1, e1, rfl⟩ := isl_shape g1
        obtain ⟨y2, e2, rfl⟩ := isl_shape g2
        obtain ⟨y3, e3, rfl⟩ := isl_shape g3
        rw [List.length_map, List.length_range] at g1 g2
        obtain ⟨NM, hNM⟩ : ∃ x, nm.length = x := ⟨_, rfl⟩
        simp only [List.length_map, List.length_range, hNM]
        rw [hNM] at g3
        rw [hNM] at gl
        have HG1 := Lib.hid g1; have HG2 := Lib.hid g2; have HG3 := Lib.hid g3; have HGP := Lib.hid gp; have HNMM := Lib.hid hNM
        have HBm := Lib.hid (HBWZ.out.trans (hbm.mono HBWZ.out.size))
        have HBBm := Lib.hid ((hbm.block _ (lt_of_block HBZ.out)).trans HBZ.out)
        clear g1 g2 g3 gp hNM hbm HMG k0 k1 k2 k3 k4 k5 k6
        go_upto_region 39 with fail
        obtain ⟨R, hR'⟩ : ∃ R, wm.heap.size = R := ⟨_, rfl⟩
        obtain ⟨W8, hW8⟩ : ∃ W8, wm.alloc (.cells #[.slice y1 nr e1, .slice y2 ne e2, .slice y3 NM e3] 67) = W8 := ⟨_, rfl⟩
        obtain ⟨hz8, hg8, hb8⟩ := alloc_keep hW8
        rw [hW8, hR']
        rw [hR'] at hz8 hg8 hb8
        have HRC := Lib.hid (fun (U : World) (h : Below W8.heap.size W8 U) => show U.cell? ⟨R, 0, none⟩ = some (.slice y1 nr e1) ∧ U.cell? ⟨R, 1, none⟩ = some (.slice y2 ne e2) ∧ U.cell? ⟨R, 2, none⟩ = some (.slice y3 NM e3) from by
          have k := (h.block _ (lt_of_block hg8)).trans hg8
          exact ⟨cell_of k 0, cell_of k 1, cell_of k 2⟩)
        have hb8' : Below wm.heap.size wm W8 := by rw [hR']; exact hb8
        have HB8 := Lib.hid hb8'
        have HBW8 := Lib.hid (HBm.out.trans (hb8'.mono HBm.out.size))
        have hbb8 := (hb8'.block _ (lt_of_block HBBm.out)).trans HBBm.out
        have k1 : W8.cell? ⟨B, 1, none⟩ = some (.slice aR nr cR) := cell_of hbb8 1
        have k2 : W8.cell? ⟨B, 2, none⟩ = some (.slice aE ne cE) := cell_of hbb8 2
        obtain ⟨r0, r1, r2⟩ := HRC.out W8 (Below.refl _ _)
        clear hW8 hz8 hg8 hb8 hb8' hbb8
        have nrb : ((nr : Int) != (nr : Int)) = false := by simp
        have neb : ((ne : Int) != (ne : Int)) = false := by simp
        have HWD : Hid (Below W8.heap.size W8 W8) := Lib.hid (Below.refl _ _)
        go_wp2_with fail
        go_loopw [26] (fun vi wr => ∃ j : Nat, j ≤ nr ∧ vi = .int .i64 j ∧ Hid (Below W8.heap.size W8 wr)) (fun vi _ => nr - (intOf vi).toNat)
        case atStart => exact ⟨0, Nat.zero_le _, rfl, HWD⟩
        case round =>
          as_aux_lemma =>
            obtain ⟨j, hj, rfl, HBq⟩ := hrel
            obtain ⟨r0, r1, r2⟩ := HRC.out wr HBq.out
            by_cases hlt : j < nr
            · have hji : (j : Int) < (nr : Int) := by omega
              have hn1 : nr ≤ 1000 := by rw [← HNR.out]; exact HS1.out
              obtain ⟨bq, oq, rfl, hq⟩ := isl_at3 (HG1.out.below (HB8.out.trans (HBq.out.mono HB8.out.size)) (Nat.le_refl _)) (show j < ((List.range nr).map (gotOf n)).length by rw [List.length_map, List.length_range]; exact hlt)
              have hq0 := hq 0 _ rfl
              rw [getD_map' _ _ j _ 0 (by rw [List.length_range]; exact hlt), show (List.range nr).getD j 0 = j from by rw [List.getD_eq_getElem?_getD, List.getElem?_range hlt]; rfl] at hq0
              obtain ⟨uu, huu⟩ : ∃ u, upN n j = u := ⟨_, rfl⟩
              have hwr := upN_wrap n j
              rw [huu] at hwr
              have q0 : wr.cell? ⟨bq, oq + j * 4, none⟩ = some (.int .u64 (uu : Int)) := by rw [← huu]; exact hq0
              have hjw : IntKind.u64.wrap (j : Int) = (j : Int) := by rw [IntKind.wrap_u64]; omega
              have huub : ((uu : Int) != (uu : Int)) = false := by simp
              clear hq hq0 huu
              go_wp2_with fail
              go_roundw
              case rel => exact ⟨j + 1, by omega, by go_num, HBq⟩
              case measure => simp [intOf]; omega
            have hji : ¬ (j : Int) < (nr : Int) := by omega
            go_wp2_with fail
            clear r0 r1 r2
            go_loopw [27] (fun vi wr => ∃ j : Nat, j ≤ ne ∧ vi = .int .i64 j ∧ Hid (Below W8.heap.size W8 wr)) (fun vi _ => ne - (intOf vi).toNat)
            case atStart => exact ⟨0, Nat.zero_le _, rfl, HBq⟩
            case round =>
              as_aux_lemma =>
                obtain ⟨j, hj, rfl, HBq⟩ := hrel
                obtain ⟨r0, r1, r2⟩ := HRC.out wr HBq.out
                by_cases hlt : j < ne
                · have hji : (j : Int) < (ne : Int) := by omega
                  have hn1 : ne ≤ 1000 := by rw [← HNE.out]; exact HS2.out
                  obtain ⟨bq, oq, rfl, hq⟩ := isl_at3 (HG2.out.below (HB8.out.trans (HBq.out.mono HB8.out.size)) (Nat.le_refl _)) (show j < ((List.range ne).map (dnN n)).length by rw [List.length_map, List.length_range]; exact hlt)
                  have hq0 := hq 0 _ rfl
                  rw [getD_map' _ _ j _ 0 (by rw [List.length_range]; exact hlt), show (List.range ne).getD j 0 = j from by rw [List.getD_eq_getElem?_getD, List.getElem?_range hlt]; rfl] at hq0
                  obtain ⟨uu, huu⟩ : ∃ u, dnN n j = u := ⟨_, rfl⟩
                  have hwr := dnN_wrap n j
                  rw [huu] at hwr
                  have q0 : wr.cell? ⟨bq, oq + j, none⟩ = some (.int .u64 (uu : Int)) := by
                    rw [Nat.mul_one, Nat.add_zero] at hq0
                    rw [← huu]; exact hq0
                  have hjw : IntKind.u64.wrap (j : Int) = (j : Int) := by rw [IntKind.wrap_u64]; omega
                  have huub : ((uu : Int) != (uu : Int)) = false := by simp
                  clear hq hq0 huu
                  go_wp2_with fail
                  go_roundw
                  case rel => exact ⟨j + 1, by omega, by go_num, HBq⟩
                  case measure => simp [intOf]; omega
                have hji : ¬ (j : Int) < (ne : Int) := by omega
                go_wp2_with fail
                clear r0 r1 r2
                go_loopw [28] (fun vi wr => ∃ j : Nat, 1 ≤ j ∧ (j ≤ NM ∨ j = 1) ∧ vi = .int .i64 j ∧ Hid (Below W8.heap.size W8 wr)) (fun vi _ => NM - (intOf vi).toNat)
                case atStart => exact ⟨1, Nat.le_refl _, Or.inr rfl, rfl, HBq⟩
                case round =>
                  as_aux_lemma =>
                    obtain ⟨j, hj1, hj, rfl, HBs⟩ := hrel
                    obtain ⟨r0, r1, r2⟩ := HRC.out wr HBs.out
                    by_cases hlt : j < NM
                    · have hji : (j : Int) < (NM : Int) := by omega
                      obtain ⟨j', hj'⟩ : ∃ x, j - 1 = x := ⟨_, rfl⟩
                      have hji' : (j : Int) - 1 = (j' : Int) := by omega
                      have hjn' : (j' : Int) < (NM : Int) := by omega
                      have hjw' : IntKind.i64.wrap (j' : Int) = (j' : Int) := by rw [IntKind.wrap_i64]; omega
                      have hln : j < nm.length := by rw [HNMM.out]; exact hlt
                      have hln' : j' < nm.length := by omega
                      obtain ⟨bq, oq, rfl, hq⟩ := isl_at3 (HG3.out.below (HB8.out.trans (HBs.out.mono HB8.out.size)) (Nat.le_refl _)) hln
                      obtain ⟨bq', oq', hbe, hq'⟩ := isl_at3 (HG3.out.below (HB8.out.trans (HBs.out.mono HB8.out.size)) (Nat.le_refl _)) hln'
                      cases hbe
                      have hup : (nm.getD j' ByteArray.empty).data.toList < (nm.getD j ByteArray.empty).data.toList := by
                        have h := List.pairwise_iff_getElem.1 HGP.out j' j hln' hln (by omega)
                        rw [List.getD_eq_getElem?_getD, List.getElem?_eq_getElem hln', List.getD_eq_getElem?_getD, List.getElem?_eq_getElem hln]; exact h
                      obtain ⟨sa, hsa⟩ : ∃ x, nm.getD j ByteArray.empty = x := ⟨_, rfl⟩
                      obtain ⟨sb, hsb⟩ : ∃ x, nm.getD j' ByteArray.empty = x := ⟨_, rfl⟩
                      rw [hsa] at hq hup
                      rw [hsb] at hq' hup
                      have hB := lt_bytes hup
                      have q0 := hq 0 _ rfl; have q1 := hq' 0 _ rfl
                      rw [Nat.mul_one, Nat.add_zero] at q0 q1
                      clear hq hq' hsa hsb hup hln hln' hj'
                      go_upto_region 54 with fail
                      go_quiet (fail)
                      go_wp2_with fail
                      go_roundw
                      case rel => exact ⟨j + 1, by omega, Or.inl (by omega), by go_num, Lib.hid (below_dr HBs.out _)⟩
                      case measure => simp [intOf]; omega
                    have hji : ¬ (j : Int) < (NM : Int) := by omega
                    have HBF := Lib.hid (HBW8.out.trans (HBs.out.mono HBW8.out.size))
                    go_wp2_with fail
                    refine (HWK.out _ HBF.out).mono ?_
                    rintro e wq ⟨rfl, hbq⟩
                    have HBQ := Lib.hid (HBF.out.trans (hbq.mono HBF.out.size))
                    clear hbq
                    go_wp2_with fail
                    go_ret
                    exact ⟨rfl, HBQ.out⟩
      · obtain ⟨tc1, tc2, tc3, tc4⟩ := hta n nms
        rw [HNL.out] at tc1 tc2 tc3 tc4
        have hkb : ((kind : Int) != 1) = true := by simp; omega
        have k0 := cell_of HBB.out 0; have k1 := cell_of HBB.out 1; have z1 := frozen_of HBB.out 1
        obtain ⟨Y1, hY1⟩ : ∃ U, W9.setCell ⟨B, 1, none⟩ (.slice none 0 0) = U := ⟨_, rfl⟩
        obtain ⟨WZ, hWZ⟩ : ∃ U, Y1.setCell ⟨B, 2, none⟩ (.slice none 0 0) = U := ⟨_, rfl⟩
        have hbk1 : Y1.heap[B]? = some (.cells (callC kind (.slice none 0 0) (.slice aE ne cE) pre f t tw) 30 (0, 0)) := by rw [← hY1]; exact setCell_block HBB.out _
        have hbk2 : WZ.heap[B]? = some (.cells (callC kind (.slice none 0 0) (.slice none 0 0) pre f t tw) 30 (0, 0)) := by rw [← hWZ]; exact setCell_block hbk1 _
        have k2 := cell_of hbk1 2; have z2 := frozen_of hbk1 2
        have hbut : ButS (fun x => x = B) W9 WZ := by rw [← hWZ, ← hY1]; exact (ButS.set (S := fun x => x = B) _ (p := ⟨B, 1, none⟩) rfl _).trans (ButS.set (S := fun x => x = B) _ (p := ⟨B, 2, none⟩) rfl _)
        have HBZ := Lib.hid hbk2
        have HIZ := Lib.hid (isAsks_off HIAc.out HBB.out (fun A hA => by obtain ⟨e1, e2, _, _⟩ := HWH.out.ok A hA; obtain ⟨e3, e4⟩ := hnone A hA; exact ⟨List.length_eq_zero_iff.1 (by rw [e1, e3]; rfl), e3, List.length_eq_zero_iff.1 (by rw [e2, e4]; rfl), e4⟩) hbut)
        have HTZ : Hid (IsTold WZ (.slice at' i ct) (L.map (tell n nms))) := Lib.hid (by
          have h : TI w4.heap.size TT VV (.slice at' i ct) i WZ := by rw [← hWZ, ← hY1]; exact (HTVc.out.set hBw4).set hBw4
          exact h.told (by rw [List.length_map]; exact HNL.out) (fun j hj => by rw [getD_map_tell n nms L j (by rw [HNL.out]; exact hj), ← HTT.out]))
        have HBWZ : Hid (Below w.heap.size w WZ) := Lib.hid (HBW9.out.trans (hbut.below (fun x hx => by rw [hx, HBS.out]; exact Nat.le_refl _) HBW9.out.size))
        clear hbk1 hbk2 hbut hnone hta hk1
        have HMG := Lib.hid (merge_ok kind f t tw 0 0 0 0 i c1 ct none none a1 at' pre L (L.map (tell n nms)) (gotOf n) (dnN n) WZ HIZ.out HTZ.out HNL.out (by rw [List.length_map]; exact HNL.out) HL5.out (fun j hj => HML.out.fit j (by rw [HNL.out]; exact hj)) HML.out.r1 HML.out.e1 HML.out.n1 HML.out.r2 HML.out.e2 HML.out.n2 tc1 tc2 tc3 tc4)
        have m0 := cell_of HBZ.out 0; have m1 := cell_of HBZ.out 1; have m2 := cell_of HBZ.out 2; have m3 := cell_of HBZ.out 3; have m4 := cell_of HBZ.out 4; have m5 := cell_of HBZ.out 5; have m6 := cell_of HBZ.out 6
        clear tc1 tc2 tc3 tc4
        go_wp2_with fail
        refine HMG.out.mono ?_
        rintro e wm ⟨u1, u2, u3, nm, rfl, g1, g2, g3, gp, gl, hbm⟩
        obtain ⟨y1, e1, rfl⟩ := isl_shape g1
        obtain ⟨y2, e2, rfl⟩ := isl_shape g2
        obtain ⟨y3, e3, rfl⟩ := isl_shape g3
        rw [List.length_map, List.length_range] at g1 g2
        obtain ⟨NM, hNM⟩ : ∃ x, nm.length = x := ⟨_, rfl⟩
        simp only [List.length_map, List.length_range, hNM]
        rw [hNM] at g3
        rw [hNM] at gl
        have HG1 := Lib.hid g1; have HG2 := Lib.hid g2; have HG3 := Lib.hid g3; have HGP := Lib.hid gp; have HNMM := Lib.hid hNM
        have HBm := Lib.hid (HBWZ.out.trans (hbm.mono HBWZ.out.size))
        have HBBm := Lib.hid ((hbm.block _ (lt_of_block HBZ.out)).trans HBZ.out)
        clear g1 g2 g3 gp hNM hbm HMG k0 k1 k2 z1 z2 m0 m1 m2 m3 m4 m5 m6
        go_upto_region 39 with fail
        obtain ⟨R, hR'⟩ : ∃ R, wm.heap.size = R := ⟨_, rfl⟩
        obtain ⟨W8, hW8⟩ : ∃ W8, wm.alloc (.cells #[.slice y1 0 e1, .slice y2 0 e2, .slice y3 NM e3] 67) = W8 := ⟨_, rfl⟩
        obtain ⟨hz8, hg8, hb8⟩ := alloc_keep hW8
        rw [hW8, hR']
        rw [hR'] at hz8 hg8 hb8
        have HRC := Lib.hid (fun (U : World) (h : Below W8.heap.size W8 U) => show U.cell? ⟨R, 0, none⟩ = some (.slice y1 0 e1) ∧ U.cell? ⟨R, 1, none⟩ = some (.slice y2 0 e2) ∧ U.cell? ⟨R, 2, none⟩ = some (.slice y3 NM e3) from by
          have k := (h.block _ (lt_of_block hg8)).trans hg8
          exact ⟨cell_of k 0, cell_of k 1, cell_of k 2⟩)
        have hb8' : Below wm.heap.size wm W8 := by rw [hR']; exact hb8
        have HB8 := Lib.hid hb8'
        have HBW8 := Lib.hid (HBm.out.trans (hb8'.mono HBm.out.size))
        have hbb8 := (hb8'.block _ (lt_of_block HBBm.out)).trans HBBm.out
        have k1 : W8.cell? ⟨B, 1, none⟩ = some (.slice none 0 0) := cell_of hbb8 1
        have k2 : W8.cell? ⟨B, 2, none⟩ = some (.slice none 0 0) := cell_of hbb8 2
        obtain ⟨r0, r1, r2⟩ := HRC.out W8 (Below.refl _ _)
        clear hW8 hz8 hg8 hb8 hb8' hbb8
        have HWD : Hid (Below W8.heap.size W8 W8) := Lib.hid (Below.refl _ _)
        go_wp2_with fail
        go_loopw [26] (fun vi wr => ∃ j : Nat, j ≤ 0 ∧ vi = .int .i64 j ∧ Hid (Below W8.heap.size W8 wr)) (fun vi _ => 0 - (intOf vi).toNat)
        case atStart => exact ⟨0, Nat.zero_le _, rfl, HWD⟩
        case round =>
          as_aux_lemma =>
            obtain ⟨j, hj, rfl, HBq⟩ := hrel
            obtain ⟨r0, r1, r2⟩ := HRC.out wr HBq.out
            by_cases hlt : j < 0
            · exfalso; omega
            have hji : ¬ (j : Int) < (0 : Int) := by omega
            go_wp2_with fail
            clear r0 r1 r2
            go_loopw [27] (fun vi wr => ∃ j : Nat, j ≤ 0 ∧ vi = .int .i64 j ∧ Hid (Below W8.heap.size W8 wr)) (fun vi _ => 0 - (intOf vi).toNat)
            case atStart => exact ⟨0, Nat.zero_le _, rfl, HBq⟩
            case round =>
              as_aux_lemma =>
                obtain ⟨j, hj, rfl, HBq⟩ := hrel
                obtain ⟨r0, r1, r2⟩ := HRC.out wr HBq.out
                by_cases hlt : j < 0
                · exfalso; omega
                have hji : ¬ (j : Int) < (0 : Int) := by omega
                go_wp2_with fail
                clear r0 r1 r2
                go_loopw [28] (fun vi wr => ∃ j : Nat, 1 ≤ j ∧ (j ≤ NM ∨ j = 1) ∧ vi = .int .i64 j ∧ Hid (Below W8.heap.size W8 wr)) (fun vi _ => NM - (intOf vi).toNat)
                case atStart => exact ⟨1, Nat.le_refl _, Or.inr rfl, rfl, HBq⟩
                case round =>
                  as_aux_lemma =>
                    obtain ⟨j, hj1, hj, rfl, HBs⟩ := hrel
                    obtain ⟨r0, r1, r2⟩ := HRC.out wr HBs.out
                    by_cases hlt : j < NM
                    · have hji : (j : Int) < (NM : Int) := by omega
                      obtain ⟨j', hj'⟩ : ∃ x, j - 1 = x := ⟨_, rfl⟩
                      have hji' : (j : Int) - 1 = (j' : Int) := by omega
                      have hjn' : (j' : Int) < (NM : Int) := by omega
                      have hjw' : IntKind.i64.wrap (j' : Int) = (j' : Int) := by rw [IntKind.wrap_i64]; omega
                      have hln : j < nm.length := by rw [HNMM.out]; exact hlt
                      have hln' : j' < nm.length := by omega
                      obtain ⟨bq, oq, rfl, hq⟩ := isl_at3 (HG3.out.below (HB8.out.trans (HBs.out.mono HB8.out.size)) (Nat.le_refl _)) hln
                      obtain ⟨bq', oq', hbe, hq'⟩ := isl_at3 (HG3.out.below (HB8.out.trans (HBs.out.mono HB8.out.size)) (Nat.le_refl _)) hln'
                      cases hbe
                      have hup : (nm.getD j' ByteArray.empty).data.toList < (nm.getD j ByteArray.empty).data.toList := by
                        have h := List.pairwise_iff_getElem.1 HGP.out j' j hln' hln (by omega)
                        rw [List.getD_eq_getElem?_getD, List.getElem?_eq_getElem hln', List.getD_eq_getElem?_getD, List.getElem?_eq_getElem hln]; exact h
                      obtain ⟨sa, hsa⟩ : ∃ x, nm.getD j ByteArray.empty = x := ⟨_, rfl⟩
                      obtain ⟨sb, hsb⟩ : ∃ x, nm.getD j' ByteArray.empty = x := ⟨_, rfl⟩
                      rw [hsa] at hq hup
                      rw [hsb] at hq' hup
                      have hB := lt_bytes hup
                      have q0 := hq 0 _ rfl; have q1 := hq' 0 _ rfl
                      rw [Nat.mul_one, Nat.add_zero] at q0 q1
                      clear hq hq' hsa hsb hup hln hln' hj'
                      go_upto_region 54 with fail
                      go_quiet (fail)
                      go_wp2_with fail
                      go_roundw
                      case rel => exact ⟨j + 1, by omega, Or.inl (by omega), by go_num, Lib.hid (below_dr HBs.out _)⟩
                      case measure => simp [intOf]; omega
                    have hji : ¬ (j : Int) < (NM : Int) := by omega
                    have HBF := Lib.hid (HBW8.out.trans (HBs.out.mono HBW8.out.size))
                    go_wp2_with fail
                    refine (HWK.out _ HBF.out).mono ?_
                    rintro e wq ⟨rfl, hbq⟩
                    have HBQ := Lib.hid (HBF.out.trans (hbq.mono HBF.out.size))
                    clear hbq
                    go_wp2_with fail
                    go_ret
                    exact ⟨rfl, HBQ.out⟩
end Go.Proofs.YtggdkfijioeijaaGreatDoor
namespace Go.Proofs.YtggdkfijioeijaaGreatDoor
open Go Go.RowKit Go.ChangeShapes Go.WideShapes Go.ChangeAt
theorem open_strsN {H : Type} {enc : TypeId × Value → H} {P : Program} {w : World} {t e : TypeId} {v : Value} {d : DataW H} {ps : List MemPlace} {base : Nat} {r : Reach} {sp : Nat → Bool} {b0 : Nat} {held : Bool} (ht : P.underlying t = some (.slice e)) (he : P.underlying e = some .string) (hc : P.cellsOf e = 1)
  (hval : Value.okWide P w r base t v) (h : DataW.Trod enc P w b0 sp held t v d ps) : NilOk v := by
 obtain ⟨a0, len0, cap0, rfl⟩ := okWide_slice ht hval
 obtain ⟨fuel, hf⟩ := h
 rcases open_strings ht he hc hf with ⟨hcs, _⟩ | ⟨a, len, cap, ss, hcs, _⟩
 ·have hv : Value.slice a0 len0 cap0 = .slice none 0 0 := by simpa [Value.cells] using hcs
  rw [hv]; intro n c h; cases h; exact ⟨rfl, rfl⟩
 ·have hv : Value.slice a0 len0 cap0 = .slice (some a) len cap := by simpa [Value.cells] using hcs
  rw [hv]; intro n c h; cases h
theorem law28_whole_in (p q : Int) (l : List Pmv) (v : Value) (kind : Nat) (vR vE : Value) (rds : List Rd) (eds : List Ed) (pre : ByteArray) (f t tw : Nat) (n : Int) (nms : List ByteArray) (vN : Value) (W : World) (hp : (Lit.int .u8 p).wf = true) (hq : (Lit.int .u8 q).wf = true) (hl : IsPms W v l) (hok : ∀ y ∈ l, y.Ok)
  (hk : kind < 256) (_hf : f < 18446744073709551616) (ht : t < 18446744073709551616) (htw : tw < 4294967296) (hR : IsRds W vR rds) (hE : IsEds W vE eds) (hnR : NilOk vR) (hnE : NilOk vE) (hek : ∀ x ∈ eds, x.kind < 256)
  (hpz : pre.size ≤ 140737488351232) (hrz : ∀ r ∈ rds, r.path.size ≤ 140737488351232) (hez : ∀ x ∈ eds, x.path.size ≤ 140737488351232 ∧ x.text.size ≤ 140737488351232)
  (hn : (Lit.int .u64 n).wf = true) (_hz1 : nms.length * 16 ≤ 140737488351232) (hz2 : ∀ i, i < nms.length → (nms.getD i ByteArray.empty).size ≤ 140737488351232) (hN : IsStrs W vN nms) (hnN : NilOk vN) (hm : MX W) :
  Calls Tryz.prog 4 #[.int .u8 p, .int .u8 q, v, .agg (callC kind vR vE pre f t tw), .int .u64 n, vN] W fun e W' => e = .returned (.bool true) ∧ Below W.heap.size W W' := by
 obtain ⟨p, rfl, hp'⟩ := nat_of (M := 256) (wf_u8 hp)
 obtain ⟨q, rfl, hq'⟩ := nat_of (M := 256) (wf_u8 hq)
 obtain ⟨n, rfl, hn'⟩ := nat_of (M := 18446744073709551616) (wf_u64 hn)
 obtain ⟨a, cp, rfl, hr⟩ := id hl
 obtain ⟨aR, cR, hvR⟩ := isl_shape hR
 obtain ⟨aE, cE, hvE⟩ := isl_shape hE
 subst hvR hvE
 have hNs := isNas_of hN
 obtain ⟨aN, cN, rfl, _⟩ := hN
 exact law28_whole p q hp' hq' a l.length cp l kind rds eds aR rds.length cR aE eds.length cE pre f t tw n aN nms.length cN nms W hl rfl hok hk ht htw rfl rfl hR hE hnR hnE hek hpz hrz hez hn' hNs rfl hnN (fun x hx => by
  obtain ⟨i, hi, rfl⟩ := List.getElem_of_mem hx
  have := hz2 i hi
  rwa [List.getD_eq_getElem?_getD, List.getElem?_eq_getElem hi] at this) hm
end Go.Proofs.YtggdkfijioeijaaGreatDoor
