/- Law 28: PlanAlone's walk. -/
import Derived.Test.YthcmcjoenepkbaaGreatDoorAl0
import Derived.Test.YthcmcjoenepkbaaGreatDoorRfP
import Derived.Test.YthcmcjoenepkbaaGreatDoorWdM
import Derived.Test.YthcmcjoenepkbaaGreatDoorWk28
namespace Go.Proofs.YthcmcjoenepkbaaGreatDoor
open Go Go.RowKit Go.Maps

/-- The call that is being made. -/
def CallB (C : Nat) (vR vE : Value) (w : World) : Prop := w.heap[C]? = some (.cells #[.int .u8 1, vR, vE, .string ⟨#[]⟩, .int .u64 0, .int .u64 0, .int .u32 0] 30 (0, 0))
theorem CallB.cells {C : Nat} {vR vE : Value} {w : World} (h : CallB C vR vE w) : w.cell? ⟨C, 0, none⟩ = some (.int .u8 1) ∧ w.cell? ⟨C, 1, none⟩ = some vR ∧ w.cell? ⟨C, 2, none⟩ = some vE ∧ w.cell? ⟨C, 3, none⟩ = some (.string ⟨#[]⟩) ∧ w.cell? ⟨C, 4, none⟩ = some (.int .u64 0) ∧ w.cell? ⟨C, 5, none⟩ = some (.int .u64 0) ∧ w.cell? ⟨C, 6, none⟩ = some (.int .u32 0) :=
  ⟨cell_of h 0, cell_of h 1, cell_of h 2, cell_of h 3, cell_of h 4, cell_of h 5, cell_of h 6⟩
theorem CallB.frozen {C : Nat} {vR vE : Value} {w : World} (h : CallB C vR vE w) (j : Nat) : w.frozen? ⟨C, j, none⟩ = false := frozen_of h j
theorem CallB.below {C B : Nat} {vR vE : Value} {w w' : World} (h : CallB C vR vE w) (hC : C < B) (hb : Below B w w') : CallB C vR vE w' := (hb.block C hC).trans h
theorem CallB.set1 {C : Nat} {vR vE v : Value} {w : World} (h : CallB C vR vE w) : CallB C v vE (w.setCell ⟨C, 1, none⟩ v) := setCell_block h _
theorem CallB.set2 {C : Nat} {vR vE v : Value} {w : World} (h : CallB C vR vE w) : CallB C vR v (w.setCell ⟨C, 2, none⟩ v) := setCell_block h _
theorem alR_flat (p : ByteArray) (n : Nat) : (alR p (n + 1)).flatMap rdC = (alR p n).flatMap rdC ++ [.string p, .int .u64 (n : Int)] := by
  unfold alR; rw [upto_succ, flat_snoc]; rfl
theorem alE_flat (p : ByteArray) (n : Nat) : (alE p (n + 1)).flatMap edC = (alE p n).flatMap edC ++ [.int .u8 ((1 + n % 3 : Nat) : Int), .string p, .bool true, .int .u64 0, .int .u64 (n : Int), .string ⟨#[]⟩] := by
  unfold alE; rw [upto_succ, flat_snoc]; rfl
theorem call_app {C B k e n : Nat} {wr w1 w8 : World} {vR vE v : Value} {xs : List Value} {o : Option Nat} (hC : C < B) (hcb : CallB C vR vE wr) (hb1 : Below wr.heap.size wr w1) (hB : B ≤ wr.heap.size) (hg : w1.grownBy w8 o) (ho : ∀ j, o = some j → B ≤ j) (hrow : w8.ownsRow B e k v n xs) :
    CallB C vR vE w8 ∧ (∃ X, w8.setCell ⟨C, 1, none⟩ v = X ∧ CallB C v vE X ∧ X.ownsRow B e k v n xs ∧ KX C B wr X) ∧ (∃ X, w8.setCell ⟨C, 2, none⟩ v = X ∧ CallB C vR v X ∧ X.ownsRow B e k v n xs ∧ KX C B wr X) := by
  have h1 : CallB C vR vE w1 := (hb1.block C (by omega)).trans hcb
  have h8 : CallB C vR vE w8 := (hg.block C (lt_of_block h1) (fun e => by have := ho C e.symm; omega)).trans h1
  have hk : KX C B wr w8 := (KX.of (hb1.mono hB)).trans (KX.row hg ho (Nat.le_trans hB hb1.size))
  exact ⟨h8, ⟨_, rfl, h8.set1, ownsRow_setCell_below hrow (by dsimp only; omega) _, hk.trans (KX.set B w8 ⟨C, 1, none⟩ _)⟩, ⟨_, rfl, h8.set2, ownsRow_setCell_below hrow (by dsimp only; omega) _, hk.trans (KX.set B w8 ⟨C, 2, none⟩ _)⟩⟩

theorem row_kx {C B e k n : Nat} {W2 W : World} {v : Value} {xs : List Value} (h : W2.ownsRow B e k v n xs) (hk : KX C W2.heap.size W2 W) (hB : C < B) : W.ownsRow B e k v n xs := by
  refine ⟨h.1, ?_⟩
  rcases h.2 with hn | ⟨g, cap, cur, hv, hBg, hg, rest⟩
  · exact Or.inl hn
  · exact Or.inr ⟨g, cap, cur, hv, hBg, (hk.same g (lt_of_block hg) (by omega)).trans hg, rest⟩
theorem al_smallR {p : ByteArray} (h : p.size ≤ 140737488351232) {n : Nat} : ∀ r ∈ alR p n, SmallRd r := fun r hr => by
  obtain ⟨_, _, rfl⟩ := alR_mem hr; exact ⟨h⟩
theorem al_smallE {p : ByteArray} (h : p.size ≤ 140737488351232) {n : Nat} : ∀ r ∈ alE p n, SmallEd r := fun r hr => by
  obtain ⟨i, _, rfl⟩ := alE_mem hr; exact ⟨h, by show ByteArray.empty.size ≤ _; decide, by show 1 + i % 3 < 256; omega⟩

set_option maxRecDepth 100000 in
set_option maxHeartbeats 4000000 in
theorem law28_alone (p s rd ed : Nat) (hp : p < 256) (hs : s < 256) (hrd : rd < 256) (hed : ed < 256) (av0 : Option Addr) (LN cp0 : Nat) (lm : List Pmv) (x : ByteArray) (hx : x.size ≤ 140737488351232) (w : World) (hv : IsPms w (.slice av0 LN cp0) lm) (hLN : lm.length = LN) (hok : ∀ y ∈ lm, y.Ok) (hm : MX w) :
    Calls Tryz.prog 5 #[.int .u8 (p : Int), .int .u8 (s : Int), .slice av0 LN cp0, .string x, .int .u8 (rd : Int), .int .u8 (ed : Int)] w fun e w' => e = .returned (.bool true) ∧ Below w.heap.size w w' := by
  obtain ⟨iR, hR0, hR1, hR2, hR3⟩ := info_parts infoRd
  obtain ⟨iE, hE0, hE1, hE2, hE3⟩ := info_parts infoEd
  have HR0 := Lib.hid hR0; have HR1 := Lib.hid hR1; have HR2 := Lib.hid hR2; have HR3 := Lib.hid hR3
  have HE0 := Lib.hid hE0; have HE1 := Lib.hid hE1; have HE2 := Lib.hid hE2; have HE3 := Lib.hid hE3
  have HWK := Lib.hid (fun (w' : World) (h : Below w.heap.size w w') => law28_works w' (hm.below h (Nat.le_refl _)))
  have HMX := Lib.hid (fun (w' : World) (h : Below w.heap.size w w') => hm.below h (Nat.le_refl _))
  have HV := Lib.hid (fun (w' : World) (h : Below w.heap.size w w') => hv.below h (Nat.le_refl _))
  have HPC := Lib.hid (ref16_pieces x hx w)
  obtain ⟨na, hna⟩ : ∃ na, rd % 5 = na := ⟨_, rfl⟩
  obtain ⟨ne, hne⟩ : ∃ ne, ed % 5 + 1 = ne := ⟨_, rfl⟩
  have hnai : (rd : Int) % 5 = (na : Int) := by omega
  have hnei : (ed : Int) % 5 + 1 = (ne : Int) := by omega
  have hna5 : na ≤ 4 := by omega
  have hne5 : 1 ≤ ne ∧ ne ≤ 5 := by omega
  have HLN := Lib.hid hLN; have HOK := Lib.hid hok
  clear hR0 hR1 hR2 hR3 hE0 hE1 hE2 hE3 hm hv hLN hok hx hna hne
  go_enter Tryz.func5, Tryz.ntmps5
  by_cases h10 : 10 < LN
  · have h10i : (10 : Int) < (LN : Int) := by omega
    go_wp2_with fail
    refine (HWK.out _ (Below.refl _ _)).mono ?_
    rintro e w1 ⟨rfl, hb1⟩
    have HB1 := Lib.hid hb1; clear hb1
    go_wp2_with fail
    go_ret
    exact ⟨rfl, HB1.out⟩
  have h10i : ¬ (10 : Int) < (LN : Int) := by omega
  by_cases h200 : 200 < x.size
  · have h200i : (200 : Int) < (x.size : Int) := by omega
    go_wp2_with fail
    refine (HWK.out _ (Below.refl _ _)).mono ?_
    rintro e w1 ⟨rfl, hb1⟩
    have HB1 := Lib.hid hb1; clear hb1
    go_wp2_with fail
    go_ret
    exact ⟨rfl, HB1.out⟩
  have h200i : ¬ (200 : Int) < (x.size : Int) := by omega
  go_wp2_with fail
  refine HPC.out.mono ?_
  rintro e w1 ⟨v1, mp, rfl, hst, hpc, hb1⟩
  obtain ⟨a1, c1, rfl, _⟩ := hst
  have HB1 := Lib.hid hb1; clear hb1
  by_cases hmp : mp.length = 0
  · have hmi : ((mp.length : Int) == 0) = true := by simp [hmp]
    clear hpc
    go_wp2_with fail
    refine (HWK.out _ HB1.out).mono ?_
    rintro e w2 ⟨rfl, hb2⟩
    have HB2 := Lib.hid (HB1.out.trans (hb2.mono HB1.out.size)); clear hb2
    go_wp2_with fail
    go_ret
    exact ⟨rfl, HB2.out⟩
  have hmi : ((mp.length : Int) == 0) = false := by rw [beq_eq_false_iff_ne]; omega
  have hmay : Pth.mayL x.data.toList = true := by
    unfold Pth.mayL
    rw [← hpc]
    cases mp with
    | nil => exact absurd rfl hmp
    | cons y t => rfl
  have HMAY := Lib.hid hmay
  have HWD := Lib.hid (law28_worldM p s hp hs av0 LN cp0 lm w1 (HV.out _ HB1.out) HLN.out HOK.out (by omega))
  clear hpc hmay hmp
  go_wp2_with fail
  refine HWD.out.mono ?_
  rintro e w2 ⟨m, r, ep, sp, O, rfl, hM, _, hS, hl, hO, _, hb2⟩
  have HM := Lib.hid hM; have HS := Lib.hid hS; have HL := Lib.hid hl; have HO := Lib.hid hO
  have HB2 := Lib.hid (HB1.out.trans (hb2.mono HB1.out.size))
  clear hM hS hl hO hb2 HWD hmi
  go_upto_region 7 with fail
  obtain ⟨C, hC⟩ : ∃ C, w2.heap.size = C := ⟨_, rfl⟩
  obtain ⟨W1, hW1⟩ : ∃ W1, w2.alloc (.cells #[.int .u8 1, .slice none 0 0, .slice none 0 0, .string ⟨#[]⟩, .int .u64 0, .int .u64 0, .int .u32 0] 30) = W1 := ⟨_, rfl⟩
  obtain ⟨hz1, hg1, hb1⟩ := alloc_keep hW1
  rw [hW1, hC]
  rw [hC] at hz1 hg1 hb1
  have HC0 : Hid (CallB C (.slice none 0 0) (.slice none 0 0) W1) := Lib.hid hg1
  have HZ1 := Lib.hid hz1; have HCS := Lib.hid hC
  have HBW : Hid (Below C w2 W1) := Lib.hid hb1
  clear hW1 hz1 hg1 hb1 hC
  go_wp2_with fail
  go_loopw [16] (fun vi wr => ∃ (i : Nat) (a : Option Addr) (c : Nat), i ≤ na ∧ vi = .int .i64 i ∧ Hid (CallB C (.slice a i c) (.slice none 0 0) wr) ∧ Hid (wr.ownsRow (C + 1) 56 2 (.slice a i c) i ((alR x i).flatMap rdC)) ∧ Hid (KX C (C + 1) W1 wr)) (fun vi _ => na - (intOf vi).toNat)
  case atStart => exact ⟨0, none, 0, Nat.zero_le _, rfl, HC0, Lib.hid (World.ownsRow_nil _ _ _ _), Lib.hid (KX.refl _ _ _)⟩
  case round =>
    clear HC0
    obtain ⟨i, ar, cr, hi, rfl, HCB, HROW, HKX⟩ := hrel
    have hzr : C + 1 ≤ wr.heap.size := by have := HKX.out.size; have := HZ1.out; omega
    obtain ⟨k0, k1, k2, k3, k4, k5, k6⟩ := HCB.out.cells
    by_cases hlt : i < na
    · have hii : (i : Int) < (na : Int) := by omega
      have hiw : IntKind.u64.wrap (i : Int) = (i : Int) := by rw [IntKind.wrap_u64]; omega
      go_wp2_with (
        at_builtin
        refine wpList_append_lies _ rfl (.tmp 55) (.tmp 60) 23 rfl (C + 1) 56 iR (.agg #[.string ByteArray.empty, .int .u64 0]) 2 24 Tryz.underlying23 HR0.out HR1.out HR2.out HR3.out rfl (by decide) _ i ((alR x i).flatMap rdC) rfl (HROW.out.alloc _) ⟨wr.heap.size, 0, none⟩ 1 1 [.string x, .int .u64 (i : Int)] rfl rfl (World.news_of_block (MapKept.heap_alloc _ _).1) (by intro u hu; simp only [List.mem_cons, List.mem_nil_iff, or_false] at hu; rcases hu with rfl | rfl <;> rfl) (by decide) (by unfold maxLen; omega) (by omega) (by simp; omega) (wr.heap.size + 1) (by simp) ?goR
        intro g8 cp8 w8 hown8 hg8 hat8 hlt8
        obtain ⟨hc8, ⟨X, hX, hcX, hrX, hkX⟩, _⟩ := call_app (Nat.lt_succ_self C) HCB.out ((Below.refl _ _).alloc (Nat.le_refl _) _) hzr hg8 (fun k hk => own_above2 HROW.out k hk) hown8
        have e1 := hc8.cells.2.1; have f1 := hc8.frozen 1
        have HCX := Lib.hid hcX; have HRX := Lib.hid hrX; have HKX2 := Lib.hid (HKX.out.trans hkX)
        clear hown8 hg8 hat8 hlt8 hc8 hcX hrX hkX)
      go_roundw
      case rel => exact ⟨i + 1, _, _, by omega, by go_num, HCX, Lib.hid (by rw [alR_flat]; exact HRX.out), HKX2⟩
      case measure => simp [intOf]; omega
    obtain rfl : i = na := by omega
    have hii : ¬ (i : Int) < (i : Int) := by omega
    go_upto_region 11 with fail
    clear k0 k1 k2 k3 k4 k5 k6
    have HZR := Lib.hid hzr
    obtain ⟨W2, hW2⟩ : ∃ U, wr = U := ⟨_, rfl⟩
    subst wr
    clear hzr
    go_wp2_with fail
    go_loopw [17] (fun vj wr => ∃ (j : Nat) (a : Option Addr) (c : Nat), j ≤ ne ∧ vj = .int .i64 j ∧ Hid (CallB C (.slice ar i cr) (.slice a j c) wr) ∧ Hid (wr.ownsRow W2.heap.size 63 6 (.slice a j c) j ((alE x j).flatMap edC)) ∧ Hid (KX C W2.heap.size W2 wr)) (fun vj _ => ne - (intOf vj).toNat)
    case atStart => exact ⟨0, none, 0, Nat.zero_le _, rfl, HCB, Lib.hid (World.ownsRow_nil _ _ _ _), Lib.hid (KX.refl _ _ _)⟩
    case round =>
      obtain ⟨j, ae, ce, hj, rfl, HCE, HEO, HKE⟩ := hrel
      have hz2 : W2.heap.size ≤ wr.heap.size := HKE.out.size
      have hzC : C < W2.heap.size := HZR.out
      obtain ⟨k0, k1, k2, k3, k4, k5, k6⟩ := HCE.out.cells
      by_cases hlt2 : j < ne
      · have hji : (j : Int) < (ne : Int) := by omega
        obtain ⟨r3, hr3⟩ : ∃ r, j % 3 = r := ⟨_, rfl⟩
        obtain ⟨kd, hkd⟩ : ∃ q, 1 + r3 = q := ⟨_, rfl⟩
        have h3i : (j : Int) % 3 = (r3 : Int) := by omega
        have h3w : IntKind.u8.wrap (r3 : Int) = (r3 : Int) := by rw [IntKind.wrap_u8]; omega
        have hki : (1 : Int) + (r3 : Int) = (kd : Int) := by omega
        have hkw : IntKind.u8.wrap (kd : Int) = (kd : Int) := by rw [IntKind.wrap_u8]; omega
        have hiw : IntKind.u64.wrap (j : Int) = (j : Int) := by rw [IntKind.wrap_u64]; omega
        have HKD : Hid (1 + j % 3 = kd) := Lib.hid (by omega)
        clear hr3 hkd
        go_wp2_with (
          at_builtin
          refine wpList_append_lies _ rfl (.tmp 72) (.tmp 81) 24 rfl W2.heap.size 63 iE (.agg #[.int .u8 0, .string ByteArray.empty, .bool false, .int .u64 0, .int .u64 0, .string ByteArray.empty]) 6 64 Tryz.underlying24 HE0.out HE1.out HE2.out HE3.out rfl (by decide) _ j ((alE x j).flatMap edC) rfl (HEO.out.alloc _) ⟨wr.heap.size, 0, none⟩ 1 1 [.int .u8 (kd : Int), .string x, .bool true, .int .u64 0, .int .u64 (j : Int), .string ⟨#[]⟩] rfl rfl (World.news_of_block (MapKept.heap_alloc _ _).1) (by intro u hu; simp only [List.mem_cons, List.mem_nil_iff, or_false] at hu; rcases hu with rfl | rfl | rfl | rfl | rfl | rfl <;> rfl) (by decide) (by unfold maxLen; omega) (by omega) (by simp; omega) (wr.heap.size + 1) (by simp) ?goE
          intro g8 cp8 w8 hown8 hg8 hat8 hlt8
          obtain ⟨hc8, _, ⟨X, hX, hcX, hrX, hkX⟩⟩ := call_app hzC HCE.out ((Below.refl _ _).alloc (Nat.le_refl _) _) hz2 hg8 (fun k hk => own_above2 HEO.out k hk) hown8
          have e1 := hc8.cells.2.2.1; have f1 := hc8.frozen 2
          have HCX := Lib.hid hcX; have HRX := Lib.hid hrX; have HKX2 := Lib.hid (HKE.out.trans hkX)
          clear hown8 hg8 hat8 hlt8 hc8 hcX hrX hkX)
        go_roundw
        case rel => exact ⟨j + 1, _, _, by omega, by go_num, HCX, Lib.hid (by rw [alE_flat, HKD.out]; exact HRX.out), HKX2⟩
        case measure => simp [intOf]; omega
      obtain rfl : j = ne := by omega
      have hji : ¬ (j : Int) < (j : Int) := by omega
      have hbC : Below C W1 wr := (HKX.out.below (Nat.le_succ _) (Nat.le_refl _)).trans (HKE.out.below (by omega) (Nat.le_refl _))
      have hb2w : Below C w2 wr := HBW.out.trans hbC
      have HB3 : Hid (Below w.heap.size w wr) := Lib.hid (HB2.out.trans (hb2w.mono (by rw [← HCS.out]; exact HB2.out.size)))
      have HM3 : Hid (MapAt wr m ep sp) := Lib.hid (HM.out.below (by rw [HCS.out]; exact hb2w))
      have hIR : IsRds wr (.slice ar i cr) (alR x i) := IsL.own rdC_len (by decide) _ (by rw [alR_len]; exact row_kx HROW.out HKE.out (by omega))
      have hIE : IsEds wr (.slice ae j ce) (alE x j) := IsL.own edC_len (by decide) _ (by rw [alE_len]; exact HEO.out)
      have HAS := Lib.hid (asks_ops m ep sp O (alR x i) (alE x j) (.slice ar i cr) (.slice ae j ce) ⟨#[]⟩ 0 0 0 wr HM3.out (by have := HL.out; omega) HS.out (fun u => (HO.out u).2) hIR hIE (HMX.out _ HB3.out) (al_smallR (by omega)) (al_smallE (by omega)) (by rw [alR_len, alE_len]; omega) (by rw [alR_len, alE_len]; omega) (alR_ok HMAY.out i) (alE_ok HMAY.out j) (alE_short x j) (fun r hr => by obtain ⟨_, _, rfl⟩ := alR_mem hr; show x.size ≤ 100000; omega) (fun r hr => by obtain ⟨_, _, rfl⟩ := alE_mem hr; show x.size ≤ 100000; omega))
      have HIR := Lib.hid hIR; have HIE := Lib.hid hIE
      clear hbC hb2w hIR hIE
      go_upto_region 15 with fail
      go_wp2_with fail
      refine HAS.out.mono ?_
      rintro e w4 ⟨v4, ss, rfl, h1, h2, h3, hb4⟩
      rw [alR_len, alE_len] at h2 h3
      obtain rfl := al_one O x i j hne5.1 ss h1 h2
      have h4 : IsAsks w4 v4 [{ Ask.new (ownP O x) with reads := alR x i, readAt := List.range i, edits := alE x j, editAt := List.range j }] := by
        rw [← al_ask]; exact h3
      obtain ⟨own, hown⟩ : ∃ y, ownP O x = y := ⟨_, rfl⟩
      rw [hown] at h4
      obtain ⟨a3, c3, rfl, h5⟩ := h4
      obtain ⟨bL, oL, rfl, hbL, hcL⟩ := h5.resolve_left (by simp)
      obtain ⟨u1, u2, u3, u4, hc, i1, i2, i3, i4⟩ := hcL 0 Nat.zero_lt_one
      have i1 : IsRds w4 u1 (alR x i) := i1
      have i2 : IsIxs w4 u2 (List.range i) := i2
      have i3 : IsEds w4 u3 (alE x j) := i3
      have i4 : IsIxs w4 u4 (List.range j) := i4
      obtain ⟨e1, d1, he1⟩ := isl_shape i1
      obtain ⟨e2, d2, he2⟩ := isl_shape i2
      obtain ⟨e3, d3, he3⟩ := isl_shape i3
      obtain ⟨e4, d4, he4⟩ := isl_shape i4
      rw [alR_len] at he1; rw [List.length_range] at he2; rw [alE_len] at he3; rw [List.length_range] at he4
      subst u1 u2 u3 u4
      have HKC := Lib.hid (fun (U : World) (h : Below w4.heap.size w4 U) => show CallB C (.slice ar i cr) (.slice ae j ce) U ∧ IsRds U (.slice ar i cr) (alR x i) ∧ IsEds U (.slice ae j ce) (alE x j) ∧ (U.cell? ⟨bL, oL, none⟩ = some (.int .u32 (own : Int)) ∧ U.cell? ⟨bL, oL + 1, none⟩ = some (.slice e1 i d1) ∧ U.cell? ⟨bL, oL + 2, none⟩ = some (.slice e2 i d2) ∧ U.cell? ⟨bL, oL + 3, none⟩ = some (.slice e3 j d3) ∧ U.cell? ⟨bL, oL + 4, none⟩ = some (.slice e4 j d4) ∧ U.cell? ⟨bL, oL + 5, none⟩ = some (.bool false) ∧ U.cell? ⟨bL, oL + 7, none⟩ = some (.bool false) ∧ U.cell? ⟨bL, oL + 8, none⟩ = some (.bool false)) ∧ (IsRds U (.slice e1 i d1) (alR x i) ∧ IsIxs U (.slice e2 i d2) (List.range i) ∧ IsEds U (.slice e3 j d3) (alE x j) ∧ IsIxs U (.slice e4 j d4) (List.range j)) ∧ MapAt U m ep sp ∧ Below w.heap.size w U from by
        have hq := hb4.trans (h.mono hb4.size)
        have hk : ∀ q u, (askV { Ask.new own with reads := alR x i, readAt := List.range i, edits := alE x j, editAt := List.range j } (.slice e1 i d1) (.slice e2 i d2) (.slice e3 j d3) (.slice e4 j d4))[q]? = some u → U.cell? ⟨bL, oL + q, none⟩ = some u := fun q u hu => (h.cell (p := ⟨bL, oL + q, none⟩) hbL).trans (by have h := hc q u hu; rw [Nat.zero_mul, Nat.add_zero] at h; exact h)
        exact ⟨HCE.out.below (lt_of_block HCE.out) hq, HIR.out.below hq (Nat.le_refl _), HIE.out.below hq (Nat.le_refl _), ⟨hk 0 _ rfl, hk 1 _ rfl, hk 2 _ rfl, hk 3 _ rfl, hk 4 _ rfl, hk 5 _ rfl, hk 7 _ rfl, hk 8 _ rfl⟩, ⟨i1.below h (Nat.le_refl _), i2.below h (Nat.le_refl _), i3.below h (Nat.le_refl _), i4.below h (Nat.le_refl _)⟩, HM3.out.below hq, HB3.out.trans (hq.mono HB3.out.size)⟩)
      have HOF := Lib.hid (fun (U : World) (h : Below w4.heap.size w4 U) => map_Of m ep sp x (by omega) U ((HKC.out U h).2.2.2.2.2.1) (by have := HL.out; omega) O HS.out)
      rw [hown] at HOF
      clear h1 h2 h3 h5 hcL hc i1 i2 i3 i4 hown hbL hb4 HAS k0 k1 k2 k3 k4 k5 k6
      have HKF := Lib.hid (fun (U : World) (h : Below w4.heap.size w4 U) => show U.cell? ⟨bL, oL, none⟩ = some (.int .u32 (own : Int)) ∧ U.cell? ⟨bL, oL + 1, none⟩ = some (.slice e1 i d1) ∧ U.cell? ⟨bL, oL + 2, none⟩ = some (.slice e2 i d2) ∧ U.cell? ⟨bL, oL + 3, none⟩ = some (.slice e3 j d3) ∧ U.cell? ⟨bL, oL + 4, none⟩ = some (.slice e4 j d4) ∧ U.cell? ⟨bL, oL + 5, none⟩ = some (.bool false) ∧ U.cell? ⟨bL, oL + 7, none⟩ = some (.bool false) ∧ U.cell? ⟨bL, oL + 8, none⟩ = some (.bool false) ∧ U.cell? ⟨C, 1, none⟩ = some (.slice ar i cr) ∧ U.cell? ⟨C, 2, none⟩ = some (.slice ae j ce) from by
        obtain ⟨hcb, _, _, ⟨y0, y1, y2, y3, y4, y5, y7, y8⟩, _, _, _⟩ := HKC.out U h
        exact ⟨y0, y1, y2, y3, y4, y5, y7, y8, hcb.cells.2.1, hcb.cells.2.2.1⟩)
      go_upto_region 16 with fail
      refine wp_region_quiet (C := fun w' => Hid (Below w4.heap.size w4 w')) (by kernel_rfl) (by kernel_rfl) (Lib.hid (Below.drew (Below.refl _ _))) ?_
      -- REGION 16
      refine quiet_plain (by rfl) (Value.int .i64 0) (fun w' hw' => ?_) ?_
      · go_simp
      go_frame
      refine quiet_plain (by rfl) (Value.bool false) (fun w' hw' => ?_) ?_
      · go_simp
      go_frame
      refine quiet_plain (by rfl) (Value.bool false) (fun w' hw' => ?_) ?_
      · go_simp
      go_frame
      refine quiet_plain (by rfl) (Value.slice (some ⟨bL, oL, none⟩) 1 c3) (fun w' hw' => ?_) ?_
      · go_simp
      go_frame
      refine quiet_plain (by rfl) (Value.int .i64 1) (fun w' hw' => ?_) ?_
      · go_simp
      go_frame
      refine quiet_plain (by rfl) (Value.bool false) (fun w' hw' => ?_) ?_
      · go_simp
      go_frame
      refine quiet_plain (by rfl) (Value.bool false) (fun w' hw' => ?_) ?_
      · go_simp
      go_frame
      refine quiet_plain (by rfl) (Value.bool false) (fun w' hw' => ?_) ?_
      · go_simp
      go_frame
      refine quiet_plain (by rfl) (Value.slice (some ⟨bL, oL, none⟩) 1 c3) (fun w' hw' => ?_) ?_
      · go_simp
      go_frame
      refine quiet_plain (by rfl) (Value.pointer (some ⟨bL, oL, none⟩)) (fun w' hw' => ?_) ?_
      · go_simp
      go_frame
      refine quiet_plain (by rfl) (Value.pointer (some ⟨bL, oL, none⟩)) (fun w' hw' => ?_) ?_
      · go_simp
      go_frame
      refine quiet_plain (by rfl) (Value.int .u32 (own : Int)) (fun w' hw' => ?_) ?_
      · obtain ⟨y0, y1, y2, y3, y4, y5, y7, y8, k1, k2⟩ := HKF.out w' hw'.out
        go_simp
      go_frame
      refine quiet_plain (by rfl) (Value.pointer (some ⟨m, 0, none⟩)) (fun w' hw' => ?_) ?_
      · go_simp
      go_frame
      refine quiet_plain (by rfl) (Value.string x) (fun w' hw' => ?_) ?_
      · go_simp
      go_frame
      refine quiet_call (by rfl) (Value.int .u32 (own : Int)) 16 #[.pointer (some ⟨m, 0, none⟩), .string x] (fun w' hw' => ⟨?_, ?_⟩) ?_
      · go_simp
      · exact (HOF.out w' hw'.out).mono (fun e w6 ⟨he, hb⟩ => ⟨he, Lib.hid (hw'.out.trans (hb.mono hw'.out.size))⟩)
      go_frame
      refine quiet_plain (by rfl) (Value.bool false) (fun w' hw' => ?_) ?_
      · go_simp
      go_frame
      refine quiet_plain (by rfl) (Value.bool false) (fun w' hw' => ?_) ?_
      · go_simp
      go_frame
      refine quiet_plain (by rfl) (Value.bool false) (fun w' hw' => ?_) ?_
      · go_simp
      go_frame
      refine quiet_plain (by rfl) (Value.slice (some ⟨bL, oL, none⟩) 1 c3) (fun w' hw' => ?_) ?_
      · go_simp
      go_frame
      refine quiet_plain (by rfl) (Value.pointer (some ⟨bL, oL, none⟩)) (fun w' hw' => ?_) ?_
      · go_simp
      go_frame
      refine quiet_plain (by rfl) (Value.pointer (some ⟨bL, oL + 1, none⟩)) (fun w' hw' => ?_) ?_
      · go_simp
      go_frame
      refine quiet_plain (by rfl) (Value.slice e1 i d1) (fun w' hw' => ?_) ?_
      · obtain ⟨y0, y1, y2, y3, y4, y5, y7, y8, k1, k2⟩ := HKF.out w' hw'.out
        go_simp
      go_frame
      refine quiet_plain (by rfl) (Value.int .i64 (i : Int)) (fun w' hw' => ?_) ?_
      · go_simp
      go_frame
      refine quiet_plain (by rfl) (Value.pointer (some ⟨C, 1, none⟩)) (fun w' hw' => ?_) ?_
      · go_simp
      go_frame
      refine quiet_plain (by rfl) (Value.slice ar i cr) (fun w' hw' => ?_) ?_
      · obtain ⟨y0, y1, y2, y3, y4, y5, y7, y8, k1, k2⟩ := HKF.out w' hw'.out
        go_simp
      go_frame
      refine quiet_plain (by rfl) (Value.int .i64 (i : Int)) (fun w' hw' => ?_) ?_
      · go_simp
      go_frame
      refine quiet_plain (by rfl) (Value.bool false) (fun w' hw' => ?_) ?_
      · go_simp
      go_frame
      refine quiet_plain (by rfl) (Value.bool false) (fun w' hw' => ?_) ?_
      · go_simp
      go_frame
      refine quiet_plain (by rfl) (Value.bool false) (fun w' hw' => ?_) ?_
      · go_simp
      go_frame
      refine quiet_plain (by rfl) (Value.slice (some ⟨bL, oL, none⟩) 1 c3) (fun w' hw' => ?_) ?_
      · go_simp
      go_frame
      refine quiet_plain (by rfl) (Value.pointer (some ⟨bL, oL, none⟩)) (fun w' hw' => ?_) ?_
      · go_simp
      go_frame
      refine quiet_plain (by rfl) (Value.pointer (some ⟨bL, oL + 3, none⟩)) (fun w' hw' => ?_) ?_
      · go_simp
      go_frame
      refine quiet_plain (by rfl) (Value.slice e3 j d3) (fun w' hw' => ?_) ?_
      · obtain ⟨y0, y1, y2, y3, y4, y5, y7, y8, k1, k2⟩ := HKF.out w' hw'.out
        go_simp
      go_frame
      refine quiet_plain (by rfl) (Value.int .i64 (j : Int)) (fun w' hw' => ?_) ?_
      · go_simp
      go_frame
      refine quiet_plain (by rfl) (Value.pointer (some ⟨C, 2, none⟩)) (fun w' hw' => ?_) ?_
      · go_simp
      go_frame
      refine quiet_plain (by rfl) (Value.slice ae j ce) (fun w' hw' => ?_) ?_
      · obtain ⟨y0, y1, y2, y3, y4, y5, y7, y8, k1, k2⟩ := HKF.out w' hw'.out
        go_simp
      go_frame
      refine quiet_plain (by rfl) (Value.int .i64 (j : Int)) (fun w' hw' => ?_) ?_
      · go_simp
      go_frame
      refine quiet_plain (by rfl) (Value.bool false) (fun w' hw' => ?_) ?_
      · go_simp
      go_frame
      refine quiet_plain (by rfl) (Value.bool false) (fun w' hw' => ?_) ?_
      · go_simp
      go_frame
      refine quiet_plain (by rfl) (Value.bool false) (fun w' hw' => ?_) ?_
      · go_simp
      go_frame
      refine quiet_plain (by rfl) (Value.slice (some ⟨bL, oL, none⟩) 1 c3) (fun w' hw' => ?_) ?_
      · go_simp
      go_frame
      refine quiet_plain (by rfl) (Value.pointer (some ⟨bL, oL, none⟩)) (fun w' hw' => ?_) ?_
      · go_simp
      go_frame
      refine quiet_plain (by rfl) (Value.pointer (some ⟨bL, oL + 2, none⟩)) (fun w' hw' => ?_) ?_
      · go_simp
      go_frame
      refine quiet_plain (by rfl) (Value.slice e2 i d2) (fun w' hw' => ?_) ?_
      · obtain ⟨y0, y1, y2, y3, y4, y5, y7, y8, k1, k2⟩ := HKF.out w' hw'.out
        go_simp
      go_frame
      refine quiet_plain (by rfl) (Value.int .i64 (i : Int)) (fun w' hw' => ?_) ?_
      · go_simp
      go_frame
      refine quiet_plain (by rfl) (Value.pointer (some ⟨C, 1, none⟩)) (fun w' hw' => ?_) ?_
      · go_simp
      go_frame
      refine quiet_plain (by rfl) (Value.slice ar i cr) (fun w' hw' => ?_) ?_
      · obtain ⟨y0, y1, y2, y3, y4, y5, y7, y8, k1, k2⟩ := HKF.out w' hw'.out
        go_simp
      go_frame
      refine quiet_plain (by rfl) (Value.int .i64 (i : Int)) (fun w' hw' => ?_) ?_
      · go_simp
      go_frame
      refine quiet_plain (by rfl) (Value.bool false) (fun w' hw' => ?_) ?_
      · go_simp
      go_frame
      refine quiet_plain (by rfl) (Value.bool false) (fun w' hw' => ?_) ?_
      · go_simp
      go_frame
      refine quiet_plain (by rfl) (Value.bool false) (fun w' hw' => ?_) ?_
      · go_simp
      go_frame
      refine quiet_plain (by rfl) (Value.slice (some ⟨bL, oL, none⟩) 1 c3) (fun w' hw' => ?_) ?_
      · go_simp
      go_frame
      refine quiet_plain (by rfl) (Value.pointer (some ⟨bL, oL, none⟩)) (fun w' hw' => ?_) ?_
      · go_simp
      go_frame
      refine quiet_plain (by rfl) (Value.pointer (some ⟨bL, oL + 4, none⟩)) (fun w' hw' => ?_) ?_
      · go_simp
      go_frame
      refine quiet_plain (by rfl) (Value.slice e4 j d4) (fun w' hw' => ?_) ?_
      · obtain ⟨y0, y1, y2, y3, y4, y5, y7, y8, k1, k2⟩ := HKF.out w' hw'.out
        go_simp
      go_frame
      refine quiet_plain (by rfl) (Value.int .i64 (j : Int)) (fun w' hw' => ?_) ?_
      · go_simp
      go_frame
      refine quiet_plain (by rfl) (Value.pointer (some ⟨C, 2, none⟩)) (fun w' hw' => ?_) ?_
      · go_simp
      go_frame
      refine quiet_plain (by rfl) (Value.slice ae j ce) (fun w' hw' => ?_) ?_
      · obtain ⟨y0, y1, y2, y3, y4, y5, y7, y8, k1, k2⟩ := HKF.out w' hw'.out
        go_simp
      go_frame
      refine quiet_plain (by rfl) (Value.int .i64 (j : Int)) (fun w' hw' => ?_) ?_
      · go_simp
      go_frame
      refine quiet_plain (by rfl) (Value.bool false) (fun w' hw' => ?_) ?_
      · go_simp
      go_frame
      refine quiet_plain (by rfl) (Value.bool false) (fun w' hw' => ?_) ?_
      · go_simp
      go_frame
      refine quiet_plain (by rfl) (Value.bool false) (fun w' hw' => ?_) ?_
      · go_simp
      go_frame
      refine quiet_plain (by rfl) (Value.slice (some ⟨bL, oL, none⟩) 1 c3) (fun w' hw' => ?_) ?_
      · go_simp
      go_frame
      refine quiet_plain (by rfl) (Value.pointer (some ⟨bL, oL, none⟩)) (fun w' hw' => ?_) ?_
      · go_simp
      go_frame
      refine quiet_plain (by rfl) (Value.pointer (some ⟨bL, oL + 5, none⟩)) (fun w' hw' => ?_) ?_
      · go_simp
      go_frame
      refine quiet_plain (by rfl) (Value.bool false) (fun w' hw' => ?_) ?_
      · obtain ⟨y0, y1, y2, y3, y4, y5, y7, y8, k1, k2⟩ := HKF.out w' hw'.out
        go_simp
      go_frame
      refine quiet_plain (by rfl) (Value.bool false) (fun w' hw' => ?_) ?_
      · go_simp
      go_frame
      refine quiet_plain (by rfl) (Value.bool false) (fun w' hw' => ?_) ?_
      · go_simp
      go_frame
      refine quiet_plain (by rfl) (Value.slice (some ⟨bL, oL, none⟩) 1 c3) (fun w' hw' => ?_) ?_
      · go_simp
      go_frame
      refine quiet_plain (by rfl) (Value.pointer (some ⟨bL, oL, none⟩)) (fun w' hw' => ?_) ?_
      · go_simp
      go_frame
      refine quiet_plain (by rfl) (Value.pointer (some ⟨bL, oL + 7, none⟩)) (fun w' hw' => ?_) ?_
      · go_simp
      go_frame
      refine quiet_plain (by rfl) (Value.bool false) (fun w' hw' => ?_) ?_
      · obtain ⟨y0, y1, y2, y3, y4, y5, y7, y8, k1, k2⟩ := HKF.out w' hw'.out
        go_simp
      go_frame
      refine quiet_plain (by rfl) (Value.bool false) (fun w' hw' => ?_) ?_
      · go_simp
      go_frame
      refine quiet_plain (by rfl) (Value.bool false) (fun w' hw' => ?_) ?_
      · go_simp
      go_frame
      refine quiet_plain (by rfl) (Value.slice (some ⟨bL, oL, none⟩) 1 c3) (fun w' hw' => ?_) ?_
      · go_simp
      go_frame
      refine quiet_plain (by rfl) (Value.pointer (some ⟨bL, oL, none⟩)) (fun w' hw' => ?_) ?_
      · go_simp
      go_frame
      refine quiet_plain (by rfl) (Value.pointer (some ⟨bL, oL + 8, none⟩)) (fun w' hw' => ?_) ?_
      · go_simp
      go_frame
      refine quiet_plain (by rfl) (Value.bool false) (fun w' hw' => ?_) ?_
      · obtain ⟨y0, y1, y2, y3, y4, y5, y7, y8, k1, k2⟩ := HKF.out w' hw'.out
        go_simp
      go_frame
      refine quiet_plain (by rfl) (Value.bool false) (fun w' hw' => ?_) ?_
      · go_simp
      go_frame
      -- END 16
      refine wpQuiet_nil ?_
      intro w5 hW5
      have hb5 : Below w4.heap.size w4 w5 := hW5.out
      clear hW5 HKF
      have HK5 := Lib.hid (fun (U : World) (h : Below w5.heap.size w5 U) => HKC.out U (hb5.trans (h.mono hb5.size)))
      clear hb5 HKC HOF
      obtain ⟨hcb, _, _, ⟨y0, y1, y2, y3, y4, y5, y7, y8⟩, _, _, _⟩ := HK5.out w5 (Below.refl _ _)
      obtain ⟨k0, k1, k2, k3, k4, k5, k6⟩ := hcb.cells
      clear hcb
      go_wp2_with fail
      go_loopw [20] (fun vi wr => ∃ k : Nat, k ≤ i ∧ vi = .int .i64 k ∧ Hid (Below w5.heap.size w5 wr)) (fun vi _ => i - (intOf vi).toNat)
      case atStart => exact ⟨0, Nat.zero_le _, rfl, Lib.hid (Below.refl _ _)⟩
      case round =>
        clear k0 k1 k2 k3 k4 k5 k6 y0 y1 y2 y3 y4 y5 y7 y8
        obtain ⟨k, hk, rfl, HBr⟩ := hrel
        obtain ⟨hcb, hIR, _, ⟨y0, y1, y2, y3, y4, y5, y7, y8⟩, ⟨q1, q2, _, _⟩, _, _⟩ := HK5.out wr HBr.out
        obtain ⟨k0, k1, k2, k3, k4, k5, k6⟩ := hcb.cells
        clear hcb
        by_cases hltk : k < i
        · have hki : (k : Int) < (i : Int) := by omega
          obtain ⟨bR, oR, rfl, r0⟩ := isl_at hIR (j := k) (by rw [alR_len]; exact hltk)
          obtain ⟨b1, o1, rfl, s0⟩ := isl_at q1 (j := k) (by rw [alR_len]; exact hltk)
          obtain ⟨b2, o2, rfl, t0⟩ := isl_at q2 (j := k) (by rw [List.length_range]; exact hltk)
          rw [alR_at hltk] at r0 s0
          have r1 : wr.cell? ⟨bR, oR + k * 2, none⟩ = some (.string x) := r0 0 _ rfl
          have r2 : wr.cell? ⟨bR, oR + k * 2 + 1, none⟩ = some (.int .u64 (k : Int)) := r0 1 _ rfl
          have s1 : wr.cell? ⟨b1, o1 + k * 2, none⟩ = some (.string x) := s0 0 _ rfl
          have s2 : wr.cell? ⟨b1, o1 + k * 2 + 1, none⟩ = some (.int .u64 (k : Int)) := s0 1 _ rfl
          have t1 : wr.cell? ⟨b2, o2 + k, none⟩ = some (.int .i64 (k : Int)) := by
            have h := t0 0 (.int .i64 (k : Int)) (by rw [show (List.range i).getD k 0 = k by simp [List.getD_eq_getElem?_getD, hltk]]; rfl)
            rw [Nat.mul_one, Nat.add_zero] at h; exact h
          clear r0 s0 t0 hIR q1 q2
          go_wp2_with fail
          go_quiet (fail)
          go_wp2_with fail
          go_roundw
          case rel => exact ⟨k + 1, by omega, by go_num, Lib.hid (below_dr HBr.out _)⟩
          case measure => simp [intOf]; omega
        have hki : ¬ (k : Int) < (i : Int) := by omega
        clear hIR q1 q2
        go_wp2_with fail
        clear k0 k1 k2 k3 k4 k5 k6 y0 y1 y2 y3 y4 y5 y7 y8
        go_loopw [21] (fun vi wr => ∃ k : Nat, k ≤ j ∧ vi = .int .i64 k ∧ Hid (Below w5.heap.size w5 wr)) (fun vi _ => j - (intOf vi).toNat)
        case atStart => exact ⟨0, Nat.zero_le _, rfl, HBr⟩
        case round =>
          clear HBr
          obtain ⟨k, hk, rfl, HBr⟩ := hrel
          obtain ⟨hcb, _, hIE, ⟨y0, y1, y2, y3, y4, y5, y7, y8⟩, ⟨_, _, q3, q4⟩, _, hbE⟩ := HK5.out wr HBr.out
          obtain ⟨k0, k1, k2, k3, k4, k5, k6⟩ := hcb.cells
          have HBE := Lib.hid hbE
          clear hcb hbE
          by_cases hltk : k < j
          · have hki : (k : Int) < (j : Int) := by omega
            obtain ⟨bR, oR, rfl, r0⟩ := isl_at hIE (j := k) (by rw [alE_len]; exact hltk)
            obtain ⟨b1, o1, rfl, s0⟩ := isl_at q3 (j := k) (by rw [alE_len]; exact hltk)
            obtain ⟨b2, o2, rfl, t0⟩ := isl_at q4 (j := k) (by rw [List.length_range]; exact hltk)
            rw [alE_at hltk] at r0 s0
            obtain ⟨kd, hkd⟩ : ∃ q, 1 + k % 3 = q := ⟨_, rfl⟩
            rw [hkd] at r0 s0
            have r1 : wr.cell? ⟨bR, oR + k * 6, none⟩ = some (.int .u8 (kd : Int)) := r0 0 _ rfl
            have r2 : wr.cell? ⟨bR, oR + k * 6 + 1, none⟩ = some (.string x) := r0 1 _ rfl
            have r3 : wr.cell? ⟨bR, oR + k * 6 + 2, none⟩ = some (.bool true) := r0 2 _ rfl
            have r4 : wr.cell? ⟨bR, oR + k * 6 + 3, none⟩ = some (.int .u64 0) := r0 3 _ rfl
            have r5 : wr.cell? ⟨bR, oR + k * 6 + 4, none⟩ = some (.int .u64 (k : Int)) := r0 4 _ rfl
            have r6 : wr.cell? ⟨bR, oR + k * 6 + 5, none⟩ = some (.string ⟨#[]⟩) := r0 5 _ rfl
            have s1 : wr.cell? ⟨b1, o1 + k * 6, none⟩ = some (.int .u8 (kd : Int)) := s0 0 _ rfl
            have s2 : wr.cell? ⟨b1, o1 + k * 6 + 1, none⟩ = some (.string x) := s0 1 _ rfl
            have s3 : wr.cell? ⟨b1, o1 + k * 6 + 2, none⟩ = some (.bool true) := s0 2 _ rfl
            have s4 : wr.cell? ⟨b1, o1 + k * 6 + 3, none⟩ = some (.int .u64 0) := s0 3 _ rfl
            have s5 : wr.cell? ⟨b1, o1 + k * 6 + 4, none⟩ = some (.int .u64 (k : Int)) := s0 4 _ rfl
            have s6 : wr.cell? ⟨b1, o1 + k * 6 + 5, none⟩ = some (.string ⟨#[]⟩) := s0 5 _ rfl
            have t1 : wr.cell? ⟨b2, o2 + k, none⟩ = some (.int .i64 (k : Int)) := by
              have h := t0 0 (.int .i64 (k : Int)) (by rw [show (List.range j).getD k 0 = k by simp [List.getD_eq_getElem?_getD, hltk]]; rfl)
              rw [Nat.mul_one, Nat.add_zero] at h; exact h
            clear r0 s0 t0 hIE q3 q4 hkd
            go_wp2_with fail
            go_quiet (fail)
            go_wp2_with fail
            go_roundw
            case rel => exact ⟨k + 1, by omega, by go_num, Lib.hid (below_dr HBr.out _)⟩
            case measure => simp [intOf]; omega
          have hki : ¬ (k : Int) < (j : Int) := by omega
          clear hIE q3 q4
          go_wp2_with fail
          refine (HWK.out _ HBE.out).mono ?_
          rintro e w7 ⟨rfl, hb7⟩
          have HB7 := Lib.hid (HBE.out.trans (hb7.mono HBE.out.size))
          clear hb7
          go_wp2_with fail
          go_ret
          exact ⟨rfl, HB7.out⟩
end Go.Proofs.YthcmcjoenepkbaaGreatDoor
