/- Law 28: PlanMoves' walk. -/
import Derived.Test.YthcmcjoenepkbaaGreatDoorR27c
import Derived.Test.YthcmcjoenepkbaaGreatDoorWk28
import Derived.Test.YthcmcjoenepkbaaGreatDoorPlX
import Derived.Deep.RegionLaw
namespace Go.Proofs.YthcmcjoenepkbaaGreatDoor
open Go Go.RowKit Go.Maps

theorem stk_snoc {l : List ByteArray} {i : Nat} (h : i < l.length) : l.take (i + 1) = l.take i ++ [l.getD i ByteArray.empty] := by
  rw [List.take_succ_eq_append_getElem h, List.getD_eq_getElem?_getD, List.getElem?_eq_getElem h]; rfl
theorem filt_yes {P : ByteArray → Bool} {l : List ByteArray} {i : Nat} (h : i < l.length) (hp : P (l.getD i ByteArray.empty) = true) : ((l.take (i + 1)).filter P).length = ((l.take i).filter P).length + 1 := by
  rw [stk_snoc h, List.filter_append, List.filter_cons_of_pos hp, List.length_append]; rfl
theorem filt_no {P : ByteArray → Bool} {l : List ByteArray} {i : Nat} (h : i < l.length) (hp : P (l.getD i ByteArray.empty) = false) : ((l.take (i + 1)).filter P).length = ((l.take i).filter P).length := by
  rw [stk_snoc h, List.filter_append, List.filter_cons_of_neg (by rw [hp]; exact Bool.false_ne_true), List.filter_nil, List.append_nil]
theorem filt_at {P : ByteArray → Bool} {l : List ByteArray} {i : Nat} (h : i < l.length) (hp : P (l.getD i ByteArray.empty) = true) : ((l.take i).filter P).length < (l.filter P).length ∧ (l.filter P).getD ((l.take i).filter P).length ByteArray.empty = l.getD i ByteArray.empty := by
  have e : l.filter P = (l.take i).filter P ++ (l.getD i ByteArray.empty :: (l.drop (i + 1)).filter P) := by
    conv => lhs; rw [← List.take_append_drop (i + 1) l]
    rw [stk_snoc h, List.filter_append, List.filter_append, List.filter_cons_of_pos hp, List.filter_nil, List.append_assoc]; rfl
  constructor
  · rw [e, List.length_append, List.length_cons]; omega
  · rw [e, List.getD_eq_getElem?_getD, List.getElem?_append_right (Nat.le_refl _), Nat.sub_self]; rfl
theorem filt_all {P : ByteArray → Bool} {l : List ByteArray} {i : Nat} (h : l.length ≤ i) : (l.take i).filter P = l.filter P := by rw [List.take_of_length_le h]
/-- Which paths have another owner. -/
theorem moved_iff {O : Nat → Nat} {f t tw : Nat} (h : FitO O f t tw) (p : ByteArray) : (ownP O p = ownP (splitO O f t tw) p) ↔ inRg f t p = false := by
  unfold ownP inRg
  obtain ⟨u, hu⟩ : ∃ u, Sh.hash (nb p) = u := ⟨_, rfl⟩
  rw [hu]
  by_cases c : f ≤ u ∧ u ≤ t
  · rw [splitO_in c, h.1 u c.1 c.2, decide_eq_true c.1, decide_eq_true c.2]
    exact ⟨fun e => absurd e h.2, fun e => by cases e⟩
  · rw [splitO_out c]
    refine ⟨fun _ => ?_, fun _ => rfl⟩
    by_cases c1 : f ≤ u
    · rw [decide_eq_true c1, decide_eq_false (fun c2 => c ⟨c1, c2⟩)]; rfl
    · rw [decide_eq_false c1]; rfl
/-- The sizes' sum. -/
def szS (l : List ByteArray) (k : Nat) : Nat := ((l.take k).map ByteArray.size).sum
theorem szS_succ {l : List ByteArray} {k : Nat} (h : k < l.length) : szS l (k + 1) = szS l k + (l.getD k ByteArray.empty).size := by
  unfold szS; rw [stk_snoc h, List.map_append, List.sum_append]; simp
theorem szS_le {l : List ByteArray} (B : Nat) (hB : ∀ i, i < l.length → (l.getD i ByteArray.empty).size ≤ B) : ∀ k, k ≤ l.length → szS l k ≤ k * B
  | 0, _ => by simp [szS]
  | k + 1, h => by
    rw [szS_succ (by omega), Nat.succ_mul]
    have := szS_le B hB k (by omega); have := hB k (by omega); omega
theorem size_le_szS {l : List ByteArray} : ∀ k, k ≤ l.length → ∀ i, i < k → (l.getD i ByteArray.empty).size ≤ szS l k
  | 0, _, i, hi => by omega
  | k + 1, h, i, hi => by
    rw [szS_succ (by omega)]
    by_cases c : i = k
    · subst c; omega
    · have := size_le_szS (l := l) k (by omega) i (by omega); omega
theorem mem_size {l : List ByteArray} {B : Nat} (h : szS l l.length ≤ B) : ∀ s ∈ l, s.size ≤ B := fun s hs => by
  obtain ⟨i, hi, rfl⟩ := List.mem_iff_getElem.1 hs
  have := size_le_szS l.length (Nat.le_refl _) i hi
  rw [List.getD_eq_getElem?_getD, List.getElem?_eq_getElem hi] at this
  exact Nat.le_trans this h
theorem nas_at {w : World} {a : Option Addr} {n c j : Nat} {l : List ByteArray} (h : IsNas w (.slice a n c) l) (hj : j < l.length) : ∃ b off, a = some ⟨b, off, none⟩ ∧ w.cell? ⟨b, off + j, none⟩ = some (.string (l.getD j ByteArray.empty)) := by
  obtain ⟨a', c', he, h⟩ := h
  cases he
  obtain ⟨b, off, rfl, _, hc⟩ := h.resolve_left (fun h => by rw [h] at hj; simp at hj)
  have hx := hc j hj 0 _ rfl
  rw [Nat.mul_one, Nat.add_zero] at hx
  exact ⟨b, off, rfl, hx⟩

set_option maxRecDepth 100000 in
set_option maxHeartbeats 4000000 in
theorem law28_moves (p s f t tw : Nat) (a : Option Addr) (N cp : Nat) (l : List ByteArray) (hp : p < 256) (hs : s < 256) (ht : t < M64) (hN : l.length = N) (w : World) (hv : IsNas w (.slice a N cp) l) (hsz : ∀ i, i < l.length → (l.getD i ByteArray.empty).size ≤ 140737488351232) (hm : MX w) :
    Calls Tryz.prog 6 #[.int .u8 (p : Int), .int .u8 (s : Int), .agg #[.int .u64 (f : Int), .int .u64 (t : Int)], .int .u32 (tw : Int), .slice a N cp] w fun e w' => e = .returned (.bool true) ∧ Below w.heap.size w w' := by
  have HWK := Lib.hid (fun (w' : World) (h : Below w.heap.size w w') => law28_works w' (hm.below h (Nat.le_refl _)))
  have HV := Lib.hid (fun (w' : World) (h : Below w.heap.size w w') => hv.below h (Nat.le_refl _))
  have HN := Lib.hid hN; have HSZ := Lib.hid hsz
  obtain ⟨W0, hW0⟩ : ∃ W0, w.alloc (.cells #[.int .u64 (f : Int), .int .u64 (t : Int)] 27) = W0 := ⟨_, rfl⟩
  obtain ⟨hz0, hg0, hb0⟩ := alloc_keep hW0
  obtain ⟨X, hX⟩ : ∃ X, w.heap.size = X := ⟨_, rfl⟩
  have HRG := Lib.hid (fun (w' : World) (h : Below W0.heap.size W0 w') => show w'.cell? ⟨X, 0, none⟩ = some (.int .u64 (f : Int)) ∧ w'.cell? ⟨X, 1, none⟩ = some (.int .u64 (t : Int)) from by
    have h2 := (h.block _ (Array.getElem?_eq_some_iff.1 hg0).1).trans hg0
    rw [hX] at h2
    exact ⟨cell_of h2 0, cell_of h2 1⟩)
  have HB0 := Lib.hid hb0; have HZ0 := Lib.hid hz0; have HX := Lib.hid hX
  clear hm hv hN hsz hz0 hg0 hb0
  go_enter Tryz.func6, Tryz.ntmps6
  go_upto_region 1 with fail
  clear hW0 hX
  by_cases h40 : 40 < N
  · have h40i : (40 : Int) < (N : Int) := by omega
    go_wp2_with fail
    refine (HWK.out _ HB0.out).mono ?_
    rintro e w1 ⟨rfl, hb1⟩
    have HB1 := Lib.hid (HB0.out.trans (hb1.mono HB0.out.size))
    clear hb1
    go_wp2_with fail
    go_ret
    exact ⟨rfl, HB1.out⟩
  have h40i : ¬ (40 : Int) < (N : Int) := by omega
  go_wp2_with fail
  go_loopw [11, 12] (fun vn vi wr => ∃ k : Nat, k ≤ N ∧ vi = .int .i64 k ∧ vn = .int .i64 (szS l k : Nat) ∧ wr = W0) (fun _ vi _ => N - (intOf vi).toNat)
  case atStart => exact ⟨0, Nat.zero_le _, rfl, rfl, rfl⟩
  case round =>
    obtain ⟨k, hk, rfl, rfl, rfl⟩ := hrel
    by_cases hlt : k < N
    · have hkl : k < l.length := by rw [HN.out]; exact hlt
      have hkN : (k : Int) < (N : Int) := by omega
      have hcc := HV.out _ HB0.out
      obtain ⟨a', cp', he, hcc⟩ := hcc
      obtain ⟨b, off, rfl, hbl, hcc⟩ := hcc.resolve_left (fun h => by rw [h] at hkl; simp at hkl)
      cases he
      have hx := hcc k hkl 0 _ rfl
      rw [Nat.mul_one, Nat.add_zero] at hx
      have hz := HSZ.out k hkl
      have hsum := szS_succ hkl
      have hbd := szS_le 140737488351232 HSZ.out k (by omega)
      obtain ⟨S, hS⟩ : ∃ S, szS l k = S := ⟨_, rfl⟩
      obtain ⟨S', hS'⟩ : ∃ S', szS l (k + 1) = S' := ⟨_, rfl⟩
      obtain ⟨x, hxx⟩ : ∃ x, l.getD k ByteArray.empty = x := ⟨_, rfl⟩
      rw [hS, hS', hxx] at hsum
      rw [hS] at hbd ⊢
      rw [hxx] at hx hz
      have HS' := Lib.hid hS'; have HSUM := Lib.hid hsum
      have hwr : IntKind.i64.wrap ((S : Int) + (x.size : Int)) = ((S' : Nat) : Int) := by rw [IntKind.wrap_i64]; omega
      clear hcc hS hS' hxx hsum
      go_wp2_with fail
      go_roundw
      case rel => exact ⟨k + 1, by omega, by go_num, by rw [HS'.out], by first | rfl | trivial⟩
      case measure => simp [intOf]; omega
    obtain rfl : k = N := by omega
    have hkN : ¬ (k : Int) < (k : Int) := by omega
    obtain ⟨S, hS⟩ : ∃ S, szS l k = S := ⟨_, rfl⟩
    rw [hS]
    have HS := Lib.hid hS
    have HWD := Lib.hid (law28_world p s hp hs wr)
    clear hS
    go_wp2_with fail
    refine HWD.out.mono ?_
    rintro e w1 ⟨m, r, sp, rfl, _, hD, hSp, hl, hb1⟩
    have HB1 := Lib.hid (HB0.out.trans (hb1.mono HB0.out.size))
    have HRG1 := Lib.hid (fun (w' : World) (h : Below w1.heap.size w1 w') => HRG.out w' (hb1.trans (h.mono hb1.size)))
    have HD := Lib.hid hD; have HSP := Lib.hid hSp; have HL := Lib.hid hl
    clear hD hSp hl hb1 HWD
    by_cases h2k : 2000 < S
    · have h2i : (2000 : Int) < (S : Int) := by omega
      go_wp2_with fail
      refine (HWK.out _ HB1.out).mono ?_
      rintro e w2 ⟨rfl, hb2⟩
      have HB2 := Lib.hid (HB1.out.trans (hb2.mono HB1.out.size))
      clear hb2
      go_wp2_with fail
      go_ret
      exact ⟨rfl, HB2.out⟩
    have h2i : ¬ (2000 : Int) < (S : Int) := by omega
    have hms : ∀ x ∈ l, x.size ≤ 100000 := fun x hx => Nat.le_trans (mem_size (B := 2000) (by rw [HN.out, HS.out]; omega) x hx) (by omega)
    have HMS := Lib.hid hms
    have HMA := Lib.hid (fun (w' : World) (h : Below w1.heap.size w1 w') => plan_moves f t l (.slice a k cp) w' (HV.out _ (HB1.out.trans (h.mono HB1.out.size))) (by rw [HN.out]; omega) hms)
    have HMB := Lib.hid (fun (w' : World) (h : Below w1.heap.size w1 w') => ref28_moves f t l (.slice a k cp) w' (HV.out _ (HB1.out.trans (h.mono HB1.out.size))) (by rw [HN.out]; omega) hms)
    clear hms
    go_upto_region 13 with fail
    go_cut [15, 16] (fun va vb wx => Hid (IsNas wx va (l.filter (inRg f t))) ∧ Hid (IsNas wx vb (l.filter (inRg f t))) ∧ Hid (Below w1.heap.size w1 wx))
    case first =>
      obtain ⟨y0, y1⟩ := HRG1.out w1 (Below.refl _ _)
      have keepS : Hid (∀ w', Below w1.heap.size w1 w' → w'.cell? ⟨X, 0, none⟩ = some (.int .u64 (f : Int)) ∧ w'.cell? ⟨X, 1, none⟩ = some (.int .u64 (t : Int)) ∧ Hid (Below w1.heap.size w1 w')) := Lib.hid (fun w' h => ⟨(HRG1.out w' h).1, (HRG1.out w' h).2, Lib.hid h⟩)
      have keepB : Hid (∀ w' : World, (w'.cell? ⟨X, 0, none⟩ = some (.int .u64 (f : Int)) ∧ w'.cell? ⟨X, 1, none⟩ = some (.int .u64 (t : Int)) ∧ Hid (Below w1.heap.size w1 w')) → Below w1.heap.size w1 w') := Lib.hid (fun w' h => h.2.2.out)
      go_region_held3 (fun w' => w'.cell? ⟨X, 0, none⟩ = some (.int .u64 (f : Int)) ∧ w'.cell? ⟨X, 1, none⟩ = some (.int .u64 (t : Int)) ∧ Hid (Below w1.heap.size w1 w'))
        (first
          | exact keepS.out _ HBc.out
          | exact keepS.out _ (Below.drew (Below.refl _ _)))
        (first
          | (go_at_call 20; refine (HMA.out _ (keepB.out _ (by assumption))).mono ?_; rintro e w6 ⟨ua, rfl, hN6, hb6⟩; (first | (have HNB2 := Lib.hid (HNB.out.below hb6 (Nat.le_refl _))) | skip); have HNA := Lib.hid hN6; have HBc := Lib.hid ((keepB.out _ (by assumption)).trans (hb6.mono (keepB.out _ (by assumption)).size)); clear hN6 hb6)
          | (go_at_call 21; refine (HMB.out _ (keepB.out _ (by assumption))).mono ?_; rintro e w7 ⟨ub, rfl, hN7, hb7⟩; (first | (have HNA2 := Lib.hid (HNA.out.below hb7 (Nat.le_refl _))) | skip); have HNB := Lib.hid hN7; have HBc := Lib.hid ((keepB.out _ (by assumption)).trans (hb7.mono (keepB.out _ (by assumption)).size)); clear hN7 hb7))
      all_goals (
        go_wp2_with fail
        go_meet
        case rel => first | exact ⟨HNA, HNB2, HBc⟩ | exact ⟨HNA2, HNB, HBc⟩)
    case rest =>
      obtain ⟨HFA, HFB, HBC⟩ := hcut
      obtain ⟨a1, c1, rfl, h1⟩ := id HFA.out
      obtain ⟨a2, c2, rfl, h2⟩ := id HFB.out
      obtain ⟨F, hF⟩ : ∃ F, l.filter (inRg f t) = F := ⟨_, rfl⟩
      have hFl : F.length ≤ k := by rw [← hF, ← HN.out]; exact List.length_filter_le _ _
      rw [hF] at HFA HFB h1 h2 ⊢
      obtain ⟨nF, hnF⟩ : ∃ nF, F.length = nF := ⟨_, rfl⟩
      rw [hnF] at HFA HFB hFl ⊢
      have HF := Lib.hid hF; have HNF := Lib.hid hnF; have HFL := Lib.hid hFl
      have HBC0 := Lib.hid (HB1.out.trans (HBC.out.mono HB1.out.size))
      clear h1 h2 hF hnF HMA HMB
      go_wp2_with fail
      go_loopw [17] (fun vi wr2 => ∃ j : Nat, j ≤ nF ∧ vi = .int .i64 j ∧ Hid (Below wc.heap.size wc wr2)) (fun vi _ => nF - (intOf vi).toNat)
      case atStart => exact ⟨0, Nat.zero_le _, rfl, Lib.hid (Below.refl _ _)⟩
      case round =>
        obtain ⟨j, hj, rfl, HBr⟩ := hrel
        by_cases hlt : j < nF
        · have hji : (j : Int) < (nF : Int) := by omega
          obtain ⟨b1, o1, rfl, y1⟩ := nas_at (HFA.out.below HBr.out (Nat.le_refl _)) (by rw [HNF.out]; exact hlt)
          obtain ⟨b2, o2, rfl, y2⟩ := nas_at (HFB.out.below HBr.out (Nat.le_refl _)) (by rw [HNF.out]; exact hlt)
          obtain ⟨z, hz⟩ : ∃ z, F.getD j ByteArray.empty = z := ⟨_, rfl⟩
          rw [hz] at y1 y2
          clear hz
          go_wp2_with fail
          go_quiet (fail)
          go_wp2_with fail
          go_roundw
          case rel => exact ⟨j + 1, by omega, by go_num, Lib.hid (below_dr HBr.out _)⟩
          case measure => simp [intOf]; omega
        obtain rfl : j = nF := by omega
        have hji : ¬ (j : Int) < (j : Int) := by omega
        have HBR := Lib.hid (HBC0.out.trans (HBr.out.mono HBC0.out.size))
        have HB1R := Lib.hid (HBC.out.trans (HBr.out.mono HBC.out.size))
        obtain ⟨y0, y1⟩ := HRG1.out wr HB1R.out
        have hO : ∀ u, 1 ≤ ownS (fewS (1 + s % 4)) (1 + p % 4) u := fun u => (fewS_mem (ownS_mem (h := u) (by rw [fewS_length]; omega) (by omega))).1
        have HDS := Lib.hid (d27_Split r 1 f t tw sp wr (HD.out.below HB1R.out) (by have := HL.out; omega) _ HSP.out ht hO)
        clear hO
        go_wp2_with fail
        refine HDS.out.mono ?_
        rintro en w6 ⟨hb6, c6, hc6, ⟨hn6, rfl⟩ | ⟨rfl, r6, rfl, hD6⟩⟩
        · have HB6 := Lib.hid (HBR.out.trans (hb6.mono HBR.out.size))
          have hcb : (c6 != 0) = true := by simpa using hn6
          clear hc6 hn6 hb6 y0 y1
          go_wp2_with fail
          refine (HWK.out _ HB6.out).mono ?_
          rintro e w7 ⟨rfl, hb7⟩
          have HB7 := Lib.hid (HB6.out.trans (hb7.mono HB6.out.size))
          clear hb7
          go_wp2_with fail
          go_ret
          exact ⟨rfl, HB7.out⟩
        have hz := hc6.zero
        have hft : f ≤ t := Nat.le_of_not_lt (fun h => hz.1 (Or.inl h))
        have hfit := hz.2.1
        have HSN := Lib.hid (splitL_law tw hft HSP.out)
        have HLN : Hid ((splitL sp f t tw).length ≤ 10000) := Lib.hid (by have := splitL_length sp f t tw; have := HL.out; omega)
        have HD6 := Lib.hid hD6; have HFIT := Lib.hid hfit
        have HB16 := Lib.hid (HB1R.out.trans (hb6.mono HB1R.out.size))
        have HBC6 := Lib.hid (HBr.out.trans (hb6.mono HBr.out.size))
        have HB6 := Lib.hid (HBR.out.trans (hb6.mono HBR.out.size))
        clear hz hft hfit hD6 hb6 hc6 y0 y1 HDS
        go_wp2_with fail
        go_loopw [21, 22] (fun vk vi wr3 => ∃ i : Nat, i ≤ k ∧ vi = .int .i64 i ∧ vk = .int .i64 ((((l.take i).filter (inRg f t)).length : Nat) : Int) ∧ Hid (Below w6.heap.size w6 wr3)) (fun _ vi _ => k - (intOf vi).toNat)
        case atStart => exact ⟨0, Nat.zero_le _, rfl, rfl, Lib.hid (Below.refl _ _)⟩
        case round =>
          obtain ⟨U, hU⟩ : ∃ U, wr = U := ⟨_, rfl⟩
          subst hU
          obtain ⟨i, hi, rfl, rfl, HBq⟩ := hrel
          by_cases hlt : i < k
          · have hki : (i : Int) < (k : Int) := by omega
            have hkl : i < l.length := by rw [HN.out]; exact hlt
            have hal := HV.out _ (HB6.out.trans (HBq.out.mono HB6.out.size))
            obtain ⟨b, off, rfl, y0⟩ := nas_at hal hkl
            have HY : Hid (∀ w', Below wr.heap.size wr w' → w'.cell? ⟨b, off + i, none⟩ = some (.string (l.getD i ByteArray.empty))) := Lib.hid (fun w' h => (h.cell (p := ⟨b, off + i, none⟩) (cell_lt y0)).trans y0)
            have hxs := HMS.out (l.getD i ByteArray.empty) (by rw [List.getD_eq_getElem?_getD, List.getElem?_eq_getElem hkl]; exact List.getElem_mem _)
            have hmv := moved_iff HFIT.out (l.getD i ByteArray.empty)
            have hyes := fun h => filt_yes (P := inRg f t) hkl h
            have hno := fun h => filt_no (P := inRg f t) hkl h
            have hat := fun h => filt_at (P := inRg f t) hkl h
            obtain ⟨x, hx⟩ : ∃ x, l.getD i ByteArray.empty = x := ⟨_, rfl⟩
            rw [hx] at hxs hmv hyes hno hat y0 HY
            obtain ⟨q, hq⟩ : ∃ q, ((l.take i).filter (inRg f t)).length = q := ⟨_, rfl⟩
            rw [hq] at hyes hno hat ⊢
            rw [HF.out, HNF.out] at hat
            have HOA := Lib.hid (fun (w' : World) (h : Below w6.heap.size w6 w') => d27_Of r 1 sp x hxs w' (HD.out.below (HB16.out.trans (h.mono HB16.out.size))) (by have := HL.out; omega) _ HSP.out)
            have HOB := Lib.hid (fun (w' : World) (h : Below w6.heap.size w6 w') => d27_Of r6 _ (splitL sp f t tw) x hxs w' (HD6.out.below h) HLN.out _ HSN.out)
            obtain ⟨u1, hu1⟩ : ∃ u, ownP (ownS (fewS (1 + s % 4)) (1 + p % 4)) x = u := ⟨_, rfl⟩
            obtain ⟨u2, hu2⟩ : ∃ u, ownP (splitO (ownS (fewS (1 + s % 4)) (1 + p % 4)) f t tw) x = u := ⟨_, rfl⟩
            rw [hu1, hu2] at hmv
            rw [hu1] at HOA
            rw [hu2] at HOB
            obtain ⟨mb, hmb⟩ : ∃ mb, ((u1 : Int) != (u2 : Int)) = mb := ⟨_, rfl⟩
            have hmi : mb = inRg f t x := by
              cases hin : inRg f t x with
              | true => rw [← hmb]; have h1 : u1 ≠ u2 := fun h => by have := hmv.1 h; rw [hin] at this; cases this
                        simp; omega
              | false => rw [← hmb]; have := hmv.2 hin; simp; omega
            have HMI := Lib.hid hmi; have HYES := Lib.hid hyes; have HNO := Lib.hid hno; have HAT := Lib.hid hat; have HQ := Lib.hid hq
            clear hmi hyes hno hat hq hmv hu1 hu2 hxs hx hkl hal
            go_upto_region 28 with fail
            refine wp_region_quiet (C := fun w' => Hid (Below wr.heap.size wr w')) (by kernel_rfl) (by kernel_rfl) (Lib.hid (Below.drew (Below.refl _ _))) ?_
            refine quiet_plain rfl (Value.pointer (some ⟨r, 0, none⟩)) (fun w' hw' => ?_) ?_
            · go_simp
            go_frame
            refine quiet_plain rfl (Value.slice (some ⟨b, off, none⟩) k cp) (fun w' hw' => ?_) ?_
            · go_simp
            go_frame
            refine quiet_plain rfl (Value.int .i64 (i : Int)) (fun w' hw' => ?_) ?_
            · go_simp
            go_frame
            refine quiet_plain rfl (Value.pointer (some ⟨b, off + i, none⟩)) (fun w' hw' => ?_) ?_
            · go_simp
            go_frame
            refine quiet_plain rfl (Value.string x) (fun w' hw' => ?_) ?_
            · have y0 := HY.out w' hw'.out
              go_simp
            go_frame
            refine quiet_call rfl (Value.int .u32 (u1 : Int)) 23 #[.pointer (some ⟨r, 0, none⟩), .string x] (fun w' hw' => ⟨?_, ?_⟩) ?_
            · go_simp
            · exact (HOA.out w' (HBq.out.trans (hw'.out.mono HBq.out.size))).mono (fun e w6 ⟨he, hb⟩ => ⟨he, Lib.hid (hw'.out.trans (hb.mono hw'.out.size))⟩)
            go_frame
            refine quiet_plain rfl (Value.pointer (some ⟨r6, 0, none⟩)) (fun w' hw' => ?_) ?_
            · go_simp
            go_frame
            refine quiet_plain rfl (Value.slice (some ⟨b, off, none⟩) k cp) (fun w' hw' => ?_) ?_
            · go_simp
            go_frame
            refine quiet_plain rfl (Value.int .i64 (i : Int)) (fun w' hw' => ?_) ?_
            · go_simp
            go_frame
            refine quiet_plain rfl (Value.pointer (some ⟨b, off + i, none⟩)) (fun w' hw' => ?_) ?_
            · go_simp
            go_frame
            refine quiet_plain rfl (Value.string x) (fun w' hw' => ?_) ?_
            · have y0 := HY.out w' hw'.out
              go_simp
            go_frame
            refine quiet_call rfl (Value.int .u32 (u2 : Int)) 23 #[.pointer (some ⟨r6, 0, none⟩), .string x] (fun w' hw' => ⟨?_, ?_⟩) ?_
            · go_simp
            · exact (HOB.out w' (HBq.out.trans (hw'.out.mono HBq.out.size))).mono (fun e w6 ⟨he, hb⟩ => ⟨he, Lib.hid (hw'.out.trans (hb.mono hw'.out.size))⟩)
            go_frame
            refine quiet_plain rfl (Value.bool mb) (fun w' hw' => ?_) ?_
            · go_simp
            go_frame
            refine quiet_plain rfl (Value.bool mb) (fun w' hw' => ?_) ?_
            · go_simp
            go_frame
            refine wpQuiet_nil ?_
            intro W4 hW4
            have HB4 : Hid (Below w6.heap.size w6 W4) := Lib.hid (HBq.out.trans (hW4.out.mono HBq.out.size))
            have z0 := HY.out W4 hW4.out
            clear hW4 HOA HOB y0 hmb
            cases mb
            · have HX : Hid (((l.take (i + 1)).filter (inRg f t)).length = q) := Lib.hid (HNO.out HMI.out.symm)
              go_wp2_with fail
              go_roundw
              case rel => exact ⟨i + 1, by omega, by go_num, by rw [HX.out], HB4⟩
              case measure => simp [intOf]; omega
            · have HX : Hid (((l.take (i + 1)).filter (inRg f t)).length = q + 1) := Lib.hid (HYES.out HMI.out.symm)
              obtain ⟨hq1, hq2⟩ := HAT.out HMI.out.symm
              have hqi : ¬ (j : Int) ≤ (q : Int) := by omega
              have hqb : decide ((j : Int) ≤ (q : Int)) = false := by simp; omega
              obtain ⟨b1, o1, rfl, z1⟩ := nas_at (HFA.out.below (HBC6.out.trans (HB4.out.mono HBC6.out.size)) (Nat.le_refl _)) (j := q) (by rw [HNF.out]; exact hq1)
              rw [hq2] at z1
              clear hq2
              go_upto_region 30 with fail
              go_quiet (fail)
              go_wp2_with fail
              go_roundw
              case rel => exact ⟨i + 1, by omega, by go_num, by rw [HX.out]; go_num, Lib.hid (below_dr HB4.out _)⟩
              case measure => simp [intOf]; omega
          obtain rfl : i = k := by omega
          have hki : ¬ (i : Int) < (i : Int) := by omega
          have hfa : ((l.take i).filter (inRg f t)).length = j := by rw [filt_all (by rw [HN.out]; exact Nat.le_refl _), HF.out, HNF.out]
          rw [hfa]
          have HBE := Lib.hid (HB6.out.trans (HBq.out.mono HB6.out.size))
          clear hfa
          go_wp2_with fail
          refine (HWK.out _ HBE.out).mono ?_
          rintro e w7 ⟨rfl, hb7⟩
          have HB7 := Lib.hid (HBE.out.trans (hb7.mono HBE.out.size))
          clear hb7
          go_wp2_with fail
          go_ret
          exact ⟨rfl, HB7.out⟩
end Go.Proofs.YthcmcjoenepkbaaGreatDoor
