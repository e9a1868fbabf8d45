/- Contract: scriniumlaw18.does: one act, done by the table and by the document's. Plain laws of scriniumlaw18.TableLoads: a table loaded out of another one's rows has these rows. Contract: scriniumlaw18.stands, where the document's rows are the table's. Region lemma of TablePlays: the two new tables. scriniumlaw18.TablePlays: the walk. Two tables of scriniumlaw18.TableLoads' quota, side by side. scriniumlaw18.TableLoads: the walk. What the bound on an input's bulk gives. -/
import Derived.Test.YtfbgnpfhjbiikaaGreatDoorQl09
import Derived.Deep.RegionHeld3
import Derived.Test.YtfbgnpfhjbiikaaGreatDoorRows
namespace Go.Proofs.YtfbgnpfhjbiikaaGreatDoor
open Go Go.RowKit
open Pth
open Go.Maps (has size Canon CanonK Tidy IsMap KeysOf Keyed Merged)
theorem runR_len (l : List Edt) : ∀ {R : List Rw} {vs : List Nat} {i : Nat}, (runR R vs i l).2.2.length ≤ vs.length + l.length := by
  induction l with
  | nil => intro R vs i; simp [runR]
  | cons x t ih =>
    intro R vs i
    rw [runR]
    split
    · simp
    · refine Nat.le_trans ih ?_
      simp; omega
theorem triedR_len (R : List Rw) (q1 q2 : Int) (l : List Edt) : (triedR R q1 q2 l).2.2.length ≤ l.length := by
  have h := runR_len l (R := R) (vs := []) (i := 0)
  simp only [List.length_nil, Nat.zero_add] at h
  unfold triedR
  simp only
  split
  · exact h
  · split <;> exact h
theorem next_bytes {M : DataW Cel} {q1 q2 : Int} {l : List Edt} (hg : Good Tryz.prog 9 M) : nextB (triedT M (bytesR (rowsL M)) q1 q2 l) (bytesR (rowsL M)) = bytesR (rowsL (nextM (triedT M (bytesR (rowsL M)) q1 q2 l) M)) := by
  have h := (tried_rows (q1 := q1) (q2 := q2) (l := l) hg rfl).2
  unfold nextB nextM
  split
  · exact h
  · rfl
def AfterR (keep : Bool) (r : (Nat × Nat) × List Rw × List Nat) (R : List Rw) : List Rw := if keep = true ∧ r.1.2 = 0 then r.2.1 else R
def ListR (r : (Nat × Nat) × List Rw × List Nat) : List Nat := if r.1.2 = 0 then r.2.2 else []
def RefApp2 (r : (Nat × Nat) × List Rw × List Nat) (keep : Bool) (R : List Rw) (t : Nat) (q1 q2 : Int) (w : World) (e : Ending) (w' : World) : Prop :=
  ∃ v, e = .returned (.tuple #[v, .int .i64 r.1.1, .int .i64 r.1.2]) ∧ IsNums w' v (ListR r) ∧ RefAt w' t q1 q2 (AfterR keep r R) ∧ OkR (AfterR keep r R) ∧ (AfterR keep r R).length ≤ R.length + r.2.2.length ∧ ButS (fun k => k = t) w w'
theorem next_len {M : DataW Cel} {B q1 q2 : Int} {l : List Edt} : (nextV (triedT M B q1 q2 l)).length ≤ l.length := by
  unfold nextV
  split
  · rw [tried_eq]; have := (runT_zero l (N := M) (vs := []) (B := B) (i := 0)).2; simpa using this
  · simp
theorem after_eq {M : DataW Cel} {R : List Rw} {q1 q2 p1 p2 : Int} {l : List Edt} (hg : Good Tryz.prog 9 M) (h : R = rowsL M) (h1 : p1 = q1) (h2 : p2 = q2) :
    AfterR true (triedR R p1 p2 l) R = rowsL (nextM (triedT M (bytesR (rowsL M)) q1 q2 l) M) ∧ (triedR R p1 p2 l).1 = (triedT M (bytesR (rowsL M)) q1 q2 l).1 ∧
    ListR (triedR R p1 p2 l) = nextV (triedT M (bytesR (rowsL M)) q1 q2 l) := by
  subst h h1 h2
  have h := (tried_rows (q1 := p1) (q2 := p2) (l := l) hg rfl).1
  rw [h]
  refine ⟨?_, rfl, rfl⟩
  unfold AfterR nextM
  simp only [true_and]
  split <;> rfl

set_option maxRecDepth 100000 in
set_option maxHeartbeats 8000000 in
theorem law_does (t b r : Nat) (q1 q2 p1 p2 : Int) (M : DataW Cel) (R : List Rw) (x : ActX) (ve vr vp : Value) (w : World) (h : Duo w t b r q1 q2 p1 p2 M R) (hmx : ∀ w', ButS (S3 t b r) w w' → MX w') (ha : ActIs w ve vr vp x) (hz : ActSz x) (hsM : size M ≤ 400000) (hsR : R.length ≤ 400000) :
    Calls Tryz.prog 11 #[.pointer (some ⟨t, 0, none⟩), .pointer (some ⟨r, 0, none⟩), .agg #[.int .u8 x.dd, ve, vr, vp]] w (DoesG (x.es.length + x.rs.length) t b r q1 q2 p1 p2 M R w) := by
  obtain ⟨W0, hW0⟩ : ∃ W0, W0 = w.alloc (.cells #[.int .u8 x.dd, ve, vr, vp] 28) := ⟨_, rfl⟩
  have hbW : Below w.heap.size w W0 := by rw [hW0]; exact (Below.refl _ _).alloc (Nat.le_refl _) _
  have HBW := Lib.hid hbW
  have HO : Hid (One w.heap.size #[.int .u8 x.dd, ve, vr, vp] W0) := Lib.hid (by rw [hW0]; exact One.of w _ _)
  have htl := h.hT.lt
  have hrl := h.hR.lt
  have hbl : b < w.heap.size := h.hT.m.lt
  have HKeep : Hid (∀ W, ButS (S3 t b r) W0 W → W.cell? ⟨w.heap.size, 0, none⟩ = some (.int .u8 x.dd) ∧ W.cell? ⟨w.heap.size, 1, none⟩ = some ve ∧ W.cell? ⟨w.heap.size, 2, none⟩ = some vr ∧ W.cell? ⟨w.heap.size, 3, none⟩ = some vp) := Lib.hid (by
    intro W hW
    have hlt : w.heap.size < W0.heap.size := cell_lt (HO.out.c 0)
    have hn : ¬ S3 t b r w.heap.size := by rintro (e | e | e) <;> omega
    exact ⟨(hW.cell hlt hn).trans (HO.out.c 0), (hW.cell hlt hn).trans (HO.out.c 1), (hW.cell hlt hn).trans (HO.out.c 2), (hW.cell hlt hn).trans (HO.out.c 3)⟩)
  have HMX : Hid (∀ W, ButS (S3 t b r) W0 W → MX W) := Lib.hid (fun W hW => hmx W ((ButS.of hbW).trans hW))
  have HDu : Hid (Duo W0 t b r q1 q2 p1 p2 M R) := Lib.hid (h.below hbW)
  have HAct : Hid (ActIs W0 ve vr vp x) := Lib.hid (ha.below hbW)
  have HActW : Hid (∀ W, ButS (S3 t b r) W0 W → ActIs W ve vr vp x) := Lib.hid (fun W hW => HAct.out.but hW (by
    rintro k (e | e | e)
    · exact HDu.out.bareT k (Or.inl e)
    · exact HDu.out.bareT k (Or.inr e)
    · exact HDu.out.bareR k e))
  have HZ := Lib.hid hz
  have HG := Lib.hid h.hG
  have HBy : Hid (bytesR (rowsL M) ≤ 13200000000) := Lib.hid (by have := good_bytes h.hG; omega)
  have HB0 : Hid (ButS (S3 t b r) W0 W0) := Lib.hid (ButS.of (Below.refl _ _))
  have HL1 : Hid (∀ W, ButS (fun k => k = t ∨ k = b) W0 W → ButS (S3 t b r) W0 W) := Lib.hid (fun W h => h.mono (fun k hk => by rcases hk with e | e; exact Or.inl e; exact Or.inr (Or.inl e)))
  have HRG : Hid (∀ e M' R' w', Duo w' t b r q1 q2 p1 p2 M' R' → size M' ≤ size M + (x.es.length + x.rs.length) → R'.length ≤ R.length + (x.es.length + x.rs.length) → (R = rowsL M → p1 = q1 → p2 = q2 → e = true ∧ R' = rowsL M') → ButS (S3 t b r) W0 w' → DoesG (x.es.length + x.rs.length) t b r q1 q2 p1 p2 M R w (.returned (.bool e)) w') :=
    Lib.hid (fun e M' R' w' h1 h2 h3 h4 h5 => ⟨e, M', R', rfl, h1, h2, h3, h4, (ButS.of HBW.out).trans h5⟩)
  clear hmx ha hz h hbW
  go_enter Tryz.func11, Tryz.ntmps11
  go_upto_region 1 with fail
  try rw [← hW0]
  clear hW0
  obtain ⟨k0, k1, k2, k3⟩ := HKeep.out W0 HB0.out
  by_cases h0 : x.dd % 4 = 0
  · have hm0 : (((x.dd : Int) % 4) == 0) = true := by simp; omega
    clear h0
    have HApp : Hid (Calls Tryz.prog 16 #[.pointer (some ⟨t, 0, none⟩), ve] W0 (AppGives (triedT M (bytesR (rowsL M)) q1 q2 x.es) M (bytesR (rowsL M)) t b q1 q2 W0)) :=
      Lib.hid (tab_app W0 HDu.out.hT HG.out (HMX.out _ HB0.out) ve x.es HAct.out.e (by have := HZ.out.e; omega) (by omega) (by omega) (by have := HBy.out; omega) HZ.out.es)
    have HNG := Lib.hid (next_good (q1 := q1) (q2 := q2) (l := x.es) (B := (bytesR (rowsL M) : Int)) HG.out)
    have HNB := Lib.hid (next_bytes (q1 := q1) (q2 := q2) (l := x.es) HG.out)
    have HAE := Lib.hid (fun (hh : R = rowsL M) (hh1 : p1 = q1) (hh2 : p2 = q2) => after_eq (l := x.es) HG.out hh hh1 hh2)
    have HTL := Lib.hid (triedR_len R p1 p2 x.es)
    have HVL := Lib.hid (next_len (q1 := q1) (q2 := q2) (M := M) (B := (bytesR (rowsL M) : Int)) (l := x.es))
    obtain ⟨r1, hr1⟩ : ∃ r1, triedT M (bytesR (rowsL M)) q1 q2 x.es = r1 := ⟨_, rfl⟩
    rw [hr1] at HApp HNG HNB HAE HVL
    clear hr1
    have HRef : Hid (∀ W M', Duo W t b r q1 q2 p1 p2 M' R → ButS (S3 t b r) W0 W → Calls Tryz.prog 40 #[.pointer (some ⟨r, 0, none⟩), ve, .bool true] W (RefApp2 (triedR R p1 p2 x.es) true R r p1 p2 W)) :=
      Lib.hid (fun W M' hD hB => ref18_apply R r p1 p2 ve x.es true W hD.hR hD.hO (HActW.out W hB).e (by omega) (by have := HZ.out.e; omega) HZ.out.es)
    obtain ⟨r2, hr2⟩ : ∃ r2, triedR R p1 p2 x.es = r2 := ⟨_, rfl⟩
    rw [hr2] at HRef HAE HTL
    clear hr2
    go_wp2_with fail
    refine HApp.out.mono ?_
    rintro e w1 ⟨v1, rfl, hown, hT1, hb1⟩
    have HDu1 := Lib.hid (HDu.out.tab hb1 hT1 HNB.out HNG.out.1)
    have HB1 := Lib.hid (HL1.out _ hb1)
    have HN1 := Lib.hid (IsNums.own hown)
    clear hown hT1 hb1
    obtain ⟨k0, k1, k2, k3⟩ := HKeep.out w1 HB1.out
    go_wp2_with fail
    refine (HRef.out _ _ HDu1.out HB1.out).mono ?_
    rintro e w2 ⟨v2, rfl, hn2, hR2, hO2, hl2, hb2⟩
    have HN2 := Lib.hid hn2
    have HN12 := Lib.hid (HN1.out.but hb2 (fun k hk => by subst hk; exact HDu1.out.hR.bare))
    have HDu2 := Lib.hid (HDu1.out.ref hb2 hR2 hO2)
    have HB2 : Hid (ButS (S3 t b r) W0 w2) := Lib.hid (HB1.out.trans (hb2.mono (fun k hk => Or.inr (Or.inr hk))))
    have HL2 := Lib.hid hl2
    clear hn2 hR2 hO2 hl2 hb2
    obtain ⟨k0, k1, k2, k3⟩ := HKeep.out w2 HB2.out
    go_wp2_with fail
    refine (law_numbersG v1 v2 _ _ _ HN12.out HN2.out (by have := HVL.out; have := HZ.out.e; omega)).mono ?_
    rintro e w3 ⟨xx, rfl, hxx, hb3⟩
    have HXX := Lib.hid hxx
    have HDu3 := Lib.hid (HDu2.out.below hb3)
    have HB3 : Hid (ButS (S3 t b r) W0 w3) := Lib.hid (HB2.out.trans (ButS.of hb3))
    clear hxx hb3
    have HEnd : Hid (∀ e : Bool, (R = rowsL M → p1 = q1 → p2 = q2 → e = true) → DoesG (x.es.length + x.rs.length) t b r q1 q2 p1 p2 M R w (.returned (.bool e)) w3) := Lib.hid (fun e he =>
      HRG.out e _ _ _ HDu3.out (by have := HNG.out.2.1; omega) (by have := HL2.out; have := HTL.out; omega) (fun a1 a2 a3 => ⟨he a1 a2 a3, (HAE.out a1 a2 a3).1⟩) HB3.out)
    clear HDu HDu1 HDu2 HDu3 HN1 HN2 HN12 HRef HApp
    cases xx with
    | false =>
      go_wp2_with fail
      go_ret
      exact HEnd.out _ (fun a1 a2 a3 => HXX.out ((HAE.out a1 a2 a3).2.2.symm))
    | true =>
      cases hq1 : ((r1.1.1 : Int) == (r2.1.1 : Int)) with
      | false =>
        go_wp2_with fail
        go_ret
        exact HEnd.out _ (fun a1 a2 a3 => by rw [(HAE.out a1 a2 a3).2.1] at hq1; simp at hq1)
      | true =>
        cases hq2 : ((r1.1.2 : Int) == (r2.1.2 : Int)) with
        | false =>
          go_wp2_with fail
          go_ret
          exact HEnd.out _ (fun a1 a2 a3 => by rw [(HAE.out a1 a2 a3).2.1] at hq2; simp at hq2)
        | true =>
          go_wp2_with fail
          go_ret
          exact HEnd.out _ (fun a1 a2 a3 => rfl)
  by_cases h1 : x.dd % 4 = 1
  · have hm0 : (((x.dd : Int) % 4) == 0) = false := by simp; omega
    have hm1 : (((x.dd : Int) % 4) == 1) = true := by simp; omega
    clear h1
    have HTry : Hid (Calls Tryz.prog 38 #[.pointer (some ⟨t, 0, none⟩), ve] W0 (TryGives (triedT M (bytesR (rowsL M)) q1 q2 x.es).1 W0)) :=
      Lib.hid (tab_try W0 HDu.out.hT HG.out (HMX.out _ HB0.out) ve x.es HAct.out.e (by have := HZ.out.e; omega) (by omega) (by omega) (by have := HBy.out; omega) HZ.out.es)
    have HAE := Lib.hid (fun (hh : R = rowsL M) (hh1 : p1 = q1) (hh2 : p2 = q2) => (after_eq (l := x.es) HG.out hh hh1 hh2).2.1)
    obtain ⟨r1, hr1⟩ : ∃ r1, (triedT M (bytesR (rowsL M)) q1 q2 x.es).1 = r1 := ⟨_, rfl⟩
    rw [hr1] at HTry HAE
    clear hr1
    have HRef : Hid (∀ W M', Duo W t b r q1 q2 p1 p2 M' R → ButS (S3 t b r) W0 W → Calls Tryz.prog 40 #[.pointer (some ⟨r, 0, none⟩), ve, .bool false] W (RefApp2 (triedR R p1 p2 x.es) false R r p1 p2 W)) :=
      Lib.hid (fun W M' hD hB => ref18_apply R r p1 p2 ve x.es false W hD.hR hD.hO (HActW.out W hB).e (by omega) (by have := HZ.out.e; omega) HZ.out.es)
    obtain ⟨r2, hr2⟩ : ∃ r2, triedR R p1 p2 x.es = r2 := ⟨_, rfl⟩
    rw [hr2] at HRef HAE
    clear hr2
    have HAF : Hid (AfterR false r2 R = R) := Lib.hid (by unfold AfterR; simp)
    go_wp2_with fail
    refine HTry.out.mono ?_
    rintro e w1 ⟨rfl, hb1⟩
    have HDu1 := Lib.hid (HDu.out.below hb1)
    have HB1 : Hid (ButS (S3 t b r) W0 w1) := Lib.hid (ButS.of hb1)
    clear hb1
    obtain ⟨k0, k1, k2, k3⟩ := HKeep.out w1 HB1.out
    go_wp2_with fail
    refine (HRef.out _ _ HDu1.out HB1.out).mono ?_
    rintro e w2 ⟨v2, rfl, _, hR2, hO2, hl2, hb2⟩
    rw [HAF.out] at hR2 hO2
    have HDu2 := Lib.hid (HDu1.out.ref hb2 hR2 hO2)
    have HB2 : Hid (ButS (S3 t b r) W0 w2) := Lib.hid (HB1.out.trans (hb2.mono (fun k hk => Or.inr (Or.inr hk))))
    clear hR2 hO2 hl2 hb2
    have HEnd : Hid (∀ e : Bool, (R = rowsL M → p1 = q1 → p2 = q2 → e = true) → DoesG (x.es.length + x.rs.length) t b r q1 q2 p1 p2 M R w (.returned (.bool e)) w2) := Lib.hid (fun e he =>
      HRG.out e _ _ _ HDu2.out (by omega) (by omega) (fun a1 a2 a3 => ⟨he a1 a2 a3, a1⟩) HB2.out)
    clear HDu HDu1 HDu2 HRef HTry
    cases hq1 : ((r1.1 : Int) == (r2.1.1 : Int)) with
    | false =>
      go_wp2_with fail
      go_ret
      exact HEnd.out _ (fun a1 a2 a3 => by rw [HAE.out a1 a2 a3] at hq1; simp at hq1)
    | true =>
      cases hq2 : ((r1.2 : Int) == (r2.1.2 : Int)) with
      | false =>
        go_wp2_with fail
        go_ret
        exact HEnd.out _ (fun a1 a2 a3 => by rw [HAE.out a1 a2 a3] at hq2; simp at hq2)
      | true =>
        go_wp2_with fail
        go_ret
        exact HEnd.out _ (fun a1 a2 a3 => rfl)
  by_cases h2 : x.dd % 4 = 2
  · have hm0 : (((x.dd : Int) % 4) == 0) = false := by simp; omega
    have hm1 : (((x.dd : Int) % 4) == 1) = false := by simp; omega
    have hm2 : (((x.dd : Int) % 4) == 2) = true := by simp; omega
    clear h2
    have HCP : Hid (∀ W, ButS (S3 t b r) W0 W → Calls Tryz.prog 14 #[vr] W (fun e w' => ∃ v', e = .returned v' ∧ IsRows w' v' x.rs ∧ Below W.heap.size W w')) := Lib.hid (fun W hW => by
      obtain ⟨_, _, _, _, hv⟩ := (HActW.out W hW).r
      exact law_copied x.rs vr W hv (by have := HZ.out.r; omega) (fun i hi => by have := (HZ.out.rs i hi).2; omega))
    have HLT : Hid (∀ W R' v, Duo W t b r q1 q2 p1 p2 M R' → ButS (S3 t b r) W0 W → IsRows W v x.rs → Calls Tryz.prog 13 #[.pointer (some ⟨t, 0, none⟩), v] W (LoadX x.rs M (bytesR (rowsL M)) t b q1 q2 W)) := Lib.hid (fun W R' v hD hW hv =>
      tab_loadX W hD.hT HG.out (HMX.out W hW) v x.rs hv (by have := HZ.out.r; omega) HZ.out.wf (fun i hi => ⟨(HZ.out.rs i hi).1, by have := (HZ.out.rs i hi).2; omega⟩) (by omega) (by omega) (by have := HBy.out; omega))
    have HLR : Hid (∀ W M', Duo W t b r q1 q2 p1 p2 M' R → ButS (S3 t b r) W0 W → Calls Tryz.prog 41 #[.pointer (some ⟨r, 0, none⟩), vr] W (RefLoad R x.rs r p1 p2 W)) := Lib.hid (fun W M' hD hW => by
      obtain ⟨a, c, e, hc, hv⟩ := (HActW.out W hW).r
      subst e
      exact ref18_load R r p1 p2 a c x.rs W hD.hR hD.hO hv hc (by omega) (by have := HZ.out.r; omega) HZ.out.wf (fun i hi => ⟨(HZ.out.rs i hi).1, by have := (HZ.out.rs i hi).2; omega⟩))
    have HDr : Hid (Below W0.heap.size W0 W0.drew) := Lib.hid (Below.drew (Below.refl _ _))
    have HDuD : Hid (Duo W0.drew t b r q1 q2 p1 p2 M R) := Lib.hid (HDu.out.below HDr.out)
    have HBD : Hid (ButS (S3 t b r) W0 W0.drew) := Lib.hid (ButS.of HDr.out)
    clear HDu HB0 HL1
    go_upto_region 11 with fail
    go_region_with (first
      | (go_at_call 14; (first | refine (HCP.out _ HB.out).mono ?_ | refine (HCP.out _ HBD.out).mono ?_); rintro e w4 ⟨v4, rfl, hr4, hb4⟩; have HV := Lib.hid hr4; (first | (have HDu := Lib.hid (HDu.out.below hb4)) | (have HDu := Lib.hid (HDuD.out.below hb4))); (first | (have HB := Lib.hid (HB.out.trans (ButS.of hb4))) | (have HB := Lib.hid (HBD.out.trans (ButS.of hb4)))); clear hr4 hb4; obtain ⟨k0, k1, k2, k3⟩ := HKeep.out _ HB.out)
      | (go_at_call 13; refine (HLT.out _ _ _ HDu.out HB.out HV.out).mono ?_; rintro e w5 ⟨e5, M5, B5, rfl, hle5, hT5, hG5, hbb5, hsz5, _, _, hb5⟩; have HLE1 := Lib.hid hle5; have HSZ1 := Lib.hid hsz5; have HDu := Lib.hid (HDu.out.tab hb5 hT5 (by omega) hG5); have HB := Lib.hid (HB.out.trans (hb5.mono (fun k hk => Or.elim hk (fun e => Or.inl e) (fun e => Or.inr (Or.inl e))))); clear hle5 hT5 hG5 hbb5 hsz5 hb5; obtain ⟨k0, k1, k2, k3⟩ := HKeep.out _ HB.out)
      | (go_at_call 41; (first | refine (HLR.out _ _ HDu.out HB.out).mono ?_ | refine (HLR.out _ _ HDuD.out HBD.out).mono ?_); rintro e w6 ⟨e6, R6, rfl, hle6, hR6, hO6, hsz6, hb6⟩; have HLE2 := Lib.hid hle6; have HSZ2 := Lib.hid hsz6; (first | (have HDu0 := HDu) | (have HDu0 := HDuD)); (first | (have HB0 := HB) | (have HB0 := HBD)); (try (have HV := Lib.hid (HV.out.but2 hb6 HDu0.out.bareR))); have HDu := Lib.hid (HDu0.out.ref hb6 hR6 hO6); have HB := Lib.hid (HB0.out.trans (hb6.mono (fun k hk => Or.inr (Or.inr hk)))); clear HDu0 HB0 hle6 hR6 hO6 hsz6 hb6; obtain ⟨k0, k1, k2, k3⟩ := HKeep.out _ HB.out))
    all_goals go_wp2_with fail
    all_goals go_ret
    all_goals exact HRG.out _ _ _ _ HDu.out (by have := HSZ1.out; omega) (by have := HSZ2.out; omega) (fun a1 a2 a3 => by
      have h1 := HLE1.out; have h2 := HLE2.out
      rw [a1] at h2
      obtain ⟨e1, e2⟩ := h1.uniq h2
      rw [e1, e2]; exact ⟨by simp, rfl⟩) HB.out
  · have hm0 : (((x.dd : Int) % 4) == 0) = false := by simp; omega
    have hm1 : (((x.dd : Int) % 4) == 1) = false := by simp; omega
    have hm2 : (((x.dd : Int) % 4) == 2) = false := by simp; omega
    clear h0 h1 h2
    have HDB := Lib.hid (drop_rows x.pp (n := 0) HG.out rfl).2
    have HDE : Hid (R = rowsL M → dropR R 0 x.pp = ((dropT M (bytesR (rowsL M)) 0 x.pp).1, rowsL (dropT M (bytesR (rowsL M)) 0 x.pp).2.1)) := Lib.hid (fun e => by subst e; exact (drop_rows x.pp (n := 0) HG.out rfl).1)
    have HLT : Hid (∀ W R', Duo W t b r q1 q2 p1 p2 M R' → ButS (S3 t b r) W0 W → Calls Tryz.prog 18 #[.pointer (some ⟨t, 0, none⟩), vp] W (DropGives (dropT M (bytesR (rowsL M)) 0 x.pp) M (bytesR (rowsL M)) x.pp t b q1 q2 W)) := Lib.hid (fun W R' hD hW =>
      tab_drop W hD.hT HG.out vp x.pp (HActW.out W hW).p (by have := HZ.out.p; omega) HZ.out.pz (by omega) (by have := HBy.out; omega))
    have HLR : Hid (∀ W M', Duo W t b r q1 q2 p1 p2 M' R → ButS (S3 t b r) W0 W → Calls Tryz.prog 42 #[.pointer (some ⟨r, 0, none⟩), vp] W (RefDrop R x.pp r p1 p2 W)) := Lib.hid (fun W M' hD hW =>
      ref18_drop R r p1 p2 vp x.pp W hD.hR hD.hO (HActW.out W hW).p (by omega) (by have := HZ.out.p; omega))
    obtain ⟨d1, hd1⟩ : ∃ d1, dropT M (bytesR (rowsL M)) 0 x.pp = d1 := ⟨_, rfl⟩
    rw [hd1] at HDB HDE HLT
    clear hd1
    have HDr : Hid (Below W0.heap.size W0 W0.drew) := Lib.hid (Below.drew (Below.refl _ _))
    have HDuD : Hid (Duo W0.drew t b r q1 q2 p1 p2 M R) := Lib.hid (HDu.out.below HDr.out)
    have HBD : Hid (ButS (S3 t b r) W0 W0.drew) := Lib.hid (ButS.of HDr.out)
    clear HDu HB0 HL1
    go_upto_region 12 with fail
    go_region_with (first
      | (go_at_call 18; (first | refine (HLT.out _ _ HDu.out HB.out).mono ?_ | refine (HLT.out _ _ HDuD.out HBD.out).mono ?_); rintro e w5 ⟨rfl, hT5, hG5, hsz5, _, _, hb5⟩; (first | (have HDu0 := HDu) | (have HDu0 := HDuD)); (first | (have HB0 := HB) | (have HB0 := HBD)); have HDu := Lib.hid (HDu0.out.tab hb5 hT5 HDB.out hG5); have HB := Lib.hid (HB0.out.trans (hb5.mono (fun k hk => Or.elim hk (fun e => Or.inl e) (fun e => Or.inr (Or.inl e))))); have HSZ1 := Lib.hid hsz5; clear HDu0 HB0 hT5 hG5 hsz5 hb5; obtain ⟨k0, k1, k2, k3⟩ := HKeep.out _ HB.out)
      | (go_at_call 42; (first | refine (HLR.out _ _ HDu.out HB.out).mono ?_ | refine (HLR.out _ _ HDuD.out HBD.out).mono ?_); rintro e w6 ⟨rfl, hR6, hO6, hsz6, hb6⟩; have HSZ2 := Lib.hid hsz6; (first | (have HDu0 := HDu) | (have HDu0 := HDuD)); (first | (have HB0 := HB) | (have HB0 := HBD)); have HDu := Lib.hid (HDu0.out.ref hb6 hR6 hO6); have HB := Lib.hid (HB0.out.trans (hb6.mono (fun k hk => Or.inr (Or.inr hk)))); clear HDu0 HB0 hR6 hO6 hsz6 hb6; obtain ⟨k0, k1, k2, k3⟩ := HKeep.out _ HB.out))
    all_goals go_wp2_with fail
    all_goals go_ret
    all_goals exact HRG.out _ _ _ _ HDu.out (by have := HSZ1.out; omega) (by have := HSZ2.out; omega) (fun a1 a2 a3 => by
      rw [HDE.out a1]; exact ⟨by simp, rfl⟩) HB.out
end Go.Proofs.YtfbgnpfhjbiikaaGreatDoor

namespace Go.Proofs.YtfbgnpfhjbiikaaGreatDoor
open Go Go.RowKit
open Pth
open Go.Maps (has size Canon CanonK Tidy IsMap KeysOf Keyed Merged)
theorem fold_up (l : List Rw) : ∀ {R : List Rw}, Up R → (∀ x ∈ R, ∀ y ∈ l, x.1 ≠ y.1) → l.Pairwise (fun x y => x.1 ≠ y.1) → Up (l.foldl withR R) ∧ ∀ x, x ∈ l.foldl withR R ↔ x ∈ R ∨ x ∈ l := by
  induction l with
  | nil => intro R hR _ _; exact ⟨hR, fun x => by simp⟩
  | cons r t ih =>
    intro R hR hd hp
    rw [List.pairwise_cons] at hp
    have h1 : ∀ x ∈ withR R r, ∀ y ∈ t, x.1 ≠ y.1 := by
      intro x hx y hy
      rcases (with_mem hR r x).1 hx with rfl | ⟨hx, _⟩
      · exact hp.1 y hy
      · exact hd x hx y (List.mem_cons_of_mem _ hy)
    obtain ⟨a, b⟩ := ih (with_up hR r) h1 hp.2
    refine ⟨a, fun x => ?_⟩
    rw [List.foldl_cons, b x, with_mem hR]
    constructor
    · rintro ((rfl | ⟨h, _⟩) | h)
      · exact Or.inr (List.mem_cons_self)
      · exact Or.inl h
      · exact Or.inr (List.mem_cons_of_mem _ h)
    · rintro (h | h)
      · exact Or.inl (Or.inr ⟨h, hd x h r (List.mem_cons_self)⟩)
      · rcases List.mem_cons.1 h with rfl | h
        · exact Or.inl (Or.inl rfl)
        · exact Or.inr h
theorem up_ne {R : List Rw} (h : Up R) : R.Pairwise (fun x y => x.1 ≠ y.1) := h.imp (fun h => lt_ne h)
theorem fold_self {R : List Rw} (h : Up R) : R.foldl withR [] = R := by
  obtain ⟨a, b⟩ := fold_up R (R := []) List.Pairwise.nil (fun x hx => by cases hx) (up_ne h)
  exact up_ext _ _ a h (fun x => by rw [b x]; simp)
theorem pair_ne {R : List Rw} (h : Up R) {i j : Nat} (hij : j < i) (hi : i < R.length) : (R.getD j dR).1 ≠ (R.getD i dR).1 := by
  have h1 := List.pairwise_iff_getElem.1 (up_ne h) j i (by omega) hi hij
  rw [List.getD_eq_getElem?_getD, List.getD_eq_getElem?_getD, List.getElem?_eq_getElem hi, List.getElem?_eq_getElem (by omega : j < R.length)]
  exact h1
theorem load_rows {R : List Rw} (h : OkR R) : LoadE [] R 0 R := by
  have h1 := LoadE.ok (R := []) (l := R) (fun i hi => (h.at hi).1) (fun i hi => ⟨fun x hx => (by cases hx), fun j hj => pair_ne h.up hj hi⟩)
  rwa [fold_self h.up] at h1
theorem load_again {R : List Rw} (h : OkR R) {x : Rw} (hx : x ∈ R) : LoadE R [x] 8 R := by
  refine .dup (fun i hi => ?_) ⟨0, by simp, Or.inl ⟨x, hx, rfl⟩⟩
  obtain rfl : i = 0 := by simpa using hi
  exact (h.ok x hx).1
theorem both_tried {M1 M2 : DataW Cel} {q1 q2 : Int} {l : List Edt} (g1 : Good Tryz.prog 9 M1) (g2 : Good Tryz.prog 9 M2) (h : rowsL M2 = rowsL M1) :
    (triedT M1 (bytesR (rowsL M1)) q1 q2 l).1 = (triedT M2 (bytesR (rowsL M1)) q1 q2 l).1 ∧ nextV (triedT M1 (bytesR (rowsL M1)) q1 q2 l) = nextV (triedT M2 (bytesR (rowsL M1)) q1 q2 l) ∧
    rowsL (nextM (triedT M2 (bytesR (rowsL M1)) q1 q2 l) M2) = rowsL (nextM (triedT M1 (bytesR (rowsL M1)) q1 q2 l) M1) ∧
    nextB (triedT M1 (bytesR (rowsL M1)) q1 q2 l) (bytesR (rowsL M1)) = bytesR (rowsL (nextM (triedT M1 (bytesR (rowsL M1)) q1 q2 l) M1)) ∧
    nextB (triedT M2 (bytesR (rowsL M1)) q1 q2 l) (bytesR (rowsL M1)) = bytesR (rowsL (nextM (triedT M1 (bytesR (rowsL M1)) q1 q2 l) M1)) := by
  have h1 := (tried_rows (q1 := q1) (q2 := q2) (l := l) g1 rfl).1
  have h2 := (tried_rows (q1 := q1) (q2 := q2) (l := l) g2 rfl).1
  have b1 := next_bytes (q1 := q1) (q2 := q2) (l := l) g1
  have b2 := next_bytes (q1 := q1) (q2 := q2) (l := l) g2
  rw [h] at h2 b2
  have h3 := h1.symm.trans h2
  simp only [Prod.mk.injEq] at h3
  obtain ⟨e1, e2, e3⟩ := h3
  have hr : rowsL (nextM (triedT M2 (bytesR (rowsL M1)) q1 q2 l) M2) = rowsL (nextM (triedT M1 (bytesR (rowsL M1)) q1 q2 l) M1) := by
    unfold nextM
    rw [e1]
    split
    · exact e2.symm
    · exact h
  refine ⟨e1, ?_, hr, b1, by rw [b2, hr]⟩
  unfold nextV; rw [e1, e3]
theorem both_drop {M1 M2 : DataW Cel} {ps : List ByteArray} (g1 : Good Tryz.prog 9 M1) (g2 : Good Tryz.prog 9 M2) (h : rowsL M2 = rowsL M1) :
    (dropT M1 (bytesR (rowsL M1)) 0 ps).1 = (dropT M2 (bytesR (rowsL M1)) 0 ps).1 ∧ rowsL (dropT M2 (bytesR (rowsL M1)) 0 ps).2.1 = rowsL (dropT M1 (bytesR (rowsL M1)) 0 ps).2.1 ∧
    (dropT M1 (bytesR (rowsL M1)) 0 ps).2.2 = bytesR (rowsL (dropT M1 (bytesR (rowsL M1)) 0 ps).2.1) := by
  obtain ⟨h1, b1⟩ := drop_rows ps (n := 0) g1 rfl
  obtain ⟨h2, b2⟩ := drop_rows ps (n := 0) g2 rfl
  rw [h] at h2 b2
  have h3 := h1.symm.trans h2
  simp only [Prod.mk.injEq] at h3
  exact ⟨h3.1, h3.2.symm, b1⟩
end Go.Proofs.YtfbgnpfhjbiikaaGreatDoor

namespace Go.Proofs.YtfbgnpfhjbiikaaGreatDoor
open Go Go.RowKit
open Pth
open Go.Maps (has size Canon CanonK Tidy IsMap KeysOf Keyed Merged)
def ValC (t r m c : Nat) (by0 sz : Int) (a : Option Addr) : Nat → Value → Prop
  | 0 => fun v => v = .pointer (some ⟨t, 0, none⟩)
  | 2 => fun v => v = .pointer (some ⟨r, 0, none⟩)
  | 3 => fun v => v = .pointer (some ⟨r, 0, none⟩)
  | 4 => fun v => v = .pointer (some ⟨r, 2, none⟩)
  | 5 => fun v => v = .slice a m c
  | 6 => fun v => v = .bool true
  | 7 => fun v => v = .bool true
  | 8 => fun v => v = .int .i64 sz
  | 9 => fun v => v = .pointer (some ⟨r, 0, none⟩)
  | 10 => fun v => v = .pointer (some ⟨r, 0, none⟩)
  | 11 => fun v => v = .pointer (some ⟨r, 2, none⟩)
  | 12 => fun v => v = .slice a m c
  | 13 => fun v => v = .int .i64 (m : Int)
  | 14 => fun v => v = .bool true
  | 15 => fun v => v = .bool true
  | 16 => fun v => v = .bool true
  | 17 => fun v => v = .int .i64 by0
  | 18 => fun v => v = .pointer (some ⟨r, 0, none⟩)
  | 19 => fun v => v = .pointer (some ⟨r, 0, none⟩)
  | 20 => fun v => v = .pointer (some ⟨r, 2, none⟩)
  | 21 => fun v => v = .slice a m c
  | 22 => fun v => v = .int .i64 by0
  | 23 => fun v => v = .bool true
  | 24 => fun v => v = .bool true
  | 25 => fun v => v = .bool true
  | _ => fun _ => False
def ValS (L : List Rw) (t r m c : Nat) (by0 sz : Int) (a : Option Addr) (i : Nat) (v : Value) (w : World) : Prop := if i = 1 then IsRows w v L else ValC t r m c by0 sz a i v
theorem ValS.mono {L : List Rw} {t r m c : Nat} {by0 sz : Int} {a : Option Addr} {w w' : World} (hb : Below w.heap.size w w') (j : Nat) (u : Value) (h : ValS L t r m c by0 sz a j u w) : ValS L t r m c by0 sz a j u w' := by
  unfold ValS at h ⊢
  split at h
  · rename_i e; rw [if_pos e]; exact IsRows.below h hb (Nat.le_refl _)
  · rename_i e; rw [if_neg e]; exact h
end Go.Proofs.YtfbgnpfhjbiikaaGreatDoor

namespace Go.Proofs.YtfbgnpfhjbiikaaGreatDoor
open Go Go.RowKit
open Pth
open Go.Maps (has size Canon CanonK Tidy IsMap KeysOf Keyed Merged)
def NewT (B : Nat) (q1 q2 : Int) (v : Value) (w : World) : Prop := ∃ t b, v = .pointer (some ⟨t, 0, none⟩) ∧ B ≤ t ∧ B ≤ b ∧ TabAt w t b q1 q2 (.map []) 0
def NewR (B : Nat) (q1 q2 : Int) (v : Value) (w : World) : Prop := ∃ r, v = .pointer (some ⟨r, 0, none⟩) ∧ B ≤ r ∧ One r #[.int .i64 q1, .int .i64 q2, .slice none 0 0] w
def ValT (B : Nat) (q1 q2 : Int) : Nat → Value → World → Prop
  | 0 => fun v _ => v = .agg #[.int .i64 q1, .int .i64 q2]
  | 1 => NewT B q1 q2
  | 2 => fun v _ => v = .agg #[.int .i64 q1, .int .i64 q2]
  | 3 => fun v _ => v = .agg #[.int .i64 q1, .int .i64 q2, .slice none 0 0]
  | 4 => NewR B q1 q2
  | 5 => NewT B q1 q2
  | 6 => NewR B q1 q2
  | _ => fun _ _ => False
theorem NewT.below {B : Nat} {q1 q2 : Int} {v : Value} {w w' : World} (h : NewT B q1 q2 v w) (hb : Below w.heap.size w w') : NewT B q1 q2 v w' := by
  obtain ⟨t, b, h1, h2, h3, h4⟩ := h
  exact ⟨t, b, h1, h2, h3, h4.below hb⟩
theorem NewR.below {B : Nat} {q1 q2 : Int} {v : Value} {w w' : World} (h : NewR B q1 q2 v w) (hb : Below w.heap.size w w') : NewR B q1 q2 v w' := by
  obtain ⟨r, h1, h2, h3⟩ := h
  exact ⟨r, h1, h2, h3.step hb⟩
theorem ValT.mono {B : Nat} {q1 q2 : Int} {w w' : World} (hb : Below w.heap.size w w') (j : Nat) (u : Value) (h : ValT B q1 q2 j u w) : ValT B q1 q2 j u w' := by
  rcases j with _ | _ | _ | _ | _ | _ | _ | j
  · exact h
  · exact NewT.below h hb
  · exact h
  · exact h
  · exact NewR.below h hb
  · exact NewT.below h hb
  · exact NewR.below h hb
  · exact h
theorem zeroRef (w : World) : (zeroValue 37).run Tryz.prog w = .ok (.agg #[.int .i64 0, .int .i64 0, .slice none 0 0]) w := by kernel_rfl

end Go.Proofs.YtfbgnpfhjbiikaaGreatDoor

namespace Go.Proofs.YtfbgnpfhjbiikaaGreatDoor
open Go Go.RowKit
open Pth
open Go.Maps (has size Canon CanonK Tidy IsMap KeysOf Keyed Merged)
def ActX.toM (x : ActX) : Actm := ⟨x.es, x.rs, x.pp.length⟩
def IsActX (w : World) (b off : Nat) (x : ActX) : Prop :=
  ∃ ve vr vp, w.cell? ⟨b, off, none⟩ = some (.int .u8 x.dd) ∧ w.cell? ⟨b, off + 1, none⟩ = some ve ∧ w.cell? ⟨b, off + 2, none⟩ = some vr ∧ w.cell? ⟨b, off + 3, none⟩ = some vp ∧ ActIs w ve vr vp x
def IsActsX (w : World) (v : Value) (l : List ActX) : Prop :=
  ∃ a cap, v = .slice a l.length cap ∧ (l = [] ∨ ∃ b off, a = some ⟨b, off, none⟩ ∧ b < w.heap.size ∧ ∀ i, i < l.length → IsActX w b (off + i * 4) (l.getD i dX))
theorem IsActX.below {w w' : World} {b off : Nat} {x : ActX} (h : IsActX w b off x) (hb : Below w.heap.size w w') (hlt : b < w.heap.size) : IsActX w' b off x := by
  obtain ⟨ve, vr, vp, h0, h1, h2, h3, h4⟩ := h
  exact ⟨ve, vr, vp, (hb.cell hlt).trans h0, (hb.cell hlt).trans h1, (hb.cell hlt).trans h2, (hb.cell hlt).trans h3, h4.below hb⟩
theorem IsActsX.below {w w' : World} {v : Value} {l : List ActX} (h : IsActsX w v l) (hb : Below w.heap.size w w') : IsActsX w' v l := by
  obtain ⟨a, cap, hv, h⟩ := h
  refine ⟨a, cap, hv, ?_⟩
  rcases h with h | ⟨b, off, ha, hlt, hc⟩
  · exact Or.inl h
  · exact Or.inr ⟨b, off, ha, by have := hb.size; omega, fun i hi => (hc i hi).below hb hlt⟩
theorem toM_getD (l : List ActX) (i : Nat) : (l.map ActX.toM).getD i dA = (l.getD i dX).toM := by
  simp only [List.getD_eq_getElem?_getD, List.getElem?_map]
  cases l[i]? <;> rfl
theorem IsActsX.acts {w : World} {v : Value} {l : List ActX} (h : IsActsX w v l) : IsActs w v (l.map ActX.toM) := by
  obtain ⟨a, cap, hv, h⟩ := h
  refine ⟨a, cap, by rw [List.length_map]; exact hv, ?_⟩
  rcases h with h | ⟨b, off, ha, hlt, hc⟩
  · exact Or.inl (by rw [h]; rfl)
  · refine Or.inr ⟨b, off, ha, hlt, fun i hi => ?_⟩
    rw [List.length_map] at hi
    obtain ⟨ve, vr, vp, h0, h1, h2, h3, h4⟩ := hc i hi
    rw [toM_getD]
    obtain ⟨ar, cr, e2, _, h5⟩ := h4.r
    obtain ⟨ap, cp, e3, _⟩ := h4.p
    subst e3
    exact ⟨ve, vr, ap, cp, h1, h4.e, h2, h5, h3⟩
structure ActFit (x : ActX) : Prop where
  d : x.dd < 256
  wf : RowsWf x.rs
  li : Light 1048576 x.toM
  rp : ∀ i, i < x.rs.length → (x.rs.getD i dR).1.size ≤ 1048576
  pp : ∀ i, i < x.pp.length → (x.pp.getD i ByteArray.empty).size ≤ 1048576
theorem totW_mem : ∀ {l : List Actm} {i : Nat}, i < l.length → 8 * ((l.getD i dA).es.length + (l.getD i dA).rs.length + (l.getD i dA).ps) ≤ totW l
  | [], i, h => by simp at h
  | a :: t, 0, _ => by simp only [List.getD_cons_zero, totW]; omega
  | a :: t, i + 1, h => by
    have := totW_mem (l := t) (i := i) (by simpa using h)
    simp only [List.getD_cons_succ, totW]; omega
theorem ActFit.sz {l : List ActX} {i : Nat} (hi : i < l.length) (hf : ActFit (l.getD i dX)) (ht : totW (l.map ActX.toM) ≤ 8192) : ActSz (l.getD i dX) ∧ (l.getD i dX).es.length + (l.getD i dX).rs.length ≤ 1024 := by
  have h := totW_mem (l := l.map ActX.toM) (i := i) (by rw [List.length_map]; exact hi)
  rw [toM_getD] at h
  have h1 : 8 * ((l.getD i dX).es.length + (l.getD i dX).rs.length + (l.getD i dX).pp.length) ≤ totW (l.map ActX.toM) := h
  obtain ⟨_, _, _, a4, a5⟩ := hf.li
  refine ⟨⟨hf.d, by omega, by omega, by omega, hf.wf, fun j hj => ?_, fun j hj => ?_, fun j hj => ?_⟩, by omega⟩
  · have := a4 j hj
    have h2 : ((l.getD i dX).es.getD j dE).path.size ≤ 1048576 := this.1
    have h3 : ((l.getD i dX).es.getD j dE).text.size ≤ 1048576 := this.2
    constructor <;> omega
  · have h2 := hf.rp j hj
    have h3 : ((l.getD i dX).rs.getD j dR).2.l.length ≤ 1048576 := (a5 j hj).1
    constructor <;> omega
  · have := hf.pp j hj; omega
theorem rowsL_nil : rowsL (.map []) = [] := by simp [rowsL, keysL, strKeys]
theorem refNew {w : World} {r : Nat} {q1 q2 : Int} (h : One r #[.int .i64 q1, .int .i64 q2, .slice none 0 0] w) : RefAt w r q1 q2 [] :=
  ⟨by rw [h.c]; rfl, by rw [h.c]; rfl, ⟨none, 0, by rw [h.c]; rfl, ⟨none, 0, rfl, Or.inl rfl⟩, Nat.le_refl _⟩, fun j => by rw [h.c]; simp, h.f 2⟩
end Go.Proofs.YtfbgnpfhjbiikaaGreatDoor

namespace Go.Proofs.YtfbgnpfhjbiikaaGreatDoor
open Go Go.RowKit
open Go.Maps (has size Canon CanonK Tidy IsMap KeysOf Keyed Merged)
structure Pair (w : World) (ta ba tb bb : Nat) (MA : DataW Cel) (BA : Int) (MB : DataW Cel) (BB : Int) : Prop where
  a : TabAt w ta ba 40 4096 MA BA
  b : TabAt w tb bb 40 4096 MB BB
  n1 : ta ≠ tb
  n2 : ta ≠ bb
  n3 : ba ≠ tb
  n4 : ba ≠ bb
theorem Pair.below {w w' : World} {ta ba tb bb : Nat} {MA MB : DataW Cel} {BA BB : Int} (h : Pair w ta ba tb bb MA BA MB BB) (hb : Below w.heap.size w w') : Pair w' ta ba tb bb MA BA MB BB :=
  ⟨h.a.below hb, h.b.below hb, h.n1, h.n2, h.n3, h.n4⟩
theorem Pair.turnA {w w' : World} {ta ba tb bb : Nat} {MA MB MA' : DataW Cel} {BA BB BA' : Int} (h : Pair w ta ba tb bb MA BA MB BB) (hb : ButS (fun k => k = ta ∨ k = ba) w w') (ha : TabAt w' ta ba 40 4096 MA' BA') : Pair w' ta ba tb bb MA' BA' MB BB :=
  ⟨ha, h.b.but hb (fun k hk => by rcases hk with rfl | rfl; exact h.a.noVers; exact h.a.m.noVers) (by rintro (e | e); exact h.n1 e.symm; exact h.n3 e.symm) (by rintro (e | e); exact h.n2 e.symm; exact h.n4 e.symm), h.n1, h.n2, h.n3, h.n4⟩
theorem Pair.turnB {w w' : World} {ta ba tb bb : Nat} {MA MB MB' : DataW Cel} {BA BB BB' : Int} (h : Pair w ta ba tb bb MA BA MB BB) (hb : ButS (fun k => k = tb ∨ k = bb) w w') (ha : TabAt w' tb bb 40 4096 MB' BB') : Pair w' ta ba tb bb MA BA MB' BB' :=
  ⟨h.a.but hb (fun k hk => by rcases hk with rfl | rfl; exact h.b.noVers; exact h.b.m.noVers) (by rintro (e | e); exact h.n1 e; exact h.n2 e) (by rintro (e | e); exact h.n3 e; exact h.n4 e), ha, h.n1, h.n2, h.n3, h.n4⟩
theorem Pair.lts {w : World} {ta ba tb bb : Nat} {MA MB : DataW Cel} {BA BB : Int} (h : Pair w ta ba tb bb MA BA MB BB) : ta < w.heap.size ∧ ba < w.heap.size ∧ tb < w.heap.size ∧ bb < w.heap.size := ⟨h.a.lt, HoldsMap.lt h.a.m, h.b.lt, HoldsMap.lt h.b.m⟩
theorem Pair.bareB {w : World} {ta ba tb bb : Nat} {MA MB : DataW Cel} {BA BB : Int} (h : Pair w ta ba tb bb MA BA MB BB) : ∀ k, (k = tb ∨ k = bb) → Bare w k := fun k hk => by rcases hk with rfl | rfl; exact h.b.bare; exact h.b.m.bare

structure TabsL (B0 : Nat) (W : World) (L : List (Nat × Nat)) : Prop where
  at_ : ∀ p ∈ L, TabAt W p.1 p.2 40 4096 (.map []) 0
  apart : L.Pairwise (fun p q => p.1 ≠ q.1 ∧ p.1 ≠ q.2 ∧ p.2 ≠ q.1 ∧ p.2 ≠ q.2)
  above : ∀ p ∈ L, B0 ≤ p.1 ∧ B0 ≤ p.2
theorem TabsL.nil (B0 : Nat) (W : World) : TabsL B0 W [] := ⟨fun p hp => (by cases hp), List.Pairwise.nil, fun p hp => (by cases hp)⟩
theorem TabsL.cons {B0 : Nat} {W w6 : World} {L : List (Nat × Nat)} {t b : Nat} (h : TabsL B0 W L) (hB : B0 ≤ W.heap.size) (ht : W.heap.size ≤ t) (hb : W.heap.size ≤ b) (hT : TabAt w6 t b 40 4096 (.map []) 0) (hb6 : Below W.heap.size W w6) : TabsL B0 w6 ((t, b) :: L) := by
  refine ⟨fun p hp => ?_, List.pairwise_cons.2 ⟨fun q hq => ?_, h.apart⟩, fun p hp => ?_⟩
  · rcases List.mem_cons.1 hp with rfl | hp
    · exact hT
    · exact (h.at_ p hp).below hb6
  · have h1 := (h.at_ q hq).lt
    have h2 := HoldsMap.lt (h.at_ q hq).m
    refine ⟨?_, ?_, ?_, ?_⟩ <;> simp only <;> omega
  · rcases List.mem_cons.1 hp with rfl | hp
    · exact ⟨by simp only; omega, by simp only; omega⟩
    · exact h.above p hp
theorem TabsL.pair {B0 : Nat} {W : World} {ta ba tb bb : Nat} (h : TabsL B0 W [(tb, bb), (ta, ba)]) : Pair W ta ba tb bb (.map []) 0 (.map []) 0 ∧ (B0 ≤ ta ∧ B0 ≤ ba ∧ B0 ≤ tb ∧ B0 ≤ bb) := by
  have h1 := h.at_ (tb, bb) (by simp)
  have h2 := h.at_ (ta, ba) (by simp)
  obtain ⟨p1, p2, p3, p4⟩ := (List.pairwise_cons.1 h.apart).1 (ta, ba) (by simp)
  have a1 := h.above (tb, bb) (by simp)
  have a2 := h.above (ta, ba) (by simp)
  exact ⟨⟨h2, h1, fun e => p1 e.symm, fun e => p3 e.symm, fun e => p2 e.symm, fun e => p4 e.symm⟩, a2.1, a2.2, a1.1, a1.2⟩
theorem one_small {x : Edt} (h : x.path.size ≤ 140737488351232 ∧ x.text.size ≤ 140737488351232) : ∀ i, i < [x].length → ([x].getD i dE).path.size ≤ 140737488351232 ∧ ([x].getD i dE).text.size ≤ 9223372036854775807 := by
  intro i hi
  obtain rfl : i = 0 := by simpa using hi
  exact ⟨h.1, by have := h.2; simp only [List.getD_cons_zero]; omega⟩
theorem TabAt.free {S : Nat → Prop} {w w' : World} {t b B0 : Nat} {q1 q2 B : Int} {M : DataW Cel} (h : TabAt w t b q1 q2 M B) (hA : AbvMap B0 w b M) (hb : ButS S w w') (hS : ∀ k, S k → k < B0) (ht : ¬ S t) (hn : ¬ S b) : TabAt w' t b q1 q2 M B := by
  have hl := h.lt
  exact ⟨(hb.cell hl ht).trans h.c0, (hb.cell hl ht).trans h.c1, (hb.cell hl ht).trans h.c2, (hb.cell hl ht).trans h.c3, fun j => (hb.cell hl ht).trans (h.c4 j), (hb.frozen hl ht).trans h.f3, (hA.free hb hS hn).map⟩
theorem noVers_new {w : World} {k : Nat} (h : w.heap.size ≤ k) : NoVers w k := fun o n s h1 _ => by have : k < w.heap.size := cell_lt h1; omega
theorem zeroVerL (w : World) : (zeroValue 50).run Tryz.prog w = .ok (.agg #[.int .u64 0, .int .u8 0, .string ByteArray.empty]) w := by kernel_rfl
def Heads (w : World) (a : Option Addr) (T : List (Rw × Value)) : Prop := ∀ i, i < T.length → ∃ bR, a = some ⟨bR, 0, none⟩ ∧ w.cell? ⟨bR, i * 3 + 2, none⟩ = some (T.getD i dRV).2
def WrOk (w : World) (T : List (Rw × Value)) : Prop := ∀ x ∈ T, ∃ g cap, x.2 = .slice (some ⟨g, 0, none⟩) x.1.2.l.length cap ∧ 0 < x.1.2.l.length ∧ ∀ j, j < 3 → (∃ u, w.cell? ⟨g, j, none⟩ = some u) ∧ w.frozen? ⟨g, j, none⟩ = false
theorem WrOk.set {w : World} {T : List (Rw × Value)} (h : WrOk w T) (p : Addr) (u : Value) : WrOk (w.setCell p u) T := by
  intro x hx
  obtain ⟨g, cap, h1, h2, h3⟩ := h x hx
  refine ⟨g, cap, h1, h2, fun j hj => ?_⟩
  obtain ⟨⟨v, hv⟩, hf⟩ := h3 j hj
  refine ⟨?_, by rw [World.frozen?_setCell]; exact hf⟩
  by_cases e : p = ⟨g, j, none⟩
  · subst e; exact ⟨u, World.cell?_setCell_same' _ _ _ (by rw [hv]; rfl)⟩
  · exact ⟨v, (World.cell?_setCell_other _ _ _ _ e).trans hv⟩
theorem Heads.set {w : World} {a : Option Addr} {T : List (Rw × Value)} (h : Heads w a T) (p : Addr) (u : Value) (hp : ∀ bR, a = some ⟨bR, 0, none⟩ → p.block ≠ bR) : Heads (w.setCell p u) a T := by
  intro i hi
  obtain ⟨bR, h1, h2⟩ := h i hi
  exact ⟨bR, h1, (World.cell?_setCell_far _ _ _ _ (hp bR h1)).trans h2⟩
theorem heads_own {w : World} {B e : Nat} {a : Option Addr} {c : Nat} {T : List (Rw × Value)} (h : w.ownsRow B e 3 (.slice a T.length c) T.length (rowCells T)) : Heads w a T := by
  intro i hi
  rcases h.2 with ⟨hv, hn⟩ | ⟨g, cap, cur, hv, hB, hg, _⟩
  · omega
  · cases hv
    have h1 := World.ownsRow.cellAt h (i * 3 + 2) (by omega)
    rw [(rowCells_at T i hi).2.2] at h1
    exact ⟨g, rfl, h1⟩
theorem wrOk_own {w : World} {B : Nat} {o : Option Nat} {T : List (Rw × Value)} (h : RowsOwn B w T o) (hl : ∀ x ∈ T, x.1.2.l ≠ []) : WrOk w T := by
  intro x hx
  have hp : 0 < x.1.2.l.length := List.length_pos_iff.2 (hl x hx)
  rcases (h x hx).1.2 with ⟨_, hn⟩ | ⟨g, cap, cur, hv, hB, hg, hn, hcap, hsz, _⟩
  · omega
  · refine ⟨g, cap, hv, hp, fun j hj => ⟨?_, ?_⟩⟩
    · have hj2 : j < cur.size := by omega
      exact ⟨cur[j], by unfold World.cell?; rw [hg]; simp [hj2]⟩
    · unfold World.frozen?; rw [hg]; simp
theorem actB (w : World) (ve vp : Value) (le : List Edt) (lp : List ByteArray) (he : IsEdts w ve le) (hp : IsStrs w vp lp) (t : TypeId) :
    IsActs (w.alloc (.cells #[.int .u8 0, ve, .slice none 0 0, vp] t)) (.slice (some ⟨w.heap.size, 0, none⟩) 1 1) [⟨le, [], lp.length⟩] := by
  obtain ⟨ap, cp, rfl, _⟩ := hp
  refine ⟨_, 1, rfl, Or.inr ⟨w.heap.size, 0, rfl, by simp, fun i hi => ?_⟩⟩
  have hb : Below w.heap.size w (w.alloc (.cells #[.int .u8 0, ve, .slice none 0 0, .slice ap lp.length cp] t)) := (Below.refl _ _).alloc (Nat.le_refl _) _
  obtain rfl : i = 0 := by simpa using hi
  exact ⟨ve, .slice none 0 0, ap, cp, World.cell?_alloc_mark _ _ _ _ _, he.below hb (Nat.le_refl _), World.cell?_alloc_mark _ _ _ _ _, ⟨none, 0, rfl, Or.inl rfl⟩, World.cell?_alloc_mark _ _ _ _ _⟩
end Go.Proofs.YtfbgnpfhjbiikaaGreatDoor

namespace Go.Proofs.YtfbgnpfhjbiikaaGreatDoor
open Go Go.RowKit
open Pth
open Go.Maps (has size Canon CanonK Tidy IsMap KeysOf Keyed Merged)
set_option maxRecDepth 100000 in
set_option maxHeartbeats 8000000 in
theorem law18_loads (la : List ActX) (va : Value) (lb : List Edt) (vb : Value) (lp : List ByteArray) (vp : Value) (w : World) (hva : IsActsX w va la) (hla : la.length ≤ 1048576) (hfa : ∀ i, i < la.length → ActFit (la.getD i dX))
    (hvb : IsEdts w vb lb) (hlb : lb.length ≤ 1048576) (hfb : ∀ i, i < lb.length → (lb.getD i dE).path.size ≤ 1048576 ∧ (lb.getD i dE).text.size ≤ 1048576)
    (hvp : IsStrs w vp lp) (hlp : lp.length ≤ 1048576) (hfp : ∀ i, i < lp.length → (lp.getD i ByteArray.empty).size ≤ 1048576) (hm : MX w) :
    Calls Tryz.prog 3 #[va, vb, vp] w fun e w' => e = .returned (.bool true) ∧ Below w.heap.size w w' := by
  have Hm := Lib.hid hm; have HVA := Lib.hid hva; have HFA := Lib.hid hfa; have HVB := Lib.hid hvb; have HFB := Lib.hid hfb; have HVP := Lib.hid hvp; have HFP := Lib.hid hfp
  obtain ⟨aa, ca, rfl, hca⟩ := hva
  obtain ⟨ab, cb, rfl, hcb⟩ := hvb
  obtain ⟨ap, cp, rfl, _⟩ := hvp
  have HCA := Lib.hid hca; have HCB := Lib.hid hcb
  clear hca hcb hm hfa hfb hfp
  have HWk : Hid (∀ W, Below w.heap.size w W → Calls Tryz.prog 9 #[] W (fun e w' => e = .returned (.bool true) ∧ Below w.heap.size w w')) := Lib.hid (fun W hW => by
    refine (law_works W (Hm.out.below hW (Nat.le_refl _))).mono ?_
    rintro e w' ⟨rfl, hb⟩
    exact ⟨rfl, hW.trans (hb.mono hW.size)⟩)
  go_enter Tryz.func3, Tryz.ntmps3
  go_wp2_with fail
  refine (law_heavy 1048576 (la.map ActX.toM) _ _ HVA.out.acts (by omega) (by rw [List.length_map]; omega) (by rw [List.length_map]; omega) (fun i hi => by
    rw [toM_getD]; exact (HFA.out i (by rw [List.length_map] at hi; exact hi)).li)).mono ?_
  rintro e w1 ⟨x, rfl, hx, hb1⟩
  have Hb1 := Lib.hid hb1; clear hb1
  cases x with
  | true =>
    go_wp2_with fail
    refine (HWk.out _ Hb1.out).mono ?_
    rintro e w2 ⟨rfl, hb2⟩
    have Hb2 := Lib.hid hb2; clear hb2
    go_wp2_with fail
    go_ret
    exact ⟨rfl, Hb2.out⟩
  | false =>
    have hlen := hx rfl
    rw [List.length_map] at hlen
    have HTot := Lib.hid hlen.1
    have hl40 := hlen.2
    clear hx hlen
    go_wp2_with fail
    refine (law_heavy 1048576 [⟨lb, [], lp.length⟩] _ _ (actB w1 _ _ lb lp (HVB.out.below Hb1.out (Nat.le_refl _)) (HVP.out.below Hb1.out (Nat.le_refl _)) _) (by omega) (by simp) (by simp) ?_).mono ?_
    · intro i hi
      obtain rfl : i = 0 := by simpa using hi
      exact ⟨by simp only [List.getD_cons_zero]; omega, by simp, by simp only [List.getD_cons_zero]; omega, HFB.out, fun i hi => by simp at hi⟩
    rintro e w2 ⟨x, rfl, hx, hb2⟩
    have Hb2 : Hid (Below w.heap.size w w2) := Lib.hid (Hb1.out.trans (((Below.refl w1.heap.size w1).alloc (Nat.le_refl _) _).trans (hb2.mono (by simp)) |>.mono Hb1.out.size)); clear hb2
    cases x with
    | true =>
      go_wp2_with fail
      refine (HWk.out _ Hb2.out).mono ?_
      rintro e w3 ⟨rfl, hb3⟩
      have Hb3 := Lib.hid hb3; clear hb3
      go_wp2_with fail
      go_ret
      exact ⟨rfl, Hb3.out⟩
    | false =>
      have hlen := (hx rfl).1
      simp [totW] at hlen
      have hn : lb.length + lp.length ≤ 1024 := by omega
      clear hx hlen
      go_upto_region 4 with fail
      refine wp_abs (F := fun W => One w2.heap.size #[.int .i64 40, .int .i64 4096] W ∧ Below w2.heap.size w2 W) ⟨One.of _ _ _, (Below.refl _ _).alloc (Nat.le_refl _) _⟩ ?_
      rintro W4 ⟨hQ, hb4⟩
      have q0 := hQ.c 0; have q1 := hQ.c 1
      simp at q0 q1
      have hql := hQ.lt
      have Hb4 := Lib.hid (Hb2.out.trans (hb4.mono Hb2.out.size)); clear hQ hb4
      have keepS : Hid (∀ w', Below W4.heap.size W4 w' → w'.cell? ⟨w2.heap.size, 0, none⟩ = some (.int .i64 40) ∧ w'.cell? ⟨w2.heap.size, 1, none⟩ = some (.int .i64 4096) ∧ Hid (Below W4.heap.size W4 w')) :=
        Lib.hid (fun w' h => ⟨(h.cell hql).trans q0, (h.cell hql).trans q1, Lib.hid h⟩)
      have keepB : Hid (∀ w' : World, (w'.cell? ⟨w2.heap.size, 0, none⟩ = some (.int .i64 40) ∧ w'.cell? ⟨w2.heap.size, 1, none⟩ = some (.int .i64 4096) ∧ Hid (Below W4.heap.size W4 w')) → Below W4.heap.size W4 w') := Lib.hid (fun w' h => h.2.2.out)
      go_cut [8, 9] (fun s8 s9 wx => ∃ ta ba tb bb, s8 = .pointer (some ⟨ta, 0, none⟩) ∧ s9 = .pointer (some ⟨tb, 0, none⟩) ∧ Hid (Pair wx ta ba tb bb (.map []) 0 (.map []) 0) ∧ Hid (w.heap.size ≤ ta ∧ w.heap.size ≤ ba ∧ w.heap.size ≤ tb ∧ w.heap.size ≤ bb) ∧ Hid (Below w.heap.size w wx))
      case first =>
        have HP : Hid (TabsL W4.heap.size W4.drew []) := Lib.hid (TabsL.nil _ _)
        go_region_held3 (fun w' => w'.cell? ⟨w2.heap.size, 0, none⟩ = some (.int .i64 40) ∧ w'.cell? ⟨w2.heap.size, 1, none⟩ = some (.int .i64 4096) ∧ Hid (Below W4.heap.size W4 w'))
          (first
            | exact keepS.out _ HBc.out
            | exact keepS.out _ (Below.drew (Below.refl _ _)))
          (first
            | (go_at_call 10; refine (tab_new 40 4096 _).mono ?_; rintro e w6 ⟨t, b, rfl, ht, hb, hT, hb6⟩; have HP := Lib.hid (TabsL.cons HP.out (keepB.out _ (by assumption)).size ht hb hT hb6); have HBc := Lib.hid ((keepB.out _ (by assumption)).trans (hb6.mono (keepB.out _ (by assumption)).size)); clear ht hb hT hb6))
        all_goals (
          go_wp2_with fail
          go_meet
          case rel => exact ⟨_, _, _, _, rfl, rfl, Lib.hid HP.out.pair.1, Lib.hid (by have := HP.out.pair.2; have := Hb4.out.size; omega), Lib.hid (Hb4.out.trans (HBc.out.mono Hb4.out.size))⟩)
      case rest =>
        obtain ⟨ta, ba, tb, bb, rfl, rfl, hP, hab, hbc⟩ := hcut
        clear q0 q1 hql keepS keepB
        have hzr := zeroRef
        go_wp2_with fail
        go_loopw [10] (fun s10 wr => ∃ (k : Nat) (M : DataW Cel), k ≤ la.length ∧ s10 = .int .i64 k ∧ Hid (Pair wr ta ba tb bb M (bytesR (rowsL M)) (.map []) 0) ∧ Hid (Good Tryz.prog 9 M) ∧ Hid (size M ≤ k * 1024) ∧ Hid (Below w.heap.size w wr)) (fun i _ => la.length - (intOf i).toNat)
        case atStart => exact ⟨0, .map [], Nat.zero_le _, rfl, Lib.hid (by rw [rowsL_nil]; exact hP.out), Lib.hid (good_none _ _), Lib.hid (by simp [size]), hbc⟩
        case round =>
          clear hP hbc
          obtain ⟨k, M, hk, rfl, hP, hG, hsz, hbw⟩ := hrel
          by_cases hlt : k < la.length
          · have hltI : (k : Int) < (la.length : Int) := by omega
            rcases HCA.out with hnil | ⟨bA, off, rfl, hlA, hacts⟩
            · rw [hnil] at hlt; simp at hlt
            obtain ⟨W8, hW8⟩ : ∃ W8, W8 = wr.alloc (.cells #[.int .i64 0, .int .i64 0, .slice none 0 0] 37) := ⟨_, rfl⟩
            have hb8 : Below wr.heap.size wr W8 := by rw [hW8]; exact (Below.refl _ _).alloc (Nat.le_refl _) _
            have hO8 : One wr.heap.size #[.int .i64 0, .int .i64 0, .slice none 0 0] W8 := by rw [hW8]; exact One.of _ _ _
            have Hw8 : Hid (Below w.heap.size w W8) := Lib.hid (hbw.out.trans (hb8.mono hbw.out.size))
            obtain ⟨ve, vr, vq, g0, g1, g2, g3, g4⟩ := (hacts k hlt).below Hw8.out hlA
            obtain ⟨z1, z2⟩ := (HFA.out k hlt).sz hlt HTot.out
            clear hacts
            obtain ⟨x, hx⟩ : ∃ x, la.getD k dX = x := ⟨_, rfl⟩
            rw [hx] at g0 g4 z1 z2
            have hsM : size M ≤ 40960 := by have := hsz.out; omega
            have hP8 := hP.out.below hb8
            have hlts := hP.out.lts
            have hD8 : Duo W8 ta ba wr.heap.size 40 4096 0 0 M [] := ⟨hP8.a, hG.out, refNew hO8, ⟨List.Pairwise.nil, fun x hx => by cases hx⟩, by omega, by omega⟩
            have HS3 : Hid (∀ k, S3 ta ba wr.heap.size k → w.heap.size ≤ k) := Lib.hid (by
              have h1 := hab.out; have h2 := hbw.out.size
              rintro k (e | e | e) <;> omega)
            have HMX : Hid (∀ W, ButS (S3 ta ba wr.heap.size) W8 W → MX W) := Lib.hid (fun W hW => Hm.out.below (Hw8.out.trans (hW.below HS3.out Hw8.out.size)) (Nat.le_refl _))
            have HDo := Lib.hid (law_does ta ba wr.heap.size 40 4096 0 0 M [] x ve vr vq W8 hD8 HMX.out g4 z1 (by omega) (by simp))
            have HP8 := Lib.hid hP8; have HD8 := Lib.hid hD8; have Hz2 := Lib.hid z2; have Hlts := Lib.hid hlts
            clear g4 z1 z2 hx hP8 hD8 hO8 hb8 hlts
            subst hW8
            go_wp2_with fail
            refine HDo.out.mono ?_
            rintro e w9 ⟨x1, M2, R2, rfl, hD9, hs9, _, _, hb9⟩
            have HP9 : Hid (Pair w9 ta ba tb bb M2 (bytesR (rowsL M2)) (.map []) 0) := Lib.hid (by
              have h8 := HP8.out
              have hl := Hlts.out
              refine ⟨hD9.hT, h8.b.but hb9 ?_ ?_ ?_, h8.n1, h8.n2, h8.n3, h8.n4⟩
              · rintro k (e | e | e)
                · exact (HD8.out.bareT k (Or.inl e)).2
                · exact (HD8.out.bareT k (Or.inr e)).2
                · exact (HD8.out.bareR k e).2
              · rintro (e | e | e)
                · exact h8.n1 e.symm
                · exact h8.n3 e.symm
                · omega
              · rintro (e | e | e)
                · exact h8.n2 e.symm
                · exact h8.n4 e.symm
                · omega)
            have HG9 := Lib.hid hD9.hG
            have HB9 : Hid (Below w.heap.size w w9) := Lib.hid (Hw8.out.trans (hb9.below HS3.out Hw8.out.size))
            have HS9 : Hid (size M2 ≤ (k + 1) * 1024) := Lib.hid (by have := hsz.out; have := Hz2.out; omega)
            clear hD9 hs9 hb9 HDo HMX g0 g1 g2 g3
            go_wp2_with fail
            go_roundw
            case rel => exact ⟨k + 1, M2, by omega, by go_num, HP9, HG9, HS9, HB9⟩
            case measure => simp [intOf]; omega
          · have hge : ¬ (k : Int) < (la.length : Int) := by omega
            have hsM : size M ≤ 40960 := by have := hsz.out; omega
            have hRl : (rowsL M).length ≤ 40960 := by rw [rows_length hG.out.canon]; exact hsM
            have HRows := Lib.hid (tab_rowsO wr hP.out.a hG.out (by omega))
            go_wp2_with fail
            refine HRows.out.mono ?_
            rintro e w5 ⟨vR, T, rfl, hown5, hTm, hOw5, hb5⟩
            obtain ⟨aR, cR, rfl⟩ := ownShape hown5
            have HOwn := Lib.hid hown5; have HTm := Lib.hid hTm; have HOw := Lib.hid hOw5
            have HB5 : Hid (Below w.heap.size w w5) := Lib.hid (hbw.out.trans (hb5.mono hbw.out.size))
            have HP5 := Lib.hid (hP.out.below hb5)
            have HI5 : Hid (IsRows w5 (.slice aR T.length cR) (rowsL M)) := Lib.hid (by rw [← hTm]; exact IsRows.own hown5 hOw5.off)
            have HBf : Hid (Below wr.heap.size wr w5) := Lib.hid hb5
            clear hown5 hTm hOw5 hb5 HRows
            have HCp := Lib.hid (law_copied (rowsL M) (.slice aR T.length cR) w5 HI5.out (by omega) (fun i hi => by have := may_len (hG.out.okR.at hi).1.2.1; omega))
            go_wp2_with fail
            refine HCp.out.mono ?_
            rintro e w6 ⟨v6, rfl, hr6, hb6⟩
            have HB6 : Hid (Below w.heap.size w w6) := Lib.hid (HB5.out.trans (hb6.mono HB5.out.size))
            have HP6 := Lib.hid (HP5.out.below hb6)
            have HBf6 : Hid (Below wr.heap.size wr w6) := Lib.hid (HBf.out.trans (hb6.mono HBf.out.size))
            have HOw6 := Lib.hid (HOw.out.below hb6); have HOwn6 := Lib.hid (ownBelow HOwn.out hb6)
            have HLd := Lib.hid (tab_loadF w6 HP6.out.b (good_none _ _) (AbvMap.nil HP6.out.b.m) (Hm.out.below HB6.out (Nat.le_refl _)) v6 (rowsL M) hr6 (by omega) (fun i hi => (hG.out.okR.at hi).2) (fun i hi => ⟨by have := mayP_size (hG.out.okR.at hi).1.1; omega, by have := may_len (hG.out.okR.at hi).1.2.1; omega⟩) (by simp [size]) (by omega) (by omega))
            clear hb6 hr6 HCp
            go_wp2_with fail
            refine HLd.out.mono ?_
            rintro e w7 ⟨e7, MB, BB, rfl, hle7, hT7, hG7, hbb7, hsz7, _, _, hb7, hA7⟩
            rw [rowsL_nil] at hle7 hbb7
            obtain ⟨h70, h71⟩ := hle7.uniq (load_rows hG.out.okR)
            subst h70
            have HRB : Hid (rowsL MB = rowsL M) := Lib.hid h71
            have HP7 : Hid (Pair w7 ta ba tb bb M (bytesR (rowsL M)) MB (bytesR (rowsL M))) := Lib.hid (by
              have hBB : BB = bytesR (rowsL M) := by rw [← h71]; have : bytesR ([] : List Rw) = 0 := rfl; omega
              rw [← hBB]
              have h := HP6.out.turnB hb7 hT7
              rw [hBB] at h ⊢
              exact h)
            have HA7 := Lib.hid hA7
            have HG7 := Lib.hid hG7
            have HBt : Hid (ButS (fun k => k = tb ∨ k = bb) wr w7) := Lib.hid ((ButS.of HBf6.out).trans hb7)
            have HB7 : Hid (Below w.heap.size w w7) := Lib.hid (HB6.out.trans (hb7.below (fun k hk => by have := hab.out; rcases hk with rfl | rfl <;> omega) HB6.out.size))
            have HV7 : Hid (ButS (fun k => k = tb ∨ k = bb) w6 w7) := Lib.hid hb7
            clear hle7 hT7 hG7 hbb7 hsz7 hb7 hA7 HLd h71
            have HRa := Lib.hid (tab_rows w7 HP7.out.a hG.out (by omega))
            have hsB : size MB ≤ 40960 := by rw [← rows_length HG7.out.canon, HRB.out]; exact hRl
            go_wp2_with fail
            refine HRa.out.mono ?_
            rintro e w8 ⟨v8, rfl, hi8, hb8⟩
            have HI8 := Lib.hid hi8
            have Hb8 : Hid (Below w7.heap.size w7 w8) := Lib.hid hb8
            have HRb := Lib.hid (tab_rows w8 (HP7.out.below hb8).b HG7.out (by omega))
            clear hi8 hb8 HRa
            go_wp2_with fail
            refine HRb.out.mono ?_
            rintro e w9 ⟨v9, rfl, hi9, hb9⟩
            rw [HRB.out] at hi9
            have HI8b := Lib.hid (HI8.out.below hb9 (Nat.le_refl _))
            have Hb9 : Hid (Below w7.heap.size w7 w9) := Lib.hid (Hb8.out.trans (hb9.mono Hb8.out.size))
            have HSm := Lib.hid (ref18_same (rowsL M) v8 v9 w9 HI8b.out hi9 (by omega) (fun i hi => by have := may_len (hG.out.okR.at hi).1.2.1; omega))
            clear hi9 hb9 HRb HI8
            go_wp2_with fail
            refine HSm.out.mono ?_
            rintro e w10 ⟨rfl, hb10⟩
            have Hb10 : Hid (Below w7.heap.size w7 w10) := Lib.hid (Hb9.out.trans (hb10.mono Hb9.out.size))
            clear hb10 HSm HI8b
            have hTl : T.length = (rowsL M).length := by rw [← HTm.out, List.length_map]
            have HOwn10 : Hid (w10.ownsRow wr.heap.size 48 3 (.slice aR T.length cR) T.length (rowCells T)) := Lib.hid (ownBelow (ownBut HOwn6.out HV7.out (fun k hk => by have := hP.out.lts; rcases hk with rfl | rfl <;> omega)) Hb10.out)
            have HOw10 : Hid (RowsOwn wr.heap.size w10 T (Value.slice aR T.length cR).ownBlock) := Lib.hid (fun x hx => ⟨ownBelow (ownBut (HOw6.out x hx).1 HV7.out (fun k hk => by have := hP.out.lts; rcases hk with rfl | rfl <;> omega)) Hb10.out, (HOw6.out x hx).2⟩)
            have HLt6 : Hid (∀ x ∈ T, ∀ kb, x.2.ownBlock = some kb → wr.heap.size ≤ kb ∧ kb < w6.heap.size) := Lib.hid (fun x hx kb hk => ⟨own_ge (HOw6.out x hx).1 hk, own_lt (HOw6.out x hx).1 hk⟩)
            obtain ⟨Wp, hWp⟩ : ∃ Wp, Wp = wr := ⟨_, rfl⟩
            subst hWp
            have HH10 : Hid (Heads w10 aR T) := Lib.hid (heads_own HOwn10.out)
            have HW10 : Hid (WrOk w10 T) := Lib.hid (wrOk_own HOw10.out (fun x hx => by
              have hm : x.1 ∈ rowsL M := by rw [← HTm.out]; exact List.mem_map.2 ⟨x, hx, rfl⟩
              exact (hG.out.okR.ok _ hm).1.2.2))
            have hzv := zeroVerL
            go_wp2_with fail
            go_loopw [12] (fun s12 wx => ∃ k : Nat, k ≤ T.length ∧ s12 = .int .i64 k ∧ Hid (Heads wx aR T) ∧ Hid (WrOk wx T) ∧ Hid (ButS (fun k => Wp.heap.size ≤ k ∧ k < w6.heap.size) w10 wx)) (fun i _ => T.length - (intOf i).toNat)
            case atStart => exact ⟨0, Nat.zero_le _, rfl, HH10, HW10, Lib.hid (ButS.of (Below.refl _ _))⟩
            case round =>
              clear HH10 HW10
              obtain ⟨i, hi, rfl, hH, hW, hbx⟩ := hrel
              by_cases hit : i < T.length
              · have hitI : (i : Int) < (T.length : Int) := by omega
                obtain ⟨bR, rfl, h2⟩ := hH.out i hit
                have hmem : T.getD i dRV ∈ T := by rw [List.getD_eq_getElem?_getD, List.getElem?_eq_getElem hit]; exact List.getElem_mem hit
                obtain ⟨g, cg, hx2, hn0, hc⟩ := hW.out _ hmem
                have hgl := HLt6.out _ hmem g (by rw [hx2]; rfl)
                have hgR : g ≠ bR := fun e => (HOw10.out _ hmem).2 g (by rw [hx2]; rfl) (by rw [e]; rfl)
                rw [hx2] at h2
                obtain ⟨m, hm⟩ : ∃ m, (T.getD i dRV).1.2.l.length = m := ⟨_, rfl⟩
                rw [hm] at h2 hn0
                obtain ⟨⟨y0, e0⟩, f0⟩ := hc 0 (by decide)
                obtain ⟨⟨y1, e1⟩, f1⟩ := hc 1 (by decide)
                obtain ⟨⟨y2, e2⟩, f2⟩ := hc 2 (by decide)
                have hn0I : (0 : Int) < (m : Int) := by omega
                have Hgl := Lib.hid hgl; have HgR := Lib.hid hgR
                clear hc hm hx2 hmem hgl hgR
                go_wp2_with fail
                go_roundw
                case rel =>
                  have hp : ∀ j : Nat, ∀ bR', some (⟨bR, 0, none⟩ : Addr) = some ⟨bR', 0, none⟩ → (⟨g, j, none⟩ : Addr).block ≠ bR' := fun j bR' e => by cases e; exact HgR.out
                  exact ⟨i + 1, by omega, by go_num, Lib.hid (((hH.out.set _ _ (hp 0)).set _ _ (hp 1)).set _ _ (hp 2)), Lib.hid (((hW.out.set _ _).set _ _).set _ _),
                    Lib.hid (hbx.out.trans (((ButS.set (S := fun k => Wp.heap.size ≤ k ∧ k < w6.heap.size) _ (p := ⟨g, 0, none⟩) Hgl.out _).trans (ButS.set _ (p := ⟨g, 1, none⟩) Hgl.out _)).trans (ButS.set _ (p := ⟨g, 2, none⟩) Hgl.out _)))⟩
                case measure => simp [intOf]; omega
              · have hge : ¬ (i : Int) < (T.length : Int) := by omega
                have hlts := hP.out.lts
                have HPe : Hid (Pair wr ta ba tb bb M (bytesR (rowsL M)) MB (bytesR (rowsL M))) := Lib.hid (by
                  refine ⟨hP.out.a.but (S := fun k => k = tb ∨ k = bb ∨ Wp.heap.size ≤ k) ((HBt.out.mono (fun k hk => by rcases hk with e | e; exact Or.inl e; exact Or.inr (Or.inl e))).trans ((ButS.of Hb10.out).trans (hbx.out.mono (fun k hk => Or.inr (Or.inr hk.1))))) ?_ ?_ ?_,
                    HP7.out.b.free HA7.out ((ButS.of Hb10.out).trans hbx.out) (fun k hk => hk.2) (fun h => by have := h.1; omega) (fun h => by have := h.1; omega), HP7.out.n1, HP7.out.n2, HP7.out.n3, HP7.out.n4⟩
                  · rintro k (e | e | e)
                    · subst e; exact hP.out.b.noVers
                    · subst e; exact hP.out.b.m.noVers
                    · exact noVers_new e
                  · rintro (e | e | e)
                    · exact hP.out.n1 e
                    · exact hP.out.n2 e
                    · omega
                  · rintro (e | e | e)
                    · exact hP.out.n3 e
                    · exact hP.out.n4 e
                    · omega)
                have HBe : Hid (Below w.heap.size w wr) := Lib.hid ((HB7.out.trans (Hb10.out.mono HB7.out.size)).trans (hbx.out.below (fun k hk => by have h1 := hk.1; have h2 := hbw.out.size; omega) (by have h1 := HB7.out.size; have h2 := Hb10.out.size; omega)))
                clear hlts HBt HP7 HA7 Hb10 hbx hH hW HOw10 HOwn10 HOw6 HOwn6 HLt6
                go_wp2_with fail
                go_loopw [13] (fun s13 wx => ∃ (k : Nat) (M1 M2 : DataW Cel), k ≤ lb.length ∧ s13 = .int .i64 k ∧ Hid (Pair wx ta ba tb bb M1 (bytesR (rowsL M1)) M2 (bytesR (rowsL M1))) ∧ Hid (rowsL M2 = rowsL M1) ∧ Hid (Good Tryz.prog 9 M1) ∧ Hid (Good Tryz.prog 9 M2) ∧ Hid (size M1 ≤ 40960 + k) ∧ Hid (Below w.heap.size w wx)) (fun i _ => lb.length - (intOf i).toNat)
                case atStart => exact ⟨0, M, MB, Nat.zero_le _, rfl, HPe, HRB, hG, HG7, Lib.hid (by omega), HBe⟩
                case round =>
                  clear HPe HBe HRB HG7 hP hG hsz hbw
                  obtain ⟨k3, M1, M2, hk3, rfl, hP3, hR3, hG1, hG2, hsz3, hbw3⟩ := hrel
                  have hs1 : size M1 ≤ 45000 := by have := hsz3.out; omega
                  have hs2 : size M2 ≤ 45000 := by rw [← rows_length hG2.out.canon, hR3.out, rows_length hG1.out.canon]; exact hs1
                  have hby := good_bytes hG1.out
                  by_cases hlt3 : k3 < lb.length
                  · have hlt3I : (k3 : Int) < (lb.length : Int) := by omega
                    rcases HCB.out with hnil | ⟨bl, off3, rfl, hblt, hcc⟩
                    · rw [hnil] at hlt3; simp at hlt3
                    obtain ⟨h0, h1, h2, h3, h4, h5⟩ := hcc k3 hlt3
                    have k0 := (hbw3.out.cell (p := ⟨bl, off3 + k3 * 6, none⟩) hblt).trans h0
                    have k1 := (hbw3.out.cell (p := ⟨bl, off3 + k3 * 6 + 1, none⟩) hblt).trans h1
                    have k2 := (hbw3.out.cell (p := ⟨bl, off3 + k3 * 6 + 2, none⟩) hblt).trans h2
                    have k3' := (hbw3.out.cell (p := ⟨bl, off3 + k3 * 6 + 3, none⟩) hblt).trans h3
                    have k4 := (hbw3.out.cell (p := ⟨bl, off3 + k3 * 6 + 4, none⟩) hblt).trans h4
                    have k5 := (hbw3.out.cell (p := ⟨bl, off3 + k3 * 6 + 5, none⟩) hblt).trans h5
                    have hsx := HFB.out k3 hlt3
                    obtain ⟨x, hx⟩ : ∃ x, x = lb.getD k3 dE := ⟨_, rfl⟩
                    rw [← hx] at k0 k1 k2 k3' k4 k5 hsx h0 h1 h2 h3 h4 h5
                    clear hx hcc
                    have hsx2 : x.path.size ≤ 140737488351232 ∧ x.text.size ≤ 140737488351232 := by omega
                    have HA := Lib.hid (fun (W : World) (v : Value) (hP : Pair W ta ba tb bb M1 (bytesR (rowsL M1)) M2 (bytesR (rowsL M1))) (hW : Below w.heap.size w W) (hv : IsEdts W v [x]) => tab_app W hP.a hG1.out (Hm.out.below hW (Nat.le_refl _)) v [x] hv (by simp) (by omega) (by omega) (by omega) (one_small hsx2))
                    have HA2 := Lib.hid (fun (W : World) (v : Value) (MA : DataW Cel) (BA : Int) (hP : Pair W ta ba tb bb MA BA M2 (bytesR (rowsL M1))) (hW : Below w.heap.size w W) (hv : IsEdts W v [x]) => tab_app W hP.b hG2.out (Hm.out.below hW (Nat.le_refl _)) v [x] hv (by simp) (by omega) (by omega) (by omega) (one_small hsx2))
                    have Hng1 := Lib.hid (next_good (q1 := 40) (q2 := 4096) (B := (bytesR (rowsL M1) : Int)) (l := [x]) hG1.out)
                    have Hng2 := Lib.hid (next_good (q1 := 40) (q2 := 4096) (B := (bytesR (rowsL M1) : Int)) (l := [x]) hG2.out)
                    have Hbo := Lib.hid (both_tried (q1 := 40) (q2 := 4096) (l := [x]) hG1.out hG2.out hR3.out)
                    have Hnl := Lib.hid (next_len (q1 := 40) (q2 := 4096) (M := M1) (B := (bytesR (rowsL M1) : Int)) (l := [x]))
                    obtain ⟨r1, hr1⟩ : ∃ r, r = triedT M1 (bytesR (rowsL M1)) 40 4096 [x] := ⟨_, rfl⟩
                    obtain ⟨r2, hr2⟩ : ∃ r, r = triedT M2 (bytesR (rowsL M1)) 40 4096 [x] := ⟨_, rfl⟩
                    rw [← hr1] at HA Hng1 Hbo Hnl
                    rw [← hr2] at HA2 Hng2 Hbo
                    clear hr1 hr2 hsx hsx2
                    have H0 := Lib.hid h0; have H1 := Lib.hid h1; have H2 := Lib.hid h2; have H3 := Lib.hid h3; have H4 := Lib.hid h4; have H5 := Lib.hid h5
                    clear h0 h1 h2 h3 h4 h5
                    have hxe : ∀ W : World, IsEdts (W.alloc (.cells #[.int .u8 x.kind, .string x.path, .bool x.any, .int .u64 x.want, .int .u64 x.n, .string x.text] 55)) (.slice (some ⟨W.heap.size, 0, none⟩) 1 1) [x] := fun W => IsEdts.new W [x] 1 _ _ _ rfl
                    have Hxe := Lib.hid hxe; clear hxe
                    go_wp2_with fail
                    refine (HA.out _ _ ?_ ?_ ?_).mono ?_
                    · exact hP3.out.below ((Below.refl _ _).alloc (Nat.le_refl _) _)
                    · exact hbw3.out.alloc hbw3.out.size _
                    · exact Hxe.out _
                    rintro e w11 ⟨v11, rfl, hown11, hT11, hbut11⟩
                    have hP11 := (hP3.out.below ((Below.refl _ _).alloc (Nat.le_refl _) (.cells #[.int .u8 x.kind, .string x.path, .bool x.any, .int .u64 x.want, .int .u64 x.n, .string x.text] 55))).turnA hbut11 hT11
                    have hbA : Below w.heap.size w (wr.alloc (.cells #[.int .u8 x.kind, .string x.path, .bool x.any, .int .u64 x.want, .int .u64 x.n, .string x.text] 55)) := hbw3.out.alloc hbw3.out.size _
                    have hb11 : Below w.heap.size w w11 := hbA.trans (hbut11.below (by rintro k (rfl | rfl); exact hab.out.1; exact hab.out.2.1) hbA.size)
                    clear k0 k1 k2 k3' k4 k5
                    have k0 := (hb11.cell (p := ⟨bl, off3 + k3 * 6, none⟩) hblt).trans H0.out
                    have k1 := (hb11.cell (p := ⟨bl, off3 + k3 * 6 + 1, none⟩) hblt).trans H1.out
                    have k2 := (hb11.cell (p := ⟨bl, off3 + k3 * 6 + 2, none⟩) hblt).trans H2.out
                    have k3' := (hb11.cell (p := ⟨bl, off3 + k3 * 6 + 3, none⟩) hblt).trans H3.out
                    have k4 := (hb11.cell (p := ⟨bl, off3 + k3 * 6 + 4, none⟩) hblt).trans H4.out
                    have k5 := (hb11.cell (p := ⟨bl, off3 + k3 * 6 + 5, none⟩) hblt).trans H5.out
                    have HN11 := Lib.hid (IsNums.own hown11)
                    have HP11 := Lib.hid hP11; have Hb11 := Lib.hid hb11; clear hP11 hb11 hbA hbut11 hT11 hown11
                    go_wp2_with fail
                    refine (HA2.out _ _ (nextM r1 M1) (nextB r1 (bytesR (rowsL M1))) ?_ ?_ ?_).mono ?_
                    · exact HP11.out.below ((Below.refl _ _).alloc (Nat.le_refl _) _)
                    · exact Hb11.out.alloc Hb11.out.size _
                    · exact Hxe.out _
                    rintro e w12 ⟨v12, rfl, hown12, hT12, hbut12⟩
                    have hP11a := HP11.out.below ((Below.refl _ _).alloc (Nat.le_refl _) (.cells #[.int .u8 x.kind, .string x.path, .bool x.any, .int .u64 x.want, .int .u64 x.n, .string x.text] 55))
                    have hP12 := hP11a.turnB hbut12 hT12
                    have hbA : Below w.heap.size w (w11.alloc (.cells #[.int .u8 x.kind, .string x.path, .bool x.any, .int .u64 x.want, .int .u64 x.n, .string x.text] 55)) := Hb11.out.alloc Hb11.out.size _
                    have hb12 : Below w.heap.size w w12 := hbA.trans (hbut12.below (by rintro k (rfl | rfl); exact hab.out.2.2.1; exact hab.out.2.2.2) hbA.size)
                    have HN11b := Lib.hid ((HN11.out.below ((Below.refl _ _).alloc (Nat.le_refl _) (.cells #[.int .u8 x.kind, .string x.path, .bool x.any, .int .u64 x.want, .int .u64 x.n, .string x.text] 55)) (Nat.le_refl _)).but hbut12 hP11a.bareB)
                    have hn12 := IsNums.own hown12
                    rw [← Hbo.out.2.1] at hn12
                    have HN12 := Lib.hid hn12
                    have HP12 := Lib.hid hP12; have Hb12 := Lib.hid hb12
                    have he1 : r2.1 = r1.1 := Hbo.out.1.symm
                    have hnn : ((r1.1.2 : Int) != (r2.1.2 : Int)) = false := by rw [he1]; simp
                    clear hP11a hP12 hbA hb12 hbut12 hT12 hown12 hn12 k0 k1 k2 k3' k4 k5 he1
                    go_wp2_with fail
                    refine (law_numbers _ _ (nextV r1) w12 HN11b.out HN12.out (by have := Hnl.out; simp at this; omega)).mono ?_
                    rintro e w13 ⟨rfl, hb13⟩
                    have HP13 : Hid (Pair w13 ta ba tb bb (nextM r1 M1) (bytesR (rowsL (nextM r1 M1))) (nextM r2 M2) (bytesR (rowsL (nextM r1 M1)))) := Lib.hid (by
                      have h := HP12.out.below hb13
                      rw [Hbo.out.2.2.2.1, Hbo.out.2.2.2.2] at h
                      exact h)
                    have Hb13 : Hid (Below w.heap.size w w13) := Lib.hid (Hb12.out.trans (hb13.mono Hb12.out.size))
                    have Hs13 : Hid (size (nextM r1 M1) ≤ 40960 + (k3 + 1)) := Lib.hid (by have h1 := Hng1.out.2.1; have h2 := hsz3.out; simp at h1; omega)
                    clear hb13 HP12 HN12 HN11b
                    go_wp2_with fail
                    go_roundw
                    case rel => exact ⟨k3 + 1, nextM r1 M1, nextM r2 M2, by omega, by go_num, HP13, Lib.hid Hbo.out.2.2.1, Lib.hid Hng1.out.1, Lib.hid Hng2.out.1, Hs13, Hb13⟩
                    case measure => simp [intOf]; omega
                  · have hge3 : ¬ (k3 : Int) < (lb.length : Int) := by omega
                    have HV3 := Lib.hid (HVP.out.below hbw3.out (Nat.le_refl _))
                    have HD1 := Lib.hid (tab_drop wr hP3.out.a hG1.out _ lp HV3.out (by omega) (fun i hi => by have := HFP.out i hi; omega) (by omega) (by omega))
                    have Hbd := Lib.hid (both_drop (ps := lp) hG1.out hG2.out hR3.out)
                    have HD2 : Hid (∀ W MA BA, Pair W ta ba tb bb MA BA M2 (bytesR (rowsL M1)) → Below w.heap.size w W → Calls Tryz.prog 18 #[.pointer (some ⟨tb, 0, none⟩), .slice ap lp.length cp] W (DropGives (dropT M2 (bytesR (rowsL M1)) 0 lp) M2 (bytesR (rowsL M1)) lp tb bb 40 4096 W)) := Lib.hid (fun W MA BA hP hW =>
                      tab_drop W hP.b hG2.out _ lp (HVP.out.below hW (Nat.le_refl _)) (by omega) (fun i hi => by have := HFP.out i hi; omega) (by omega) (by omega))
                    obtain ⟨d1, hd1⟩ : ∃ d, d = dropT M1 (bytesR (rowsL M1)) 0 lp := ⟨_, rfl⟩
                    obtain ⟨d2, hd2⟩ : ∃ d, d = dropT M2 (bytesR (rowsL M1)) 0 lp := ⟨_, rfl⟩
                    rw [← hd1] at HD1 Hbd
                    rw [← hd2] at HD2 Hbd
                    clear hd1 hd2
                    go_wp2_with fail
                    refine HD1.out.mono ?_
                    rintro e w14 ⟨rfl, hT14, hg14, hs14, _, _, hb14⟩
                    have HP14 := Lib.hid (hP3.out.turnA hb14 hT14)
                    have HB14 : Hid (Below w.heap.size w w14) := Lib.hid (hbw3.out.trans (hb14.below (by rintro k (rfl | rfl); exact hab.out.1; exact hab.out.2.1) hbw3.out.size))
                    have HG14 := Lib.hid hg14
                    have hs14' : size d1.2.1 ≤ 45000 := by omega
                    clear hT14 hg14 hs14 hb14 HD1
                    go_wp2_with fail
                    refine (HD2.out _ _ _ HP14.out HB14.out).mono ?_
                    rintro e w15 ⟨rfl, hT15, hg15, hs15, _, _, hb15⟩
                    have HP15 : Hid (Pair w15 ta ba tb bb d1.2.1 (bytesR (rowsL d1.2.1)) d2.2.1 d2.2.2) := Lib.hid (by
                      have h := HP14.out.turnB hb15 hT15
                      rw [Hbd.out.2.2] at h
                      exact h)
                    have HB15 : Hid (Below w.heap.size w w15) := Lib.hid (HB14.out.trans (hb15.below (by rintro k (rfl | rfl); exact hab.out.2.2.1; exact hab.out.2.2.2) HB14.out.size))
                    have HG15 := Lib.hid hg15
                    have hs15' : size d2.2.1 ≤ 45000 := by omega
                    have hdn : ((d1.1 : Int) != (d2.1 : Int)) = false := by rw [Hbd.out.1]; simp
                    clear hT15 hg15 hs15 hb15 HD2
                    have HRc := Lib.hid (tab_rows w15 HP15.out.a HG14.out (by omega))
                    go_wp2_with fail
                    refine HRc.out.mono ?_
                    rintro e w16 ⟨v16, rfl, hi16, hb16⟩
                    have HI16 := Lib.hid hi16
                    have Hb16 : Hid (Below w15.heap.size w15 w16) := Lib.hid hb16
                    have HRd := Lib.hid (tab_rows w16 (HP15.out.below hb16).b HG15.out (by omega))
                    clear hi16 hb16 HRc
                    go_wp2_with fail
                    refine HRd.out.mono ?_
                    rintro e w17 ⟨v17, rfl, hi17, hb17⟩
                    rw [Hbd.out.2.1] at hi17
                    have HI16b := Lib.hid (HI16.out.below hb17 (Nat.le_refl _))
                    have Hb17 : Hid (Below w15.heap.size w15 w17) := Lib.hid (Hb16.out.trans (hb17.mono Hb16.out.size))
                    have hl14 : (rowsL d1.2.1).length ≤ 45000 := by rw [rows_length HG14.out.canon]; exact hs14'
                    have HSm2 := Lib.hid (ref18_same (rowsL d1.2.1) v16 v17 w17 HI16b.out hi17 (by omega) (fun i hi => by have := may_len (HG14.out.okR.at hi).1.2.1; omega))
                    clear hi17 hb17 HRd HI16
                    go_wp2_with fail
                    refine HSm2.out.mono ?_
                    rintro e w18 ⟨rfl, hb18⟩
                    have HP18 := Lib.hid (HP15.out.below (Hb17.out.trans (hb18.mono Hb17.out.size)))
                    have HB18 : Hid (Below w.heap.size w w18) := Lib.hid (HB15.out.trans ((Hb17.out.trans (hb18.mono Hb17.out.size)).mono HB15.out.size))
                    clear hb18 HSm2 HI16b
                    have HRe := Lib.hid (tab_rowsO w18 HP18.out.a HG14.out (by omega))
                    go_wp2_with fail
                    refine HRe.out.mono ?_
                    rintro e w19 ⟨v19, T2, rfl, hown19, hTm2, hOw19, hb19⟩
                    have hcap : ∃ a c, v19 = .slice a T2.length c ∧ T2.length ≤ c := by
                      rcases hown19.2 with ⟨hv, hn⟩ | ⟨g, cap, cur, hv, _, _, hn, _⟩
                      · exact ⟨none, 0, by rw [hv, hn], by omega⟩
                      · exact ⟨_, _, hv, hn⟩
                    obtain ⟨a19, c19, rfl, hc19⟩ := hcap
                    have hI19 : IsRows w19 (.slice a19 T2.length c19) (rowsL d1.2.1) := by rw [← hTm2]; exact IsRows.own hown19 hOw19.off
                    have hTl2 : (rowsL d1.2.1).length = T2.length := by rw [← hTm2, List.length_map]
                    have HI19 := Lib.hid hI19; have HTl2 := Lib.hid hTl2
                    have HP19 := Lib.hid (HP18.out.below hb19)
                    have HB19 : Hid (Below w.heap.size w w19) := Lib.hid (HB18.out.trans (hb19.mono HB18.out.size))
                    clear hI19 hTl2 hown19 hTm2 hOw19 hb19 HRe
                    by_cases hz : T2.length = 0
                    · have hzI : ((T2.length : Int) == 0) = true := by simp [hz]
                      go_wp2_with fail
                      refine (HWk.out _ HB19.out).mono ?_
                      rintro e w20 ⟨rfl, hb20⟩
                      have Hb20 := Lib.hid hb20; clear hb20
                      go_wp2_with fail
                      go_ret
                      exact ⟨rfl, Hb20.out⟩
                    · have hzI : ((T2.length : Int) == 0) = false := by rw [beq_eq_false_iff_ne]; omega
                      have h1c : (1 : Int) ≤ (c19 : Int) := by omega
                      have hl0 : 0 < (rowsL d1.2.1).length := by have := HTl2.out; omega
                      obtain ⟨x0, hx0, hm0⟩ : ∃ x0, (rowsL d1.2.1).take 1 = [x0] ∧ x0 ∈ rowsL d1.2.1 := by
                        cases hc : rowsL d1.2.1 with
                        | nil => rw [hc] at hl0; simp at hl0
                        | cons a t => exact ⟨a, by simp, List.mem_cons_self⟩
                      have hok0 := HG14.out.okR.ok _ hm0
                      have HI1 : Hid (IsRows w19 (.slice a19 1 c19) [x0]) := Lib.hid (by
                        have h := HI19.out
                        rw [← HTl2.out] at h
                        have h' := h.take (k := 1) hl0 c19
                        rwa [hx0] at h')
                      have hml0 := may_len hok0.1.2.1
                      have hps0 := mayP_size hok0.1.1
                      have HAg := Lib.hid (load_again HG14.out.okR hm0)
                      have hbyI := good_bytes HG14.out
                      have HC1 := Lib.hid (law_copied [x0] (.slice a19 1 c19) w19 HI1.out (by simp) (fun i hi => by
                        obtain rfl : i = 0 := by simpa using hi
                        simp only [List.getD_cons_zero]; omega))
                      clear hx0 hm0
                      go_wp2_with fail
                      refine HC1.out.mono ?_
                      rintro e w20 ⟨v20, rfl, hi20, hb20⟩
                      have HP20 := Lib.hid (HP19.out.below hb20)
                      have HB20 : Hid (Below w.heap.size w w20) := Lib.hid (HB19.out.trans (hb20.mono HB19.out.size))
                      have HL1 := Lib.hid (tab_loadX w20 HP20.out.a HG14.out (Hm.out.below HB20.out (Nat.le_refl _)) v20 [x0] hi20 (by simp) (fun i hi => by
                        obtain rfl : i = 0 := by simpa using hi
                        simp only [List.getD_cons_zero]; exact hok0.2) (fun i hi => by
                        obtain rfl : i = 0 := by simpa using hi
                        simp only [List.getD_cons_zero]; omega) (by omega) (by omega) (by omega))
                      clear hi20 hb20 HC1 HI1 hok0
                      go_wp2_with fail
                      refine HL1.out.mono ?_
                      rintro e w21 ⟨e21, M21, B21, rfl, hle21, _, _, _, _, _, _, hb21⟩
                      obtain ⟨h210, _⟩ := hle21.uniq HAg.out
                      subst h210
                      have HB21 : Hid (Below w.heap.size w w21) := Lib.hid (HB20.out.trans (hb21.below (by rintro k (rfl | rfl); exact hab.out.1; exact hab.out.2.1) HB20.out.size))
                      clear hle21 hb21 HL1
                      go_wp2_with fail
                      refine (HWk.out _ HB21.out).mono ?_
                      rintro e w22 ⟨rfl, hb22⟩
                      have Hb22 := Lib.hid hb22; clear hb22
                      go_wp2_with fail
                      go_ret
                      exact ⟨rfl, Hb22.out⟩
end Go.Proofs.YtfbgnpfhjbiikaaGreatDoor

namespace Go.Proofs.YtfbgnpfhjbiikaaGreatDoor.bulks
theorem one_le {H : Type} (d : DataW H) : 1 ≤ Rows.uptoBulk d := by
  cases d with
  | lit l => cases l <;> simp [Rows.uptoBulk]
  | nil => simp [Rows.uptoBulk]
  | ptr d => simp [Rows.uptoBulk]
  | slice elems spare => simp [Rows.uptoBulk]
  | agg parts => simp [Rows.uptoBulk]
  | iface t d => simp [Rows.uptoBulk]
  | map entries => simp [Rows.uptoBulk]
  | held h => simp [Rows.uptoBulk]

theorem part_le {H : Type} {d : DataW H} {l : List (DataW H)} (h : d ∈ l) : Rows.uptoBulk d ≤ Rows.uptoBulkAll l := by
  induction l with
  | nil => cases h
  | cons x r ih =>
    simp only [Rows.uptoBulkAll]
    cases List.mem_cons.1 h with
    | inl e => subst e; omega
    | inr e => have := ih e; omega

theorem append {H : Type} (l r : List (DataW H)) : Rows.uptoBulkAll (l ++ r) = Rows.uptoBulkAll l + Rows.uptoBulkAll r := by
  induction l with
  | nil => simp [Rows.uptoBulkAll]
  | cons x l ih => simp only [List.cons_append, Rows.uptoBulkAll, ih]; omega

theorem length_le {H : Type} (l : List (DataW H)) : l.length ≤ Rows.uptoBulkAll l := by
  induction l with
  | nil => simp [Rows.uptoBulkAll]
  | cons x r ih => have := one_le x; simp only [Rows.uptoBulkAll, List.length_cons]; omega

theorem slice_elems {H : Type} (elems spare : List (DataW H)) : Rows.uptoBulkAll elems + 1 ≤ Rows.uptoBulk (.slice elems spare) := by
  simp only [Rows.uptoBulk]
  omega

theorem string_eq {H : Type} (bytes : List UInt8) : Rows.uptoBulk (DataW.lit (H := H) (.string bytes)) = bytes.length + 1 := by
  simp [Rows.uptoBulk]

theorem bound {H : Type} {l : List (DataW H)} (hk : Rows.uptoSmall H l = true) : Rows.uptoBulkAll l ≤ 1048576 := by
  simpa [Rows.uptoSmall] using hk

end Go.Proofs.YtfbgnpfhjbiikaaGreatDoor.bulks
