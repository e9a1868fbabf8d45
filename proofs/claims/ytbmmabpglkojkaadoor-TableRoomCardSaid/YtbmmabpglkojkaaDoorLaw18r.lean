/- scriniumlaw18.TableRoom: the walk. -/
import Derived.Test.YtbmmabpglkojkaaDoorTabM
namespace Go.Proofs.YtbmmabpglkojkaaDoor
open Go Go.RowKit
open Go.Maps (has size Canon CanonK Tidy IsMap KeysOf Keyed Merged)

theorem act1 (w : World) (ve vr : Value) (le : List Edt) (lr : List (ByteArray × Cel)) (he : IsEdts w ve le) (hr : IsRows w vr lr) (t : TypeId) :
    IsActs (w.alloc (.cells #[.int .u8 0, ve, vr, .slice none 0 0] t)) (.slice (some ⟨w.heap.size, 0, none⟩) 1 1) [⟨le, lr, 0⟩] := by
  refine ⟨_, 1, rfl, Or.inr ⟨w.heap.size, 0, rfl, by simp, fun i hi => ?_⟩⟩
  have hb : Below w.heap.size w (w.alloc (.cells #[.int .u8 0, ve, vr, .slice none 0 0] t)) := (Below.refl _ _).alloc (Nat.le_refl _) _
  obtain rfl : i = 0 := by simpa using hi
  exact ⟨ve, vr, none, 0, World.cell?_alloc_mark _ _ _ _ _, he.below hb (Nat.le_refl _), World.cell?_alloc_mark _ _ _ _ _, hr.below hb (Nat.le_refl _), World.cell?_alloc_mark _ _ _ _ _⟩

/-- What a destroyed version does to the bytes, and to the paths. -/
theorem sizeL_set {l : List Ver} : ∀ {i : Nat} {v : Ver}, v.tx = ByteArray.empty → sizeL (l.set i v) ≤ sizeL l := by
  induction l with
  | nil => intro i v _; simp [sizeL]
  | cons x t ih =>
    intro i v hv
    cases i with
    | zero => simp only [List.set_cons_zero, sizeL, hv]; show ByteArray.empty.size + _ ≤ _; have : ByteArray.empty.size = 0 := rfl; omega
    | succ i => simp only [List.set_cons_succ, sizeL]; have := ih (i := i) hv; omega
theorem destroy_small {M : DataW Cel} {x : Edt} (hg : Good Tryd.prog 9 M) (hk : x.kind = 3) (he : (editE M x).2 = 0) : size (stepM M x) = size M ∧ weightE x.path (editE M x).1 ≤ weightE x.path (cellAt M x.path) := by
  obtain ⟨e1, e2, e3, e4⟩ := edit_ok hg he
  have hfit : editE M x = destroyE (cellAt M x.path) x.n := by
    rw [edit_fit (by omega) (by omega) e4]
    unfold outcomeE
    rw [if_neg (by omega), if_neg (by omega)]
  rw [hfit] at he
  have hf : (findE (cellAt M x.path) x.n).2 = 0 := by
    unfold destroyE at he
    split at he
    · rename_i h; exact absurd he h
    · rename_i h; simpa using h
  have hlt := findE_lt hf
  have hhas : has M (kS x.path) = true := by
    cases hh : has M (kS x.path) with
    | true => rfl
    | false => rw [cellAt_none hh] at hlt; simp at hlt
  constructor
  · unfold stepM
    rw [Maps.size_put (canonK_tidy hg.canon), hhas]; rfl
  · rw [hfit]
    unfold destroyE
    rw [if_neg (by simpa using hf)]
    unfold weightE
    simp only [List.length_set]
    split
    · omega
    · have := sizeL_set (l := (cellAt M x.path).l) (i := (findE (cellAt M x.path) x.n).1) (v := ⟨x.n, 3, ByteArray.empty⟩) rfl
      omega
/-- Of one edit: it is refused for want of room only if it makes more; and what it leaves is within the quota, or no more than there was. -/
theorem one_room {M : DataW Cel} {B q1 q2 : Int} {x : Edt} (hg : Good Tryd.prog 9 M) :
    ((triedT M B q1 q2 [x]).1.2 = 0 → ¬ ((q1 < (size (triedT M B q1 q2 [x]).2.1 : Int) ∧ size M < size (triedT M B q1 q2 [x]).2.1) ∨ (q2 < (triedT M B q1 q2 [x]).2.2.2 ∧ B < (triedT M B q1 q2 [x]).2.2.2))) ∧
    (x.kind = 3 → (triedT M B q1 q2 [x]).1.2 ≠ 180) := by
  by_cases he : (editE M x).2 = 0
  · have hr : runT M [] B 0 [x] = ((0, 0), stepM M x, [(editE M x).1.last], B + ((weightE x.path (editE M x).1 : Int) - (weightE x.path (cellAt M x.path) : Int))) := by rw [run_one, if_neg (by simp [he])]
    unfold triedT
    simp only [hr]
    rw [if_neg (by simp)]
    by_cases ho : overT (stepM M x, B + ((weightE x.path (editE M x).1 : Int) - (weightE x.path (cellAt M x.path) : Int))) M B q1 q2 = true
    · rw [if_pos ho]
      refine ⟨fun h => by simp at h, fun hk => ?_⟩
      obtain ⟨h1, h2⟩ := destroy_small hg hk he
      unfold overT at ho
      simp only [Bool.or_eq_true, Bool.and_eq_true, decide_eq_true_eq] at ho
      omega
    · rw [if_neg ho]
      refine ⟨fun _ => ?_, fun _ => by simp⟩
      unfold overT at ho
      simp only [Bool.or_eq_true, Bool.and_eq_true, decide_eq_true_eq] at ho
      simpa using ho
  · have hr : runT M [] B 0 [x] = ((0, (editE M x).2), M, [], B) := by rw [run_one, if_pos he]
    unfold triedT
    simp only [hr]
    rw [if_pos he]
    refine ⟨fun h => absurd h he, fun hk h => ?_⟩
    have : (editE M x).2 = 2 ∨ (editE M x).2 = 3 ∨ (editE M x).2 = 171 ∨ (editE M x).2 = 0 := by
      unfold editE
      split
      · left; rfl
      · unfold outcomeE
        rw [if_neg (by omega), if_neg (by omega)]
        unfold destroyE
        split
        · unfold findE
          split
          · left; rfl
          · split
            · right; left; rfl
            · split
              · right; right; left; rfl
              · right; right; right; rfl
        · right; right; right; rfl
    simp only at h
    omega
theorem one_smallR {x : Edt} (h : x.path.size ≤ 140737488351232 ∧ x.text.size ≤ 140737488351232) : ∀ i, i < [x].length → ([x].getD i dE).path.size ≤ 140737488351232 ∧ ([x].getD i dE).text.size ≤ 9223372036854775807 := by
  intro i hi
  obtain rfl : i = 0 := by simpa using hi
  exact ⟨h.1, by have := h.2; simp only [List.getD_cons_zero]; omega⟩
set_option maxRecDepth 100000 in
theorem open_quota {H : Type} {enc : TypeId × Value → H} {w : World} {base : Nat} {sp : Nat → Bool} {held : Bool} {r : Reach} {b0 : Nat} {v : Value} {d : DataW H} {ps : List MemPlace} (hval : Value.okWide Tryd.prog w r b0 31 v) (hd : DataW.Trod enc Tryd.prog w base sp held 31 v d ps) :
    ∃ a b : Int, v = .agg #[.int .i64 a, .int .i64 b] ∧ d = .agg [.lit (.int .i64 a), .lit (.int .i64 b)] ∧ ps = [] ∧ True := by
  obtain ⟨v0, v1, y0, y1, n, rfl, rfl, rfl, h0, h1⟩ := Go.Joins.open_agg2 Tryd.underlying31 (by kernel_rfl) (by kernel_rfl) hval hd
  obtain ⟨z0, e0, rfl, _⟩ := DataW.trod_int Tryd.underlying3 h0
  obtain ⟨z1, e1, rfl, _⟩ := DataW.trod_int Tryd.underlying3 h1
  simp only [List.cons.injEq, and_true] at e0 e1
  subst e0; subst e1
  exact ⟨z0, z1, rfl, rfl, rfl, trivial⟩

set_option maxRecDepth 100000 in
set_option maxHeartbeats 4000000 in
theorem law18_room (qa qb : Int) (lr : List (ByteArray × Cel)) (vr : Value) (le : List Edt) (ve : Value) (w : World) (_wx : True) (hr1 : lr.length * 48 ≤ 140737488351232) (hr2 : ∀ i, i < lr.length → (lr.getD i dR).1.size ≤ 140737488351232 ∧ (lr.getD i dR).2.l.length * 32 ≤ 140737488351232 ∧ ∀ k, k < (lr.getD i dR).2.l.length → ((lr.getD i dR).2.l.getD k dV).tx.size ≤ 140737488351232)
    (hvr : IsRows w vr lr ∧ RowsWf lr) (he1 : le.length * 64 ≤ 140737488351232) (he2 : ∀ i, i < le.length → (le.getD i dE).path.size ≤ 140737488351232 ∧ (le.getD i dE).text.size ≤ 140737488351232) (hve : IsEdts w ve le) (hm : MX w) :
    Calls Tryd.prog 4 #[.agg #[.int .i64 qa, .int .i64 qb], vr, ve] w fun e w' => e = .returned (.bool true) ∧ Below w.heap.size w w' := by
  have Hm := Lib.hid hm; have He2 := Lib.hid he2; have Hr2 := Lib.hid hr2; have Hve := Lib.hid hve; have Hvr := Lib.hid hvr.1; have Hwf := Lib.hid hvr.2; clear hm he2 hr2
  obtain ⟨ar, cr, rfl, _⟩ := hvr.1
  obtain ⟨ae, ce, rfl, hce⟩ := hve
  have Hce := Lib.hid hce; clear hce hvr
  go_enter Tryd.func4, Tryd.ntmps4
  go_upto_region 1 with fail
  refine wp_abs (F := fun W => One w.heap.size #[.int .i64 qa, .int .i64 qb] W ∧ Below w.heap.size w W) ⟨One.of _ _ _, (Below.refl _ _).alloc (Nat.le_refl _) _⟩ ?_
  rintro W0 ⟨hQ, hb0⟩
  have HQ := Lib.hid hQ; have Hb0 := Lib.hid hb0; clear hQ hb0
  go_wp2_with fail
  refine (law_heavy 140737488351232 [⟨le, lr, 0⟩] _ _ (act1 W0 _ _ le lr (Hve.out.below Hb0.out (Nat.le_refl _)) (Hvr.out.below Hb0.out (Nat.le_refl _)) _) (by omega) (by simp) (by simp) ?_).mono ?_
  · intro i hi
    obtain rfl : i = 0 := by simpa using hi
    exact ⟨by simp only [List.getD_cons_zero]; omega, by simp only [List.getD_cons_zero]; omega, by simp, He2.out, fun i hi => ⟨by have := (Hr2.out i hi).2.1; simp only [List.getD_cons_zero]; omega, (Hr2.out i hi).2.2⟩⟩
  rintro e w1 ⟨x, rfl, hx, hb1⟩
  have Hb1 := Lib.hid (((Below.refl W0.heap.size W0).alloc (Nat.le_refl _) _).trans (hb1.mono (by simp))); clear hb1
  have Hw0 : Hid (∀ W, Below W0.heap.size W0 W → Below w.heap.size w W) := Lib.hid (fun W h => Hb0.out.trans (h.mono Hb0.out.size))
  cases x with
  | true =>
    go_wp2_with fail
    refine (law_works _ (Hm.out.below (Hw0.out _ Hb1.out) (Nat.le_refl _))).mono ?_
    rintro e w2 ⟨rfl, hb2⟩
    have Hb2 := Lib.hid (Hb1.out.trans (hb2.mono Hb1.out.size)); clear hb2
    go_wp2_with fail
    go_ret
    exact ⟨rfl, Hw0.out _ Hb2.out⟩
  | false =>
    have hlen := (hx rfl).1
    simp [totW] at hlen
    have hn : le.length + lr.length ≤ 1024 := by omega
    clear hx hlen he1 hr1
    have q0 := (HQ.out.step Hb1.out).c 0; have q1 := (HQ.out.step Hb1.out).c 1
    simp at q0 q1
    have Hnew := Lib.hid (tab_new qa qb w1)
    go_wp2_with fail
    refine Hnew.out.mono ?_
    rintro e w2 ⟨t, b, rfl, ht, hbb, hT, hb2⟩
    have Hb2 := Lib.hid (Hb1.out.trans (hb2.mono Hb1.out.size)); have HT := Lib.hid hT; have Hab : Hid (W0.heap.size ≤ t ∧ W0.heap.size ≤ b) := Lib.hid (by have := Hb1.out.size; omega)
    clear ht hbb hT hb2 q0 q1
    go_wp2_with fail
    refine (law_copied lr _ w2 (Hvr.out.below (Hw0.out _ Hb2.out) (Nat.le_refl _)) (by omega) (fun i hi => ?_)).mono ?_
    · have := (Hr2.out i hi).2.1; omega
    rintro e w3 ⟨v3, rfl, hv3, hb3⟩
    have Hload := Lib.hid (tab_load w3 (HT.out.below hb3) (good_none _ _) (Hm.out.below (Hw0.out _ (Hb2.out.trans (hb3.mono Hb2.out.size))) (Nat.le_refl _)) v3 lr hv3 (by omega) Hwf.out (fun i hi => ⟨(Hr2.out i hi).1, by have := (Hr2.out i hi).2.1; omega⟩) (by decide) (by omega) (by omega))
    have Hb3 := Lib.hid (Hb2.out.trans (hb3.mono Hb2.out.size)); clear hb3 hv3
    go_wp2_with fail
    refine Hload.out.mono ?_
    rintro e w4 ⟨e0, M0, B0, rfl, hT4, hG4, hs4, hB40, hB41, hbut4⟩
    have hs4' : size M0 ≤ lr.length := by simpa [size] using hs4
    have hb4 : Below W0.heap.size W0 w4 := Hb3.out.trans (hbut4.below (by rintro k (rfl | rfl); exact Hab.out.1; exact Hab.out.2) Hb3.out.size)
    have HT4 := Lib.hid hT4; have HG4 := Lib.hid hG4; have Hb4 := Lib.hid hb4; have Hbd4 : Hid (size M0 ≤ 1024 ∧ 0 ≤ B0 ∧ B0 ≤ 33792000) := Lib.hid ⟨by omega, hB40, by omega⟩
    clear hT4 hG4 hb4 hs4 hs4' hB40 hB41 hbut4 Hload
    go_wp2_with fail
    go_loopw [8] (fun i wr => ∃ (k : Nat) (M : DataW Cel) (B : Int), k ≤ le.length ∧ i = .int .i64 k ∧ Hid (TabAt wr t b qa qb M B) ∧ Hid (Good Tryd.prog 9 M) ∧ Hid (size M ≤ 1024 + k ∧ -(k * 33000 : Int) ≤ B ∧ B ≤ 33792000 + k * 33000) ∧ Hid (Below W0.heap.size W0 wr)) (fun i _ => le.length - (intOf i).toNat)
    case atStart => exact ⟨0, M0, B0, Nat.zero_le _, rfl, HT4, HG4, Lib.hid (by have := Hbd4.out; refine ⟨by omega, by omega, by omega⟩), Hb4⟩
    case round =>
      obtain ⟨k, M, B, hk, rfl, hT, hG, hbd, hbw⟩ := hrel
      by_cases hlt : k < le.length
      · rcases Hce.out with hnil | ⟨bl, off, rfl, hblt, hcc⟩
        · subst hnil; simp at hlt
        have hltI : (k : Int) < (le.length : Int) := by omega
        obtain ⟨h0, h1, h2, h3, h4, h5⟩ := hcc k hlt
        have hsx := He2.out k hlt
        obtain ⟨x, hx⟩ : ∃ x, x = le.getD k dE := ⟨_, rfl⟩
        rw [← hx] at h0 h1 h2 h3 h4 h5 hsx
        clear hx hcc
        have HK : Hid (∀ W, Below W0.heap.size W0 W → W.cell? ⟨bl, off + k * 6, none⟩ = some (.int .u8 x.kind) ∧ W.cell? ⟨bl, off + k * 6 + 1, none⟩ = some (.string x.path) ∧ W.cell? ⟨bl, off + k * 6 + 2, none⟩ = some (.bool x.any) ∧ W.cell? ⟨bl, off + k * 6 + 3, none⟩ = some (.int .u64 x.want) ∧ W.cell? ⟨bl, off + k * 6 + 4, none⟩ = some (.int .u64 x.n) ∧ W.cell? ⟨bl, off + k * 6 + 5, none⟩ = some (.string x.text) ∧ W.cell? ⟨w.heap.size, 0, none⟩ = some (.int .i64 qa) ∧ W.cell? ⟨w.heap.size, 1, none⟩ = some (.int .i64 qb)) :=
          Lib.hid (fun W hW => by
            have hw := Hw0.out W hW
            exact ⟨(hw.cell (p := ⟨bl, off + k * 6, none⟩) hblt).trans h0, (hw.cell (p := ⟨bl, off + k * 6 + 1, none⟩) hblt).trans h1, (hw.cell (p := ⟨bl, off + k * 6 + 2, none⟩) hblt).trans h2, (hw.cell (p := ⟨bl, off + k * 6 + 3, none⟩) hblt).trans h3, (hw.cell (p := ⟨bl, off + k * 6 + 4, none⟩) hblt).trans h4, (hw.cell (p := ⟨bl, off + k * 6 + 5, none⟩) hblt).trans h5, (HQ.out.step hW).c 0, (HQ.out.step hW).c 1⟩)
        clear h0 h1 h2 h3 h4 h5
        have hb1 := hbd.out.1; have hb2 := hbd.out.2.1; have hb3 := hbd.out.2.2
        have Hng := Lib.hid (next_good (q1 := qa) (q2 := qb) (B := B) (l := [x]) hG.out)
        have Hroom := Lib.hid (one_room (q1 := qa) (q2 := qb) (B := B) (x := x) hG.out)
        have Hsize := Lib.hid (tab_size wr hT.out)
        have Htry := Lib.hid (fun (W : World) (v : Value) (hP : TabAt W t b qa qb M B) (hW : Below W0.heap.size W0 W) (hv : IsEdts W v [x]) => tab_try W hP hG.out (Hm.out.below (Hw0.out _ hW) (Nat.le_refl _)) v [x] hv (by simp) (by omega) (by omega) (by omega) (one_smallR hsx))
        have Happ := Lib.hid (fun (W : World) (v : Value) (hP : TabAt W t b qa qb M B) (hW : Below W0.heap.size W0 W) (hv : IsEdts W v [x]) => tab_app W hP hG.out (Hm.out.below (Hw0.out _ hW) (Nat.le_refl _)) v [x] hv (by simp) (by omega) (by omega) (by omega) (one_smallR hsx))
        obtain ⟨r, hr⟩ : ∃ r, r = triedT M B qa qb [x] := ⟨_, rfl⟩
        rw [← hr] at Htry Happ Hng Hroom
        clear hr hsx hb1 hb2 hb3
        have hxe : ∀ W : World, IsEdts (W.alloc (.cells #[.int .u8 x.kind, .string x.path, .bool x.any, .int .u64 x.want, .int .u64 x.n, .string x.text] 40)) (.slice (some ⟨W.heap.size, 0, none⟩) 1 1) [x] := fun W => IsEdts.new W [x] 1 _ _ _ rfl
        have Hxe := Lib.hid hxe; clear hxe
        obtain ⟨sm, hsm⟩ : ∃ n, n = size M := ⟨_, rfl⟩
        rw [← hsm] at Hsize
        have Hsm := Lib.hid hsm; clear hsm
        go_wp2_with fail
        refine Hsize.out.mono ?_
        rintro e w5 ⟨rfl, hb5⟩
        have hT5 := hT.out.below hb5
        have hbw5 := hbw.out.trans (hb5.mono hbw.out.size)
        obtain ⟨k0, k1, k2, k3, k4, k5, q0, q1⟩ := HK.out w5 hbw5
        have HT5 := Lib.hid hT5; have Hbw5 := Lib.hid hbw5; clear hT5 hbw5 hb5
        go_wp2_with fail
        refine (Htry.out _ _ ?_ ?_ ?_).mono ?_
        · exact HT5.out.below ((Below.refl _ _).alloc (Nat.le_refl _) _)
        · exact Hbw5.out.alloc Hbw5.out.size _
        · exact Hxe.out _
        rintro e w6 ⟨rfl, hb6⟩
        have hA : Below w5.heap.size w5 (w5.alloc (.cells #[.int .u8 x.kind, .string x.path, .bool x.any, .int .u64 x.want, .int .u64 x.n, .string x.text] 40)) := (Below.refl _ _).alloc (Nat.le_refl _) _
        have hT6 := (HT5.out.below hA).below hb6
        have hbw6 := (Hbw5.out.alloc Hbw5.out.size (.cells #[.int .u8 x.kind, .string x.path, .bool x.any, .int .u64 x.want, .int .u64 x.n, .string x.text] 40)).trans (hb6.mono (Hbw5.out.alloc Hbw5.out.size (.cells #[.int .u8 x.kind, .string x.path, .bool x.any, .int .u64 x.want, .int .u64 x.n, .string x.text] 40)).size)
        clear k0 k1 k2 k3 k4 k5 q0 q1
        obtain ⟨k0, k1, k2, k3, k4, k5, q0, q1⟩ := HK.out w6 hbw6
        have HT6 := Lib.hid hT6; have Hbw6 := Lib.hid hbw6; clear hT6 hbw6 hb6 hA
        go_wp2_with fail
        refine (Happ.out _ _ ?_ ?_ ?_).mono ?_
        · exact HT6.out.below ((Below.refl _ _).alloc (Nat.le_refl _) _)
        · exact Hbw6.out.alloc Hbw6.out.size _
        · exact Hxe.out _
        rintro e w7 ⟨v7, rfl, hown7, hT7, hbut7⟩
        obtain ⟨a7, c7, rfl⟩ := ownShape hown7
        have hbA : Below W0.heap.size W0 (w6.alloc (.cells #[.int .u8 x.kind, .string x.path, .bool x.any, .int .u64 x.want, .int .u64 x.n, .string x.text] 40)) := Hbw6.out.alloc Hbw6.out.size _
        have hbw7 : Below W0.heap.size W0 w7 := hbA.trans (hbut7.below (by rintro k (rfl | rfl); exact Hab.out.1; exact Hab.out.2) hbA.size)
        have Hsize7 := Lib.hid (tab_size w7 hT7)
        obtain ⟨p1, hp1⟩ : ∃ p, p = r.1.1 := ⟨_, rfl⟩
        obtain ⟨p2, hp2⟩ : ∃ p, p = r.1.2 := ⟨_, rfl⟩
        obtain ⟨X, hX⟩ : ∃ X, X = size (nextM r M) := ⟨_, rfl⟩
        obtain ⟨Y, hY⟩ : ∃ Y, Y = nextB r B := ⟨_, rfl⟩
        rw [← hp1, ← hp2]
        rw [← hX, ← hY] at Hsize7
        have HT7 := Lib.hid hT7; have Hbw7 := Lib.hid hbw7; have Hp2 := Lib.hid hp2; have HX := Lib.hid hX; have HY := Lib.hid hY
        clear hT7 hbw7 hp1 hp2 hX hY hbA hbut7 hown7 k0 k1 k2 k3 k4 k5 q0 q1
        go_wp2_with fail
        refine Hsize7.out.mono ?_
        rintro e w8 ⟨rfl, hb8⟩
        have HT8 := Lib.hid (HT7.out.below hb8)
        have hbw8 := Hbw7.out.trans (hb8.mono Hbw7.out.size)
        obtain ⟨k0, k1, k2, k3, k4, k5, q0, q1⟩ := HK.out w8 hbw8
        have Hbw8 := Lib.hid hbw8; clear hbw8 hb8
        have hE1 : ((p2 : Int) != (p2 : Int)) = false := by simp
        have hE2 : ((p1 : Int) != (p1 : Int)) = false := by simp
        have Hfin : Hid (size (nextM r M) ≤ 1024 + (k + 1) ∧ -(((k + 1 : Nat) : Int) * 33000) ≤ nextB r B ∧ nextB r B ≤ 33792000 + ((k + 1 : Nat) : Int) * 33000) := Lib.hid (by
          have h1 := Hng.out.2.1; have h2 := Hng.out.2.2; have h3 := hbd.out
          simp only [List.length_singleton] at h1 h2
          refine ⟨by omega, by push_cast; omega, by push_cast; omega⟩)
        by_cases hp0 : p2 = 0
        · have hz0 : ((p2 : Int) != 0) = false := by simp [hp0]
          have hz1 : ((p2 : Int) == 0) = true := by simp [hp0]
          have hz2 : ((p2 : Int) == 180) = false := by simp [hp0]
          have hrm := Hroom.out.1 (by rw [← Hp2.out]; exact hp0)
          have hXe : X = size r.2.1 := by rw [HX.out]; unfold nextM; rw [if_pos (by rw [← Hp2.out]; exact hp0)]
          have hYe : Y = r.2.2.2 := by rw [HY.out]; unfold nextB; rw [if_pos (by rw [← Hp2.out]; exact hp0)]
          rw [← hXe, ← hYe, ← Hsm.out] at hrm
          have HXe := Lib.hid hXe; have HYe := Lib.hid hYe
          clear hXe hYe
          have hc1 : ¬ (qa < (X : Int) ∧ (sm : Int) < (X : Int)) := by omega
          have hc2 : ¬ (qb < Y ∧ B < Y) := by omega
          clear hrm
          by_cases hq1 : qa < (X : Int)
          · have hq1b : ¬ (sm : Int) < (X : Int) := fun h => hc1 ⟨hq1, h⟩
            by_cases hq2 : qb < Y
            · have hq2b : ¬ B < Y := fun h => hc2 ⟨hq2, h⟩
              clear hc1 hc2
              go_wp2_with fail
              go_roundw
              case rel => exact ⟨k + 1, nextM r M, nextB r B, by omega, by go_num, HT8, Lib.hid Hng.out.1, Hfin, Hbw8⟩
              case measure => simp [intOf]; omega
            · clear hc1 hc2
              go_wp2_with fail
              go_roundw
              case rel => exact ⟨k + 1, nextM r M, nextB r B, by omega, by go_num, HT8, Lib.hid Hng.out.1, Hfin, Hbw8⟩
              case measure => simp [intOf]; omega
          · by_cases hq2 : qb < Y
            · have hq2b : ¬ B < Y := fun h => hc2 ⟨hq2, h⟩
              clear hc1 hc2
              go_wp2_with fail
              go_roundw
              case rel => exact ⟨k + 1, nextM r M, nextB r B, by omega, by go_num, HT8, Lib.hid Hng.out.1, Hfin, Hbw8⟩
              case measure => simp [intOf]; omega
            · clear hc1 hc2
              go_wp2_with fail
              go_roundw
              case rel => exact ⟨k + 1, nextM r M, nextB r B, by omega, by go_num, HT8, Lib.hid Hng.out.1, Hfin, Hbw8⟩
              case measure => simp [intOf]; omega
        · have hz0 : ((p2 : Int) != 0) = true := by simp [bne]; omega
          have hz1 : ((p2 : Int) == 0) = false := by rw [beq_eq_false_iff_ne]; omega
          have hXe : X = sm := by rw [HX.out, Hsm.out]; unfold nextM; rw [if_neg (by rw [← Hp2.out]; exact hp0)]
          have hYe : Y = B := by rw [HY.out]; unfold nextB; rw [if_neg (by rw [← Hp2.out]; exact hp0)]
          have hx1 : ((X : Int) != (sm : Int)) = false := by rw [hXe]; simp
          have hy1 : (Y != B) = false := by rw [hYe]; simp
          have HXe := Lib.hid hXe; have HYe := Lib.hid hYe
          clear hXe hYe
          by_cases h180 : p2 = 180
          · have hz3 : ((p2 : Int) == 180) = true := by simp [h180]
            have hkd : x.kind ≠ 3 := fun hk => Hroom.out.2 hk (by rw [← Hp2.out]; exact h180)
            have hkB : ((x.kind : Int) == 3) = false := by rw [beq_eq_false_iff_ne]; omega
            clear hkd h180 hp0
            go_wp2_with fail
            go_roundw
            case rel => exact ⟨k + 1, nextM r M, nextB r B, by omega, by go_num, HT8, Lib.hid Hng.out.1, Hfin, Hbw8⟩
            case measure => simp [intOf]; omega
          · have hz3 : ((p2 : Int) == 180) = false := by rw [beq_eq_false_iff_ne]; omega
            clear h180 hp0
            go_wp2_with fail
            go_roundw
            case rel => exact ⟨k + 1, nextM r M, nextB r B, by omega, by go_num, HT8, Lib.hid Hng.out.1, Hfin, Hbw8⟩
            case measure => simp [intOf]; omega
      · have hge : (le.length : Int) ≤ (k : Int) := by omega
        go_wp2_with fail
        refine (law_works _ (Hm.out.below (Hw0.out _ hbw.out) (Nat.le_refl _))).mono ?_
        rintro e w9 ⟨rfl, hb9⟩
        have Hbw9 := Lib.hid (hbw.out.trans (hb9.mono hbw.out.size)); clear hb9
        go_wp2_with fail
        go_ret
        exact ⟨rfl, Hw0.out _ Hbw9.out⟩
end Go.Proofs.YtbmmabpglkojkaaDoor
