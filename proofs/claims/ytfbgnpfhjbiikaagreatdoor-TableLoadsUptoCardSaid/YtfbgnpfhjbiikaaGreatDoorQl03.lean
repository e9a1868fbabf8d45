/- Contracts: maps.Copy, Table.Try, Table.Apply. Contract: Table.List; numbers and texts. Contracts for scriniumlaw18: numbers and texts, where the two lists are one. Contract: scriniumlaw18.works. Contracts: table.copied, Table.Rows; scriniumref17.Same, scriniumref18.Same where both are one. Contract: Table.Rows. Contracts: scriniumref17.Same, scriniumref18.Same, where both are one. -/
import Derived.Test.YtfbgnpfhjbiikaaGreatDoorQl02
namespace Go.Proofs.YtfbgnpfhjbiikaaGreatDoor
open Go Go.RowKit
open Go.Maps (has size Canon CanonK Tidy IsMap KeysOf Keyed Merged)
structure ButS (S : Nat → Prop) (w w' : World) : Prop where
  os : w'.os = w.os
  tape : w'.tape = w.tape
  output : w'.output = w.output
  size : w.heap.size ≤ w'.heap.size
  block : ∀ k, k < w.heap.size → ¬ S k → w'.heap[k]? = w.heap[k]?
theorem ButS.of {S : Nat → Prop} {w w' : World} (h : Below w.heap.size w w') : ButS S w w' := ⟨h.os, h.tape, h.output, h.size, fun k hk _ => h.block k hk⟩
theorem ButS.trans {S : Nat → Prop} {a b c : World} (h : ButS S a b) (k : ButS S b c) : ButS S a c :=
  ⟨k.os.trans h.os, k.tape.trans h.tape, k.output.trans h.output, Nat.le_trans h.size k.size, fun i hi hS => (k.block i (Nat.lt_of_lt_of_le hi h.size) hS).trans (h.block i hi hS)⟩
theorem ButS.mono {S S' : Nat → Prop} {w w' : World} (h : ButS S w w') (hS : ∀ k, S k → S' k) : ButS S' w w' := ⟨h.os, h.tape, h.output, h.size, fun k hk hn => h.block k hk (fun hs => hn (hS k hs))⟩
theorem ButS.grown {S : Nat → Prop} {w w' : World} {b : Nat} (h : w.grownBy w' (some b)) (hS : S b) : ButS S w w' :=
  ⟨h.os, h.tape, h.output, h.size, fun k hk hn => h.block k hk (fun e => hn (by cases e; exact hS))⟩
theorem ButS.set {S : Nat → Prop} (w : World) {p : Addr} (hS : S p.block) (u : Value) : ButS S w (w.setCell p u) := by
  have h := (Below.refl 0 w).setCell (p := p) (Nat.zero_le _) u
  exact ⟨h.os, h.tape, h.output, h.size, fun k hk hn => Below.heap_setCell w p u k (fun e => hn (e ▸ hS))⟩
theorem ButS.below {S : Nat → Prop} {B : Nat} {w w' : World} (h : ButS S w w') (hS : ∀ k, S k → B ≤ k) (hB : B ≤ w.heap.size) : Below B w w' :=
  ⟨h.os, h.tape, h.output, h.size, fun k hk => h.block k (by omega) (fun hs => by have := hS k hs; omega)⟩
theorem ButS.cell {S : Nat → Prop} {w w' : World} (h : ButS S w w') {p : Addr} (hp : p.block < w.heap.size) (hn : ¬ S p.block) : w'.cell? p = w.cell? p := World.cell?_of_block (w := w) (h.block p.block hp hn)
theorem ButS.frozen {S : Nat → Prop} {w w' : World} (h : ButS S w w') {p : Addr} (hp : p.block < w.heap.size) (hn : ¬ S p.block) : w'.frozen? p = w.frozen? p := World.frozen?_of_block (w := w) (h.block p.block hp hn)

def NoVers (w : World) (k : Nat) : Prop := ∀ o n s, w.cell? ⟨k, o, none⟩ = some (.int .u64 n) → w.cell? ⟨k, o + 1, none⟩ = some (.int .u8 s) → False
theorem IsVers.but {S : Nat → Prop} {w w' : World} {v : Value} {l : List Ver} (h : IsVers w v l) (hb : ButS S w w') (hS : ∀ k, S k → NoVers w k) : IsVers w' v l := by
  obtain ⟨a, cap, hv, h⟩ := h
  refine ⟨a, cap, hv, ?_⟩
  rcases h with h | ⟨b2, off, ha, hlt, hc⟩
  · exact Or.inl h
  · by_cases hl : l = []
    · exact Or.inl hl
    have hn : ¬ S b2 := by
      intro hs
      obtain ⟨h1, h2, _⟩ := hc 0 (List.length_pos_iff.2 hl)
      exact hS b2 hs _ _ _ h1 h2
    refine Or.inr ⟨b2, off, ha, by have := hb.size; omega, fun i hi => ?_⟩
    obtain ⟨h1, h2, h3⟩ := hc i hi
    exact ⟨(hb.cell hlt hn).trans h1, (hb.cell hlt hn).trans h2, (hb.cell hlt hn).trans h3⟩
theorem IsCel.but {S : Nat → Prop} {w w' : World} {v : Value} {c : Cel} (h : IsCel w v c) (hb : ButS S w w') (hS : ∀ k, S k → NoVers w k) : IsCel w' v c := by
  obtain ⟨s, hv, h⟩ := h; exact ⟨s, hv, h.but hb hS⟩
theorem CelMap.noVers {w : World} {b : Nat} {M : DataW Cel} (h : CelMap w b M) : NoVers w b := by
  obtain ⟨D, ho, _⟩ := h
  intro o n s h1 _
  rw [ownsMap_none ho] at h1; cases h1
theorem TabAt.noVers {w : World} {t b : Nat} {q1 q2 B : Int} {M : DataW Cel} (h : TabAt w t b q1 q2 M B) : NoVers w t := by
  intro o n s h1 h2
  rcases (show o = 0 ∨ o = 1 ∨ o = 2 ∨ o = 3 ∨ ∃ j, o = j + 4 from by rcases o with _ | _ | _ | _ | j <;> simp) with rfl | rfl | rfl | rfl | ⟨j, rfl⟩
  · rw [h.c0] at h1; cases h1
  · rw [h.c1] at h1; cases h1
  · rw [h.c2] at h1; cases h1
  · rw [h.c3] at h1; cases h1
  · rw [h.c4] at h1; cases h1
theorem CelMap.but {S : Nat → Prop} {w w' : World} {b : Nat} {M : DataW Cel} (h : CelMap w b M) (hb : ButS S w w') (hS : ∀ k, S k → NoVers w k) (hn : ¬ S b) : CelMap w' b M :=
  HoldsMap.move h (hb.block b (HoldsMap.lt h) hn) (fun _ _ g => g.but hb hS)
theorem TabAt.but {S : Nat → Prop} {w w' : World} {t b : Nat} {q1 q2 B : Int} {M : DataW Cel} (h : TabAt w t b q1 q2 M B) (hb : ButS S w w') (hS : ∀ k, S k → NoVers w k) (ht : ¬ S t) (hn : ¬ S b) : TabAt w' t b q1 q2 M B := by
  have hl := h.lt
  exact ⟨(hb.cell hl ht).trans h.c0, (hb.cell hl ht).trans h.c1, (hb.cell hl ht).trans h.c2, (hb.cell hl ht).trans h.c3, fun j => (hb.cell hl ht).trans (h.c4 j), (hb.frozen hl ht).trans h.f3, h.m.but hb hS hn⟩

theorem ButS.grownNew {S : Nat → Prop} {w wx w3 : World} {r : Nat} (h : ButS S w wx) (hg : wx.grownBy w3 (some r)) (hr : w.heap.size ≤ r) : ButS S w w3 :=
  ⟨hg.os.trans h.os, hg.tape.trans h.tape, hg.output.trans h.output, Nat.le_trans h.size hg.size, fun k hk hn => (hg.block k (Nat.lt_of_lt_of_le hk h.size) (by intro e; cases e; omega)).trans (h.block k hk hn)⟩
theorem ranges_none {P : Program} {k : TypeId} {R : Value → Option (DataW Value × List MemPlace)} {w : World} {b r n : Nat} {D : DataW Value} {left : Lit → Bool} {cnt : Nat} (h : w.ranges P k R b r n D left cnt) : ∀ j, w.cell? ⟨r, j, none⟩ = none := by
  obtain ⟨es, clock, since, seen, c0, _, _, _, _, hr, _⟩ := h
  intro j; unfold World.cell?; rw [hr]
theorem entry_cel {G : Value → Cel → Prop} {D : DataW Value} {F : DataW Cel} (ha : Alike Tryz.prog 9 G D F) {x : ByteArray} {c : Value} {y : DataW Value × List MemPlace} (hv : heldR c = some y) (hat : ∀ zd, D.atKey (kS x) zd = y.1) :
    ∃ cel, G c cel ∧ ∀ zd, F.atKey (kS x) zd = .held cel := by
  have hF : has F (kS x) = true := by rw [← ha.keys]; exact Maps.has_true_of_atKey hat
  obtain ⟨v, cel, h1, h2, g⟩ := ha.vals _ hF
  obtain rfl : y = (.held c, []) := by simpa [heldR] using hv.symm
  have := (hat .nil).symm.trans h1
  injection this with this
  subst this
  exact ⟨cel, g, fun zd => by rw [Maps.atKey_indep hF zd .nil]; exact h2⟩
theorem CelMap.put {w : World} {b : Nat} {X : DataW Cel} (h : CelMap w b X) : ∃ D, w.ownsMap Tryz.prog 9 heldR b (size X) D ∧
    ∀ (w' : World) (n : Nat) (p : ByteArray) (c : Cel) (v : Value), p.size ≤ maxLen → IsCel w v c → w'.ownsMap Tryz.prog 9 heldR b n (D.put (kS p) (.held v)) → w.grownBy w' (some b) → CelMap w' b (X.put (kS p) (.held c)) := by
  obtain ⟨D, ho, ha⟩ := h
  refine ⟨D, ho, fun w' n p c v hp hc ho' hg => ?_⟩
  have hnone := ownsMap_none ho
  exact HoldsMap.of ho' ((ha.mono (fun v c hs => hs.grown hg hnone)).put strKeyed (ho.tidy strKeyed) ⟨_, keyS Tryz.underlying9 hp⟩ (hc.grown hg hnone))
set_option maxRecDepth 100000 in
set_option maxHeartbeats 2000000 in
theorem maps_copy (w : World) {b fb : Nat} {M F : DataW Cel} (hM : CelMap w b M) (hF : CelMap w fb F) (hne : b ≠ fb) (hsz : size M + size F ≤ 1099511627776) :
    Calls Tryz.prog 52 #[.map (some b), .map (some fb)] w fun e w' => e = .returned (.tuple #[]) ∧ ButS (fun k => k = b) w w' ∧ ∃ N, CelMap w' b N ∧ Merged N M F (fun _ => false) := by
  obtain ⟨D, hownD, hal⟩ := hF
  have Hal := Lib.hid hal; have HM := Lib.hid hM
  clear hal hM
  go_enter Tryz.func52, Tryz.ntmps52
  go_wp2_with (first | (at_range; refine wpList_range_own _ rfl _ 103 rfl 9 46 strKeyed Tryz.underlying103 heldR fb (size F) D rfl hownD ?_; intro w0 hrg0 hg0 hs0) | fail)
  go_frame
  go_loopw [4] (fun _ wx => ∃ (left : Lit → Bool) (cnt : Nat) (X : DataW Cel), Hid (wx.ranges Tryz.prog 9 heldR fb w.heap.size (size F) D left cnt) ∧ Hid (Merged X M F left) ∧ Hid (CelMap wx b X) ∧ Hid (size X + cnt ≤ size M + size F) ∧ Hid (ButS (fun k => k = b) w wx)) (fun _ wx => wx.rangeLeft fb w.heap.size)
  case atStart =>
    refine ⟨_, _, M, Lib.hid hrg0, Lib.hid ?_, Lib.hid (HM.out.below ?_), Lib.hid (by have := Hal.out.sizes; omega), Lib.hid (ButS.of ?_)⟩
    · refine ⟨fun k => ?_, fun k z => ?_⟩
      · rw [Hal.out.keys]; cases has M k <;> cases has F k <;> rfl
      · rw [Hal.out.keys]; cases has F k <;> rfl
    all_goals exact (Below.refl _ _).grown hg0 (Nat.le_refl _) (fun k hk => by cases hk)
  case round =>
    obtain ⟨left, cnt, X, hrg, hmX, hX, hXle, hbx⟩ := hrel
    have hrgo := hrg.out
    have hbl := HoldsMap.lt HM.out
    have H3 : Hid (∀ w3, wr.grownBy w3 (some w.heap.size) → ∀ o, CelMap (w3.alloc o) b X) := Lib.hid (fun w3 hg o => CelMap.below (w := w3) (HoldsMap.move hX.out (hg.block b (HoldsMap.lt hX.out) (by intro e; injection e with e; omega)) (fun _ _ g => g.grown hg (ranges_none hrgo))) ((Below.refl _ _).alloc (Nat.le_refl _) _))
    by_cases hc : cnt = 0
    · go_wp2_with (at_next; refine wpList_next_ranges _ rfl _ rfl 9 strKeyed heldR Value.string (fun v : Value => v) (fun key kl h => by obtain ⟨s, rfl, _⟩ := keyS_inv Tryz.underlying9 h; exact ⟨s, rfl⟩) (fun v y _ => ⟨v, rfl⟩) fb w.heap.size (size F) D left cnt rfl hrgo ?_ (fun x c kl y w' cnt' _ _ _ _ _ hlt' => absurd hlt' (by omega)); intro hc0 hl0)
      refine bodyPost_end (v := .tuple #[]) (by simp [results, Tryz.results52]) rfl ?_
      refine ⟨rfl, hbx.out, X, hX.out, ?_⟩
      have : left = fun _ => false := funext hl0
      rw [← this]; exact hmX.out
    · go_wp2_with (first
        | (at_next; refine wpList_next_ranges _ rfl _ rfl 9 strKeyed heldR Value.string (fun v : Value => v) (fun key kl h => by obtain ⟨s, rfl, _⟩ := keyS_inv Tryz.underlying9 h; exact ⟨s, rfl⟩) (fun v y _ => ⟨v, rfl⟩) fb w.heap.size (size F) D left cnt rfl hrgo (fun h0 => absurd h0 hc) ?_; intro x c kl y w3 cnt3 hkx hlk hv hat hrg3 hlt3 hg3 hs3 hen; obtain ⟨rfl, hxs⟩ := keyS_of hkx; obtain ⟨cel, ⟨s, rfl, hs⟩, hatF⟩ := entry_cel Hal.out hv hat; have Hs := Lib.hid hs; obtain ⟨as1, cs1, rfl, _⟩ := hs; have Hb3 := Lib.hid (hbx.out.grownNew hg3 (Nat.le_refl _)); have Hg3 := Lib.hid hg3; have Hrg3 := Lib.hid hrg3; have Hlk := Lib.hid hlk; have HatF := Lib.hid hatF; have hkey := keyS (s := x) Tryz.underlying9 hxs; have Hxs := Lib.hid hxs; have Hlt3 := Lib.hid hlt3; clear hrg3 hlk hat hatF hxs hlt3 hkx hv hg3 hs3)
        | (at_mapUpdate; have hX4 := H3.out _ Hg3.out (.cells #[.int .u64 cel.last, .slice as1 cel.l.length cs1] 46); obtain ⟨DX, hownX, hputX⟩ := hX4.put; have hlen : size X < maxLen := (by have := hXle.out; unfold maxLen; omega); refine wpList_mapUpdate_own _ rfl _ _ _ 103 rfl 9 46 strKeyed Tryz.underlying103 heldR b (size X) DX rfl hownX hlen _ _ (kS x) rfl rfl hkey (.held (.agg #[.int .u64 cel.last, .slice as1 cel.l.length cs1])) [] rfl ?_; intro w4 hown4 hg4)
        | fail)
      go_frame
      go_roundw
      case rel =>
        have hXs : has X (kS x) = has M (kS x) := by rw [hmX.out.1 (kS x), Hlk.out]; simp
        refine ⟨_, cnt3, X.put (kS x) (.held cel), Lib.hid ((Hrg3.out.alloc _).kept hg4 (by intro e; injection e with e; exact hne e.symm) (by intro e; injection e with e; omega)), Lib.hid (Maps.merged_step hmX.out (canonK_isMap (HoldsMap.canon hX.out)) (kS_key _) HatF.out), Lib.hid ?_, Lib.hid ?_, Lib.hid ?_⟩
        · refine hputX _ _ x cel _ Hxs.out ⟨_, rfl, ?_⟩ hown4 hg4
          have hb4 : ButS (fun k => k = b) w (w3.alloc (.cells #[.int .u64 cel.last, .slice as1 cel.l.length cs1] 46)) := Hb3.out.trans (ButS.of ((Below.refl _ _).alloc (Nat.le_refl _) _))
          exact Hs.out.but hb4 (fun k hk => by subst hk; exact HM.out.noVers)
        · have h1 := Maps.size_put (k := kS x) (canonK_tidy (HoldsMap.canon hX.out)) (.held cel)
          have h2 := hXle.out; have h3 := Hlt3.out
          rw [h1]; split <;> omega
        · exact (Hb3.out.trans (ButS.of ((Below.refl _ _).alloc (Nat.le_refl _) _))).trans (ButS.grown hg4 rfl)
      case measure => rw [((Hrg3.out.alloc _).kept hg4 (by intro e; injection e with e; exact hne e.symm) (by intro e; injection e with e; omega)).left_eq, hrg.out.left_eq]; exact Hlt3.out
theorem runT_facts {ks : TypeId} (hk : Tryz.prog.underlying ks = some .string) (l : List Edt) : ∀ {N : DataW Cel} {vs : List Nat} {B : Int} {i : Nat}, Good Tryz.prog ks N →
    Good Tryz.prog ks (runT N vs B i l).2.1 ∧ size (runT N vs B i l).2.1 ≤ size N + l.length ∧ B - l.length * 33000 ≤ (runT N vs B i l).2.2.2 ∧ (runT N vs B i l).2.2.2 ≤ B + l.length * 33000 := by
  induction l with
  | nil => intro N vs B i h; simp only [runT]; exact ⟨h, by simp, by simp, by simp⟩
  | cons x t ih =>
    intro N vs B i h
    by_cases he : (editE N x).2 = 0
    · rw [runT_go he]
      obtain ⟨a1, a2, a3, a4⟩ := ih (N := stepM N x) (vs := vs ++ [(editE N x).1.last]) (B := B + ((weightE x.path (editE N x).1 : Int) - (weightE x.path (cellAt N x.path) : Int))) (i := i + 1) (h.step hk he)
      obtain ⟨e1, e2, e3, e4⟩ := edit_ok h he
      have w1 := weight_le (p := x.path) e1 (mayP_size e4)
      have w2 := weight_le (p := x.path) (h.cellAt x.path).1 (mayP_size e4)
      have hs : size (stepM N x) ≤ size N + 1 := by
        unfold stepM
        rw [Maps.size_put (canonK_tidy h.canon)]; split <;> omega
      refine ⟨a1, ?_, ?_, ?_⟩
      · simp only [List.length_cons]; omega
      · simp only [List.length_cons]; push_cast; omega
      · simp only [List.length_cons]; push_cast; omega
    · rw [runT_stop he]
      refine ⟨h, ?_, ?_, ?_⟩
      · simp only; omega
      · simp only [List.length_cons]; push_cast; omega
      · simp only [List.length_cons]; push_cast; omega
theorem runT_zero (l : List Edt) : ∀ {N : DataW Cel} {vs : List Nat} {B : Int} {i : Nat}, ((runT N vs B i l).1.2 = 0 → (runT N vs B i l).1 = (0, 0)) ∧ (runT N vs B i l).2.2.1.length ≤ vs.length + l.length := by
  induction l with
  | nil => intro N vs B i; exact ⟨fun _ => rfl, by simp [runT]⟩
  | cons x t ih =>
    intro N vs B i
    by_cases he : (editE N x).2 = 0
    · rw [runT_go he]
      obtain ⟨a, b⟩ := ih (N := stepM N x) (vs := vs ++ [(editE N x).1.last]) (B := B + ((weightE x.path (editE N x).1 : Int) - (weightE x.path (cellAt N x.path) : Int))) (i := i + 1)
      refine ⟨a, ?_⟩
      rw [List.length_append, List.length_singleton] at b
      rw [List.length_cons]; omega
    · rw [runT_stop he]
      exact ⟨fun h => absurd h he, by simp only; omega⟩
theorem tried_zero {M : DataW Cel} {B q1 q2 : Int} {l : List Edt} (h : (triedT M B q1 q2 l).1.2 = 0) : (triedT M B q1 q2 l).1 = (0, 0) := by
  unfold triedT at h ⊢
  simp only at h ⊢
  split at h
  · rename_i h1; exact absurd h h1
  · rename_i h1
    rw [if_neg h1]
    split at h
    · simp at h
    · rename_i h2
      rw [if_neg h2]
      exact (runT_zero l).1 h
theorem tried_eq (M : DataW Cel) (B q1 q2 : Int) (l : List Edt) : (triedT M B q1 q2 l).2 = (runT M [] B 0 l).2 := by
  unfold triedT
  simp only
  split
  · rfl
  · split <;> rfl
theorem ownBut {S : Nat → Prop} {w w' : World} {B e n k : Nat} {v : Value} {xs : List Value} (h : w.ownsRow B e k v n xs) (hb : ButS S w w') (hS : ∀ k, S k → k < B) : w'.ownsRow B e k v n xs := by
  refine ⟨h.1, ?_⟩
  rcases h.2 with hn | ⟨g, cap, cur, hv, hBg, hg, rest⟩
  · exact Or.inl hn
  · exact Or.inr ⟨g, cap, cur, hv, hBg, (hb.block g (lt_of_block hg) (fun hs => by have := hS g hs; omega)).trans hg, rest⟩

def TryGives (r : Nat × Nat) (w : World) (e : Ending) (w' : World) : Prop := e = .returned (.tuple #[.int .i64 r.1, .int .i64 r.2]) ∧ Below w.heap.size w w'
set_option maxRecDepth 100000 in
set_option maxHeartbeats 1000000 in
theorem tab_try (w : World) {t b : Nat} {q1 q2 B : Int} {M : DataW Cel} (h : TabAt w t b q1 q2 M B) (hg : Good Tryz.prog 9 M) (hm : MX w) (v : Value) (l : List Edt) (hv : IsEdts w v l) (hl : l.length ≤ 1048576)
    (hsM : size M ≤ 1099511627776) (hB0 : -1125899906842624 ≤ B) (hB1 : B ≤ 1125899906842624) (hp : ∀ i, i < l.length → (l.getD i dE).path.size ≤ 140737488351232 ∧ (l.getD i dE).text.size ≤ 9223372036854775807) :
    Calls Tryz.prog 38 #[.pointer (some ⟨t, 0, none⟩), v] w (TryGives (triedT M B q1 q2 l).1 w) := by
  have Ht := Lib.hid (tab_tried w h hg hm v l hv hl hsM hB0 hB1 hp)
  have Hz := Lib.hid (tried_zero (M := M) (B := B) (q1 := q1) (q2 := q2) (l := l))
  generalize triedT M B q1 q2 l = r at Ht Hz
  clear hp hv hm hg h
  go_enter Tryz.func38, Tryz.ntmps38
  go_wp2_with fail
  refine Ht.out.mono ?_
  rintro e w1 ⟨hb, ⟨hr, rfl⟩ | ⟨hr, fb, F, v1, rfl, _⟩⟩
  · have Hb := Lib.hid hb; clear hb
    go_wp2_with fail
    exact bodyPost_ret (v := .tuple #[.int .i64 r.1.1, .int .i64 r.1.2]) (by simp [results, Tryz.results38, go_sem]) rfl ⟨rfl, Hb.out⟩
  · have Hb := Lib.hid hb; clear hb
    go_wp2_with fail
    refine bodyPost_ret (v := .tuple #[.int .i64 0, .int .i64 0]) (by simp [results, Tryz.results38, go_sem]) rfl ⟨?_, Hb.out⟩
    rw [Hz.out hr]; rfl

def ApplyGives (r : (Nat × Nat) × DataW Cel × List Nat × Int) (t b : Nat) (q1 q2 : Int) (w : World) (e : Ending) (w' : World) : Prop :=
  (r.1.2 ≠ 0 ∧ e = .returned (.tuple #[.slice none 0 0, .int .i64 r.1.1, .int .i64 r.1.2]) ∧ Below w.heap.size w w') ∨
  (r.1.2 = 0 ∧ ∃ v, e = .returned (.tuple #[v, .int .i64 0, .int .i64 0]) ∧ w'.ownsRow w.heap.size 43 1 v r.2.2.1.length (r.2.2.1.map (fun n : Nat => Value.int .u64 n)) ∧ TabAt w' t b q1 q2 r.2.1 r.2.2.2 ∧ ButS (fun k => k = t ∨ k = b) w w')
set_option maxRecDepth 100000 in
set_option maxHeartbeats 1000000 in
theorem tab_apply (w : World) {t b : Nat} {q1 q2 B : Int} {M : DataW Cel} (h : TabAt w t b q1 q2 M B) (hg : Good Tryz.prog 9 M) (hm : MX w) (v : Value) (l : List Edt) (hv : IsEdts w v l) (hl : l.length ≤ 1048576)
    (hsM : size M ≤ 1073741824) (hB0 : -1125899906842624 ≤ B) (hB1 : B ≤ 1125899906842624) (hp : ∀ i, i < l.length → (l.getD i dE).path.size ≤ 140737488351232 ∧ (l.getD i dE).text.size ≤ 9223372036854775807) :
    Calls Tryz.prog 16 #[.pointer (some ⟨t, 0, none⟩), v] w (ApplyGives (triedT M B q1 q2 l) t b q1 q2 w) := by
  have Ht := Lib.hid (tab_tried w h hg hm v l hv hl (by omega) hB0 hB1 hp)
  have hgood : Good Tryz.prog 9 (triedT M B q1 q2 l).2.1 := by rw [tried_eq]; exact (runT_facts Tryz.underlying9 l hg).1
  have hvl : (triedT M B q1 q2 l).2.2.1.length ≤ l.length := by rw [tried_eq]; have := (runT_zero l (N := M) (vs := []) (B := B) (i := 0)).2; simpa using this
  generalize triedT M B q1 q2 l = r at Ht hgood hvl
  have HT := Lib.hid h; have Hgood := Lib.hid hgood
  clear hp hv hm hg h hgood
  go_enter Tryz.func16, Tryz.ntmps16
  go_wp2_with fail
  refine Ht.out.mono ?_
  rintro e w1 ⟨hb, ⟨hr, rfl⟩ | ⟨hr, fb, F, v1, rfl, hfb, hF, hMer, hsF, hown⟩⟩
  · have hE : ((r.1.2 : Int) != 0) = true := by simp [bne]; omega
    have Hb := Lib.hid hb; clear hb
    go_wp2_with fail
    exact bodyPost_ret (v := .tuple #[.slice none 0 0, .int .i64 r.1.1, .int .i64 r.1.2]) (by simp [results, Tryz.results16, go_sem]) rfl (Or.inl ⟨hr, rfl, Hb.out⟩)
  · have h1 := HT.out.below hb
    have c2 := h1.c2
    have hlt := HT.out.lt
    have hltb := HoldsMap.lt HT.out.m
    obtain ⟨a1, k1, rfl⟩ := ownShape hown
    have Hcopy := Lib.hid (maps_copy w1 h1.m hF (by omega) (by omega))
    have H1 := Lib.hid h1; have Hb := Lib.hid hb; have HF := Lib.hid hF; have HMer := Lib.hid hMer; have Hown := Lib.hid hown
    clear h1 hb hF hMer hown
    go_wp2_with fail
    refine Hcopy.out.mono ?_
    rintro e w2 ⟨rfl, hb2, N, hN, hMer2⟩
    have hne := HT.out.ne
    have hlt1 : t < w1.heap.size := H1.out.lt
    have c3 := (hb2.cell (p := ⟨t, 3, none⟩) hlt1 hne).trans H1.out.c3
    have f3 := (hb2.frozen (p := ⟨t, 3, none⟩) hlt1 hne).trans H1.out.f3
    obtain rfl : r.2.1 = N := (merged_same hMer2 HMer.out (fun _ => rfl) (HoldsMap.canon hN) Hgood.out.canon)
    have Hb2 := Lib.hid hb2; have HN := Lib.hid hN; clear hb2 hN
    go_wp2_with fail
    have hw := w2.setCell ⟨t, 3, none⟩ (.int .i64 r.2.2.2)
    have hbw : ButS (fun k => k = t ∨ k = b) w (w2.setCell ⟨t, 3, none⟩ (.int .i64 r.2.2.2)) := ((ButS.of Hb.out).trans (Hb2.out.mono (fun k hk => Or.inr hk))).trans (ButS.set w2 (p := ⟨t, 3, none⟩) (Or.inl rfl) _)
    have hb3 : ButS (fun k => k = t ∨ k = b) w1 (w2.setCell ⟨t, 3, none⟩ (.int .i64 r.2.2.2)) := (Hb2.out.mono (fun k hk => Or.inr hk)).trans (ButS.set w2 (p := ⟨t, 3, none⟩) (Or.inl rfl) _)
    have hlt2 : t < w2.heap.size := Nat.lt_of_lt_of_le hlt1 Hb2.out.size
    have no : ∀ j, j ≠ 3 → (w2.setCell ⟨t, 3, none⟩ (.int .i64 r.2.2.2)).cell? ⟨t, j, none⟩ = w1.cell? ⟨t, j, none⟩ := fun j hj => (World.cell?_setCell_other _ _ _ _ (by intro e; injection e with _ e; exact hj e.symm)).trans (Hb2.out.cell hlt1 hne)
    have hT2 : NoVers w2 t := by
      intro o n s h1 h2
      exact H1.out.noVers o n s ((Hb2.out.cell (p := ⟨t, o, none⟩) hlt1 hne).symm.trans h1) ((Hb2.out.cell (p := ⟨t, o + 1, none⟩) hlt1 hne).symm.trans h2)
    refine bodyPost_ret (v := .tuple #[.slice a1 r.2.2.1.length k1, .int .i64 0, .int .i64 0]) (by simp [results, Tryz.results16, go_sem]) rfl (Or.inr ⟨hr, _, rfl, ?_, ?_, hbw⟩)
    · exact ownBut Hown.out hb3 (fun k hk => by rcases hk with rfl | rfl <;> assumption)
    · refine ⟨(no 0 (by decide)).trans H1.out.c0, (no 1 (by decide)).trans H1.out.c1, (no 2 (by decide)).trans H1.out.c2, World.cell?_setCell_same' _ _ _ (by rw [c3]; rfl), fun j => (no (j + 4) (by omega)).trans (H1.out.c4 j), ?_, ?_⟩
      · rw [World.frozen?_setCell]; exact f3
      · exact HN.out.but (ButS.set (S := fun k => k = t) w2 (p := ⟨t, 3, none⟩) rfl _) (fun k hk => by subst hk; exact hT2) (fun e => hne e.symm)
end Go.Proofs.YtfbgnpfhjbiikaaGreatDoor

namespace Go.Proofs.YtfbgnpfhjbiikaaGreatDoor
open Go Go.RowKit
open Pth
open Go.Maps (has size Canon CanonK Tidy IsMap KeysOf Keyed Merged)
def LiveRel (M : DataW Cel) (left : Lit → Bool) (L : List ByteArray) : Prop := ∀ s : ByteArray, s ∈ L ↔ (has M (kS s) = true ∧ left (kS s) = false ∧ 0 < nowC (cellAt M s))
theorem LiveRel.start (M : DataW Cel) {D : DataW Value} (h : ∀ k, has D k = has M k) : LiveRel M (has D) [] := by
  intro s; rw [h]; cases has M (kS s) <;> simp
theorem sameKey_kS (s x : ByteArray) : (kS s).sameKey (kS x) = decide (s = x) := by
  by_cases e : s = x
  · subst e; rw [WideAt.sameKey_self (kS_key _)]; simp
  · rw [Maps.sameKey_ne (kS_ne e)]; simp [e]
theorem LiveRel.skip {M : DataW Cel} {left : Lit → Bool} {L : List ByteArray} (h : LiveRel M left L) {x : ByteArray} {c : Cel} (hM : has M (kS x) = true) (hat : ∀ zd, M.atKey (kS x) zd = .held c) (hl : left (kS x) = true) (hn : nowC c = 0) : LiveRel M (fun z => left z && !z.sameKey (kS x)) L := by
  intro s
  rw [h s]
  simp only [sameKey_kS]
  by_cases e : s = x
  · subst e; rw [cellAt_of (hat _), hn]; simp
  · simp [e]
theorem LiveRel.step {M : DataW Cel} {left : Lit → Bool} {L : List ByteArray} (h : LiveRel M left L) {x : ByteArray} {c : Cel} (hM : has M (kS x) = true) (hat : ∀ zd, M.atKey (kS x) zd = .held c) (hl : left (kS x) = true) (hn : 0 < nowC c) : LiveRel M (fun z => left z && !z.sameKey (kS x)) (L ++ [x]) := by
  intro s
  rw [List.mem_append, h s, List.mem_singleton]
  simp only [sameKey_kS]
  by_cases e : s = x
  · subst e; rw [cellAt_of (hat _)]; simp [hM, hn]
  · simp [e]
theorem infoStr7 : (Tryz.prog.info? 9).map (fun i => (i.zero, i.size, i.bytes)) = some (some (.string ByteArray.empty), 1, 16) := by kernel_rfl

theorem belowGrown {w w' : World} (hb : Below w.heap.size w w') : w.grownBy w' none := ⟨hb.os, hb.tape, hb.output, hb.size, fun i hi _ => hb.block i hi⟩
def ListGives (p : List UInt8) (M : DataW Cel) (w : World) (e : Ending) (w' : World) : Prop :=
  ∃ L : List ByteArray, (∀ s, s ∈ L ↔ (has M (kS s) = true ∧ 0 < nowC (cellAt M s))) ∧ NamesGives p L w e w'

set_option maxRecDepth 100000 in
set_option maxHeartbeats 2000000 in
theorem tab_list (w : World) {t b : Nat} {q1 q2 B : Int} {M : DataW Cel} (h : TabAt w t b q1 q2 M B) (hg : Good Tryz.prog 9 M) (hm : MX w) (p : ByteArray) (hp : p.size ≤ 140737488351232) (hsM : size M ≤ 1073741824) :
    Calls Tryz.prog 27 #[.pointer (some ⟨t, 0, none⟩), .string p] w (ListGives p.data.toList M w) := by
  have Hmade := Lib.hid (tab_made w h)
  have HG := Lib.hid hg; have HM := Lib.hid hm; have HT := Lib.hid h; clear hg hm h
  go_enter Tryz.func27, Tryz.ntmps27
  go_wp2_with fail
  refine Hmade.out.mono ?_
  rintro e w1 ⟨rfl, hb1⟩
  have h1 := HT.out.below hb1
  have c2 := h1.c2
  have hm1 := h1.m
  obtain ⟨D, hownD, hal⟩ := hm1
  have Hal := Lib.hid hal; have Hb1 := Lib.hid hb1
  clear h1 hal hb1
  obtain ⟨i0, hi, hz0, hz1, hz2⟩ := info_parts infoStr7
  go_wp2_with (first | (at_range; refine wpList_range_own _ rfl _ 103 rfl 9 46 strKeyed Tryz.underlying103 heldR b (size M) D rfl hownD ?_; intro w0 hrg0 hg0 hs0) | fail)
  go_frame
  go_loopw [5] (fun s5 wx => ∃ (left : Lit → Bool) (cnt : Nat) (L : List ByteArray), (∃ a5 c5, s5 = .slice a5 L.length c5) ∧ Hid (wx.ranges Tryz.prog 9 heldR b w1.heap.size (size M) D left cnt) ∧ Hid (LiveRel M left L) ∧ Hid (wx.ownsRow (w1.heap.size + 1) 9 1 s5 L.length (L.map Value.string)) ∧ Hid (L.length + cnt ≤ size M) ∧ Hid (Below w1.heap.size w1 wx)) (fun _ wx => wx.rangeLeft b w1.heap.size)
  case atStart => exact ⟨_, _, [], ⟨none, 0, rfl⟩, Lib.hid hrg0, Lib.hid (LiveRel.start M Hal.out.keys), Lib.hid (World.ownsRow_nil _ _ _ _), Lib.hid (by have := Hal.out.sizes; simp only [List.length_nil]; omega), Lib.hid ((Below.refl _ _).grown hg0 (Nat.le_refl _) (fun k hk => by cases hk))⟩
  case round =>
    obtain ⟨left, cnt, L, ⟨a5, c5, rfl⟩, hrg, hrl, hrow, hle, hbx⟩ := hrel
    have hrgo := hrg.out
    by_cases hc : cnt = 0
    · have Hnames := Lib.hid (fun (hl0 : ∀ kl, left kl = false) => path_names p L (.slice a5 L.length c5) wr hp (by have := hle.out; omega) (by
        intro i hi
        have hmem : L.getD i ByteArray.empty ∈ L := by rw [List.getD_eq_getElem?_getD, List.getElem?_eq_getElem hi]; exact List.getElem_mem hi
        obtain ⟨hh, _⟩ := (hrl.out _).1 hmem
        obtain ⟨p', c, e, _, _, _, _, h4⟩ := HG.out.cells _ hh
        rw [kS_inj e]
        have := mayP_size h4; omega) (IsStrs.own hrow.out) (HM.out.below (Hb1.out.trans (hbx.out.mono Hb1.out.size)) (Nat.le_refl _)))
      go_wp2_with (at_next; refine wpList_next_ranges _ rfl _ rfl 9 strKeyed heldR Value.string (fun v : Value => v) (fun key kl h => by obtain ⟨s, rfl, _⟩ := keyS_inv Tryz.underlying9 h; exact ⟨s, rfl⟩) (fun v y _ => ⟨v, rfl⟩) b w1.heap.size (size M) D left cnt rfl hrgo ?_ (fun x c kl y w' cnt' _ _ _ _ _ hlt' => absurd hlt' (by omega)); intro hc0 hl0)
      refine (Hnames.out hl0).mono ?_
      rintro e w2 ⟨v2, rfl, hv2, hb2⟩
      have Hv2 := Lib.hid hv2; have Hb2 := Lib.hid hb2; clear hv2 hb2
      go_wp2_with fail
      go_ret
      refine ⟨L, fun s => ?_, v2, rfl, Hv2.out, Hb1.out.trans ((hbx.out.trans (Hb2.out.mono hbx.out.size)).mono Hb1.out.size)⟩
      rw [hrl.out s, hl0]; simp
    · go_upto_if 23 with (first
        | (at_next; refine wpList_next_ranges _ rfl _ rfl 9 strKeyed heldR Value.string (fun v : Value => v) (fun key kl h => by obtain ⟨s, rfl, _⟩ := keyS_inv Tryz.underlying9 h; exact ⟨s, rfl⟩) (fun v y _ => ⟨v, rfl⟩) b w1.heap.size (size M) D left cnt rfl hrgo (fun h0 => absurd h0 hc) ?_; intro x c kl y w3 cnt3 hkx hlk hv hat hrg3 hlt3 hg3 hs3 hen; obtain ⟨rfl, hxs⟩ := keyS_of hkx; obtain ⟨cel, ⟨s, rfl, hs⟩, hatM⟩ := entry_cel Hal.out hv hat; have hb3 := hbx.out.grown hg3 hbx.out.size (fun k hk => by cases hk; exact Nat.le_refl _); have Hs := Lib.hid (hs.below hb3 (Nat.le_refl _)); obtain ⟨as1, cs1, rfl, _⟩ := hs; have Hb3 := Lib.hid hb3; have Hg3 := Lib.hid hg3; have Hrg3 := Lib.hid hrg3; have Hlk := Lib.hid hlk; have HatM := Lib.hid hatM; have Hxs := Lib.hid hxs; have Hlt3 := Lib.hid hlt3; clear hb3 hrg3 hlk hat hatM hxs hlt3 hkx hv hg3 hs3)
        | (go_at_call 58; refine (cell_now cel _ _ (Hs.out.below ((Below.refl _ _).alloc (Nat.le_refl _) _) (Nat.le_refl _)) ?len).mono ?_; (case len => have hh := Maps.has_true_of_atKey HatM.out; obtain ⟨p', c', _, h2, h3, _⟩ := HG.out.cells _ hh; have := (HatM.out .nil).symm.trans h2; injection this with this; subst this; have := may_len h3; omega); rintro e w4 ⟨rfl, hb4⟩; have Hb4 := Lib.hid hb4; clear hb4)
        | fail)
      have hrow4 : w4.ownsRow (w1.heap.size + 1) 9 1 (.slice a5 L.length c5) L.length (L.map Value.string) := ownBelow (ownBelow (ownGrown hrow.out Hg3.out (Nat.lt_succ_self _)) ((Below.refl _ _).alloc (Nat.le_refl _) _)) Hb4.out
      have hrg4 := (Hrg3.out.alloc (.cells #[.int .u64 cel.last, .slice as1 cel.l.length cs1] 46)).kept (belowGrown Hb4.out) (by simp) (by simp)
      have hbx4 : Below w1.heap.size w1 w4 := (Hb3.out.alloc Hb3.out.size _).trans (Hb4.out.mono (Hb3.out.alloc Hb3.out.size _).size)
      have hMx := Maps.has_true_of_atKey HatM.out
      have Hrow4 := Lib.hid hrow4; have Hrg4 := Lib.hid hrg4; have Hbx4 := Lib.hid hbx4; have HMx := Lib.hid hMx
      clear hrow4 hrg4 hbx4 hMx
      by_cases hn : 0 < nowC cel
      · have hn' : (0 : Int) < (nowC cel : Int) := by omega
        have hll := hle.out
        have hll2 := Hlt3.out
        have hL1 : L.length + 1 ≤ 1073741824 := by omega
        have Hcnt : Hid (L.length + 1 + cnt3 ≤ size M) := Lib.hid (by omega)
        clear hll hll2
        go_wp2_with (first
          | (at_builtin; refine wpList_append_own _ rfl (.tmp 24) (.tmp 26) 24 rfl (w1.heap.size + 1) 9 i0 (.string ByteArray.empty) 1 16 Tryz.underlying24 hi hz0 hz1 hz2 rfl (by decide) _ _ _ rfl (ownBelow Hrow4.out ((Below.refl _ _).alloc (Nat.le_refl _) _)) ⟨w4.heap.size, 0, none⟩ 1 1 [.string x] rfl rfl (World.news_of_block (MapKept.heap_alloc _ _).1) (by intro u hu; rcases List.mem_singleton.1 hu with rfl; rfl) (by unfold maxLen; omega) (by omega) ?hbase ?go; (case hbase => have h1 := Hrg4.out.lt; simp; omega); intro v5 w5 hown5 hg5 _)
          | fail)
        obtain ⟨a6, c6, rfl⟩ := ownShape hown5
        go_roundw
        case rel =>
          refine ⟨_, cnt3, L ++ [x], ⟨a6, c6, by rw [List.length_append]; rfl⟩, Lib.hid ((Hrg4.out.alloc _).kept hg5 ?_ ?_), Lib.hid (hrl.out.step HMx.out HatM.out Hlk.out hn), Lib.hid ?_, Lib.hid ?_, Lib.hid ((Hbx4.out.alloc Hbx4.out.size _).grown hg5 (Hbx4.out.alloc Hbx4.out.size _).size (fun k hk => by have := ownAbove Hrow4.out k hk; omega))⟩
          · intro e; have := ownAbove Hrow4.out _ e.symm; have := hownD.lt; omega
          · intro e; have := ownAbove Hrow4.out _ e.symm; omega
          · rw [List.length_append, List.map_append]; exact hown5
          · rw [List.length_append]; exact Hcnt.out
        case measure => rw [((Hrg4.out.alloc _).kept hg5 (by intro e; have := ownAbove Hrow4.out _ e.symm; have := hownD.lt; omega) (by intro e; have := ownAbove Hrow4.out _ e.symm; omega)).left_eq, hrg.out.left_eq]; exact Hlt3.out
      · have hn0 : nowC cel = 0 := by omega
        have hn' : ¬ (0 : Int) < (nowC cel : Int) := by omega
        have Hcnt : Hid (L.length + cnt3 ≤ size M) := Lib.hid (by have := hle.out; have := Hlt3.out; omega)
        go_wp2_with fail
        go_roundw
        case rel => exact ⟨_, cnt3, L, ⟨a5, c5, rfl⟩, Hrg4, Lib.hid (hrl.out.skip HMx.out HatM.out Hlk.out hn0), Hrow4, Hcnt, Hbx4⟩
        case measure => rw [Hrg4.out.left_eq, hrg.out.left_eq]; exact Hlt3.out
end Go.Proofs.YtfbgnpfhjbiikaaGreatDoor

namespace Go.Proofs.YtfbgnpfhjbiikaaGreatDoor
open Go Go.RowKit
def IsNums (w : World) (v : Value) (l : List Nat) : Prop :=
  ∃ a cap, v = .slice a l.length cap ∧ (l = [] ∨ ∃ b off, a = some ⟨b, off, none⟩ ∧ b < w.heap.size ∧ ∀ i, i < l.length → w.cell? ⟨b, off + i, none⟩ = some (.int .u64 (l.getD i 0)))
theorem IsNums.below {w w' : World} {v : Value} {l : List Nat} {B : Nat} (h : IsNums w v l) (hb : Below B w w') (hB : w.heap.size ≤ B) : IsNums w' v l := by
  obtain ⟨a, cap, hv, h⟩ := h
  refine ⟨a, cap, hv, ?_⟩
  rcases h with h | ⟨b, off, ha, hlt, hc⟩
  · exact Or.inl h
  · exact Or.inr ⟨b, off, ha, by have := hb.size; omega, fun i hi => (hb.cell (p := ⟨b, off + i, none⟩) (by show b < B; omega)).trans (hc i hi)⟩
theorem IsNums.own {w : World} {B e : Nat} {v : Value} {l : List Nat} (h : w.ownsRow B e 1 v l.length (l.map (fun n : Nat => Value.int .u64 n))) : IsNums w v l := by
  rcases h.2 with ⟨hv, hl⟩ | ⟨g, cap, cur, hv, hB, hg, hn, hcap, hsz, htake⟩
  · have : l = [] := List.length_eq_zero_iff.1 hl
    subst this; exact ⟨none, 0, hv, Or.inl rfl⟩
  · refine ⟨_, _, hv, Or.inr ⟨g, 0, rfl, lt_of_block hg, fun i hi => ?_⟩⟩
    subst hv
    have := World.ownsRow.cellAt h i (by omega)
    rw [Nat.zero_add, this, List.getElem?_map, List.getD_eq_getElem?_getD, List.getElem?_eq_getElem hi]; rfl
theorem IsNums.new (w : World) (l : List Nat) (cap : Nat) (e : TypeId) (x : Nat × Nat) : IsNums (w.alloc (.cells (l.map (fun n : Nat => Value.int .u64 n)).toArray e x)) (.slice (some ⟨w.heap.size, 0, none⟩) l.length cap) l := by
  refine ⟨_, _, rfl, Or.inr ⟨w.heap.size, 0, rfl, by simp, fun i hi => ?_⟩⟩
  rw [Nat.zero_add, World.cell?_alloc_mark]
  simp [hi]
theorem below_dr {B : Nat} {a w : World} (h : Below B a w) (q : Nat) : Below B a (w.drewN q) := ⟨h.os, h.tape, h.output, h.size, h.block⟩

set_option maxRecDepth 100000 in
set_option maxHeartbeats 1000000 in
theorem law_numbers (v1 v2 : Value) (m : List Nat) (w : World) (h1 : IsNums w v1 m) (h2 : IsNums w v2 m) (hl : m.length ≤ 1099511627776) :
    Calls Tryz.prog 17 #[v1, v2] w fun e w' => e = .returned (.bool true) ∧ Below w.heap.size w w' := by
  obtain ⟨a1, cap1, rfl, hc1⟩ := h1
  obtain ⟨a2, cap2, rfl, hc2⟩ := h2
  have Hc1 := Lib.hid hc1; have Hc2 := Lib.hid hc2; clear hc1 hc2
  have hLB : ((m.length : Int) != (m.length : Int)) = false := by simp
  go_enter Tryz.func17, Tryz.ntmps17
  go_wp2
  go_loopw [5] (fun i wr => ∃ k : Nat, k ≤ m.length ∧ i = .int .i64 k ∧ Hid (Below w.heap.size w wr)) (fun i _ => m.length - (intOf i).toNat)
  case atStart => exact ⟨0, Nat.zero_le _, rfl, Lib.hid (Below.refl _ _)⟩
  case round =>
    obtain ⟨k, hk, rfl, Hbw⟩ := hrel
    by_cases hlt : k < m.length
    · rcases Hc1.out with hn | ⟨b1, o1, rfl, hl1, hcc1⟩
      · subst hn; simp at hlt
      rcases Hc2.out with hn | ⟨b2, o2, rfl, hl2, hcc2⟩
      · subst hn; simp at hlt
      have hcell1 := (Hbw.out.cell (p := ⟨b1, o1 + k, none⟩) hl1).trans (hcc1 k hlt)
      have hcell2 := (Hbw.out.cell (p := ⟨b2, o2 + k, none⟩) hl2).trans (hcc2 k hlt)
      clear hcc1 hcc2
      obtain ⟨x, hx⟩ : ∃ x, x = m.getD k 0 := ⟨_, rfl⟩
      rw [← hx] at hcell1 hcell2
      clear hx
      have hB : ((x : Int) != (x : Int)) = false := by simp
      go_wp2
      go_quiet (fail)
      go_wp2
      go_roundw
      case rel => exact ⟨k + 1, by omega, by go_num, Lib.hid (below_dr Hbw.out _)⟩
      case measure => simp [intOf]; omega
    · have hge : (m.length : Int) ≤ (k : Int) := by omega
      go_wp2
      go_ret
      exact ⟨rfl, Hbw.out⟩

set_option maxRecDepth 100000 in
set_option maxHeartbeats 1000000 in
theorem law_texts (v1 v2 : Value) (m : List ByteArray) (w : World) (h1 : IsStrs w v1 m) (h2 : IsStrs w v2 m) (hl : m.length ≤ 1099511627776) :
    Calls Tryz.prog 26 #[v1, v2] w fun e w' => e = .returned (.bool true) ∧ Below w.heap.size w w' := by
  obtain ⟨a1, cap1, rfl, hc1⟩ := h1
  obtain ⟨a2, cap2, rfl, hc2⟩ := h2
  have Hc1 := Lib.hid hc1; have Hc2 := Lib.hid hc2; clear hc1 hc2
  have hLB : ((m.length : Int) != (m.length : Int)) = false := by simp
  go_enter Tryz.func26, Tryz.ntmps26
  go_wp2
  go_loopw [5] (fun i wr => ∃ k : Nat, k ≤ m.length ∧ i = .int .i64 k ∧ Hid (Below w.heap.size w wr)) (fun i _ => m.length - (intOf i).toNat)
  case atStart => exact ⟨0, Nat.zero_le _, rfl, Lib.hid (Below.refl _ _)⟩
  case round =>
    obtain ⟨k, hk, rfl, Hbw⟩ := hrel
    by_cases hlt : k < m.length
    · rcases Hc1.out with hn | ⟨b1, o1, rfl, hl1, hcc1⟩
      · subst hn; simp at hlt
      rcases Hc2.out with hn | ⟨b2, o2, rfl, hl2, hcc2⟩
      · subst hn; simp at hlt
      have hcell1 := (Hbw.out.cell (p := ⟨b1, o1 + k, none⟩) hl1).trans (hcc1 k hlt)
      have hcell2 := (Hbw.out.cell (p := ⟨b2, o2 + k, none⟩) hl2).trans (hcc2 k hlt)
      clear hcc1 hcc2
      obtain ⟨x, hx⟩ : ∃ x, x = m.getD k ByteArray.empty := ⟨_, rfl⟩
      rw [← hx] at hcell1 hcell2
      clear hx
      have hB : (x.toList == x.toList) = true := by simp
      go_wp2
      go_quiet (fail)
      go_wp2
      go_roundw
      case rel => exact ⟨k + 1, by omega, by go_num, Lib.hid (below_dr Hbw.out _)⟩
      case measure => simp [intOf]; omega
    · have hge : (m.length : Int) ≤ (k : Int) := by omega
      go_wp2
      go_ret
      exact ⟨rfl, Hbw.out⟩
end Go.Proofs.YtfbgnpfhjbiikaaGreatDoor

namespace Go.Proofs.YtfbgnpfhjbiikaaGreatDoor
open Go Go.RowKit
open Pth
open Go.Maps (has size Canon CanonK Tidy IsMap KeysOf Keyed Merged)
def tA : ByteArray := ⟨#[97]⟩
def tB : ByteArray := ⟨#[98]⟩
def tC : ByteArray := ⟨#[99]⟩
def tX : ByteArray := ⟨#[120]⟩
def exE : List Edt := [⟨1, tA, false, 0, 0, tX⟩, ⟨2, tA, false, 1, 0, ByteArray.empty⟩, ⟨1, tB, true, 0, 0, ByteArray.empty⟩]
def exT : List Edt := [⟨1, tB, true, 0, 0, ByteArray.empty⟩, ⟨1, tC, true, 0, 0, ByteArray.empty⟩]
def exN : DataW Cel := .map [(kS tA, .held ⟨2, [⟨1, 1, tX⟩, ⟨2, 2, ByteArray.empty⟩]⟩), (kS tB, .held ⟨1, [⟨1, 1, ByteArray.empty⟩]⟩)]
theorem exN_eq : triedT (.map []) 0 2 100 exE = ((0, 0), exN, [1, 2, 1], 3) := by kernel_rfl
theorem exT_eq : (triedT exN 3 2 100 exT).1 = (2, 180) := by kernel_rfl
theorem exN_size : size exN = 2 := rfl
theorem exN_live (s : ByteArray) : (has exN (kS s) = true ∧ 0 < nowC (cellAt exN s)) ↔ s = tB := by
  constructor
  · rintro ⟨h, h2⟩
    unfold exN at h h2
    rw [Maps.has_eq] at h
    simp only [List.any_cons, List.any_nil, Bool.or_false, Bool.or_eq_true, sameKey_kS, decide_eq_true_eq] at h
    rcases h with e | e
    · subst e
      have : nowC (cellAt exN tA) = 0 := by kernel_rfl
      unfold exN at this
      omega
    · exact e.symm
  · rintro rfl
    exact ⟨by kernel_rfl, by have : nowC (cellAt exN tB) = 1 := by kernel_rfl
                             omega⟩
theorem nub_const (x : List UInt8) (l : List (List UInt8)) (h : ∀ y ∈ l, y = x) (hne : l ≠ []) : nub l = [x] := by
  induction l with
  | nil => exact absurd rfl hne
  | cons a t ih =>
    have ha := h a (by simp)
    subst ha
    by_cases ht : t = []
    · subst ht; simp [nub]
    · have := ih (fun y hy => h y (by simp [hy])) ht
      simp [nub, this]
theorem ex_names (L : List ByteArray) (h : ∀ s, s ∈ L ↔ (has exN (kS s) = true ∧ 0 < nowC (cellAt exN s))) : (namesL [] (L.map (·.data.toList))).map bs = [tB] := by
  have h1 : ∀ s, s ∈ L ↔ s = tB := fun s => (h s).trans (exN_live s)
  have hk : ∀ y ∈ kidsL [] (L.map (·.data.toList)), y = [98] := by
    intro y hy
    unfold kidsL at hy
    obtain ⟨z, hz, rfl⟩ := List.mem_map.1 hy
    obtain ⟨s, hs, rfl⟩ := List.mem_map.1 (List.mem_filter.1 hz).1
    rw [(h1 s).1 hs]; decide
  have hne : kidsL [] (L.map (·.data.toList)) ≠ [] := by
    intro e
    have hm : ([98] : List UInt8) ∈ kidsL [] (L.map (·.data.toList)) := by
      unfold kidsL
      refine List.mem_map.2 ⟨[98], List.mem_filter.2 ⟨List.mem_map.2 ⟨tB, (h1 tB).2 rfl, rfl⟩, by decide⟩, by decide⟩
    rw [e] at hm; cases hm
  unfold namesL
  rw [nub_const _ _ hk hne, List.mergeSort_singleton]
  rfl

theorem good_none (P : Program) (ks : TypeId) : Good P ks (.map []) := ⟨canonK_nil _, fun k hk => by cases hk⟩
def flatE : List Edt → List Value
  | [] => []
  | x :: t => .int .u8 x.kind :: .string x.path :: .bool x.any :: .int .u64 x.want :: .int .u64 x.n :: .string x.text :: flatE t
theorem flatE_at : ∀ (l : List Edt) (i : Nat), i < l.length → (flatE l)[i * 6]? = some (.int .u8 (l.getD i dE).kind) ∧ (flatE l)[i * 6 + 1]? = some (.string (l.getD i dE).path) ∧ (flatE l)[i * 6 + 2]? = some (.bool (l.getD i dE).any) ∧
    (flatE l)[i * 6 + 3]? = some (.int .u64 (l.getD i dE).want) ∧ (flatE l)[i * 6 + 4]? = some (.int .u64 (l.getD i dE).n) ∧ (flatE l)[i * 6 + 5]? = some (.string (l.getD i dE).text)
  | [], i, h => by simp at h
  | v :: t, 0, _ => ⟨rfl, rfl, rfl, rfl, rfl, rfl⟩
  | v :: t, i + 1, h => by
    have := flatE_at t i (by simpa using h)
    rw [show (i + 1) * 6 = i * 6 + 6 by omega]
    exact this
theorem IsEdts.new (w : World) (l : List Edt) (cap : Nat) (e : TypeId) (x : Nat × Nat) (C : Array Value) (hC : C = (flatE l).toArray) : IsEdts (w.alloc (.cells C e x)) (.slice (some ⟨w.heap.size, 0, none⟩) l.length cap) l := by
  subst hC
  refine ⟨_, _, rfl, Or.inr ⟨w.heap.size, 0, rfl, by simp, fun i hi => ?_⟩⟩
  obtain ⟨h0, h1, h2, h3, h4, h5⟩ := flatE_at l i hi
  simp only [Nat.zero_add, World.cell?_alloc_mark, List.getElem?_toArray]
  exact ⟨h0, h1, h2, h3, h4, h5⟩
theorem exE_small : ∀ i, i < exE.length → (exE.getD i dE).path.size ≤ 140737488351232 ∧ (exE.getD i dE).text.size ≤ 9223372036854775807 := by
  intro i hi
  have : exE.length = 3 := rfl
  rcases (show i = 0 ∨ i = 1 ∨ i = 2 by omega) with rfl | rfl | rfl <;> decide
theorem exT_small : ∀ i, i < exT.length → (exT.getD i dE).path.size ≤ 140737488351232 ∧ (exT.getD i dE).text.size ≤ 9223372036854775807 := by
  intro i hi
  have : exT.length = 2 := rfl
  rcases (show i = 0 ∨ i = 1 by omega) with rfl | rfl <;> decide
theorem exN_good : Good Tryz.prog 9 exN := by
  have h := (runT_facts Tryz.underlying9 exE (vs := []) (B := 0) (i := 0) (good_none Tryz.prog 9)).1
  rw [← tried_eq (q1 := 2) (q2 := 100), exN_eq] at h
  exact h

set_option maxRecDepth 100000 in
set_option maxHeartbeats 2000000 in
theorem law_works (w : World) (hm : MX w) : Calls Tryz.prog 9 #[] w fun e w' => e = .returned (.bool true) ∧ Below w.heap.size w w' := by
  have Hm := Lib.hid hm; clear hm
  have Hnew := Lib.hid (tab_new 2 100 w)
  go_enter Tryz.func9, Tryz.ntmps9
  go_wp2_with fail
  refine Hnew.out.mono ?_
  rintro e w1 ⟨t, b, rfl, ht, hbb, hT, hb1⟩
  have Hap := Lib.hid (fun (W : World) (v : Value) (hW : Below w1.heap.size w1 W) (hv : IsEdts W v exE) => tab_apply W (hT.below hW) (good_none _ _) (Hm.out.below (hb1.trans (hW.mono hb1.size)) (Nat.le_refl _)) v exE hv (by decide) (by decide) (by decide) (by decide) exE_small)
  rw [exN_eq] at Hap
  have Hb1 := Lib.hid hb1; have HT := Lib.hid hT; clear hb1 hT
  go_wp2_with fail
  refine (Hap.out _ _ ?_ ?_).mono ?_
  · exact (Below.refl _ _).alloc (Nat.le_refl _) _
  · exact IsEdts.new w1 exE 3 _ _ _ rfl
  rintro e w2 (⟨h, _⟩ | ⟨_, v2, rfl, hown, hT2, hbut⟩)
  · exact absurd rfl h
  simp only at hown hT2
  have hnums := IsNums.own hown
  obtain ⟨a2, c2, rfl⟩ := ownShape hown
  have hA : Below w.heap.size w (w1.alloc (.cells (flatE exE).toArray 55)) := Hb1.out.alloc Hb1.out.size _
  have hW2 : Below w.heap.size w w2 := hA.trans (hbut.below (by rintro k (rfl | rfl) <;> assumption) hA.size)
  have Htry := Lib.hid (fun (W : World) (v : Value) (hW : Below w2.heap.size w2 W) (hv : IsEdts W v exT) => tab_try W (hT2.below hW) exN_good (Hm.out.below (hW2.trans (hW.mono hW2.size)) (Nat.le_refl _)) v exT hv (by decide) (by decide) (by decide) (by decide) exT_small)
  rw [exT_eq] at Htry
  have Hsize := Lib.hid (fun (W : World) (hW : Below w2.heap.size w2 W) => tab_size W (hT2.below hW))
  rw [exN_size] at Hsize
  have Hlist := Lib.hid (fun (W : World) (hW : Below w2.heap.size w2 W) => tab_list W (hT2.below hW) exN_good (Hm.out.below (hW2.trans (hW.mono hW2.size)) (Nat.le_refl _)) ByteArray.empty (by decide) (by decide))
  have HW2 := Lib.hid hW2; have Hnums := Lib.hid hnums
  clear hown hnums hbut hA hW2 hT2 Hap
  go_wp2_with fail
  refine (Htry.out _ _ ?_ ?_).mono ?_
  · exact (Below.refl _ _).alloc (Nat.le_refl _) _
  · exact IsEdts.new w2 exT 2 _ _ _ rfl
  rintro e w3 ⟨rfl, hb3⟩
  have Hb3 := Lib.hid (((Below.refl w2.heap.size w2).alloc (Nat.le_refl _) _).trans (hb3.mono (by simp))); clear hb3
  go_wp2_with fail
  refine (Hsize.out _ Hb3.out).mono ?_
  rintro e w4 ⟨rfl, hb4⟩
  have Hb4 := Lib.hid (Hb3.out.trans (hb4.mono Hb3.out.size)); clear hb4
  go_wp2_with fail
  refine (law_numbers _ _ [1, 2, 1] _ (Hnums.out.below (Hb4.out.alloc Hb4.out.size _) (Nat.le_refl _)) ?_ (by decide)).mono ?_
  · exact IsNums.new w4 [1, 2, 1] 3 _ _
  rintro e w5 ⟨rfl, hb5⟩
  have Hb5 := Lib.hid ((Hb4.out.alloc Hb4.out.size _).trans (hb5.mono (Hb4.out.alloc Hb4.out.size _).size)); clear hb5
  go_wp2_with fail
  refine (Hlist.out _ Hb5.out).mono ?_
  rintro e w6 ⟨L, hL, v6, rfl, hv6, hb6⟩
  rw [show (ByteArray.empty).data.toList = [] from rfl, ex_names L hL] at hv6
  have Hv6 := Lib.hid hv6; have Hb6 := Lib.hid (Hb5.out.trans (hb6.mono Hb5.out.size)); clear hb6
  go_wp2_with fail
  refine (law_texts _ _ [tB] _ (Hv6.out.below ((Below.refl _ _).alloc (Nat.le_refl _) _) (Nat.le_refl _)) ?_ (by decide)).mono ?_
  · exact IsStrs.new w6 [tB] 1 _ _
  rintro e w7 ⟨rfl, hb7⟩
  have Hb7 := Lib.hid ((Hb6.out.alloc Hb6.out.size _).trans (hb7.mono (Hb6.out.alloc Hb6.out.size _).size)); clear hb7
  go_wp2_with fail
  go_ret
  exact ⟨rfl, HW2.out.trans (Hb7.out.mono HW2.out.size)⟩
end Go.Proofs.YtfbgnpfhjbiikaaGreatDoor

namespace Go.Proofs.YtfbgnpfhjbiikaaGreatDoor
open Go Go.RowKit
open Pth
open Go.Maps (has size Canon CanonK Tidy IsMap KeysOf Keyed Merged)
set_option maxRecDepth 100000 in
set_option maxHeartbeats 1000000 in
theorem tab_copied (c : Cel) (v : Value) (w : World) (hv : IsVers w v c.l) (hl : c.l.length ≤ 65536) :
    Calls Tryz.prog 46 #[.agg #[.int .u64 c.last, v]] w (KeptGives c w) := by
  obtain ⟨cl, L⟩ := c
  simp only at hv hl ⊢
  have hv2 := hv
  obtain ⟨a, cap, rfl, hc⟩ := hv2
  clear hc
  have Hv := Lib.hid hv; clear hv
  go_enter Tryz.func46, Tryz.ntmps46
  go_upto_region 1 with fail
  refine wp_abs (F := Two w #[.int .u64 cl, .slice a L.length cap] #[.int .u64 0, .slice none 0 0]) (Two.of w _ _ _ _) ?_
  intro W T
  have q0 := T.c1 0
  have q1 := T.c1 1
  have T := Lib.hid T
  simp at q0 q1
  go_wp2_with fail
  refine (clone_vers L _ _ (Hv.out.below T.out.b (Nat.le_refl _)) hl).mono ?_
  rintro e w1 ⟨v1, rfl, hown, hb1⟩
  obtain ⟨a1, c1, rfl⟩ := ownShape hown
  have T1 := T.out.step hb1
  have q0 := T1.c1 0; have q1 := T1.c1 1; have f0 := T1.f1 0; have f1 := T1.f1 1
  have z0 := T1.c2 0; have z1 := T1.c2 1; have g0 := T1.f2 0; have g1 := T1.f2 1
  simp at q0 q1 z0 z1
  have T1 := Lib.hid T1; have Hown := Lib.hid hown; have Hb1 := Lib.hid hb1; clear hown hb1
  go_wp2_with fail
  have h1 := T.out.sz
  refine bodyPost_ret (v := .agg #[.int .u64 cl, .slice a1 L.length c1]) ?_ rfl ⟨_, rfl, ?_, ?_⟩
  · simp [results, Tryz.results46, go_sem, z0, z1]
  · exact ownBase (ownsRow_setCell_below (ownsRow_setCell_below (ownsRow_setCell_below Hown.out (by dsimp only; omega) _) (by dsimp only; omega) _) (by dsimp only; omega) _) (by omega)
  · refine (((T1.out.b.setCell ?_ _).setCell ?_ _).setCell ?_ _) <;> dsimp only <;> omega

def dR : ByteArray × Cel := (ByteArray.empty, ⟨0, []⟩)
def IsRows (w : World) (v : Value) (l : List (ByteArray × Cel)) : Prop :=
  ∃ a cap, v = .slice a l.length cap ∧ (l = [] ∨ ∃ b off, a = some ⟨b, off, none⟩ ∧ b < w.heap.size ∧ ∀ i, i < l.length →
    w.cell? ⟨b, off + i * 3, none⟩ = some (.string (l.getD i dR).1) ∧ w.cell? ⟨b, off + i * 3 + 1, none⟩ = some (.int .u64 (l.getD i dR).2.last) ∧ ∃ s, w.cell? ⟨b, off + i * 3 + 2, none⟩ = some s ∧ IsVers w s (l.getD i dR).2.l)
theorem IsRows.below {w w' : World} {v : Value} {l : List (ByteArray × Cel)} {B : Nat} (h : IsRows w v l) (hb : Below B w w') (hB : w.heap.size ≤ B) : IsRows w' v l := by
  obtain ⟨a, cap, hv, h⟩ := h
  refine ⟨a, cap, hv, ?_⟩
  rcases h with h | ⟨b, off, ha, hlt, hc⟩
  · exact Or.inl h
  · refine Or.inr ⟨b, off, ha, by have := hb.size; omega, fun i hi => ?_⟩
    obtain ⟨h0, h1, s, h2, hs⟩ := hc i hi
    exact ⟨(hb.cell (by dsimp only; omega)).trans h0, (hb.cell (by dsimp only; omega)).trans h1, s, (hb.cell (by dsimp only; omega)).trans h2, hs.below hb hB⟩
def keysL (M : DataW Cel) : List (List UInt8) := (strKeys M).mergeSort (fun x y => decide (x ≤ y))
def rowAt (M : DataW Cel) (k : List UInt8) : ByteArray × Cel := (bs k, cellAt M (bs k))
def rowsL (M : DataW Cel) : List (ByteArray × Cel) := (keysL M).map (rowAt M)
theorem canon_strs {C : Type} {M : DataW C} (c : CanonK (KeysOf Tryz.prog 9) M) : ∃ es, M = .map es ∧ es.Pairwise (fun p q => p.1 ≠ q.1) ∧ ∀ p ∈ es, ∃ x, p.1 = .string x := by
  obtain ⟨es, rfl, hp, hk⟩ := c
  refine ⟨es, rfl, Maps.apart_of_rising hp, fun p hp' => ?_⟩
  obtain ⟨v, hv⟩ := hk p hp'
  obtain ⟨y, _, hy, _⟩ := Maps.keyOf_str Tryz.underlying9 hv
  exact ⟨y, hy⟩
theorem mem_strKeys' {C : Type} {es : List (Lit × DataW C)} (hk : ∀ p ∈ es, ∃ x, p.1 = .string x) (x : List UInt8) : x ∈ strKeys (.map es) ↔ has (.map es) (.string x) = true := by
  show x ∈ es.map (fun p => strOf p.1) ↔ _
  rw [Maps.has_eq, List.mem_map, List.any_eq_true]
  constructor
  · rintro ⟨p, hp, rfl⟩
    obtain ⟨y, hy⟩ := hk p hp
    exact ⟨p, hp, by rw [hy]; exact WideAt.sameKey_self trivial⟩
  · rintro ⟨p, hp, hs⟩
    exact ⟨p, hp, by rw [WideAt.sameKey_eq hs]; rfl⟩
theorem strKeys_nodup {C : Type} {es : List (Lit × DataW C)} (hp : es.Pairwise (fun p q => p.1 ≠ q.1)) (hk : ∀ p ∈ es, ∃ x, p.1 = .string x) : (strKeys (.map es)).Nodup := by
  show (es.map fun p => strOf p.1).Nodup
  refine List.pairwise_map.2 (hp.imp_of_mem fun {p q} hp' hq' hne e => hne ?_)
  obtain ⟨x, hx⟩ := hk p hp'
  obtain ⟨y, hy⟩ := hk q hq'
  rw [hx, hy] at e ⊢
  exact congrArg _ e
theorem keysL_of {D : DataW Value} {M : DataW Cel} (cD : CanonK (KeysOf Tryz.prog 9) D) (cM : CanonK (KeysOf Tryz.prog 9) M) (h : ∀ k, has D k = has M k) {ss : List (List UInt8)} (hs : ss.Perm (strKeys D)) : ss.mergeSort (fun x y => decide (x ≤ y)) = keysL M := by
  obtain ⟨es, rfl, hp, hk⟩ := canon_strs cM
  obtain ⟨ed, rfl, hpd, hkd⟩ := canon_strs cD
  unfold keysL
  refine (mergeSort_of_perm (hs.trans ?_))
  refine ((perm_strKeys hp hk (strKeys_nodup hpd hkd) fun x => ?_))
  rw [mem_strKeys' hkd, h]
theorem keysL_mem {M : DataW Cel} (cM : CanonK (KeysOf Tryz.prog 9) M) {x : List UInt8} (hx : x ∈ keysL M) : has M (kS (bs x)) = true := by
  obtain ⟨es, rfl, hp, hk⟩ := canon_strs cM
  unfold keysL at hx
  exact (mem_strKeys' hk x).1 ((List.mergeSort_perm _ _).mem_iff.1 hx)
theorem keysL_length {M : DataW Cel} (cM : CanonK (KeysOf Tryz.prog 9) M) : (keysL M).length = size M := by
  obtain ⟨es, rfl, _⟩ := cM
  unfold keysL
  rw [List.length_mergeSort]
  show (es.map _).length = es.length
  simp
end Go.Proofs.YtfbgnpfhjbiikaaGreatDoor

namespace Go.Proofs.YtfbgnpfhjbiikaaGreatDoor
open Go Go.RowKit
open Pth
open Go.Maps (has size Canon CanonK Tidy IsMap KeysOf Keyed Merged)
def rowCells : List ((ByteArray × Cel) × Value) → List Value
  | [] => []
  | x :: t => .string x.1.1 :: .int .u64 x.1.2.last :: x.2 :: rowCells t
theorem rowCells_length (l : List ((ByteArray × Cel) × Value)) : (rowCells l).length = l.length * 3 := by
  induction l with
  | nil => rfl
  | cons v t ih => simp only [rowCells, List.length_cons, ih]; omega
theorem rowCells_append (a b : List ((ByteArray × Cel) × Value)) : rowCells (a ++ b) = rowCells a ++ rowCells b := by
  induction a with
  | nil => rfl
  | cons v t ih => simp only [List.cons_append, rowCells, ih]
def dRV : (ByteArray × Cel) × Value := (dR, .slice none 0 0)
theorem rowCells_at : ∀ (l : List ((ByteArray × Cel) × Value)) (i : Nat), i < l.length → (rowCells l)[i * 3]? = some (.string (l.getD i dRV).1.1) ∧ (rowCells l)[i * 3 + 1]? = some (.int .u64 (l.getD i dRV).1.2.last) ∧ (rowCells l)[i * 3 + 2]? = some (l.getD i dRV).2
  | [], i, h => by simp at h
  | v :: t, 0, _ => ⟨rfl, rfl, rfl⟩
  | v :: t, i + 1, h => by
    have := rowCells_at t i (by simpa using h)
    rw [show (i + 1) * 3 = i * 3 + 3 by omega]
    exact this
def RowsOff (w : World) (T : List ((ByteArray × Cel) × Value)) (o : Option Nat) : Prop := ∀ x ∈ T, IsVers w x.2 x.1.2.l ∧ (x.1.2.l ≠ [] → ∀ kb, x.2.ownBlock = some kb → o ≠ some kb)
theorem RowsOff.below {w w' : World} {T : List ((ByteArray × Cel) × Value)} {o : Option Nat} (h : RowsOff w T o) (hb : Below w.heap.size w w') : RowsOff w' T o := fun x hx => ⟨(h x hx).1.below hb (Nat.le_refl _), (h x hx).2⟩
theorem RowsOff.row {w w' : World} {T : List ((ByteArray × Cel) × Value)} {o o' : Option Nat} (h : RowsOff w T o) (hg : w.grownBy w' o) (ho : o' = o ∨ o' = some w.heap.size) : RowsOff w' T o' := by
  intro x hx
  obtain ⟨h1, h2⟩ := h x hx
  refine ⟨h1.row hg h2, fun hl kb hk => ?_⟩
  rcases ho with rfl | rfl
  · exact h2 hl kb hk
  · intro e
    have := h1.own_lt hl hk
    cases e; omega
theorem IsRows.own {w : World} {B e : Nat} {v : Value} {T : List ((ByteArray × Cel) × Value)} {o : Option Nat} (h : w.ownsRow B e 3 v T.length (rowCells T)) (hT : RowsOff w T o) : IsRows w v (T.map (·.1)) := by
  rcases h.2 with ⟨hv, hl⟩ | ⟨g, cap, cur, hv, hB, hg, hn, hcap, hsz, htake⟩
  · have : T = [] := List.length_eq_zero_iff.1 hl
    subst this; exact ⟨none, 0, hv, Or.inl rfl⟩
  · refine ⟨_, cap, by rw [List.length_map]; exact hv, Or.inr ⟨g, 0, rfl, lt_of_block hg, fun i hi => ?_⟩⟩
    rw [List.length_map] at hi
    subst hv
    obtain ⟨f1, f2, f3⟩ := rowCells_at T i hi
    have c1 := World.ownsRow.cellAt h (i * 3) (by omega)
    have c2 := World.ownsRow.cellAt h (i * 3 + 1) (by omega)
    have c3 := World.ownsRow.cellAt h (i * 3 + 2) (by omega)
    rw [f1] at c1; rw [f2] at c2; rw [f3] at c3
    have hd : (T.map (·.1)).getD i dR = (T.getD i dRV).1 := by
      rw [List.getD_eq_getElem?_getD, List.getD_eq_getElem?_getD, List.getElem?_map, List.getElem?_eq_getElem hi]; rfl
    have hm : T.getD i dRV ∈ T := by
      rw [List.getD_eq_getElem?_getD, List.getElem?_eq_getElem hi]; exact List.getElem_mem hi
    rw [hd, Nat.zero_add]
    exact ⟨c1, c2, _, c3, (hT _ hm).1⟩
theorem infoRow : (Tryz.prog.info? 48).map (fun i => (i.zero, i.size, i.bytes)) = some (some (.agg #[.string ByteArray.empty, .int .u64 0, .slice none 0 0]), 3, 48) := by kernel_rfl

def RowsGives (M : DataW Cel) (w : World) (e : Ending) (w' : World) : Prop := ∃ v, e = .returned v ∧ IsRows w' v (rowsL M) ∧ Below w.heap.size w w'

set_option maxRecDepth 100000 in
set_option maxHeartbeats 2000000 in
theorem tab_rows (w : World) {t b : Nat} {q1 q2 B : Int} {M : DataW Cel} (h : TabAt w t b q1 q2 M B) (hg : Good Tryz.prog 9 M) (hsM : size M ≤ 1073741824) :
    Calls Tryz.prog 12 #[.pointer (some ⟨t, 0, none⟩)] w (RowsGives M w) := by
  have Hmade := Lib.hid (tab_made w h)
  have HG := Lib.hid hg; have HT := Lib.hid h; clear hg h
  go_enter Tryz.func12, Tryz.ntmps12
  go_wp2_with fail
  refine Hmade.out.mono ?_
  rintro e w1 ⟨rfl, hb1⟩
  have h1 := HT.out.below hb1
  have c2 := h1.c2
  have hm1 := h1.m
  obtain ⟨D, hownD, hal⟩ := hm1
  have hK := callsIn_wide.1 (Tryz.maps_Keys_45 (some b) w1)
  have hS := callsIn_wide.1 (Tryz.slices_Sorted_keys_44_45 b (size M) D _ w1 hownD (by rw [hal.sizes]; unfold maxLen; omega) (by rw [hal.sizes]; omega))
  have Hkeys := Lib.hid (fun (ss : List (List UInt8)) (hs : ss.Perm (strKeys D)) => keysL_of (hownD.canonK strKeyed) hal.canon hal.keys hs)
  have HT1 := Lib.hid h1; have Hb1 := Lib.hid hb1; have HK := Lib.hid hK; have HS := Lib.hid hS
  clear h1 hb1 hK hS hal hownD
  go_wp2_with fail
  refine (HK.out).mono ?_
  rintro e w2 ⟨rfl, rfl⟩
  go_wp2_with fail
  refine (HS.out).mono ?_
  rintro e w3 ⟨v3, ss, rfl, hperm, hrow, _, hb3⟩
  have hv3 : IsStrs w3 v3 ((keysL M).map bs) := IsStrs.own (B := (w1.alloc (.cells #[.map (some b)] 103)).heap.size) (e := 9) (by rw [← Hkeys.out ss hperm, List.length_map, List.length_mergeSort, List.map_map]; exact hrow)
  have hb13 : Below w1.heap.size w1 w3 := ((Below.refl _ w1).alloc (Nat.le_refl _) _).trans (hb3.mono (by simp))
  have Hmem := Lib.hid (fun x (hx : x ∈ keysL M) => keysL_mem HG.out.canon hx)
  have hkl : (keysL M).length ≤ 1073741824 := by rw [keysL_length HG.out.canon]; exact hsM
  have Hrows : Hid (rowsL M = (keysL M).map (rowAt M)) := Lib.hid rfl
  generalize keysL M = ks at hv3 Hmem hkl Hrows
  obtain ⟨a3, c3, rfl, hc3⟩ := hv3
  have Hc3 := Lib.hid hc3; have Hb13 := Lib.hid hb13
  clear hc3 hb13 hrow hperm hb3 HS HK Hkeys
  obtain ⟨i0, hi, hz0, hz1, hz2⟩ := info_parts infoRow
  rw [List.length_map]
  go_wp2_with fail
  go_loopw [2, 15] (fun s2 i wr => ∃ (k : Nat) (T : List ((ByteArray × Cel) × Value)), k ≤ ks.length ∧ i = .int .i64 k ∧ (∃ a c, s2 = .slice a T.length c) ∧ Hid (T.map (·.1) = (ks.take k).map (rowAt M)) ∧ Hid (T.length = k) ∧ Hid (wr.ownsRow w3.heap.size 48 3 s2 T.length (rowCells T)) ∧ Hid (RowsOff wr T s2.ownBlock) ∧ Hid (Below w3.heap.size w3 wr)) (fun _ i _ => ks.length - (intOf i).toNat)
  case atStart => exact ⟨0, [], Nat.zero_le _, rfl, ⟨none, 0, rfl⟩, Lib.hid rfl, Lib.hid rfl, Lib.hid (World.ownsRow_nil _ _ _ _), Lib.hid (fun x hx => by cases hx), Lib.hid (Below.refl _ _)⟩
  case round =>
    obtain ⟨k, T, hk, rfl, ⟨a2, c2', rfl⟩, hmap, hTk, hrow, hoff, hbw⟩ := hrel
    have hw1r : Below w1.heap.size w1 wr := Hb13.out.trans (hbw.out.mono Hb13.out.size)
    have hTr := HT1.out.below hw1r
    by_cases hlt : k < ks.length
    · rcases Hc3.out with hn | ⟨b3, o3, rfl, hl3, hcc⟩
      · have := congrArg List.length hn; simp at this; rw [this] at hlt; simp at hlt
      have hcell := (hbw.out.cell (p := ⟨b3, o3 + k, none⟩) hl3).trans (hcc k (by rw [List.length_map]; exact hlt))
      clear hcc
      have hkx : ks.getD k [] ∈ ks := by rw [List.getD_eq_getElem?_getD, List.getElem?_eq_getElem hlt]; exact List.getElem_mem hlt
      have hgd : (ks.map bs).getD k ByteArray.empty = bs (ks.getD k []) := by
        rw [List.getD_eq_getElem?_getD, List.getD_eq_getElem?_getD, List.getElem?_map, List.getElem?_eq_getElem hlt]; rfl
      rw [hgd] at hcell
      have hhas := Hmem.out _ hkx
      have htake : ks.take (k + 1) = ks.take k ++ [ks.getD k []] := by
        rw [List.take_succ_eq_append_getElem hlt, List.getD_eq_getElem?_getD, List.getElem?_eq_getElem hlt]; rfl
      obtain ⟨x, hx⟩ : ∃ x, x = ks.getD k [] := ⟨_, rfl⟩
      rw [← hx] at hcell hhas htake
      clear hx hkx hgd
      obtain ⟨p', c', ep, _, _, _, _, hmp⟩ := HG.out.cells _ hhas
      have hps : (bs x).size ≤ 128 := by rw [kS_inj ep]; exact mayP_size hmp
      have c2 := hTr.c2
      obtain ⟨s, is, _, hs, _, hl⟩ := hTr.m.look2 (bs x) (by unfold maxLen; omega)
      have hmay := (HG.out.cellAt (bs x)).1
      obtain ⟨cN, hcN⟩ : ∃ c, c = cellAt M (bs x) := ⟨_, rfl⟩
      rw [← hcN] at hl hs hmay
      have hl8 := may_len hmay
      have Hs := Lib.hid hs
      obtain ⟨as1, cs1, rfl, _⟩ := hs
      obtain ⟨p, hp⟩ : ∃ p, p = bs x := ⟨_, rfl⟩
      have HcN := Lib.hid hcN; have Htake := Lib.hid htake; have HTr := Lib.hid hTr; have Hlt := Lib.hid hlt
      rw [← hp] at hcell hl
      have Hp := Lib.hid hp
      have hTl : T.length ≤ 1073741824 := by have := hTk.out; omega
      have hlt2 : (k : Int) < (ks.length : Int) := by omega
      clear hcN htake hTr hhas hp ep hmp hps hw1r hmay
      go_wp2_with (first
        | (go_at_call 46; refine (tab_copied cN _ _ Hs.out (by omega)).mono ?_; rintro e w4 ⟨v4, rfl, hown4, hb4⟩; obtain ⟨a4, c4, rfl⟩ := ownShape hown4; have Hown4 := Lib.hid hown4; have Hb4 := Lib.hid hb4; clear hown4 hb4)
        | (at_builtin; refine wpList_append_lies _ rfl (.tmp 19) (.tmp 29) 26 rfl w3.heap.size 48 i0 (.agg #[.string ByteArray.empty, .int .u64 0, .slice none 0 0]) 3 48 Tryz.underlying26 hi hz0 hz1 hz2 rfl (by decide) _ T.length (rowCells T) rfl (ownBelow (ownBelow hrow.out Hb4.out) ((Below.refl _ _).alloc (Nat.le_refl _) _)) ⟨w4.heap.size, 0, none⟩ 1 1 [.string p, .int .u64 cN.last, .slice a4 cN.l.length c4] rfl rfl (World.news_of_block (MapKept.heap_alloc _ _).1) (by intro u hu; simp only [List.mem_cons, List.mem_nil_iff, or_false] at hu; rcases hu with rfl | rfl | rfl <;> rfl) (by decide) (by unfold maxLen; omega) (by omega) ?hbase (w4.heap.size + 1) (by simp) ?go; (case hbase => have h1 := hbw.out.size; have h2 := Hb4.out.size; simp; omega); intro g cp w8 hown8 hg8 hat hlt8)
        | fail)
      go_roundw
      case rel =>
        refine ⟨k + 1, T ++ [((p, cN), .slice a4 cN.l.length c4)], by have := Hlt.out; omega, by go_num, ⟨_, _, by rw [List.length_append]; rfl⟩, Lib.hid ?_, Lib.hid (by rw [List.length_append, hTk.out]; rfl), Lib.hid ?_, Lib.hid ?_, Lib.hid ?_⟩
        · rw [Htake.out, List.map_append, List.map_append, hmap.out, Hp.out, HcN.out]; rfl
        · rw [List.length_append, rowCells_append]; exact hown8
        · have hA : RowsOff (w4.alloc (.cells #[.string p, .int .u64 cN.last, .slice a4 cN.l.length c4] 48)) (T ++ [((p, cN), .slice a4 cN.l.length c4)]) (Value.slice a2 T.length c2').ownBlock := by
            intro y hy
            rcases List.mem_append.1 hy with hy | hy
            · exact ((hoff.out.below Hb4.out).below ((Below.refl _ _).alloc (Nat.le_refl _) _)) y hy
            · rcases List.mem_singleton.1 hy with rfl
              refine ⟨(IsVers.own Hown4.out).below ((Below.refl _ _).alloc (Nat.le_refl _) _) (Nat.le_refl _), fun _ kb hkb e => ?_⟩
              have h1 := ownAbove Hown4.out kb hkb
              have h2 : kb < wr.heap.size := by
                rcases hrow.out.2 with ⟨hv, _⟩ | ⟨g', cp', cur, hv, hB, hg', _⟩
                · rw [hv] at e; cases e
                · rw [hv] at e; cases e; exact lt_of_block hg'
              omega
          refine hA.row hg8 ?_
          rcases hat with h | h
          · left; exact h.symm
          · right; show some g = some _; rw [h]; simp
        · have h1 : Below w3.heap.size w3 w4 := hbw.out.trans (Hb4.out.mono hbw.out.size)
          exact (h1.alloc h1.size _).grown hg8 (h1.alloc h1.size _).size (fun k hk => ownAbove hrow.out k hk)
      case measure => simp [intOf]; omega
    · have hge : (ks.length : Int) ≤ (k : Int) := by omega
      have hkk : k = ks.length := by omega
      have Hkk := Lib.hid hkk
      clear hkk hTr hw1r
      go_wp2_with fail
      go_ret
      refine ⟨_, rfl, ?_, Hb1.out.trans ((Hb13.out.trans (hbw.out.mono Hb13.out.size)).mono Hb1.out.size)⟩
      have h1 := IsRows.own hrow.out hoff.out
      rw [hmap.out, Hkk.out, List.take_length] at h1
      rw [Hrows.out]; exact h1
end Go.Proofs.YtfbgnpfhjbiikaaGreatDoor

namespace Go.Proofs.YtfbgnpfhjbiikaaGreatDoor
open Go Go.RowKit
theorem quiet_plain' {P : Program} {ops : Array Oper} {C : World → Prop} {Q : Act → Prop} {a : Act} {o : Oper} {rest : List Oper} (hw : Region.wanted o (yielded ops a.tmps) = true) (v : Value)
    (h : ∀ w, C w → (execOp a.eval o).run P w = .ok (.value v) w) (k : wpQuiet P ops C Q rest (a.put o.dst v)) : wpQuiet P ops C Q (o :: rest) a := by
  refine wpQuiet_step (fun K hK => ?_)
  rw [if_pos hw]
  refine ⟨v, fun w hw => ?_, hK _ k⟩
  unfold Oper.quietAt
  rw [h w hw]
  exact ⟨rfl, rfl⟩
theorem quiet_call' {P : Program} {ops : Array Oper} {C : World → Prop} {Q : Act → Prop} {a : Act} {o : Oper} {rest : List Oper} (hw : Region.wanted o (yielded ops a.tmps) = true) (v : Value) (f : FuncId) (args : Array Value)
    (h : ∀ w, C w → (execOp a.eval o).run P w = .ok (.enter f args) w ∧ Calls P f args w (fun e w'' => e = .returned v ∧ C w'')) (k : wpQuiet P ops C Q rest (a.put o.dst v)) : wpQuiet P ops C Q (o :: rest) a := by
  refine wpQuiet_step (fun K hK => ?_)
  rw [if_pos hw]
  refine ⟨v, fun w hw => ?_, hK _ k⟩
  unfold Oper.quietAt
  rw [(h w hw).1]
  exact ⟨rfl, (h w hw).2⟩

set_option maxRecDepth 100000 in
set_option maxHeartbeats 2000000 in
theorem ref17_same (c : Cel) (v1 v2 : Value) (w : World) (h1 : IsVers w v1 c.l) (h2 : IsVers w v2 c.l) (hl : c.l.length ≤ 65536) :
    Calls Tryz.prog 50 #[.agg #[.int .u64 c.last, v1], .agg #[.int .u64 c.last, v2]] w fun e w' => e = .returned (.bool true) ∧ Below w.heap.size w w' := by
  obtain ⟨cl, L⟩ := c
  simp only at h1 h2 hl ⊢
  obtain ⟨a1, cap1, rfl, hc1⟩ := h1
  obtain ⟨a2, cap2, rfl, hc2⟩ := h2
  have Hc1 := Lib.hid hc1; have Hc2 := Lib.hid hc2; clear hc1 hc2
  have hLB : ((L.length : Int) != (L.length : Int)) = false := by simp
  have hCB : ((cl : Int) != (cl : Int)) = false := by simp
  go_enter Tryz.func50, Tryz.ntmps50
  go_upto_region 1 with fail
  refine wp_abs (F := Two w #[.int .u64 cl, .slice a1 L.length cap1] #[.int .u64 cl, .slice a2 L.length cap2]) (Two.of w _ _ _ _) ?_
  intro W T
  have q0 := T.c1 0; have q1 := T.c1 1; have r0 := T.c2 0; have r1 := T.c2 1
  have T := Lib.hid T
  simp at q0 q1 r0 r1
  go_wp2_with fail
  go_loopw [5] (fun i wr => ∃ k : Nat, k ≤ L.length ∧ i = .int .i64 k ∧ Hid (Below W.heap.size W wr)) (fun i _ => L.length - (intOf i).toNat)
  case atStart => exact ⟨0, Nat.zero_le _, rfl, Lib.hid (Below.refl _ _)⟩
  case round =>
    obtain ⟨k, hk, rfl, Hbw⟩ := hrel
    have Tr := T.out.step Hbw.out
    have hbr := Tr.b
    have q1 := Tr.c1 1; have r1 := Tr.c2 1
    simp at q1 r1
    by_cases hlt : k < L.length
    · rcases Hc1.out with hn | ⟨b1, o1, rfl, hl1, hcc1⟩
      · subst hn; simp at hlt
      rcases Hc2.out with hn | ⟨b2, o2, rfl, hl2, hcc2⟩
      · subst hn; simp at hlt
      obtain ⟨g1, g2, g3⟩ := hcc1 k hlt
      obtain ⟨g4, g5, g6⟩ := hcc2 k hlt
      have k1 := (hbr.cell (p := ⟨b1, o1 + k * 3, none⟩) hl1).trans g1
      have k2 := (hbr.cell (p := ⟨b1, o1 + k * 3 + 1, none⟩) hl1).trans g2
      have k3 := (hbr.cell (p := ⟨b1, o1 + k * 3 + 2, none⟩) hl1).trans g3
      have k4 := (hbr.cell (p := ⟨b2, o2 + k * 3, none⟩) hl2).trans g4
      have k5 := (hbr.cell (p := ⟨b2, o2 + k * 3 + 1, none⟩) hl2).trans g5
      have k6 := (hbr.cell (p := ⟨b2, o2 + k * 3 + 2, none⟩) hl2).trans g6
      clear hcc1 hcc2 g1 g2 g3 g4 g5 g6
      obtain ⟨x, hx⟩ : ∃ x, x = L.getD k dV := ⟨_, rfl⟩
      rw [← hx] at k1 k2 k3 k4 k5 k6
      clear hx hbr
      have Tr := Lib.hid Tr
      go_wp2_with fail
      go_quiet (fail)
      go_wp2_with fail
      go_roundw
      case rel => exact ⟨k + 1, by omega, by go_num, Lib.hid (below_dr Hbw.out _)⟩
      case measure => simp [intOf]; omega
    · have hge : (L.length : Int) ≤ (k : Int) := by omega
      clear hbr
      have Tr := Lib.hid Tr
      go_wp2_with fail
      go_ret
      exact ⟨rfl, Tr.out.b⟩
end Go.Proofs.YtfbgnpfhjbiikaaGreatDoor
