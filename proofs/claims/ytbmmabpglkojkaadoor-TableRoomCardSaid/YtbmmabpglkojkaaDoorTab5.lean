/- Contracts: maps.Copy, Table.Try, Table.Apply. -/
import Derived.Test.YtbmmabpglkojkaaDoorTab4
namespace Go.Proofs.YtbmmabpglkojkaaDoor
open Go Go.RowKit
open Go.Maps (has size Canon CanonK Tidy IsMap KeysOf Keyed Merged)

/-- All that was there is as it was, but for the blocks of S. -/
structure ButS (S : Nat → Prop) (w w' : World) : Prop where
  os : w'.os = w.os
  tape : w'.tape = w.tape
  output : w'.output = w.output
  size : w.heap.size ≤ w'.heap.size
  block : ∀ k, k < w.heap.size → ¬ S k → w'.heap[k]? = w.heap[k]?
theorem ButS.of {S : Nat → Prop} {w w' : World} (h : Below w.heap.size w w') : ButS S w w' := ⟨h.os, h.tape, h.output, h.size, fun k hk _ => h.block k hk⟩
theorem ButS.trans {S : Nat → Prop} {a b c : World} (h : ButS S a b) (k : ButS S b c) : ButS S a c :=
  ⟨k.os.trans h.os, k.tape.trans h.tape, k.output.trans h.output, Nat.le_trans h.size k.size, fun i hi hS => (k.block i (Nat.lt_of_lt_of_le hi h.size) hS).trans (h.block i hi hS)⟩
theorem ButS.mono {S S' : Nat → Prop} {w w' : World} (h : ButS S w w') (hS : ∀ k, S k → S' k) : ButS S' w w' := ⟨h.os, h.tape, h.output, h.size, fun k hk hn => h.block k hk (fun hs => hn (hS k hs))⟩
theorem ButS.grown {S : Nat → Prop} {w w' : World} {b : Nat} (h : w.grownBy w' (some b)) (hS : S b) : ButS S w w' :=
  ⟨h.os, h.tape, h.output, h.size, fun k hk hn => h.block k hk (fun e => hn (by cases e; exact hS))⟩
theorem ButS.set {S : Nat → Prop} (w : World) {p : Addr} (hS : S p.block) (u : Value) : ButS S w (w.setCell p u) := by
  have h := (Below.refl 0 w).setCell (p := p) (Nat.zero_le _) u
  exact ⟨h.os, h.tape, h.output, h.size, fun k hk hn => Below.heap_setCell w p u k (fun e => hn (e ▸ hS))⟩
theorem ButS.below {S : Nat → Prop} {B : Nat} {w w' : World} (h : ButS S w w') (hS : ∀ k, S k → B ≤ k) (hB : B ≤ w.heap.size) : Below B w w' :=
  ⟨h.os, h.tape, h.output, h.size, fun k hk => h.block k (by omega) (fun hs => by have := hS k hs; omega)⟩
theorem ButS.cell {S : Nat → Prop} {w w' : World} (h : ButS S w w') {p : Addr} (hp : p.block < w.heap.size) (hn : ¬ S p.block) : w'.cell? p = w.cell? p := World.cell?_of_block (w := w) (h.block p.block hp hn)
theorem ButS.frozen {S : Nat → Prop} {w w' : World} (h : ButS S w w') {p : Addr} (hp : p.block < w.heap.size) (hn : ¬ S p.block) : w'.frozen? p = w.frozen? p := World.frozen?_of_block (w := w) (h.block p.block hp hn)

/-- Block k bears no versions: what is read of it as such can't be. -/
def NoVers (w : World) (k : Nat) : Prop := ∀ o n s, w.cell? ⟨k, o, none⟩ = some (.int .u64 n) → w.cell? ⟨k, o + 1, none⟩ = some (.int .u8 s) → False
theorem IsVers.but {S : Nat → Prop} {w w' : World} {v : Value} {l : List Ver} (h : IsVers w v l) (hb : ButS S w w') (hS : ∀ k, S k → NoVers w k) : IsVers w' v l := by
  obtain ⟨a, cap, hv, h⟩ := h
  refine ⟨a, cap, hv, ?_⟩
  rcases h with h | ⟨b2, off, ha, hlt, hc⟩
  · exact Or.inl h
  · by_cases hl : l = []
    · exact Or.inl hl
    have hn : ¬ S b2 := by
      intro hs
      obtain ⟨h1, h2, _⟩ := hc 0 (List.length_pos_iff.2 hl)
      exact hS b2 hs _ _ _ h1 h2
    refine Or.inr ⟨b2, off, ha, by have := hb.size; omega, fun i hi => ?_⟩
    obtain ⟨h1, h2, h3⟩ := hc i hi
    exact ⟨(hb.cell hlt hn).trans h1, (hb.cell hlt hn).trans h2, (hb.cell hlt hn).trans h3⟩
theorem IsCel.but {S : Nat → Prop} {w w' : World} {v : Value} {c : Cel} (h : IsCel w v c) (hb : ButS S w w') (hS : ∀ k, S k → NoVers w k) : IsCel w' v c := by
  obtain ⟨s, hv, h⟩ := h; exact ⟨s, hv, h.but hb hS⟩
theorem CelMap.noVers {w : World} {b : Nat} {M : DataW Cel} (h : CelMap w b M) : NoVers w b := by
  obtain ⟨D, ho, _⟩ := h
  intro o n s h1 _
  rw [ownsMap_none ho] at h1; cases h1
theorem TabAt.noVers {w : World} {t b : Nat} {q1 q2 B : Int} {M : DataW Cel} (h : TabAt w t b q1 q2 M B) : NoVers w t := by
  intro o n s h1 h2
  rcases (show o = 0 ∨ o = 1 ∨ o = 2 ∨ o = 3 ∨ ∃ j, o = j + 4 from by rcases o with _ | _ | _ | _ | j <;> simp) with rfl | rfl | rfl | rfl | ⟨j, rfl⟩
  · rw [h.c0] at h1; cases h1
  · rw [h.c1] at h1; cases h1
  · rw [h.c2] at h1; cases h1
  · rw [h.c3] at h1; cases h1
  · rw [h.c4] at h1; cases h1
theorem CelMap.but {S : Nat → Prop} {w w' : World} {b : Nat} {M : DataW Cel} (h : CelMap w b M) (hb : ButS S w w') (hS : ∀ k, S k → NoVers w k) (hn : ¬ S b) : CelMap w' b M :=
  HoldsMap.move h (hb.block b (HoldsMap.lt h) hn) (fun _ _ g => g.but hb hS)
theorem TabAt.but {S : Nat → Prop} {w w' : World} {t b : Nat} {q1 q2 B : Int} {M : DataW Cel} (h : TabAt w t b q1 q2 M B) (hb : ButS S w w') (hS : ∀ k, S k → NoVers w k) (ht : ¬ S t) (hn : ¬ S b) : TabAt w' t b q1 q2 M B := by
  have hl := h.lt
  exact ⟨(hb.cell hl ht).trans h.c0, (hb.cell hl ht).trans h.c1, (hb.cell hl ht).trans h.c2, (hb.cell hl ht).trans h.c3, fun j => (hb.cell hl ht).trans (h.c4 j), (hb.frozen hl ht).trans h.f3, h.m.but hb hS hn⟩

theorem ButS.grownNew {S : Nat → Prop} {w wx w3 : World} {r : Nat} (h : ButS S w wx) (hg : wx.grownBy w3 (some r)) (hr : w.heap.size ≤ r) : ButS S w w3 :=
  ⟨hg.os.trans h.os, hg.tape.trans h.tape, hg.output.trans h.output, Nat.le_trans h.size hg.size, fun k hk hn => (hg.block k (Nat.lt_of_lt_of_le hk h.size) (by intro e; cases e; omega)).trans (h.block k hk hn)⟩
theorem ranges_none {P : Program} {k : TypeId} {R : Value → Option (DataW Value × List MemPlace)} {w : World} {b r n : Nat} {D : DataW Value} {left : Lit → Bool} {cnt : Nat} (h : w.ranges P k R b r n D left cnt) : ∀ j, w.cell? ⟨r, j, none⟩ = none := by
  obtain ⟨es, clock, since, seen, c0, _, _, _, _, hr, _⟩ := h
  intro j; unfold World.cell?; rw [hr]
theorem entry_cel {G : Value → Cel → Prop} {D : DataW Value} {F : DataW Cel} (ha : Alike Tryd.prog 9 G D F) {x : ByteArray} {c : Value} {y : DataW Value × List MemPlace} (hv : heldR c = some y) (hat : ∀ zd, D.atKey (kS x) zd = y.1) :
    ∃ cel, G c cel ∧ ∀ zd, F.atKey (kS x) zd = .held cel := by
  have hF : has F (kS x) = true := by rw [← ha.keys]; exact Maps.has_true_of_atKey hat
  obtain ⟨v, cel, h1, h2, g⟩ := ha.vals _ hF
  obtain rfl : y = (.held c, []) := by simpa [heldR] using hv.symm
  have := (hat .nil).symm.trans h1
  injection this with this
  subst this
  exact ⟨cel, g, fun zd => by rw [Maps.atKey_indep hF zd .nil]; exact h2⟩
theorem CelMap.put {w : World} {b : Nat} {X : DataW Cel} (h : CelMap w b X) : ∃ D, w.ownsMap Tryd.prog 9 heldR b (size X) D ∧
    ∀ (w' : World) (n : Nat) (p : ByteArray) (c : Cel) (v : Value), p.size ≤ maxLen → IsCel w v c → w'.ownsMap Tryd.prog 9 heldR b n (D.put (kS p) (.held v)) → w.grownBy w' (some b) → CelMap w' b (X.put (kS p) (.held c)) := by
  obtain ⟨D, ho, ha⟩ := h
  refine ⟨D, ho, fun w' n p c v hp hc ho' hg => ?_⟩
  have hnone := ownsMap_none ho
  exact HoldsMap.of ho' ((ha.mono (fun v c hs => hs.grown hg hnone)).put strKeyed (ho.tidy strKeyed) ⟨_, keyS Tryd.underlying9 hp⟩ (hc.grown hg hnone))
set_option maxRecDepth 100000 in
set_option maxHeartbeats 2000000 in
theorem maps_copy (w : World) {b fb : Nat} {M F : DataW Cel} (hM : CelMap w b M) (hF : CelMap w fb F) (hne : b ≠ fb) (hsz : size M + size F ≤ 1099511627776) :
    Calls Tryd.prog 24 #[.map (some b), .map (some fb)] w fun e w' => e = .returned (.tuple #[]) ∧ ButS (fun k => k = b) w w' ∧ ∃ N, CelMap w' b N ∧ Merged N M F (fun _ => false) := by
  obtain ⟨D, hownD, hal⟩ := hF
  have Hal := Lib.hid hal; have HM := Lib.hid hM
  clear hal hM
  go_enter Tryd.func24, Tryd.ntmps24
  go_wp2_with (first | (at_range; refine wpList_range_own _ rfl _ 66 rfl 9 62 strKeyed Tryd.underlying66 heldR fb (size F) D rfl hownD ?_; intro w0 hrg0 hg0 hs0) | fail)
  go_frame
  go_loopw [4] (fun _ wx => ∃ (left : Lit → Bool) (cnt : Nat) (X : DataW Cel), Hid (wx.ranges Tryd.prog 9 heldR fb w.heap.size (size F) D left cnt) ∧ Hid (Merged X M F left) ∧ Hid (CelMap wx b X) ∧ Hid (size X + cnt ≤ size M + size F) ∧ Hid (ButS (fun k => k = b) w wx)) (fun _ wx => wx.rangeLeft fb w.heap.size)
  case atStart =>
    refine ⟨_, _, M, Lib.hid hrg0, Lib.hid ?_, Lib.hid (HM.out.below ?_), Lib.hid (by have := Hal.out.sizes; omega), Lib.hid (ButS.of ?_)⟩
    · refine ⟨fun k => ?_, fun k z => ?_⟩
      · rw [Hal.out.keys]; cases has M k <;> cases has F k <;> rfl
      · rw [Hal.out.keys]; cases has F k <;> rfl
    all_goals exact (Below.refl _ _).grown hg0 (Nat.le_refl _) (fun k hk => by cases hk)
  case round =>
    obtain ⟨left, cnt, X, hrg, hmX, hX, hXle, hbx⟩ := hrel
    have hrgo := hrg.out
    have hbl := HoldsMap.lt HM.out
    have H3 : Hid (∀ w3, wr.grownBy w3 (some w.heap.size) → ∀ o, CelMap (w3.alloc o) b X) := Lib.hid (fun w3 hg o => CelMap.below (w := w3) (HoldsMap.move hX.out (hg.block b (HoldsMap.lt hX.out) (by intro e; injection e with e; omega)) (fun _ _ g => g.grown hg (ranges_none hrgo))) ((Below.refl _ _).alloc (Nat.le_refl _) _))
    by_cases hc : cnt = 0
    · go_wp2_with (at_next; refine wpList_next_ranges _ rfl _ rfl 9 strKeyed heldR Value.string (fun v : Value => v) (fun key kl h => by obtain ⟨s, rfl, _⟩ := keyS_inv Tryd.underlying9 h; exact ⟨s, rfl⟩) (fun v y _ => ⟨v, rfl⟩) fb w.heap.size (size F) D left cnt rfl hrgo ?_ (fun x c kl y w' cnt' _ _ _ _ _ hlt' => absurd hlt' (by omega)); intro hc0 hl0)
      refine bodyPost_end (v := .tuple #[]) (by simp [results, Tryd.results24]) rfl ?_
      refine ⟨rfl, hbx.out, X, hX.out, ?_⟩
      have : left = fun _ => false := funext hl0
      rw [← this]; exact hmX.out
    · go_wp2_with (first
        | (at_next; refine wpList_next_ranges _ rfl _ rfl 9 strKeyed heldR Value.string (fun v : Value => v) (fun key kl h => by obtain ⟨s, rfl, _⟩ := keyS_inv Tryd.underlying9 h; exact ⟨s, rfl⟩) (fun v y _ => ⟨v, rfl⟩) fb w.heap.size (size F) D left cnt rfl hrgo (fun h0 => absurd h0 hc) ?_; intro x c kl y w3 cnt3 hkx hlk hv hat hrg3 hlt3 hg3 hs3 hen; obtain ⟨rfl, hxs⟩ := keyS_of hkx; obtain ⟨cel, ⟨s, rfl, hs⟩, hatF⟩ := entry_cel Hal.out hv hat; have Hs := Lib.hid hs; obtain ⟨as1, cs1, rfl, _⟩ := hs; have Hb3 := Lib.hid (hbx.out.grownNew hg3 (Nat.le_refl _)); have Hg3 := Lib.hid hg3; have Hrg3 := Lib.hid hrg3; have Hlk := Lib.hid hlk; have HatF := Lib.hid hatF; have hkey := keyS (s := x) Tryd.underlying9 hxs; have Hxs := Lib.hid hxs; have Hlt3 := Lib.hid hlt3; clear hrg3 hlk hat hatF hxs hlt3 hkx hv hg3 hs3)
        | (at_mapUpdate; have hX4 := H3.out _ Hg3.out (.cells #[.int .u64 cel.last, .slice as1 cel.l.length cs1] 62); obtain ⟨DX, hownX, hputX⟩ := hX4.put; have hlen : size X < maxLen := (by have := hXle.out; unfold maxLen; omega); refine wpList_mapUpdate_own _ rfl _ _ _ 66 rfl 9 62 strKeyed Tryd.underlying66 heldR b (size X) DX rfl hownX hlen _ _ (kS x) rfl rfl hkey (.held (.agg #[.int .u64 cel.last, .slice as1 cel.l.length cs1])) [] rfl ?_; intro w4 hown4 hg4)
        | fail)
      go_frame
      go_roundw
      case rel =>
        have hXs : has X (kS x) = has M (kS x) := by rw [hmX.out.1 (kS x), Hlk.out]; simp
        refine ⟨_, cnt3, X.put (kS x) (.held cel), Lib.hid ((Hrg3.out.alloc _).kept hg4 (by intro e; injection e with e; exact hne e.symm) (by intro e; injection e with e; omega)), Lib.hid (Maps.merged_step hmX.out (canonK_isMap (HoldsMap.canon hX.out)) (kS_key _) HatF.out), Lib.hid ?_, Lib.hid ?_, Lib.hid ?_⟩
        · refine hputX _ _ x cel _ Hxs.out ⟨_, rfl, ?_⟩ hown4 hg4
          have hb4 : ButS (fun k => k = b) w (w3.alloc (.cells #[.int .u64 cel.last, .slice as1 cel.l.length cs1] 62)) := Hb3.out.trans (ButS.of ((Below.refl _ _).alloc (Nat.le_refl _) _))
          exact Hs.out.but hb4 (fun k hk => by subst hk; exact HM.out.noVers)
        · have h1 := Maps.size_put (k := kS x) (canonK_tidy (HoldsMap.canon hX.out)) (.held cel)
          have h2 := hXle.out; have h3 := Hlt3.out
          rw [h1]; split <;> omega
        · exact (Hb3.out.trans (ButS.of ((Below.refl _ _).alloc (Nat.le_refl _) _))).trans (ButS.grown hg4 rfl)
      case measure => rw [((Hrg3.out.alloc _).kept hg4 (by intro e; injection e with e; exact hne e.symm) (by intro e; injection e with e; omega)).left_eq, hrg.out.left_eq]; exact Hlt3.out
theorem runT_facts {ks : TypeId} (hk : Tryd.prog.underlying ks = some .string) (l : List Edt) : ∀ {N : DataW Cel} {vs : List Nat} {B : Int} {i : Nat}, Good Tryd.prog ks N →
    Good Tryd.prog ks (runT N vs B i l).2.1 ∧ size (runT N vs B i l).2.1 ≤ size N + l.length ∧ B - l.length * 33000 ≤ (runT N vs B i l).2.2.2 ∧ (runT N vs B i l).2.2.2 ≤ B + l.length * 33000 := by
  induction l with
  | nil => intro N vs B i h; simp only [runT]; exact ⟨h, by simp, by simp, by simp⟩
  | cons x t ih =>
    intro N vs B i h
    by_cases he : (editE N x).2 = 0
    · rw [runT_go he]
      obtain ⟨a1, a2, a3, a4⟩ := ih (N := stepM N x) (vs := vs ++ [(editE N x).1.last]) (B := B + ((weightE x.path (editE N x).1 : Int) - (weightE x.path (cellAt N x.path) : Int))) (i := i + 1) (h.step hk he)
      obtain ⟨e1, e2, e3, e4⟩ := edit_ok h he
      have w1 := weight_le (p := x.path) e1 (mayP_size e4)
      have w2 := weight_le (p := x.path) (h.cellAt x.path).1 (mayP_size e4)
      have hs : size (stepM N x) ≤ size N + 1 := by
        unfold stepM
        rw [Maps.size_put (canonK_tidy h.canon)]; split <;> omega
      refine ⟨a1, ?_, ?_, ?_⟩
      · simp only [List.length_cons]; omega
      · simp only [List.length_cons]; push_cast; omega
      · simp only [List.length_cons]; push_cast; omega
    · rw [runT_stop he]
      refine ⟨h, ?_, ?_, ?_⟩
      · simp only; omega
      · simp only [List.length_cons]; push_cast; omega
      · simp only [List.length_cons]; push_cast; omega
theorem runT_zero (l : List Edt) : ∀ {N : DataW Cel} {vs : List Nat} {B : Int} {i : Nat}, ((runT N vs B i l).1.2 = 0 → (runT N vs B i l).1 = (0, 0)) ∧ (runT N vs B i l).2.2.1.length ≤ vs.length + l.length := by
  induction l with
  | nil => intro N vs B i; exact ⟨fun _ => rfl, by simp [runT]⟩
  | cons x t ih =>
    intro N vs B i
    by_cases he : (editE N x).2 = 0
    · rw [runT_go he]
      obtain ⟨a, b⟩ := ih (N := stepM N x) (vs := vs ++ [(editE N x).1.last]) (B := B + ((weightE x.path (editE N x).1 : Int) - (weightE x.path (cellAt N x.path) : Int))) (i := i + 1)
      refine ⟨a, ?_⟩
      rw [List.length_append, List.length_singleton] at b
      rw [List.length_cons]; omega
    · rw [runT_stop he]
      exact ⟨fun h => absurd h he, by simp only; omega⟩
theorem tried_zero {M : DataW Cel} {B q1 q2 : Int} {l : List Edt} (h : (triedT M B q1 q2 l).1.2 = 0) : (triedT M B q1 q2 l).1 = (0, 0) := by
  unfold triedT at h ⊢
  simp only at h ⊢
  split at h
  · rename_i h1; exact absurd h h1
  · rename_i h1
    rw [if_neg h1]
    split at h
    · simp at h
    · rename_i h2
      rw [if_neg h2]
      exact (runT_zero l).1 h
theorem tried_eq (M : DataW Cel) (B q1 q2 : Int) (l : List Edt) : (triedT M B q1 q2 l).2 = (runT M [] B 0 l).2 := by
  unfold triedT
  simp only
  split
  · rfl
  · split <;> rfl
theorem ownBut {S : Nat → Prop} {w w' : World} {B e n k : Nat} {v : Value} {xs : List Value} (h : w.ownsRow B e k v n xs) (hb : ButS S w w') (hS : ∀ k, S k → k < B) : w'.ownsRow B e k v n xs := by
  refine ⟨h.1, ?_⟩
  rcases h.2 with hn | ⟨g, cap, cur, hv, hBg, hg, rest⟩
  · exact Or.inl hn
  · exact Or.inr ⟨g, cap, cur, hv, hBg, (hb.block g (lt_of_block hg) (fun hs => by have := hS g hs; omega)).trans hg, rest⟩

/-- What Try leaves. -/
def TryGives (r : Nat × Nat) (w : World) (e : Ending) (w' : World) : Prop := e = .returned (.tuple #[.int .i64 r.1, .int .i64 r.2]) ∧ Below w.heap.size w w'
set_option maxRecDepth 100000 in
set_option maxHeartbeats 1000000 in
theorem tab_try (w : World) {t b : Nat} {q1 q2 B : Int} {M : DataW Cel} (h : TabAt w t b q1 q2 M B) (hg : Good Tryd.prog 9 M) (hm : MX w) (v : Value) (l : List Edt) (hv : IsEdts w v l) (hl : l.length ≤ 1048576)
    (hsM : size M ≤ 1099511627776) (hB0 : -1125899906842624 ≤ B) (hB1 : B ≤ 1125899906842624) (hp : ∀ i, i < l.length → (l.getD i dE).path.size ≤ 140737488351232 ∧ (l.getD i dE).text.size ≤ 9223372036854775807) :
    Calls Tryd.prog 16 #[.pointer (some ⟨t, 0, none⟩), v] w (TryGives (triedT M B q1 q2 l).1 w) := by
  have Ht := Lib.hid (tab_tried w h hg hm v l hv hl hsM hB0 hB1 hp)
  have Hz := Lib.hid (tried_zero (M := M) (B := B) (q1 := q1) (q2 := q2) (l := l))
  generalize triedT M B q1 q2 l = r at Ht Hz
  clear hp hv hm hg h
  go_enter Tryd.func16, Tryd.ntmps16
  go_wp2_with fail
  refine Ht.out.mono ?_
  rintro e w1 ⟨hb, ⟨hr, rfl⟩ | ⟨hr, fb, F, v1, rfl, _⟩⟩
  · have Hb := Lib.hid hb; clear hb
    go_wp2_with fail
    exact bodyPost_ret (v := .tuple #[.int .i64 r.1.1, .int .i64 r.1.2]) (by simp [results, Tryd.results16, go_sem]) rfl ⟨rfl, Hb.out⟩
  · have Hb := Lib.hid hb; clear hb
    go_wp2_with fail
    refine bodyPost_ret (v := .tuple #[.int .i64 0, .int .i64 0]) (by simp [results, Tryd.results16, go_sem]) rfl ⟨?_, Hb.out⟩
    rw [Hz.out hr]; rfl

/-- What Apply leaves. -/
def ApplyGives (r : (Nat × Nat) × DataW Cel × List Nat × Int) (t b : Nat) (q1 q2 : Int) (w : World) (e : Ending) (w' : World) : Prop :=
  (r.1.2 ≠ 0 ∧ e = .returned (.tuple #[.slice none 0 0, .int .i64 r.1.1, .int .i64 r.1.2]) ∧ Below w.heap.size w w') ∨
  (r.1.2 = 0 ∧ ∃ v, e = .returned (.tuple #[v, .int .i64 0, .int .i64 0]) ∧ w'.ownsRow w.heap.size 38 1 v r.2.2.1.length (r.2.2.1.map (fun n : Nat => Value.int .u64 n)) ∧ TabAt w' t b q1 q2 r.2.1 r.2.2.2 ∧ ButS (fun k => k = t ∨ k = b) w w')
set_option maxRecDepth 100000 in
set_option maxHeartbeats 1000000 in
theorem tab_apply (w : World) {t b : Nat} {q1 q2 B : Int} {M : DataW Cel} (h : TabAt w t b q1 q2 M B) (hg : Good Tryd.prog 9 M) (hm : MX w) (v : Value) (l : List Edt) (hv : IsEdts w v l) (hl : l.length ≤ 1048576)
    (hsM : size M ≤ 1073741824) (hB0 : -1125899906842624 ≤ B) (hB1 : B ≤ 1125899906842624) (hp : ∀ i, i < l.length → (l.getD i dE).path.size ≤ 140737488351232 ∧ (l.getD i dE).text.size ≤ 9223372036854775807) :
    Calls Tryd.prog 9 #[.pointer (some ⟨t, 0, none⟩), v] w (ApplyGives (triedT M B q1 q2 l) t b q1 q2 w) := by
  have Ht := Lib.hid (tab_tried w h hg hm v l hv hl (by omega) hB0 hB1 hp)
  have hgood : Good Tryd.prog 9 (triedT M B q1 q2 l).2.1 := by rw [tried_eq]; exact (runT_facts Tryd.underlying9 l hg).1
  have hvl : (triedT M B q1 q2 l).2.2.1.length ≤ l.length := by rw [tried_eq]; have := (runT_zero l (N := M) (vs := []) (B := B) (i := 0)).2; simpa using this
  generalize triedT M B q1 q2 l = r at Ht hgood hvl
  have HT := Lib.hid h; have Hgood := Lib.hid hgood
  clear hp hv hm hg h hgood
  go_enter Tryd.func9, Tryd.ntmps9
  go_wp2_with fail
  refine Ht.out.mono ?_
  rintro e w1 ⟨hb, ⟨hr, rfl⟩ | ⟨hr, fb, F, v1, rfl, hfb, hF, hMer, hsF, hown⟩⟩
  · have hE : ((r.1.2 : Int) != 0) = true := by simp [bne]; omega
    have Hb := Lib.hid hb; clear hb
    go_wp2_with fail
    exact bodyPost_ret (v := .tuple #[.slice none 0 0, .int .i64 r.1.1, .int .i64 r.1.2]) (by simp [results, Tryd.results9, go_sem]) rfl (Or.inl ⟨hr, rfl, Hb.out⟩)
  · have h1 := HT.out.below hb
    have c2 := h1.c2
    have hlt := HT.out.lt
    have hltb := HoldsMap.lt HT.out.m
    obtain ⟨a1, k1, rfl⟩ := ownShape hown
    have Hcopy := Lib.hid (maps_copy w1 h1.m hF (by omega) (by omega))
    have H1 := Lib.hid h1; have Hb := Lib.hid hb; have HF := Lib.hid hF; have HMer := Lib.hid hMer; have Hown := Lib.hid hown
    clear h1 hb hF hMer hown
    go_wp2_with fail
    refine Hcopy.out.mono ?_
    rintro e w2 ⟨rfl, hb2, N, hN, hMer2⟩
    have hne := HT.out.ne
    have hlt1 : t < w1.heap.size := H1.out.lt
    have c3 := (hb2.cell (p := ⟨t, 3, none⟩) hlt1 hne).trans H1.out.c3
    have f3 := (hb2.frozen (p := ⟨t, 3, none⟩) hlt1 hne).trans H1.out.f3
    obtain rfl : r.2.1 = N := (merged_same hMer2 HMer.out (fun _ => rfl) (HoldsMap.canon hN) Hgood.out.canon)
    have Hb2 := Lib.hid hb2; have HN := Lib.hid hN; clear hb2 hN
    go_wp2_with fail
    have hw := w2.setCell ⟨t, 3, none⟩ (.int .i64 r.2.2.2)
    have hbw : ButS (fun k => k = t ∨ k = b) w (w2.setCell ⟨t, 3, none⟩ (.int .i64 r.2.2.2)) := ((ButS.of Hb.out).trans (Hb2.out.mono (fun k hk => Or.inr hk))).trans (ButS.set w2 (p := ⟨t, 3, none⟩) (Or.inl rfl) _)
    have hb3 : ButS (fun k => k = t ∨ k = b) w1 (w2.setCell ⟨t, 3, none⟩ (.int .i64 r.2.2.2)) := (Hb2.out.mono (fun k hk => Or.inr hk)).trans (ButS.set w2 (p := ⟨t, 3, none⟩) (Or.inl rfl) _)
    have hlt2 : t < w2.heap.size := Nat.lt_of_lt_of_le hlt1 Hb2.out.size
    have no : ∀ j, j ≠ 3 → (w2.setCell ⟨t, 3, none⟩ (.int .i64 r.2.2.2)).cell? ⟨t, j, none⟩ = w1.cell? ⟨t, j, none⟩ := fun j hj => (World.cell?_setCell_other _ _ _ _ (by intro e; injection e with _ e; exact hj e.symm)).trans (Hb2.out.cell hlt1 hne)
    have hT2 : NoVers w2 t := by
      intro o n s h1 h2
      exact H1.out.noVers o n s ((Hb2.out.cell (p := ⟨t, o, none⟩) hlt1 hne).symm.trans h1) ((Hb2.out.cell (p := ⟨t, o + 1, none⟩) hlt1 hne).symm.trans h2)
    refine bodyPost_ret (v := .tuple #[.slice a1 r.2.2.1.length k1, .int .i64 0, .int .i64 0]) (by simp [results, Tryd.results9, go_sem]) rfl (Or.inr ⟨hr, _, rfl, ?_, ?_, hbw⟩)
    · exact ownBut Hown.out hb3 (fun k hk => by rcases hk with rfl | rfl <;> assumption)
    · refine ⟨(no 0 (by decide)).trans H1.out.c0, (no 1 (by decide)).trans H1.out.c1, (no 2 (by decide)).trans H1.out.c2, World.cell?_setCell_same' _ _ _ (by rw [c3]; rfl), fun j => (no (j + 4) (by omega)).trans (H1.out.c4 j), ?_, ?_⟩
      · rw [World.frozen?_setCell]; exact f3
      · exact HN.out.but (ButS.set (S := fun k => k = t) w2 (p := ⟨t, 3, none⟩) rfl _) (fun k hk => by subst hk; exact hT2) (fun e => hne e.symm)
end Go.Proofs.YtbmmabpglkojkaaDoor
