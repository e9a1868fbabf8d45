/- scriniumlaw18.TableAtOnce: the walk. -/
import Derived.Test.YtbmmabpglkojkaaDoorTabK
import Derived.Deep.RegionHeld3
namespace Go.Proofs.YtbmmabpglkojkaaDoor
open Go Go.RowKit
open Go.Maps (has size Canon CanonK Tidy IsMap KeysOf Keyed Merged)

/-- The two tables at hand. -/
structure Pair (w : World) (ta ba tb bb : Nat) (MA : DataW Cel) (BA : Int) (MB : DataW Cel) (BB : Int) : Prop where
  a : TabAt w ta ba 1048576 1073741824 MA BA
  b : TabAt w tb bb 1048576 1073741824 MB BB
  n1 : ta ≠ tb
  n2 : ta ≠ bb
  n3 : ba ≠ tb
  n4 : ba ≠ bb
theorem Pair.below {w w' : World} {ta ba tb bb : Nat} {MA MB : DataW Cel} {BA BB : Int} (h : Pair w ta ba tb bb MA BA MB BB) (hb : Below w.heap.size w w') : Pair w' ta ba tb bb MA BA MB BB :=
  ⟨h.a.below hb, h.b.below hb, h.n1, h.n2, h.n3, h.n4⟩
theorem Pair.turnA {w w' : World} {ta ba tb bb : Nat} {MA MB MA' : DataW Cel} {BA BB BA' : Int} (h : Pair w ta ba tb bb MA BA MB BB) (hb : ButS (fun k => k = ta ∨ k = ba) w w') (ha : TabAt w' ta ba 1048576 1073741824 MA' BA') : Pair w' ta ba tb bb MA' BA' MB BB :=
  ⟨ha, h.b.but hb (fun k hk => by rcases hk with rfl | rfl; exact h.a.noVers; exact h.a.m.noVers) (by rintro (e | e); exact h.n1 e.symm; exact h.n3 e.symm) (by rintro (e | e); exact h.n2 e.symm; exact h.n4 e.symm), h.n1, h.n2, h.n3, h.n4⟩
theorem Pair.turnB {w w' : World} {ta ba tb bb : Nat} {MA MB MB' : DataW Cel} {BA BB BB' : Int} (h : Pair w ta ba tb bb MA BA MB BB) (hb : ButS (fun k => k = tb ∨ k = bb) w w') (ha : TabAt w' tb bb 1048576 1073741824 MB' BB') : Pair w' ta ba tb bb MA BA MB' BB' :=
  ⟨h.a.but hb (fun k hk => by rcases hk with rfl | rfl; exact h.b.noVers; exact h.b.m.noVers) (by rintro (e | e); exact h.n1 e; exact h.n2 e) (by rintro (e | e); exact h.n3 e; exact h.n4 e), ha, h.n1, h.n2, h.n3, h.n4⟩
theorem Pair.turn {S : Nat → Prop} {w w' : World} {ta ba tb bb : Nat} {MA MB : DataW Cel} {BA BB : Int} (h : Pair w ta ba tb bb MA BA MB BB) (hb : ButS S w w') (hS : ∀ k, S k → NoVers w k) (h1 : ¬ S ta) (h2 : ¬ S ba) (h3 : ¬ S tb) (h4 : ¬ S bb) : Pair w' ta ba tb bb MA BA MB BB :=
  ⟨h.a.but hb hS h1 h2, h.b.but hb hS h3 h4, h.n1, h.n2, h.n3, h.n4⟩
theorem Pair.lts {w : World} {ta ba tb bb : Nat} {MA MB : DataW Cel} {BA BB : Int} (h : Pair w ta ba tb bb MA BA MB BB) : ta < w.heap.size ∧ ba < w.heap.size ∧ tb < w.heap.size ∧ bb < w.heap.size := ⟨h.a.lt, HoldsMap.lt h.a.m, h.b.lt, HoldsMap.lt h.b.m⟩
theorem rows_small {M : DataW Cel} (hg : Good Tryd.prog 9 M) : ∀ i, i < (rowsL M).length → ((rowsL M).getD i dR).2.l.length ≤ 65536 := by
  intro i hi
  have hm : (rowsL M).getD i dR ∈ rowsL M := by rw [List.getD_eq_getElem?_getD, List.getElem?_eq_getElem hi]; exact List.getElem_mem hi
  obtain ⟨k, _, hk⟩ := List.mem_map.1 hm
  rw [← hk]
  have := may_len (hg.cellAt (bs k)).1
  simp only [rowAt]; omega
theorem rows_len {M : DataW Cel} (hg : Good Tryd.prog 9 M) : (rowsL M).length = size M := by unfold rowsL; rw [List.length_map, keysL_length hg.canon]
theorem Pair.bareB {w : World} {ta ba tb bb : Nat} {MA MB : DataW Cel} {BA BB : Int} (h : Pair w ta ba tb bb MA BA MB BB) : ∀ k, (k = tb ∨ k = bb) → Bare w k := fun k hk => by rcases hk with rfl | rfl; exact h.b.bare; exact h.b.m.bare

/-- New tables, none of them another one. -/
structure TabsL (B0 : Nat) (W : World) (L : List (Nat × Nat)) : Prop where
  at_ : ∀ p ∈ L, TabAt W p.1 p.2 1048576 1073741824 (.map []) 0
  apart : L.Pairwise (fun p q => p.1 ≠ q.1 ∧ p.1 ≠ q.2 ∧ p.2 ≠ q.1 ∧ p.2 ≠ q.2)
  above : ∀ p ∈ L, B0 ≤ p.1 ∧ B0 ≤ p.2
theorem TabsL.nil (B0 : Nat) (W : World) : TabsL B0 W [] := ⟨fun p hp => (by cases hp), List.Pairwise.nil, fun p hp => (by cases hp)⟩
theorem TabsL.cons {B0 : Nat} {W w6 : World} {L : List (Nat × Nat)} {t b : Nat} (h : TabsL B0 W L) (hB : B0 ≤ W.heap.size) (ht : W.heap.size ≤ t) (hb : W.heap.size ≤ b) (hT : TabAt w6 t b 1048576 1073741824 (.map []) 0) (hb6 : Below W.heap.size W w6) : TabsL B0 w6 ((t, b) :: L) := by
  refine ⟨fun p hp => ?_, List.pairwise_cons.2 ⟨fun q hq => ?_, h.apart⟩, fun p hp => ?_⟩
  · rcases List.mem_cons.1 hp with rfl | hp
    · exact hT
    · exact (h.at_ p hp).below hb6
  · have h1 := (h.at_ q hq).lt
    have h2 := HoldsMap.lt (h.at_ q hq).m
    refine ⟨?_, ?_, ?_, ?_⟩ <;> simp only <;> omega
  · rcases List.mem_cons.1 hp with rfl | hp
    · exact ⟨by simp only; omega, by simp only; omega⟩
    · exact h.above p hp
theorem TabsL.pair {B0 : Nat} {W : World} {ta ba tb bb : Nat} (h : TabsL B0 W [(tb, bb), (ta, ba)]) : Pair W ta ba tb bb (.map []) 0 (.map []) 0 ∧ (B0 ≤ ta ∧ B0 ≤ ba ∧ B0 ≤ tb ∧ B0 ≤ bb) := by
  have h1 := h.at_ (tb, bb) (by simp)
  have h2 := h.at_ (ta, ba) (by simp)
  obtain ⟨p1, p2, p3, p4⟩ := (List.pairwise_cons.1 h.apart).1 (ta, ba) (by simp)
  have a1 := h.above (tb, bb) (by simp)
  have a2 := h.above (ta, ba) (by simp)
  exact ⟨⟨h2, h1, fun e => p1 e.symm, fun e => p3 e.symm, fun e => p2 e.symm, fun e => p4 e.symm⟩, a2.1, a2.2, a1.1, a1.2⟩
theorem one_small {x : Edt} (h : x.path.size ≤ 140737488351232 ∧ x.text.size ≤ 140737488351232) : ∀ i, i < [x].length → ([x].getD i dE).path.size ≤ 140737488351232 ∧ ([x].getD i dE).text.size ≤ 9223372036854775807 := by
  intro i hi
  obtain rfl : i = 0 := by simpa using hi
  exact ⟨h.1, by have := h.2; simp only [List.getD_cons_zero]; omega⟩
theorem acts2 (w : World) (va vl : Value) (la ll : List Edt) (ha : IsEdts w va la) (hl : IsEdts w vl ll) (t : TypeId) :
    IsActs (w.alloc (.cells #[.int .u8 0, va, .slice none 0 0, .slice none 0 0, .int .u8 0, vl, .slice none 0 0, .slice none 0 0] t)) (.slice (some ⟨w.heap.size, 0, none⟩) 2 2) [⟨la, [], 0⟩, ⟨ll, [], 0⟩] := by
  refine ⟨_, 2, rfl, Or.inr ⟨w.heap.size, 0, rfl, by simp, fun i hi => ?_⟩⟩
  have hb : Below w.heap.size w (w.alloc (.cells #[.int .u8 0, va, .slice none 0 0, .slice none 0 0, .int .u8 0, vl, .slice none 0 0, .slice none 0 0] t)) := (Below.refl _ _).alloc (Nat.le_refl _) _
  rcases (show i = 0 ∨ i = 1 by simp at hi; omega) with rfl | rfl
  · exact ⟨va, .slice none 0 0, none, 0, World.cell?_alloc_mark _ _ _ _ _, ha.below hb (Nat.le_refl _), World.cell?_alloc_mark _ _ _ _ _, ⟨none, 0, rfl, Or.inl rfl⟩, World.cell?_alloc_mark _ _ _ _ _⟩
  · exact ⟨vl, .slice none 0 0, none, 0, World.cell?_alloc_mark _ _ _ _ _, hl.below hb (Nat.le_refl _), World.cell?_alloc_mark _ _ _ _ _, ⟨none, 0, rfl, Or.inl rfl⟩, World.cell?_alloc_mark _ _ _ _ _⟩

set_option maxRecDepth 100000 in
set_option maxHeartbeats 4000000 in
theorem law18_atOnce (la : List Edt) (va : Value) (ll : List Edt) (vl : Value) (w : World) (hla : la.length * 64 ≤ 140737488351232) (hsa : ∀ i, i < la.length → (la.getD i dE).path.size ≤ 140737488351232 ∧ (la.getD i dE).text.size ≤ 140737488351232) (hva : IsEdts w va la)
    (hll : ll.length * 64 ≤ 140737488351232) (hsl : ∀ i, i < ll.length → (ll.getD i dE).path.size ≤ 140737488351232 ∧ (ll.getD i dE).text.size ≤ 140737488351232) (hvl : IsEdts w vl ll) (hm : MX w) :
    Calls Tryd.prog 3 #[va, vl] w fun e w' => e = .returned (.bool true) ∧ Below w.heap.size w w' := by
  have Hm := Lib.hid hm; have Hsa := Lib.hid hsa; have Hsl := Lib.hid hsl; have Hva := Lib.hid hva; have Hvl := Lib.hid hvl; clear hm hsa hsl
  obtain ⟨aa, ca, rfl, hca⟩ := hva
  obtain ⟨al, cl, rfl, hcl⟩ := hvl
  have Hca := Lib.hid hca; have Hcl := Lib.hid hcl; clear hca hcl
  go_enter Tryd.func3, Tryd.ntmps3
  go_wp2_with fail
  refine (law_heavy 140737488351232 [⟨la, [], 0⟩, ⟨ll, [], 0⟩] _ _ (acts2 w _ _ la ll Hva.out Hvl.out _) (by omega) (by simp) (by simp) ?_).mono ?_
  · intro i hi
    rcases (show i = 0 ∨ i = 1 by simp at hi; omega) with rfl | rfl
    · exact ⟨by simp only [List.getD_cons_zero]; omega, by simp, by simp, Hsa.out, fun i hi => by simp at hi⟩
    · exact ⟨by simp only [List.getD_cons_succ, List.getD_cons_zero]; omega, by simp, by simp, Hsl.out, fun i hi => by simp at hi⟩
  rintro e w1 ⟨x, rfl, hx, hb1⟩
  have Hb1 := Lib.hid (((Below.refl w.heap.size w).alloc (Nat.le_refl _) _).trans (hb1.mono (by simp))); clear hb1
  cases x with
  | true =>
    go_wp2_with fail
    refine (law_works _ (Hm.out.below Hb1.out (Nat.le_refl _))).mono ?_
    rintro e w2 ⟨rfl, hb2⟩
    have Hb2 := Lib.hid (Hb1.out.trans (hb2.mono Hb1.out.size)); clear hb2
    go_wp2_with fail
    go_ret
    exact ⟨rfl, Hb2.out⟩
  | false =>
    have hlen := (hx rfl).1
    simp [totW] at hlen
    have hn : la.length + ll.length ≤ 1024 := by omega
    clear hx hlen hla hll
    go_upto_region 4 with fail
    refine wp_abs (F := fun W => One w1.heap.size #[.int .i64 1048576, .int .i64 1073741824] W ∧ Below w1.heap.size w1 W) ⟨One.of _ _ _, (Below.refl _ _).alloc (Nat.le_refl _) _⟩ ?_
    rintro W4 ⟨hQ, hb4⟩
    have q0 := hQ.c 0; have q1 := hQ.c 1
    simp at q0 q1
    have hql := hQ.lt
    have Hb4 := Lib.hid (Hb1.out.trans (hb4.mono Hb1.out.size)); clear hQ hb4
    have keepS : Hid (∀ w', Below W4.heap.size W4 w' → w'.cell? ⟨w1.heap.size, 0, none⟩ = some (.int .i64 1048576) ∧ w'.cell? ⟨w1.heap.size, 1, none⟩ = some (.int .i64 1073741824) ∧ Hid (Below W4.heap.size W4 w')) :=
      Lib.hid (fun w' h => ⟨(h.cell hql).trans q0, (h.cell hql).trans q1, Lib.hid h⟩)
    have keepB : Hid (∀ w' : World, (w'.cell? ⟨w1.heap.size, 0, none⟩ = some (.int .i64 1048576) ∧ w'.cell? ⟨w1.heap.size, 1, none⟩ = some (.int .i64 1073741824) ∧ Hid (Below W4.heap.size W4 w')) → Below W4.heap.size W4 w') := Lib.hid (fun w' h => h.2.2.out)
    go_cut [6, 7] (fun s6 s7 wx => ∃ ta ba tb bb, s6 = .pointer (some ⟨ta, 0, none⟩) ∧ s7 = .pointer (some ⟨tb, 0, none⟩) ∧ Hid (Pair wx ta ba tb bb (.map []) 0 (.map []) 0) ∧ Hid (w.heap.size ≤ ta ∧ w.heap.size ≤ ba ∧ w.heap.size ≤ tb ∧ w.heap.size ≤ bb) ∧ Hid (Below w.heap.size w wx))
    case first =>
      have HP : Hid (TabsL W4.heap.size W4.drew []) := Lib.hid (TabsL.nil _ _)
      go_region_held3 (fun w' => w'.cell? ⟨w1.heap.size, 0, none⟩ = some (.int .i64 1048576) ∧ w'.cell? ⟨w1.heap.size, 1, none⟩ = some (.int .i64 1073741824) ∧ Hid (Below W4.heap.size W4 w'))
        (first
          | exact keepS.out _ HBc.out
          | exact keepS.out _ (Below.drew (Below.refl _ _)))
        (first
          | (go_at_call 8; refine (tab_new 1048576 1073741824 _).mono ?_; rintro e w6 ⟨t, b, rfl, ht, hb, hT, hb6⟩; have HP := Lib.hid (TabsL.cons HP.out (keepB.out _ (by assumption)).size ht hb hT hb6); have HBc := Lib.hid ((keepB.out _ (by assumption)).trans (hb6.mono (keepB.out _ (by assumption)).size)); clear ht hb hT hb6))
      all_goals (
        go_wp2_with fail
        go_meet
        case rel => exact ⟨_, _, _, _, rfl, rfl, Lib.hid HP.out.pair.1, Lib.hid (by have := HP.out.pair.2; have := Hb4.out.size; omega), Lib.hid (Hb4.out.trans (HBc.out.mono Hb4.out.size))⟩)
    case rest =>
      obtain ⟨ta, ba, tb, bb, rfl, rfl, hP, hab, hbc⟩ := hcut
      clear q0 q1 hql keepS keepB
      go_wp2_with fail
      go_loopw [8] (fun s8 wr => ∃ (k : Nat) (M : DataW Cel) (B : Int), k ≤ la.length ∧ s8 = .int .i64 k ∧ Hid (Pair wr ta ba tb bb M B M B) ∧ Hid (Good Tryd.prog 9 M) ∧ Hid (size M ≤ k ∧ -(k * 33000 : Int) ≤ B ∧ B ≤ k * 33000) ∧ Hid (Below w.heap.size w wr)) (fun i _ => la.length - (intOf i).toNat)
      case atStart => exact ⟨0, .map [], 0, Nat.zero_le _, rfl, hP, Lib.hid (good_none _ _), Lib.hid ⟨by simp [size], by omega, by omega⟩, hbc⟩
      case round =>
        clear hP
        obtain ⟨k, M, B, hk, rfl, hP, hG, hbd, hbw⟩ := hrel
        by_cases hlt : k < la.length
        · rcases Hca.out with hnil | ⟨bl, off, rfl, hblt, hcc⟩
          · subst hnil; simp at hlt
          have hltI : (k : Int) < (la.length : Int) := by omega
          obtain ⟨h0, h1, h2, h3, h4, h5⟩ := hcc k hlt
          have k0 := (hbw.out.cell (p := ⟨bl, off + k * 6, none⟩) hblt).trans h0
          have k1 := (hbw.out.cell (p := ⟨bl, off + k * 6 + 1, none⟩) hblt).trans h1
          have k2 := (hbw.out.cell (p := ⟨bl, off + k * 6 + 2, none⟩) hblt).trans h2
          have k3 := (hbw.out.cell (p := ⟨bl, off + k * 6 + 3, none⟩) hblt).trans h3
          have k4 := (hbw.out.cell (p := ⟨bl, off + k * 6 + 4, none⟩) hblt).trans h4
          have k5 := (hbw.out.cell (p := ⟨bl, off + k * 6 + 5, none⟩) hblt).trans h5
          have hsx := Hsa.out k hlt
          obtain ⟨x, hx⟩ : ∃ x, x = la.getD k dE := ⟨_, rfl⟩
          rw [← hx] at k0 k1 k2 k3 k4 k5 hsx h0 h1 h2 h3 h4 h5
          clear hx hcc
          have hb1 := hbd.out.1; have hb2 := hbd.out.2.1; have hb3 := hbd.out.2.2
          have HA := Lib.hid (fun (W : World) (v : Value) (hP : Pair W ta ba tb bb M B M B) (hW : Below w.heap.size w W) (hv : IsEdts W v [x]) => tab_app W hP.a hG.out (Hm.out.below hW (Nat.le_refl _)) v [x] hv (by simp) (by omega) (by omega) (by omega) (one_small hsx))
          have Hng := Lib.hid (next_good (q1 := 1048576) (q2 := 1073741824) (B := B) (l := [x]) hG.out)
          obtain ⟨r, hr⟩ : ∃ r, r = triedT M B 1048576 1073741824 [x] := ⟨_, rfl⟩
          rw [← hr] at HA Hng
          have HA2 := Lib.hid (fun (W : World) (v : Value) (MA : DataW Cel) (BA : Int) (hP : Pair W ta ba tb bb MA BA M B) (hW : Below w.heap.size w W) (hv : IsEdts W v [x]) => tab_app W hP.b hG.out (Hm.out.below hW (Nat.le_refl _)) v [x] hv (by simp) (by omega) (by omega) (by omega) (one_small hsx))
          rw [← hr] at HA2
          clear hr hsx hb1 hb2 hb3
          have H0 := Lib.hid h0; have H1 := Lib.hid h1; have H2 := Lib.hid h2; have H3 := Lib.hid h3; have H4 := Lib.hid h4; have H5 := Lib.hid h5
          clear h0 h1 h2 h3 h4 h5
          have hxe : ∀ W : World, IsEdts (W.alloc (.cells #[.int .u8 x.kind, .string x.path, .bool x.any, .int .u64 x.want, .int .u64 x.n, .string x.text] 40)) (.slice (some ⟨W.heap.size, 0, none⟩) 1 1) [x] := fun W => IsEdts.new W [x] 1 _ _ _ rfl
          have Hxe := Lib.hid hxe; clear hxe
          go_wp2_with fail
          refine (HA.out _ _ ?_ ?_ ?_).mono ?_
          · exact hP.out.below ((Below.refl _ _).alloc (Nat.le_refl _) _)
          · exact hbw.out.alloc hbw.out.size _
          · exact Hxe.out _
          rintro e w5 ⟨v5, rfl, hown5, hT5, hbut5⟩
          obtain ⟨a5, c5, rfl⟩ := ownShape hown5
          have hP5 := (hP.out.below ((Below.refl _ _).alloc (Nat.le_refl _) (.cells #[.int .u8 x.kind, .string x.path, .bool x.any, .int .u64 x.want, .int .u64 x.n, .string x.text] 40))).turnA hbut5 hT5
          have hbA : Below w.heap.size w (wr.alloc (.cells #[.int .u8 x.kind, .string x.path, .bool x.any, .int .u64 x.want, .int .u64 x.n, .string x.text] 40)) := hbw.out.alloc hbw.out.size _
          have hb5 : Below w.heap.size w w5 := hbA.trans (hbut5.below (by rintro k (rfl | rfl); exact hab.out.1; exact hab.out.2.1) hbA.size)
          clear k0 k1 k2 k3 k4 k5
          have k0 := (hb5.cell (p := ⟨bl, off + k * 6, none⟩) hblt).trans H0.out
          have k1 := (hb5.cell (p := ⟨bl, off + k * 6 + 1, none⟩) hblt).trans H1.out
          have k2 := (hb5.cell (p := ⟨bl, off + k * 6 + 2, none⟩) hblt).trans H2.out
          have k3 := (hb5.cell (p := ⟨bl, off + k * 6 + 3, none⟩) hblt).trans H3.out
          have k4 := (hb5.cell (p := ⟨bl, off + k * 6 + 4, none⟩) hblt).trans H4.out
          have k5 := (hb5.cell (p := ⟨bl, off + k * 6 + 5, none⟩) hblt).trans H5.out
          have HP5 := Lib.hid hP5; have Hb5 := Lib.hid hb5; clear hP5 hb5 hbA hbut5 hT5 hown5
          go_wp2_with fail
          refine (HA2.out _ _ (nextM r M) (nextB r B) ?_ ?_ ?_).mono ?_
          · exact HP5.out.below ((Below.refl _ _).alloc (Nat.le_refl _) _)
          · exact Hb5.out.alloc Hb5.out.size _
          · exact Hxe.out _
          rintro e w6 ⟨v6, rfl, hown6, hT6, hbut6⟩
          obtain ⟨a6, c6, rfl⟩ := ownShape hown6
          have hP6 := (HP5.out.below ((Below.refl _ _).alloc (Nat.le_refl _) (.cells #[.int .u8 x.kind, .string x.path, .bool x.any, .int .u64 x.want, .int .u64 x.n, .string x.text] 40))).turnB hbut6 hT6
          have hbA : Below w.heap.size w (w5.alloc (.cells #[.int .u8 x.kind, .string x.path, .bool x.any, .int .u64 x.want, .int .u64 x.n, .string x.text] 40)) := Hb5.out.alloc Hb5.out.size _
          have hb6 : Below w.heap.size w w6 := hbA.trans (hbut6.below (by rintro k (rfl | rfl); exact hab.out.2.2.1; exact hab.out.2.2.2) hbA.size)
          have HP6 := Lib.hid hP6; have Hb6 := Lib.hid hb6; clear hP6 hb6 hbA hbut6 hT6 hown6 k0 k1 k2 k3 k4 k5
          have hE : ((r.1.2 : Int) != (r.1.2 : Int)) = false := by simp
          go_wp2_with fail
          go_roundw
          case rel => exact ⟨k + 1, nextM r M, nextB r B, by omega, by go_num, HP6, Lib.hid Hng.out.1, Lib.hid (by have h1 := Hng.out.2.1; have h2 := Hng.out.2.2; have h3 := hbd.out; simp only [List.length_singleton] at h1 h2; refine ⟨by omega, by push_cast; omega, by push_cast; omega⟩), Hb6⟩
          case measure => simp [intOf]; omega
        · have hge : (la.length : Int) ≤ (k : Int) := by omega
          have hkl : k = la.length := by omega
          have hbM := hbd.out
          have hsM : size M ≤ 1024 := by omega
          have hB0 : -33792000 ≤ B := by omega
          have hB1 : B ≤ 33792000 := by omega
          clear hbM hkl hk hlt
          have Hroom := Lib.hid (tried_room (B := B) (q1 := 1048576) (q2 := 1073741824) (l := ll) hG.out (by omega) (by omega))
          have Hrows := Lib.hid (tab_rows wr hP.out.a hG.out (by omega))
          go_wp2_with fail
          refine Hrows.out.mono ?_
          rintro e w2 ⟨vw, rfl, hvw, hb2⟩
          have hP2 := hP.out.below hb2
          have hbw2 := hbw.out.trans (hb2.mono hbw.out.size)
          have hap := Lib.hid (tab_app w2 hP2.a hG.out (Hm.out.below hbw2 (Nat.le_refl _)) (.slice al ll.length cl) ll (Hvl.out.below hbw2 (Nat.le_refl _)) (by omega) (by omega) (by omega) (by omega) (fun i hi => ⟨(Hsl.out i hi).1, by have := (Hsl.out i hi).2; omega⟩))
          obtain ⟨R, hR⟩ : ∃ R, R = triedT M B 1048576 1073741824 ll := ⟨_, rfl⟩
          rw [← hR] at hap
          have HR : Hid (R = runT M [] B 0 ll) := Lib.hid (hR.trans Hroom.out)
          clear hR Hroom Hrows
          have HP2 := Lib.hid hP2; have Hbw2 := Lib.hid hbw2; have Hvw := Lib.hid hvw; clear hP2 hbw2 hvw hb2
          obtain ⟨aw, cw, rfl, hwc⟩ : ∃ a c, vw = .slice a (rowsL M).length c ∧ True := by
            obtain ⟨a, c, h, _⟩ := Hvw.out; exact ⟨a, c, h, trivial⟩
          clear hwc
          go_wp2_with fail
          refine hap.out.mono ?_
          rintro e w3 ⟨v3, rfl, hown3, hT3, hbut3⟩
          have hP3 := HP2.out.turnA hbut3 hT3
          have hvw3 := Hvw.out.but hbut3 (fun k hk => by rcases hk with rfl | rfl; exact HP2.out.a.bare; exact HP2.out.a.m.bare)
          have hb3 : Below w.heap.size w w3 := Hbw2.out.trans (hbut3.below (by rintro k (rfl | rfl); exact hab.out.1; exact hab.out.2.1) Hbw2.out.size)
          obtain ⟨p1, hp1⟩ : ∃ p, p = R.1.1 := ⟨_, rfl⟩
          obtain ⟨p2, hp2⟩ : ∃ p, p = R.1.2 := ⟨_, rfl⟩
          obtain ⟨VA, hVA⟩ : ∃ V, V = nextV R := ⟨_, rfl⟩
          obtain ⟨MA, hMA⟩ : ∃ V, V = nextM R M := ⟨_, rfl⟩
          obtain ⟨BA, hBA⟩ : ∃ V, V = nextB R B := ⟨_, rfl⟩
          rw [← hVA] at hown3
          rw [← hMA, ← hBA] at hP3
          rw [← hp1, ← hp2]
          obtain ⟨a3, c3, rfl⟩ := ownShape hown3
          have Hnum3 := Lib.hid (IsNums.own hown3)
          have HA3 : Hid (∀ kb, (Value.slice a3 VA.length c3).ownBlock = some kb → kb < w3.heap.size) := Lib.hid (fun kb hkb => by
            rcases hown3.2 with ⟨hv, _⟩ | ⟨g, cp, cur, hv, hB, hg, _⟩
            · rw [hv] at hkb; cases hkb
            · rw [hv] at hkb; cases hkb; exact lt_of_block hg)
          have Hlt3 := Lib.hid hP3.lts
          have Hw3 : Hid (w.heap.size ≤ w3.heap.size) := Lib.hid hb3.size
          have HP3 := Lib.hid hP3; have Hvw3 := Lib.hid hvw3; have Hb3 := Lib.hid hb3; have Hp1 := Lib.hid hp1; have Hp2 := Lib.hid hp2; have HVA := Lib.hid hVA; have HMA := Lib.hid hMA
          clear hP3 hvw3 hb3 hp1 hp2 hVA hMA hBA hT3 hbut3 hown3 hap Hvw HP2 Hbw2
          go_wp2_with fail
          go_loopw [19, 20] (fun s19 s20 wx => ∃ (k : Nat) (N : DataW Cel) (vv : List Nat) (B' : Int), k ≤ ll.length ∧ s20 = .int .i64 k ∧ Hid (runT M [] B 0 ll = runT N vv B' k (ll.drop k)) ∧ (∃ a c, s19 = .slice a vv.length c) ∧ Hid (wx.ownsRow w3.heap.size 38 1 s19 vv.length (vv.map (fun n : Nat => Value.int .u64 n))) ∧ Hid (vv.length = k) ∧
            Hid (Pair wx ta ba tb bb MA BA N B') ∧ Hid (Good Tryd.prog 9 N) ∧ Hid (size N ≤ size M + k ∧ B - k * 33000 ≤ B' ∧ B' ≤ B + k * 33000) ∧ Hid (IsRows wx (.slice aw (rowsL M).length cw) (rowsL M)) ∧ Hid (IsNums wx (.slice a3 VA.length c3) VA) ∧ Hid (Below w.heap.size w wx) ∧ Hid (w3.heap.size ≤ wx.heap.size) ∧ Hid (AllU wx s19.ownBlock)) (fun _ i _ => ll.length - (intOf i).toNat)
          case atStart => exact ⟨0, M, [], B, Nat.zero_le _, rfl, Lib.hid rfl, ⟨none, 0, rfl⟩, Lib.hid (World.ownsRow_nil _ _ _ _), Lib.hid rfl, HP3, hG, Lib.hid ⟨by omega, by omega, by omega⟩, Hvw3, Hnum3, Hb3, Lib.hid (Nat.le_refl _), Lib.hid (fun g hg => by cases hg)⟩
          case round =>
            clear hP hbd hbw Hvw3 Hb3
            obtain ⟨k, N, vv, B', hk, rfl, hrun, ⟨a19, c19, rfl⟩, hrow, hvk, hP, hGN, hbd, hwas, hnum, hbw, hsz3, hU⟩ := hrel
            by_cases hlt : k < ll.length
            · rcases Hcl.out with hnil | ⟨bl, off, rfl, hblt, hcc⟩
              · subst hnil; simp at hlt
              have hltI : (k : Int) < (ll.length : Int) := by omega
              obtain ⟨h0, h1, h2, h3, h4, h5⟩ := hcc k hlt
              have k0 := (hbw.out.cell (p := ⟨bl, off + k * 6, none⟩) hblt).trans h0
              have k1 := (hbw.out.cell (p := ⟨bl, off + k * 6 + 1, none⟩) hblt).trans h1
              have k2 := (hbw.out.cell (p := ⟨bl, off + k * 6 + 2, none⟩) hblt).trans h2
              have k3 := (hbw.out.cell (p := ⟨bl, off + k * 6 + 3, none⟩) hblt).trans h3
              have k4 := (hbw.out.cell (p := ⟨bl, off + k * 6 + 4, none⟩) hblt).trans h4
              have k5 := (hbw.out.cell (p := ⟨bl, off + k * 6 + 5, none⟩) hblt).trans h5
              have hsx := Hsl.out k hlt
              have hdrop : ll.drop k = ll.getD k dE :: ll.drop (k + 1) := by
                rw [List.drop_eq_getElem_cons hlt, List.getD_eq_getElem?_getD, List.getElem?_eq_getElem hlt]; rfl
              have hrun2 := hrun.out
              rw [hdrop] at hrun2
              obtain ⟨x, hx⟩ : ∃ x, x = ll.getD k dE := ⟨_, rfl⟩
              rw [← hx] at k0 k1 k2 k3 k4 k5 hsx hrun2
              clear hx hcc hdrop h0 h1 h2 h3 h4 h5
              have hb1 := hbd.out.1; have hb2 := hbd.out.2.1; have hb3 := hbd.out.2.2
              have HA2 := Lib.hid (tab_app (wr.alloc (.cells #[.int .u8 x.kind, .string x.path, .bool x.any, .int .u64 x.want, .int .u64 x.n, .string x.text] 40)) (hP.out.below ((Below.refl _ _).alloc (Nat.le_refl _) _)).b hGN.out (Hm.out.below (hbw.out.alloc hbw.out.size _) (Nat.le_refl _)) _ [x] (IsEdts.new wr [x] 1 _ _ _ rfl) (by simp) (by omega) (by omega) (by omega) (one_small hsx))
              rw [tried_room hGN.out (by simp only [List.length_singleton]; omega) (by simp only [List.length_singleton]; push_cast; omega), run_one] at HA2
              have hbw1 : Below w.heap.size w (wr.alloc (.cells #[.int .u8 x.kind, .string x.path, .bool x.any, .int .u64 x.want, .int .u64 x.n, .string x.text] 40)) := hbw.out.alloc hbw.out.size _
              have Hbw1 := Lib.hid hbw1
              have Hrun := Lib.hid hrun2; have Hsx := Lib.hid hsx
              clear hb1 hb2 hb3 hrun hrun2 hsx hbw1
              by_cases he : (editE N x).2 = 0
              · rw [if_neg (by simp [he])] at HA2
                obtain ⟨lst, hlst⟩ : ∃ n, n = (editE N x).1.last := ⟨_, rfl⟩
                rw [← hlst] at HA2
                go_wp2_with fail
                refine HA2.out.mono ?_
                rintro e w5 ⟨v5, rfl, hown5, hT5, hbut5⟩
                have hPa := hP.out.below ((Below.refl _ _).alloc (Nat.le_refl _) (.cells #[.int .u8 x.kind, .string x.path, .bool x.any, .int .u64 x.want, .int .u64 x.n, .string x.text] 40))
                have hP5 := hPa.turnB hbut5 hT5
                have hb5 : Below w.heap.size w w5 := Hbw1.out.trans (hbut5.below (by rintro k (rfl | rfl); exact hab.out.2.2.1; exact hab.out.2.2.2) Hbw1.out.size)
                have hwas5 := (hwas.out.below ((Below.refl _ _).alloc (Nat.le_refl _) (.cells #[.int .u8 x.kind, .string x.path, .bool x.any, .int .u64 x.want, .int .u64 x.n, .string x.text] 40)) (Nat.le_refl _)).but hbut5 hPa.bareB
                have hnum5 := (hnum.out.below ((Below.refl _ _).alloc (Nat.le_refl _) (.cells #[.int .u8 x.kind, .string x.path, .bool x.any, .int .u64 x.want, .int .u64 x.n, .string x.text] 40)) (Nat.le_refl _)).but hbut5 hPa.bareB
                have hlt3 := Hlt3.out
                have hg19 : ∀ g, (Value.slice a19 vv.length c19).ownBlock = some g → w3.heap.size ≤ g ∧ g < wr.heap.size := by
                  intro g hg
                  refine ⟨ownAbove hrow.out g hg, ?_⟩
                  rcases hrow.out.2 with ⟨hv, _⟩ | ⟨g', cp, cur, hv, hB, hg', _⟩
                  · rw [hv] at hg; cases hg
                  · rw [hv] at hg; cases hg; exact lt_of_block hg'
                have hrow5 := ownBut (ownBelow hrow.out ((Below.refl _ _).alloc (Nat.le_refl _) (.cells #[.int .u8 x.kind, .string x.path, .bool x.any, .int .u64 x.want, .int .u64 x.n, .string x.text] 40))) hbut5 (by rintro k (rfl | rfl); exact hlt3.2.2.1; exact hlt3.2.2.2)
                have hU5 : AllU w5 (Value.slice a19 vv.length c19).ownBlock := (hU.out.but (S := fun _ => False) (ButS.of ((Below.refl _ _).alloc (Nat.le_refl _) (.cells #[.int .u8 x.kind, .string x.path, .bool x.any, .int .u64 x.want, .int .u64 x.n, .string x.text] 40))) (fun g hg => ⟨fun h => h, (hg19 g hg).2⟩)).but hbut5 (fun g hg => ⟨by rintro (e | e) <;> (have := (hg19 g hg).1; omega), by have := (hg19 g hg).2; simp; omega⟩)
                have hw5 : wr.heap.size ≤ w5.heap.size := by have := hbut5.size; simp at this; omega
                obtain ⟨g5, c5, rfl, hg5, hg5l⟩ := hown5.form (by show 0 < 1; decide)
                have hcell5 := World.ownsRow.cellAt hown5 0 (by show 0 < 1 * 1; decide)
                have hv1 : w5.cell? ⟨g5, 0, none⟩ = some (.int .u64 lst) := hcell5
                have hone : (nextV ((0, 0), stepM N x, [lst], B' + ((weightE x.path (editE N x).1 : Int) - (weightE x.path (cellAt N x.path) : Int)))).length = 1 := rfl
                rw [hone]
                have HP5 := Lib.hid hP5; have Hb5 := Lib.hid hb5; have Hwas5 := Lib.hid hwas5; have Hnum5 := Lib.hid hnum5; have Hrow5 := Lib.hid hrow5; have HU5 := Lib.hid hU5; have Hg19 := Lib.hid hg19; have Hw5 := Lib.hid hw5; have Hlst := Lib.hid hlst
                have hvl : vv.length ≤ 1099511627776 := by have := hvk.out; omega
                clear hPa hP5 hb5 hwas5 hnum5 hrow5 hU5 hg19 hw5 hlst hown5 hT5 hbut5 hcell5 k0 k1 k2 k3 k4 k5 hone hlt3
                dsimp only
                obtain ⟨i0, hi, hz0, hz1, hz2⟩ := info_parts infoU64
                go_wp2_with (first
                  | (at_builtin; refine wpList_append_u _ rfl (.tmp 120) (.tmp 124) 34 rfl w3.heap.size 38 i0 Tryd.underlying34 hi hz0 hz1 hz2 _ vv.length (vv.map (fun n : Nat => Value.int .u64 n)) rfl (ownBelow Hrow5.out ((Below.refl _ _).alloc (Nat.le_refl _) _)) (HU5.out.but (S := fun _ => False) (ButS.of ((Below.refl _ _).alloc (Nat.le_refl _) _)) (fun g hg => ⟨fun h => h, by have := (Hg19.out g hg).2; have := Hw5.out; omega⟩)) ⟨w5.heap.size, 0, none⟩ 1 lst rfl (by rw [addrAdd]; exact World.cell?_alloc_mark _ _ _ _ _) hvl ?hbase ?go; (case hbase => have h1 := Hw5.out; have h2 := hsz3.out; simp; omega); intro g cp w8 hown8 hg8 hat hlt8 hU8)
                  | fail)
                go_roundw
                case rel =>
                  have hUa : AllU (w5.alloc (.cells #[.int .u64 lst] 38)) (Value.slice a19 vv.length c19).ownBlock := HU5.out.but (S := fun _ => False) (ButS.of ((Below.refl _ _).alloc (Nat.le_refl _) _)) (fun g hg => ⟨fun h => h, by have := (Hg19.out g hg).2; have := Hw5.out; omega⟩)
                  have hbR := butRow hg8
                  have hf := runT_facts Tryd.underlying9 [x] (vs := []) (B := B') (i := 0) hGN.out
                  rw [run_one, if_neg (by simp [he])] at hf
                  obtain ⟨f1, f2, f3, f4⟩ := hf
                  simp only [List.length_singleton] at f1 f2 f3 f4
                  have hlt3 := Hlt3.out
                  have no : ∀ k, k < w3.heap.size → ¬ some k = (Value.slice a19 vv.length c19).ownBlock := fun k hk e => by have := (Hg19.out k e.symm).1; omega
                  refine ⟨k + 1, stepM N x, vv ++ [lst], B' + ((weightE x.path (editE N x).1 : Int) - (weightE x.path (cellAt N x.path) : Int)), by omega, by go_num, Lib.hid ?_, ⟨_, _, by rw [List.length_append]; rfl⟩, Lib.hid ?_, Lib.hid (by rw [List.length_append, hvk.out]; rfl), Lib.hid ?_, Lib.hid f1, Lib.hid ?_, Lib.hid ?_, Lib.hid ?_, Lib.hid ?_, Lib.hid ?_, Lib.hid hU8⟩
                  · rw [Hlst.out]; exact Hrun.out.trans (runT_go he)
                  · rw [List.length_append, List.map_append]; exact hown8
                  · exact (HP5.out.below ((Below.refl _ _).alloc (Nat.le_refl _) _)).turn hbR (fun k hk => hUa.noVers k hk) (no _ hlt3.1) (no _ hlt3.2.1) (no _ hlt3.2.2.1) (no _ hlt3.2.2.2)
                  · have := hbd.out; refine ⟨by omega, by push_cast; push_cast at f3; omega, by push_cast; push_cast at f4; omega⟩
                  · exact (Hwas5.out.below ((Below.refl _ _).alloc (Nat.le_refl _) _) (Nat.le_refl _)).but2 hbR (fun k hk => ⟨hUa.noStr k hk, hUa.noVers k hk⟩)
                  · exact (Hnum5.out.below ((Below.refl _ _).alloc (Nat.le_refl _) _) (Nat.le_refl _)).but2 hbR (fun k hk e => by have h1 := HA3.out k e; have h2 := (Hg19.out k hk.symm).1; omega)
                  · exact (Hb5.out.alloc Hb5.out.size _).grown hg8 (Hb5.out.alloc Hb5.out.size _).size (fun k hk => by have h1 := (Hg19.out k hk).1; have h2 := Hw3.out; omega)
                  · have h1 := hsz3.out; have h2 := Hw5.out; have h3 := hg8.size; simp at h3; omega
                case measure => simp [intOf]; omega
              · rw [if_pos he] at HA2
                have hRk : R = ((k, (editE N x).2), N, vv, B') := by rw [HR.out, Hrun.out, runT_stop he]
                obtain ⟨e0, he0⟩ : ∃ e0, e0 = (editE N x).2 := ⟨_, rfl⟩
                rw [← he0] at HA2 hRk he
                clear he0
                obtain rfl : p1 = k := by rw [Hp1.out, hRk]
                obtain rfl : p2 = e0 := by rw [Hp2.out, hRk]
                go_wp2_with fail
                refine HA2.out.mono ?_
                rintro e w5 ⟨v5, rfl, hown5, hT5, hbut5⟩
                have hPa := hP.out.below ((Below.refl _ _).alloc (Nat.le_refl _) (.cells #[.int .u8 x.kind, .string x.path, .bool x.any, .int .u64 x.want, .int .u64 x.n, .string x.text] 40))
                have hP5 := hPa.turnB hbut5 hT5
                have hb5 : Below w.heap.size w w5 := Hbw1.out.trans (hbut5.below (by rintro k (rfl | rfl); exact hab.out.2.2.1; exact hab.out.2.2.2) Hbw1.out.size)
                have hwas5 := (hwas.out.below ((Below.refl _ _).alloc (Nat.le_refl _) (.cells #[.int .u8 x.kind, .string x.path, .bool x.any, .int .u64 x.want, .int .u64 x.n, .string x.text] 40)) (Nat.le_refl _)).but hbut5 hPa.bareB
                have hnum5 := (hnum.out.below ((Below.refl _ _).alloc (Nat.le_refl _) (.cells #[.int .u8 x.kind, .string x.path, .bool x.any, .int .u64 x.want, .int .u64 x.n, .string x.text] 40)) (Nat.le_refl _)).but hbut5 hPa.bareB
                obtain ⟨a5, c5, rfl⟩ := ownShape hown5
                have hMAe : MA = M := by rw [HMA.out, hRk]; unfold nextM; rw [if_neg he]
                have hVAe : VA = [] := by rw [HVA.out, hRk]; unfold nextV; rw [if_neg he]
                subst hMAe
                subst hVAe
                have Hrw := Lib.hid (tab_rows w5 hP5.a hG.out (by omega))
                have hE0 : ((p2 : Int) != 0) = true := by simp [bne]; omega
                have hE1 : ((p2 : Int) == (p2 : Int)) = true := by simp
                have hE2 : ((p1 : Int) == (p1 : Int)) = true := by simp
                have HP5 := Lib.hid hP5; have Hb5 := Lib.hid hb5; have Hwas5 := Lib.hid hwas5
                clear hPa hP5 hb5 hwas5 hnum5 hown5 hT5 hbut5 k0 k1 k2 k3 k4 k5
                dsimp only
                go_wp2_with fail
                refine Hrw.out.mono ?_
                rintro e w6 ⟨v6, rfl, hv6, hb6⟩
                have Hv6 := Lib.hid hv6
                obtain ⟨a6, c6, rfl, _⟩ := hv6
                have Hb6 := Lib.hid hb6; clear hb6
                go_wp2_with fail
                refine (ref18_same (rowsL MA) _ _ w6 Hv6.out (Hwas5.out.below Hb6.out (Nat.le_refl _)) (by rw [rows_len hG.out]; omega) (rows_small hG.out)).mono ?_
                rintro e w7 ⟨rfl, hb7⟩
                have Hb7 := Lib.hid (Hb5.out.trans ((Hb6.out.trans (hb7.mono Hb6.out.size)).mono Hb5.out.size)); clear hb7
                go_wp2_with fail
                refine (law_works _ (Hm.out.below Hb7.out (Nat.le_refl _))).mono ?_
                rintro e w8 ⟨rfl, hb8⟩
                have Hb8 := Lib.hid (Hb7.out.trans (hb8.mono Hb7.out.size)); clear hb8
                go_wp2_with fail
                go_ret
                exact ⟨rfl, Hb8.out⟩
            · have hge : (ll.length : Int) ≤ (k : Int) := by omega
              have hkl : k = ll.length := by omega
              have hRk : R = ((0, 0), N, vv, B') := by rw [HR.out, hrun.out, hkl, List.drop_length]; rfl
              have hE0 : ((p2 : Int) == 0) = true := by rw [Hp2.out, hRk]; rfl
              have hE1 : ((p1 : Int) == 0) = true := by rw [Hp1.out, hRk]; rfl
              have hMAe : MA = N := by rw [HMA.out, hRk]; rfl
              have hVAe : VA = vv := by rw [HVA.out, hRk]; rfl
              have hNl : size N ≤ 2048 := by have := hbd.out.1; omega
              have hvl : vv.length ≤ 1024 := by have := hvk.out; omega
              subst hMAe
              subst hVAe
              have Hrow2 := Lib.hid (IsNums.own hrow.out)
              clear hkl hRk
              go_wp2_with fail
              refine (law_numbers _ _ VA wr hnum.out Hrow2.out (by omega)).mono ?_
              rintro e w5 ⟨rfl, hb5⟩
              have hP5 := hP.out.below hb5
              have hbw5 := hbw.out.trans (hb5.mono hbw.out.size)
              have Hrw := Lib.hid (tab_rows w5 hP5.a hGN.out (by omega))
              have HP5 := Lib.hid hP5; have Hbw5 := Lib.hid hbw5; clear hP5 hbw5 hb5
              go_wp2_with fail
              refine Hrw.out.mono ?_
              rintro e w6 ⟨v6, rfl, hv6, hb6⟩
              have hP6 := HP5.out.below hb6
              have Hrw2 := Lib.hid (tab_rows w6 hP6.b hGN.out (by omega))
              have Hv6 := Lib.hid hv6
              obtain ⟨a6, c6, rfl, _⟩ := hv6
              have Hbw6 := Lib.hid (Hbw5.out.trans (hb6.mono Hbw5.out.size)); clear hb6 hP6
              go_wp2_with fail
              refine Hrw2.out.mono ?_
              rintro e w7 ⟨v7, rfl, hv7, hb7⟩
              have Hv7 := Lib.hid hv7; have Hb7 := Lib.hid hb7
              obtain ⟨a7, c7, rfl, _⟩ := hv7
              have Hbw7 := Lib.hid (Hbw6.out.trans (hb7.mono Hbw6.out.size)); clear hb7
              go_wp2_with fail
              refine (ref18_same (rowsL MA) _ _ w7 (Hv6.out.below Hb7.out (Nat.le_refl _)) Hv7.out (by rw [rows_len hGN.out]; omega) (rows_small hGN.out)).mono ?_
              rintro e w8 ⟨rfl, hb8⟩
              have Hbw8 := Lib.hid (Hbw7.out.trans (hb8.mono Hbw7.out.size)); clear hb8
              go_wp2_with fail
              refine (law_works _ (Hm.out.below Hbw8.out (Nat.le_refl _))).mono ?_
              rintro e w9 ⟨rfl, hb9⟩
              have Hbw9 := Lib.hid (Hbw8.out.trans (hb9.mono Hbw8.out.size)); clear hb9
              go_wp2_with fail
              go_ret
              exact ⟨rfl, Hbw9.out⟩
end Go.Proofs.YtbmmabpglkojkaaDoor
