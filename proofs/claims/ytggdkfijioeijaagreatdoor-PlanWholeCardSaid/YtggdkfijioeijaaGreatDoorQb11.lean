/- Contracts: shardmap.Map: New, Epoch, Spans; slices.Clone of spans. shardmap.Map's ranges, as a sequence that one goes over. Contract: shardmap.Map's Owner. Contract: shardmap.Map's Split$1: a span more, unless it is the last one's shard's. Plain: what a split makes of spans; spans of one owner function are the same. -/
import Derived.Test.YtggdkfijioeijaaGreatDoorQb04
import Derived.Test.YtggdkfijioeijaaGreatDoorQb07
import Derived.Test.YtggdkfijioeijaaGreatDoorQb10
namespace Go.Proofs.YtggdkfijioeijaaGreatDoor
open Go Go.RowKit Go.Maps
def MapAt (w : World) (m e : Nat) (sp : List (Nat × Nat)) : Prop := ∃ g c, w.heap[m]? = some (.cells #[.int .u64 (e : Int), .slice (some ⟨g, 0, none⟩) sp.length c] 143 (0, 0)) ∧ g < w.heap.size ∧ ∀ i, i < sp.length → w.cell? ⟨g, i * 2, none⟩ = some (.int .u64 ((sp.getD i d0).1 : Int)) ∧ w.cell? ⟨g, i * 2 + 1, none⟩ = some (.int .u32 ((sp.getD i d0).2 : Int))
theorem MapAt.below {w w' : World} {m e : Nat} {sp : List (Nat × Nat)} (h : MapAt w m e sp) (hb : Below w.heap.size w w') : MapAt w' m e sp := by
 obtain ⟨g, c, h1, h2, h3⟩ := h
 exact ⟨g, c, (hb.block _ (lt_of_block h1)).trans h1, Nat.lt_of_lt_of_le h2 hb.size, fun i hi => ⟨(hb.cell (p := ⟨g, i * 2, none⟩) h2).trans (h3 i hi).1, (hb.cell (p := ⟨g, i * 2 + 1, none⟩) h2).trans (h3 i hi).2⟩⟩
theorem cells_of_row {w : World} {B e g c n : Nat} {sp : List (Nat × Nat)} (h : w.ownsRow B e 2 (.slice (some ⟨g, 0, none⟩) n c) n (spV sp)) (hn : sp.length = n) : ∀ i, i < n → w.cell? ⟨g, i * 2, none⟩ = some (.int .u64 ((sp.getD i d0).1 : Int)) ∧ w.cell? ⟨g, i * 2 + 1, none⟩ = some (.int .u32 ((sp.getD i d0).2 : Int)) := fun i hi => by
 obtain ⟨s1, s2⟩ := spV_at sp i (by omega)
 exact ⟨(World.ownsRow.cellAt h (i * 2) (by omega)).trans s1, (World.ownsRow.cellAt h (i * 2 + 1) (by omega)).trans s2⟩
theorem spV_ones (sp : List (Nat × Nat)) : ∀ u ∈ spV sp, u.oneCell' = true := by
 intro u hu
 obtain ⟨x, _, hx⟩ := List.mem_flatMap.1 hu
 exact two_one x u hx
theorem spV_get (sp : List (Nat × Nat)) (j : Nat) (u : Value) (h : (spV sp)[j]? = some u) : j < sp.length * 2 ∧ (u = if j % 2 = 0 then .int .u64 ((sp.getD (j / 2) d0).1 : Int) else .int .u32 ((sp.getD (j / 2) d0).2 : Int)) := by
 have hj := (List.getElem?_eq_some_iff.1 h).1
 rw [spV_length] at hj
 refine ⟨hj, ?_⟩
 obtain ⟨s1, s2⟩ := spV_at sp (j / 2) (by omega)
 by_cases e : j % 2 = 0
 ·rw [if_pos e]
  rw [show j / 2 * 2 = j by omega, h] at s1
  exact Option.some.inj s1
 ·rw [if_neg e]
  rw [show j / 2 * 2 + 1 = j by omega, h] at s2
  exact Option.some.inj s2
set_option maxRecDepth 100000 in
set_option maxHeartbeats 2000000 in
theorem cloneSpans (sp : List (Nat × Nat)) (g cap : Nat) (w : World) (hg : g < w.heap.size) (hc : ∀ i, i < sp.length → w.cell? ⟨g, i * 2, none⟩ = some (.int .u64 ((sp.getD i d0).1 : Int)) ∧ w.cell? ⟨g, i * 2 + 1, none⟩ = some (.int .u32 ((sp.getD i d0).2 : Int))) (hl : sp.length ≤ 100000) :
  Calls Tryz.prog 103 #[.slice (some ⟨g, 0, none⟩) sp.length cap] w fun e w' => ∃ v, e = .returned v ∧ w'.ownsRow w.heap.size 99 2 v sp.length (spV sp) ∧ Below w.heap.size w w' := by
 obtain ⟨i0, hi, hz0, hz1, hz2⟩ := info_parts infoSpan
 have hne := fun w => Lib.run_eql_slice_nil (P := Tryz.prog) w 83 99 (some ⟨g, 0, none⟩) sp.length cap 0 0 Tryz.underlying83
 have hnews : ∀ j u, (spV sp)[j]? = some u → (w.alloc (.cells #[] 99)).cell? ((⟨g, 0, none⟩ : Addr).add j) = some u := fun j u hu => by
  obtain ⟨hj, he⟩ := spV_get sp j u hu
  have ha : ((⟨g, 0, none⟩ : Addr).add j) = ⟨g, j, none⟩ := by
   unfold Addr.add; split
   ·rename_i hz; subst hz; rfl
   ·simp
  rw [ha, World.cell?_alloc_past _ _ _ hg, he]
  obtain ⟨h1, h2⟩ := hc (j / 2) (by omega)
  by_cases e : j % 2 = 0
  ·rw [if_pos e, ← h1, show j / 2 * 2 = j by omega]
  ·rw [if_neg e, ← h2, show j / 2 * 2 + 1 = j by omega]
 have hnil : (w.alloc (.cells #[] 99)).ownsRow w.heap.size 99 2 (.slice (some ⟨w.heap.size, 0, none⟩) 0 0) 0 [] := World.ownsRow_lit (size := 2) w #[] 0 (Nat.le_refl _) (by decide) rfl
 have HN := Lib.hid hnews; have HNIL := Lib.hid hnil; have HLEN := Lib.hid (spV_length sp)
 obtain ⟨L, hL⟩ : ∃ L, sp.length = L := ⟨_, rfl⟩
 rw [hL] at hl hne ⊢
 have HL := Lib.hid hL
 clear hnews hnil hc hL
 go_enter Tryz.func103, Tryz.ntmps103
 go_wp2_with (
  at_builtin
  refine wpList_append_own _ rfl (.tmp 5) (.tmp 6) 83 rfl w.heap.size 99 i0 (.agg #[.int .u64 0, .int .u32 0]) 2 16 Tryz.underlying83 hi hz0 hz1 hz2 rfl (by decide) _ 0 [] rfl HNIL.out ⟨g, 0, none⟩ L _ (spV sp) rfl (by rw [HLEN.out, HL.out]) HN.out (spV_ones sp) (by unfold maxLen; omega) (by omega) (by simp) ?_
  intro v7 w7 hown7 hg7 _hz7
  have HO7 := Lib.hid (show w7.ownsRow w.heap.size 99 2 v7 L (spV sp) from by rw [Nat.zero_add] at hown7; exact hown7)
  have HB7 := Lib.hid (((Below.refl w.heap.size w).alloc (Nat.le_refl _) _).grown hg7 (by simp) (fun k hk => by cases hk; exact Nat.le_refl _))
  clear hown7 hg7 _hz7)
 go_ret
 exact ⟨v7, rfl, HO7.out, HB7.out⟩
set_option maxHeartbeats 1000000 in
theorem map_Spans (m e : Nat) (sp : List (Nat × Nat)) (w : World) (h : MapAt w m e sp) (hl : sp.length ≤ 100000) : Calls Tryz.prog 75 #[.pointer (some ⟨m, 0, none⟩)] w fun en w' => ∃ v, en = .returned v ∧ w'.ownsRow w.heap.size 99 2 v sp.length (spV sp) ∧ Below w.heap.size w w' := by
 obtain ⟨g, c, h1, h2, h3⟩ := h
 have c1 : w.cell? ⟨m, 1, none⟩ = some (.slice (some ⟨g, 0, none⟩) sp.length c) := cell_of h1 1
 have HC := Lib.hid (cloneSpans sp g c w h2 h3 hl)
 obtain ⟨L, hL⟩ : ∃ L, sp.length = L := ⟨_, rfl⟩
 rw [hL] at c1 HC ⊢
 clear h1 h2 h3 hL
 go_enter Tryz.func75, Tryz.ntmps75
 go_wp2_with fail
 refine HC.out.mono ?_
 rintro en w1 ⟨v, rfl, h1, h2⟩
 have H1 := Lib.hid h1; have H2 := Lib.hid h2
 clear h1 h2
 go_wp2_with fail
 go_ret
 exact ⟨v, rfl, H1.out, H2.out⟩
set_option maxHeartbeats 1000000 in
theorem map_New (r : Nat) (S : List Nat) (k : Nat) (w : World) (hR : IsRing w r S k) : Calls Tryz.prog 25 #[.pointer (some ⟨r, 0, none⟩)] w fun en w' => ∃ m sp, en = .returned (.tuple #[.pointer (some ⟨m, 0, none⟩), .int .i64 0]) ∧ MapAt w' m 1 sp ∧ SpI (ownS S k) sp M64 ∧ sp.length ≤ S.length * k + 1 ∧ w.heap.size ≤ m ∧ Below w.heap.size w w' := by
 have HS := Lib.hid (ringSpans r S k w hR)
 clear hR
 go_enter Tryz.func25, Tryz.ntmps25
 go_wp2_with fail
 refine HS.out.mono ?_
 rintro en w1 ⟨g, cp, sp, rfl, hrow, hsp, hl, hb⟩
 obtain ⟨n, hn⟩ : ∃ n, sp.length = n := ⟨_, rfl⟩
 have hn1 : 1 ≤ n := by rw [← hn]; exact List.length_pos_iff.2 hsp.ne
 rw [hn] at hrow hl ⊢
 have hn0 : ((n : Int) == 0) = false := by simp; omega
 have HROW := Lib.hid hrow; have HSP := Lib.hid hsp; have HN := Lib.hid hn; have HB := Lib.hid hb
 clear hrow hsp hn hb
 go_wp2_with fail
 go_ret2
 have hc := cells_of_row HROW.out HN.out
 have hgl : g < w1.heap.size := block_lt_of_cell (hc 0 (by omega)).1
 refine ⟨w1.heap.size, sp, rfl, ⟨g, cp, ?_, by simp; omega, fun i hi => ?_⟩, HSP.out, by rw [HN.out]; exact hl, HB.out.size, HB.out.alloc HB.out.size _⟩
 ·rw [HN.out]; exact (MapKept.heap_alloc _ _).1
 ·obtain ⟨a, b⟩ := hc i (by rw [← HN.out]; exact hi)
  exact ⟨(World.cell?_alloc_past _ _ _ hgl).trans a, (World.cell?_alloc_past _ _ _ hgl).trans b⟩
end Go.Proofs.YtggdkfijioeijaaGreatDoor
namespace Go.Proofs.YtggdkfijioeijaaGreatDoor
open Go Go.RowKit Go.Maps
def Fr (nb j : Nat) (W : World) (k : Nat) : Prop := k ≠ nb ∧ (∃ C t f, W.heap[k]? = some (.cells C t f)) ∧ ∀ g o n c, W.cell? ⟨nb, j, none⟩ = some (.slice (some ⟨g, o, none⟩) n c) → k ≠ g
structure KR (nb j : Nat) (A B : World) : Prop where
 size : A.heap.size ≤ B.heap.size
 keep : ∀ k, Fr nb j A k → B.heap[k]? = A.heap[k]?
 ref : ∀ g o n c, B.cell? ⟨nb, j, none⟩ = some (.slice (some ⟨g, o, none⟩) n c) → A.heap.size ≤ g ∨ ∃ o' n' c', A.cell? ⟨nb, j, none⟩ = some (.slice (some ⟨g, o', none⟩) n' c')
theorem Fr.lt {nb j : Nat} {W : World} {k : Nat} (h : Fr nb j W k) : k < W.heap.size := by
 obtain ⟨_, ⟨C, t, f, h⟩, _⟩ := h
 exact (Array.getElem?_eq_some_iff.1 h).1
theorem KR.fr {nb j : Nat} {A B : World} {k : Nat} (h : KR nb j A B) (hk : Fr nb j A k) : Fr nb j B k := by
 refine ⟨hk.1, ?_, fun g o n c hc => ?_⟩
 ·obtain ⟨C, t, f, h1⟩ := hk.2.1
  exact ⟨C, t, f, (h.keep k hk).trans h1⟩
 ·rcases h.ref g o n c hc with h1 | ⟨o', n', c', h1⟩
  ·have := hk.lt; omega
  ·exact hk.2.2 g o' n' c' h1
theorem KR.trans {nb j : Nat} {A B C : World} (h : KR nb j A B) (h2 : KR nb j B C) : KR nb j A C := by
 refine ⟨Nat.le_trans h.size h2.size, fun k hk => (h2.keep k (h.fr hk)).trans (h.keep k hk), fun g o n c hc => ?_⟩
 rcases h2.ref g o n c hc with h1 | ⟨o', n', c', h1⟩
 ·exact Or.inl (Nat.le_trans h.size h1)
 ·exact h.ref g o' n' c' h1
theorem KR.below {nb j : Nat} {A B : World} (h : Below A.heap.size A B) (hn : nb < A.heap.size) : KR nb j A B :=
 ⟨h.size, fun k hk => h.block k hk.lt, fun _g o n c hc => Or.inr ⟨o, n, c, (World.cell?_of_block (w := A) (a := ⟨nb, j, none⟩) (h.block nb hn)).symm.trans hc⟩⟩
theorem below_grown {A B : World} (h : Below A.heap.size A B) : A.grownBy B none := ⟨h.os, h.tape, h.output, h.size, fun j hj _ => h.block j hj⟩
abbrev Rg : Type := Nat × Nat × Nat
abbrev encRg (x : Rg) : Array Value := #[.agg #[.int .u64 (x.1 : Int), .int .u64 (x.2.1 : Int)], .int .u32 (x.2.2 : Int)]
def endOf (sp : List (Nat × Nat)) (i : Nat) : Nat := if i + 1 < sp.length then (sp.getD (i + 1) d0).1 - 1 else 18446744073709551615
def nthRg (sp : List (Nat × Nat)) (i : Nat) : Rg := ((sp.getD i d0).1, endOf sp i, (sp.getD i d0).2)
attribute [local go_sem] Oper.semAt_some
open Go.Shelf in
set_option maxRecDepth 100000 in
set_option maxHeartbeats 4000000 in
theorem ranges_stops (n : Nat) (hn : 1 ≤ n) (Bm m e : Nat) (sp : List (Nat × Nat)) (nb j : Nat) (w : World) (hl1 : 1 ≤ sp.length) (hl : sp.length ≤ 100000) (hr : sp.Pairwise (fun x y => x.1 < y.1)) (h64 : ∀ x ∈ sp, x.1 < M64) (hM : MapAt w m e sp) (hBm : w.cell? ⟨Bm, 0, none⟩ = some (.pointer (some ⟨m, 0, none⟩))) (hnb : nb < w.heap.size)
  (hnil : ∀ g o n c, w.cell? ⟨nb, j, none⟩ ≠ some (.slice (some ⟨g, o, none⟩) n c)) :
  SeqStopsK Fence.wide n Tryz.prog 74 #[.pointer (some ⟨Bm, 0, none⟩)] encRg (KR nb j) (fun ys => ys = upto (nthRg sp) sp.length) (fun pre => ∃ k, k < sp.length ∧ pre = upto (nthRg sp) (k + 1)) sp.length w := fun l J Jx W hW hJa hJxa hY h0 => by
 have hBl := block_lt_of_cell hBm
 have hBW : W.cell? ⟨Bm, 0, none⟩ = some (.pointer (some ⟨m, 0, none⟩)) := (hW.cell (p := ⟨Bm, 0, none⟩) hBl).trans hBm
 have hMW := hM.below hW
 have hnbW : nb < W.heap.size := Nat.lt_of_lt_of_le hnb hW.size
 have hnilW : ∀ g o n c, W.cell? ⟨nb, j, none⟩ ≠ some (.slice (some ⟨g, o, none⟩) n c) := fun g o n c h => hnil g o n c ((World.cell?_of_block (w := w) (a := ⟨nb, j, none⟩) (hW.block nb hnb)).symm.trans h)
 have HSP := Lib.hid (map_Spans m e sp W hMW hl)
 have HJA := Lib.hid hJa; have HY := Lib.hid hY; have HNIL := Lib.hid hnilW; have H0 := Lib.hid h0; have HR := Lib.hid hr; have H64 := Lib.hid h64
 clear hBl hBm hMW hM hnb hnil hnilW hJa hJxa hY h0 hW hr h64
 refine callsIn_of_wp Tryz.func74 rfl trivial ?_ rfl
 simp only [Tryz.ntmps74, List.size_toArray, List.length_cons, List.length_nil, Nat.reduceAdd, Nat.reduceSub, Array.replicate_succ, Array.replicate_zero, List.push_toArray, List.append_toArray, List.nil_append, List.cons_append]
 gi_wp2
 refine ⟨trivial, (callsIn_wide.2 HSP.out).mono ?_⟩
 rintro en w1 ⟨v, rfl, hrow, hb1⟩
 obtain ⟨L, hL⟩ : ∃ L, sp.length = L := ⟨_, rfl⟩
 rw [hL] at hrow hl hl1
 obtain ⟨gc, cc, rfl, hgc⟩ : ∃ gc cc, v = .slice (some ⟨gc, 0, none⟩) L cc ∧ W.heap.size ≤ gc := by
  rcases hrow.2 with ⟨h', hn'⟩ | ⟨g', cap', cur, h', hB, _⟩
  ·omega
  ·exact ⟨g', cap', h', hB⟩
 have hcells := cells_of_row hrow hL
 have hfr : Fr nb j w1 gc := by
  refine ⟨by omega, ?_, fun g o n c hc => ?_⟩
  ·rcases hrow.2 with ⟨h', hn'⟩ | ⟨g', cap', cur, h', hB, hg, _⟩
   ·omega
   ·simp only [Value.slice.injEq, Option.some.injEq, Addr.mk.injEq, and_true, true_and] at h'
    obtain ⟨rfl, _⟩ := h'
    exact ⟨_, _, _, hg⟩
  ·exact absurd ((World.cell?_of_block (w := W) (a := ⟨nb, j, none⟩) (hb1.block nb hnbW)).symm.trans hc) (HNIL.out g o n c)
 have hj1 : J [] w1 := HJA.out [] W w1 none H0.out (below_grown hb1) (fun r h => by cases h)
 have hs1 := hb1.size
 have HC := Lib.hid hcells; have HFR := Lib.hid hfr; have HL := Lib.hid hL
 clear hrow hcells hfr hL hb1 HNIL H0 HSP hBW hgc
 gi_wp2
 gi_loopw [11] (fun i wr => ∃ k : Nat, k ≤ L ∧ i = .int .i64 k ∧ J (upto (nthRg sp) k) wr ∧ nb < wr.heap.size ∧ Hid (Fr nb j wr gc) ∧ Hid (∀ i, i < L → wr.cell? ⟨gc, i * 2, none⟩ = some (.int .u64 ((sp.getD i d0).1 : Int)) ∧ wr.cell? ⟨gc, i * 2 + 1, none⟩ = some (.int .u32 ((sp.getD i d0).2 : Int)))) (fun i _ => L - (intOf i).toNat)
 case atStart => exact ⟨0, Nat.zero_le _, rfl, hj1, Nat.lt_of_lt_of_le hnbW hs1, HFR, HC⟩
 case round =>
  clear HFR HC hj1
  obtain ⟨k, hk, rfl, hJs, hnbr, HFR, HC⟩ := hrel
  by_cases hlt : k < L
  ·obtain ⟨c0, c1⟩ := HC.out k hlt
   obtain ⟨p, hp⟩ : ∃ x, (sp.getD k d0).1 = x := ⟨_, rfl⟩
   obtain ⟨s, hs⟩ : ∃ x, (sp.getD k d0).2 = x := ⟨_, rfl⟩
   rw [hp] at c0; rw [hs] at c1
   have hbA : Below wr.heap.size wr (wr.alloc (.cells #[.int .u64 (p : Int), .int .u32 (s : Int)] 99)) := (Below.refl _ _).alloc (Nat.le_refl _) _
   have hJ2 := HJA.out _ wr _ none hJs (below_grown hbA) (fun r h => by cases h)
   have hyy := HY.out _ (nthRg sp k) _ hJ2 (by rw [upto_length, HL.out]; exact hlt)
   have hkl : ((k : Int) < (L : Int)) = True := by simp; omega
   have hkl' : (k : Int) < (L : Int) := by omega
   obtain ⟨k1, hk1⟩ : ∃ k1, k + 1 = k1 := ⟨_, rfl⟩
   have hki : (k : Int) + 1 = (k1 : Int) := by omega
   clear hJs hJ2
   by_cases h1 : k1 < L
   ·obtain ⟨c2, _⟩ := HC.out k1 h1
    obtain ⟨q, hq⟩ : ∃ x, endOf sp k = x := ⟨_, rfl⟩
    have hx : nthRg sp k = (p, q, s) := by unfold nthRg; rw [hp, hq, hs]
    obtain ⟨fn, tmps, assign, body, hy, hR⟩ := hyy
    simp only [hx, encRg] at hy
    have HRR := Lib.hid hR
    clear hR hx
    obtain ⟨pn, hpn⟩ : ∃ x, (sp.getD k1 d0).1 = x := ⟨_, rfl⟩
    rw [hpn] at c2
    have hpp : p < pn ∧ pn < 18446744073709551616 := by
     have h2 := List.pairwise_iff_getElem.1 HR.out k k1 (by rw [HL.out]; exact hlt) (by rw [HL.out]; exact h1) (by omega)
     have h3 := H64.out (sp.getD k1 d0) (by rw [List.getD_eq_getElem?_getD, List.getElem?_eq_getElem (by rw [HL.out]; exact h1)]; exact List.getElem_mem _)
     rw [hpn] at h3
     refine ⟨?_, h3⟩
     rw [← hp, ← hpn, List.getD_eq_getElem?_getD, List.getD_eq_getElem?_getD, List.getElem?_eq_getElem (by rw [HL.out]; exact hlt), List.getElem?_eq_getElem (by rw [HL.out]; exact h1)]
     exact h2
    have hqe : q = pn - 1 := by
     rw [← hq]; unfold endOf
     rw [if_pos (by rw [HL.out, hk1]; exact h1), hk1, hpn]
    have hwq : IntKind.u64.wrap ((pn : Int) - 1) = (q : Int) := by rw [IntKind.wrap_u64]; omega
    have h1i : ((k1 : Int) < (L : Int)) = True := by simp; omega
    have h1i' : (k1 : Int) < (L : Int) := by omega
    have c2a : (wr.alloc (.cells #[.int .u64 (p : Int), .int .u32 (s : Int)] 99)).cell? ⟨gc, k1 * 2, none⟩ = some (.int .u64 (pn : Int)) := (hbA.cell (p := ⟨gc, k1 * 2, none⟩) HFR.out.lt).trans c2
    have HBA := Lib.hid hbA
    clear hp hs hq hpn hpp hqe hbA c2 HY HJA
    gi_wp2
    refine HRR.out.mono ?_
    rintro en W3 (⟨rfl, hJ3, hk3⟩ | ⟨rfl, hJx3⟩)
    ·have hfa := (KR.below HBA.out hnbr).fr HFR.out
     have HF3 := Lib.hid (hk3.fr hfa)
     have hgs : W3.heap[gc]? = wr.heap[gc]? := (hk3.keep gc hfa).trans (HBA.out.block gc HFR.out.lt)
     have HC3 := Lib.hid (show ∀ i, i < L → W3.cell? ⟨gc, i * 2, none⟩ = some (.int .u64 ((sp.getD i d0).1 : Int)) ∧ W3.cell? ⟨gc, i * 2 + 1, none⟩ = some (.int .u32 ((sp.getD i d0).2 : Int)) from fun i hi => ⟨(World.cell?_of_block (w := wr) (a := ⟨gc, i * 2, none⟩) hgs).trans (HC.out i hi).1, (World.cell?_of_block (w := wr) (a := ⟨gc, i * 2 + 1, none⟩) hgs).trans (HC.out i hi).2⟩)
     have hk3s := hk3.size
     clear hfa hgs hk3 c2a
     gi_wp2
     go_roundw
     case rel => exact ⟨k + 1, by omega, by first | rfl | (rw [← hki]; rfl), by rw [upto_succ]; exact hJ3, Nat.lt_of_lt_of_le hnbr (Nat.le_trans HBA.out.size hk3s), HF3, HC3⟩
     case measure => simp [intOf]; omega
    ·gi_wp2
     refine bodyPost_ret (results_none rfl _ _ _) rfl ?_
     exact ⟨⟨_, rfl⟩, .inr ⟨_, ⟨k, by rw [HL.out]; exact hlt, by rw [upto_succ]⟩, hJx3⟩⟩
   ·have hq : endOf sp k = 18446744073709551615 := by unfold endOf; rw [if_neg (by rw [HL.out, hk1]; exact h1)]
    have hx : nthRg sp k = (p, 18446744073709551615, s) := by unfold nthRg; rw [hp, hq, hs]
    obtain ⟨fn, tmps, assign, body, hy, hR⟩ := hyy
    simp only [hx, encRg, show ((18446744073709551615 : Nat) : Int) = 18446744073709551615 from rfl] at hy
    have HRR := Lib.hid hR
    have h1i : ((k1 : Int) < (L : Int)) = False := by simp; omega
    clear hR hx
    have HBA := Lib.hid hbA
    clear hp hs hq hbA HY HJA h1
    gi_wp2
    refine HRR.out.mono ?_
    rintro en W3 (⟨rfl, hJ3, hk3⟩ | ⟨rfl, hJx3⟩)
    ·have hfa := (KR.below HBA.out hnbr).fr HFR.out
     have HF3 := Lib.hid (hk3.fr hfa)
     have hgs : W3.heap[gc]? = wr.heap[gc]? := (hk3.keep gc hfa).trans (HBA.out.block gc HFR.out.lt)
     have HC3 := Lib.hid (show ∀ i, i < L → W3.cell? ⟨gc, i * 2, none⟩ = some (.int .u64 ((sp.getD i d0).1 : Int)) ∧ W3.cell? ⟨gc, i * 2 + 1, none⟩ = some (.int .u32 ((sp.getD i d0).2 : Int)) from fun i hi => ⟨(World.cell?_of_block (w := wr) (a := ⟨gc, i * 2, none⟩) hgs).trans (HC.out i hi).1, (World.cell?_of_block (w := wr) (a := ⟨gc, i * 2 + 1, none⟩) hgs).trans (HC.out i hi).2⟩)
     have hk3s := hk3.size
     clear hfa hgs hk3
     gi_wp2
     go_roundw
     case rel => exact ⟨k + 1, by omega, by first | rfl | (rw [← hki]; rfl), by rw [upto_succ]; exact hJ3, Nat.lt_of_lt_of_le hnbr (Nat.le_trans HBA.out.size hk3s), HF3, HC3⟩
     case measure => simp [intOf]; omega
    ·gi_wp2
     refine bodyPost_ret (results_none rfl _ _ _) rfl ?_
     exact ⟨⟨_, rfl⟩, .inr ⟨_, ⟨k, by rw [HL.out]; exact hlt, by rw [upto_succ]⟩, hJx3⟩⟩
  ·obtain rfl : k = L := by omega
   gi_wp2
   go_end0
   exact ⟨⟨_, rfl⟩, .inl ⟨_, by rw [HL.out], hJs⟩⟩
end Go.Proofs.YtggdkfijioeijaaGreatDoor
namespace Go.Proofs.YtggdkfijioeijaaGreatDoor
open Go Go.RowKit Go.Maps
theorem map_ranges (m : Nat) (w : World) : Calls Tryz.prog 43 #[.pointer (some ⟨m, 0, none⟩)] w fun e w' => e = .returned (.func (.func 74) #[] #[.pointer (some ⟨w.heap.size, 0, none⟩)]) ∧ w' = w.alloc (.cells #[.pointer (some ⟨m, 0, none⟩)] 33) := by
 go_enter Tryz.func43, Tryz.ntmps43
 go_wp2_with fail
 go_ret
 exact ⟨rfl, rfl⟩
theorem KR.putObj {nb j : Nat} {W : World} {l : Nat} {o : Obj} (o' : Obj) (h : W.heap[l]? = some o) (ho : o.isCells = false) (hn : nb < l) : KR nb j W (W.putObj l o') := by
 have g := grownBy_putObj' W l o'
 have hl := (Array.getElem?_eq_some_iff.1 h).1
 refine ⟨g.size, fun k hk => g.block k hk.lt (fun e => ?_), fun g' o1 n c hc => Or.inr ⟨o1, n, c, (World.cell?_of_block (w := W) (a := ⟨nb, j, none⟩) (g.block nb (by omega) (fun e => ?_))).symm.trans hc⟩⟩
 ·cases e
  obtain ⟨C, t, f, hc⟩ := hk.2.1
  rw [h] at hc; cases hc; cases ho
 ·cases e; omega
theorem results_cell_int {P : Program} {fn : Func} {p : Tmp} {ty : TypeId} {k : IntKind} (h : fn.results = #[.cell p ty]) (tmps : Array Value) (w : World) (g : Nat) (v : Value) (hp : tmps.getD p undef = .pointer (some ⟨g, 0, none⟩)) (hu : P.underlying ty = some (.int k)) (hc : w.cell? ⟨g, 0, none⟩ = some v) :
  (results fn tmps).run P w = .ok v w := by
 have hp' : tmps[p]?.getD undef = .pointer (some ⟨g, 0, none⟩) := by simpa using hp
 have hagg : (isAgg ty).run P w = .ok false w := by
  unfold isAgg
  rw [Sem.run_bind, run_underlying hu w]; rfl
 simp [results, h, hp', asAddr, loadVar, Sem.run_bind, hagg, hc, Result.andThen]
theorem cover {O : Nat → Nat} {sp : List (Nat × Nat)} (h : SpI O sp M64) {u : Nat} (hu : u < M64) : ∃ k, k < sp.length ∧ (sp.getD k d0).1 ≤ u ∧ u ≤ endOf sp k := by
 have hl := List.length_pos_iff.2 h.ne
 have key : ∀ n, n < sp.length → (∀ k, k ≤ n → ¬ ((sp.getD k d0).1 ≤ u ∧ u ≤ endOf sp k)) → endOf sp n < u := by
  intro n
  induction n with
  | zero =>
   intro hn hk
   have h0 := hk 0 (Nat.le_refl _)
   rw [h.zero] at h0
   omega
  | succ n ih =>
   intro hn hk
   have h1 := ih (by omega) (fun k hkn => hk k (by omega))
   have h2 := hk (n + 1) (Nat.le_refl _)
   have h3 : endOf sp n = (sp.getD (n + 1) d0).1 - 1 := by unfold endOf; rw [if_pos hn]
   omega
 refine Classical.byContradiction fun hno => ?_
 have h1 := key (sp.length - 1) (by omega) (fun k hk hc => hno ⟨k, by omega, hc⟩)
 unfold endOf at h1
 rw [if_neg (by omega)] at h1
 have : u < 18446744073709551616 := hu
 omega
theorem SpI.at_ {O : Nat → Nat} {sp : List (Nat × Nat)} (h : SpI O sp M64) {k u : Nat} (hk : k < sp.length) (h1 : (sp.getD k d0).1 ≤ u) (h2 : u ≤ endOf sp k) : O u = (sp.getD k d0).2 := by
 have hp : k + 1 < sp.length → (sp.getD k d0).1 < (sp.getD (k + 1) d0).1 := fun h3 => by
  have := List.pairwise_iff_getElem.1 h.rise k (k + 1) hk h3 (by omega)
  rw [List.getD_eq_getElem?_getD, List.getD_eq_getElem?_getD, List.getElem?_eq_getElem hk, List.getElem?_eq_getElem h3]; exact this
 refine h.from_ k hk u h1 ?_ (fun h3 => ?_)
 ·unfold endOf at h2
  split at h2
  ·rename_i h3
   have := h.lt (sp.getD (k + 1) d0) (by rw [List.getD_eq_getElem?_getD, List.getElem?_eq_getElem h3]; exact List.getElem_mem _)
   omega
  ·show u < 18446744073709551616; omega
 ·have := hp h3
  unfold endOf at h2
  rw [if_pos h3] at h2
  omega
attribute [local go_sem] Oper.semAt_some
set_option maxRecDepth 100000 in
set_option maxHeartbeats 4000000 in
theorem map_Owner (m e h : Nat) (sp : List (Nat × Nat)) (w : World) (hM : MapAt w m e sp) (hl : sp.length ≤ 100000) (O : Nat → Nat) (hS : SpI O sp M64) (hh : h < M64) :
  Calls Tryz.prog 41 #[.pointer (some ⟨m, 0, none⟩), .int .u64 (h : Int)] w fun en w' => en = .returned (.int .u32 (O h : Nat)) ∧ Below w.heap.size w w' := by
 have hl1 : 1 ≤ sp.length := List.length_pos_iff.2 hS.ne
 refine (callsIn_wide (n := 14)).1 ?_
 refine callsIn_of_wp_marks Tryz.func41 rfl trivial ?_ rfl
 simp only [Tryz.ntmps41, List.size_toArray, List.length_cons, List.length_nil, Nat.reduceAdd, Nat.reduceSub, Array.replicate_succ, Array.replicate_zero, List.push_toArray, List.append_toArray, List.nil_append, List.cons_append]
 gi_wp2_with fail
 obtain ⟨W0, hW0⟩ : ∃ W0, (w.alloc (.cells #[.int .u64 (h : Int)] 25)).alloc (.cells #[.int .u32 0] 28) = W0 := ⟨_, rfl⟩
 have hB0 : Below w.heap.size w W0 := by rw [← hW0]; exact ((Below.refl _ _).alloc (Nat.le_refl _) _).alloc (by simp) _
 have hz0 : Hid (W0.heap.size = w.heap.size + 2) := Lib.hid (by rw [← hW0]; simp)
 have hc1 : W0.heap[w.heap.size]? = some (.cells #[.int .u64 (h : Int)] 25) := by rw [← hW0]; exact two1 _ _ _
 have hc2 : W0.heap[w.heap.size + 1]? = some (.cells #[.int .u32 0] 28) := by rw [← hW0]; exact two2 _ _ _
 rw [hW0]
 clear hW0
 refine ⟨trivial, (callsIn_wide.2 (map_ranges m W0)).mono ?_⟩
 rintro en w1 ⟨rfl, hw1⟩
 have hb1 : Below W0.heap.size W0 w1 := by rw [hw1]; exact (Below.refl _ _).alloc (Nat.le_refl _) _
 have hs1 : w1.heap.size = w.heap.size + 3 := by rw [hw1]; simp [hz0.out]
 have hbm : w1.cell? ⟨W0.heap.size, 0, none⟩ = some (.pointer (some ⟨m, 0, none⟩)) := by rw [hw1]; exact cell_of (MapKept.heap_alloc _ _).1 0
 have hB1 : Below w.heap.size w w1 := hB0.trans (hb1.mono hB0.size)
 have hc1' := (hb1.block w.heap.size (by have := hz0.out; omega)).trans hc1
 have hc2' := (hb1.block (w.heap.size + 1) (by have := hz0.out; omega)).trans hc2
 have hseq := ranges_stops 13 (by decide) W0.heap.size m e sp (w.heap.size + 1) 0 w1 hl1 hl hS.rise hS.lt (hM.below hB1) hbm (by omega) (fun g o n c hc => by rw [cell_of hc2' 0] at hc; cases hc)
 have HSEQ := Lib.hid hseq; have HB1 := Lib.hid hB1; have HS1 := Lib.hid hs1; have HC1 := Lib.hid hc1'; have HC2 := Lib.hid hc2'
 clear hseq hB1 hs1 hc1' hc2' hw1 hb1 hbm hc1 hc2 hB0
 have HSI := Lib.hid hS
 clear hS
 gi_wp2_with fail
 apply wpIn_rangeFunc_ownH rfl (by decide) (gf := 74) (lb := #[.pointer (some ⟨W0.heap.size, 0, none⟩)]) rfl trivial (enters_of Tryz.func74 (by kernel_rfl) rfl)
  HSEQ.out (fun h h' => h.trans h') (fun W l o o' hl h1 h2 h3 => ?hkb) (Below.refl _ _) (fun _ => rfl)
  (fun pre W => (∀ x ∈ pre, ¬ (x.1 ≤ h ∧ h ≤ x.2.1)) ∧ W.heap[w.heap.size]? = some (.cells #[.int .u64 (h : Int)] 25 (0, 0)) ∧ W.heap[w.heap.size + 1]? = some (.cells #[.int .u32 0] 28 (0, 0)) ∧ w1.heap.size ≤ W.heap.size ∧ Below w.heap.size w W)
  (fun c pre W => c = .ret ∧ ∃ p x, pre = p ++ [x] ∧ x.1 ≤ h ∧ h ≤ x.2.1 ∧ W.cell? ⟨w.heap.size + 1, 0, none⟩ = some (.int .u32 (x.2.2 : Int)) ∧ Below w.heap.size w W)
  (Ax := fun x a' W => ∃ B, a' = { tmps := #[.pointer (some ⟨m, 0, none⟩), .int .u64 (h : Int), undef, .pointer (some ⟨w.heap.size, 0, none⟩), .pointer (some ⟨w.heap.size + 1, 0, none⟩), .pointer (some ⟨B, 0, none⟩), .int .u32 (x.2.2 : Int), .pointer (some ⟨m, 0, none⟩), .func (.func 74) #[] #[.pointer (some ⟨W0.heap.size, 0, none⟩)], .agg #[.int .u64 (x.1 : Int), .int .u64 (x.2.1 : Int)], .int .u32 (x.2.2 : Int), undef, undef, undef, undef, undef, undef, undef, undef, undef, undef, undef], defers := [] } ∧ w1.heap.size ≤ B ∧ W.heap[B]? = some (.cells #[.int .u64 (x.1 : Int), .int .u64 (x.2.1 : Int)] 27 (0, 0)))
 case hkb => exact KR.putObj o' h1 h2 (by have := HS1.out; omega)
 case hI =>
  rintro s A B row ⟨h1, h2, h3, hsz, h4⟩ hg hr
  have hk : ∀ j, j < w.heap.size + 2 → j < A.heap.size → B.heap[j]? = A.heap[j]? := fun j hj hj2 => hg.block j hj2 (fun e => by have := (hr _ e.symm).1; have := HS1.out; omega)
  exact ⟨h1, (hk _ (by omega) (lt_of_block h2)).trans h2, (hk _ (by omega) (lt_of_block h3)).trans h3, Nat.le_trans hsz hg.size, h4.trans ⟨hg.os, hg.tape, hg.output, hg.size, fun j hj => hk j (by omega) (by have := h4.size; omega)⟩⟩
 case hIx =>
  rintro c s A B row ⟨rfl, p, x, h1, h2, h3, h4, h5⟩ hg hr
  have hk : ∀ j, j < w.heap.size + 2 → j < A.heap.size → B.heap[j]? = A.heap[j]? := fun j hj hj2 => hg.block j hj2 (fun e => by have := (hr _ e.symm).1; have := HS1.out; omega)
  exact ⟨rfl, p, x, h1, h2, h3, (World.cell?_of_block (w := A) (a := ⟨w.heap.size + 1, 0, none⟩) (hk _ (by dsimp only; omega) (block_lt_of_cell h4))).trans h4, h5.trans ⟨hg.os, hg.tape, hg.output, hg.size, fun j hj => hk j (by omega) (by have := h5.size; omega)⟩⟩
 case h0 => exact ⟨fun x hx => (by cases hx), HC1.out, HC2.out, Nat.le_refl _, HB1.out⟩
 case hAx =>
  rintro x a' s A B row ⟨Bk, h1, h2, h3⟩ hg hr
  refine ⟨Bk, h1, h2, (hg.block Bk (lt_of_block h3) (fun e => ?_)).trans h3⟩
  obtain ⟨_, o, ho, hc⟩ := hr _ e.symm
  rw [h3] at ho; cases ho; cases hc
 case hassign =>
  rintro l pre x W K ⟨h1, h2, h3, hsz, h4⟩ hK
  have hbA : Below W.heap.size W (W.alloc (.cells #[.int .u64 (x.1 : Int), .int .u64 (x.2.1 : Int)] 27)) := (Below.refl _ _).alloc (Nat.le_refl _) _
  have hws := h4.size
  have hkk := hK { tmps := #[.pointer (some ⟨m, 0, none⟩), .int .u64 (h : Int), undef, .pointer (some ⟨w.heap.size, 0, none⟩), .pointer (some ⟨w.heap.size + 1, 0, none⟩), .pointer (some ⟨W.heap.size, 0, none⟩), .int .u32 (x.2.2 : Int), .pointer (some ⟨m, 0, none⟩), .func (.func 74) #[] #[.pointer (some ⟨W0.heap.size, 0, none⟩)], .agg #[.int .u64 (x.1 : Int), .int .u64 (x.2.1 : Int)], .int .u32 (x.2.2 : Int), undef, undef, undef, undef, undef, undef, undef, undef, undef, undef, undef], defers := [] } _ (keepsFrom_below hbA (Nat.le_refl _)) (KR.below hbA (lt_of_block h3)) ⟨h1, (hbA.block _ (lt_of_block h2)).trans h2, (hbA.block _ (lt_of_block h3)).trans h3, Nat.le_trans hsz hbA.size, h4.trans (hbA.mono hws)⟩ ⟨W.heap.size, rfl, hsz, (MapKept.heap_alloc _ _).1⟩
  gi_wp2
  exact hkk
 case hbody =>
  rintro l pre x a' W hl _ ⟨h1, h2, h3, hsz, h4⟩ ⟨Bk, rfl, hB, hBc⟩ hpre
  have b0 : W.cell? ⟨Bk, 0, none⟩ = some (.int .u64 (x.1 : Int)) := cell_of hBc 0
  have b1 : W.cell? ⟨Bk, 1, none⟩ = some (.int .u64 (x.2.1 : Int)) := cell_of hBc 1
  have ch : W.cell? ⟨w.heap.size, 0, none⟩ = some (.int .u64 (h : Int)) := cell_of h2 0
  have cr : W.cell? ⟨w.heap.size + 1, 0, none⟩ = some (.int .u32 0) := cell_of h3 0
  have fr := frozen_of h3 0
  have hI : (∀ y ∈ pre ++ [x], ¬ (y.1 ≤ h ∧ h ≤ y.2.1)) ∨ (x.1 ≤ h ∧ h ≤ x.2.1) := by
   by_cases hc : x.1 ≤ h ∧ h ≤ x.2.1
   ·exact Or.inr hc
   ·refine Or.inl (fun y hy => ?_)
    rcases List.mem_append.1 hy with hy | hy
    ·exact h1 y hy
    ·obtain rfl : y = x := by simpa using hy
     exact hc
  have HW := Lib.hid (And.intro h2 (And.intro h3 (And.intro hsz h4)))
  have HI := Lib.hid hI
  clear h1 h2 h3 h4 hI hBc hsz
  obtain ⟨x1, hx1⟩ : ∃ z, x.1 = z := ⟨_, rfl⟩
  obtain ⟨x2, hx2⟩ : ∃ z, x.2.1 = z := ⟨_, rfl⟩
  rw [hx1, hx2] at HI
  rw [hx1] at b0; rw [hx2] at b1
  by_cases ha : x1 ≤ h
  ·by_cases hb : h ≤ x2
   ·gi_wp2_with fail
    refine ⟨⟨?_, fun k o hk hko _ => (Below.heap_setCell W _ _ k (by dsimp only; have := HS1.out; omega)).trans hko⟩, rfl, pre, x, rfl, by rw [hx1]; exact ha, by rw [hx2]; exact hb, World.cell?_setCell_same' _ _ _ (by rw [cr]; rfl), HW.out.2.2.2.trans (below_set _ _ (by dsimp only; omega))⟩
    show W.heap.size ≤ (W.heap.modify _ _).size
    rw [Array.size_modify]; exact Nat.le_refl _
   ·gi_wp2_with fail
    exact ⟨KeepsFrom.refl _ _, KR.below (Below.refl _ _) (lt_of_block HW.out.2.1), HI.out.resolve_right (fun h => hb h.2), HW.out⟩
  ·gi_wp2_with fail
   exact ⟨KeepsFrom.refl _ _, KR.below (Below.refl _ _) (lt_of_block HW.out.2.1), HI.out.resolve_right (fun h => ha h.1), HW.out⟩
 case hdone =>
  rintro D xs W hD rfl ⟨h1, h2, h3, hsz, h4⟩ hdef
  exfalso
  obtain ⟨k, hk, a, b⟩ := cover HSI.out hh
  exact h1 (nthRg sp k) (List.mem_map.2 ⟨k, by simpa using hk, rfl⟩) ⟨a, b⟩
 case hstop =>
  rintro D c pre W hD ⟨k, hk, rfl⟩ ⟨rfl, p, x, hp, a, b, hc, hb⟩ hdef
  obtain ⟨rfl, hx⟩ : upto (nthRg sp) k = p ∧ nthRg sp k = x := by
   rw [upto_succ] at hp
   have h2 := List.append_inj_right' hp rfl
   have h1 := List.append_inj_left' hp rfl
   exact ⟨h1, by simpa using h2⟩
  subst hx
  have how := HSI.out.at_ hk a b
  gi_wp2_with fail
  have hpb : Below (w.heap.size + 2) W (W.putObj D (.deferred none)) := belowK_b (w := w1) (by have := HS1.out; omega) W D _ _ hD hdef rfl rfl
  refine ⟨by simp, .inl ⟨_, _, rfl, run_takeDeferred hdef, ?_⟩⟩
  exact ⟨_, results_cell_int rfl _ _ (w.heap.size + 1) _ rfl Tryz.underlying28 ((hpb.cell (p := ⟨w.heap.size + 1, 0, none⟩) (by dsimp only; omega)).trans hc), by rw [how]; rfl, hb.trans (hpb.mono (by omega))⟩
end Go.Proofs.YtggdkfijioeijaaGreatDoor
namespace Go.Proofs.YtggdkfijioeijaaGreatDoor
open Go Go.RowKit Go.Maps
def addS (sp : List (Nat × Nat)) (c s : Nat) : List (Nat × Nat) := if sp ≠ [] ∧ (sp.getD (sp.length - 1) d0).2 = s then sp else sp ++ [(c, s)]
def SpS (nb base : Nat) (ev : Value) (sp : List (Nat × Nat)) (w : World) : Prop := ∃ a cp, w.heap[nb]? = some (.cells #[ev, .slice a sp.length cp] 143 (0, 0)) ∧ w.ownsRow base 99 2 (.slice a sp.length cp) sp.length (spV sp)
def AddG (nb base c s : Nat) (ev : Value) (sp : List (Nat × Nat)) (w : World) (e : Ending) (w' : World) : Prop := e = .returned (.tuple #[]) ∧ SpS nb base ev (addS sp c s) w' ∧ KX nb base w w' ∧ KR nb 1 w w' ∧ KeepsFrom base w w'
theorem setCell_block {W : World} {nb i : Nat} {cs : Array Value} {T : TypeId} {fz : Nat × Nat} (h : W.heap[nb]? = some (.cells cs T fz)) (v : Value) : (W.setCell ⟨nb, i, none⟩ v).heap[nb]? = some (.cells (cs.setIfInBounds i v) T fz) := by
 simp [World.setCell, Array.getElem?_modify, h]
theorem addG_of {w w8 : World} {nb base n g8 cp8 cp c s d : Nat} {a : Option Addr} {ev : Value} {sp : List (Nat × Nat)} {o : Obj} (hnb : nb < base) (hbw : base ≤ w.heap.size) (hB : w.heap[nb]? = some (.cells #[ev, .slice a n cp] 143 (0, 0)))
  (ha : a = none ∨ ∃ g0, a = some ⟨g0, 0, none⟩) (hab : ∀ j, (Value.slice a n cp).ownBlock = some j → base ≤ j) (hg : ((w.drewN d).alloc o).grownBy w8 (Value.slice a n cp).ownBlock) (hat : (Value.slice a n cp).ownBlock = some g8 ∨ g8 = ((w.drewN d).alloc o).heap.size)
  (hown : w8.ownsRow base 99 2 (.slice (some ⟨g8, 0, none⟩) (n + 1) cp8) (n + 1) (spV sp ++ [.int .u64 (c : Int), .int .u32 (s : Int)])) (hsp : addS sp c s = sp ++ [(c, s)]) (hn : sp.length = n) (hcl : ∀ j, (Value.slice a n cp).ownBlock = some j → ∃ C T F, w.heap[j]? = some (.cells C T F)) :
  AddG nb base c s ev sp w (.returned (.tuple #[])) (w8.setCell ⟨nb, 1, none⟩ (.slice (some ⟨g8, 0, none⟩) (n + 1) cp8)) := by
 have hbA : Below w.heap.size w ((w.drewN d).alloc o) := (below_dr (Below.refl _ _) d).alloc (Nat.le_refl _) _
 have hA := hbA.size
 have hb8 : w8.heap[nb]? = w.heap[nb]? := (hg.block nb (by omega) (fun e => by have := hab nb e.symm; omega)).trans (hbA.block nb (by omega))
 have c2 : w.cell? ⟨nb, 1, none⟩ = some (.slice a n cp) := cell_of hB 1
 have c8 := (World.cell?_of_block (w := w) (a := ⟨nb, 1, none⟩) hb8).trans c2
 have hlen : (sp ++ [(c, s)]).length = n + 1 := by rw [List.length_append, hn]; rfl
 have hs8 : w.heap.size ≤ (w8.setCell ⟨nb, 1, none⟩ (.slice (some ⟨g8, 0, none⟩) (n + 1) cp8)).heap.size := by
  show w.heap.size ≤ (w8.heap.modify _ _).size
  rw [Array.size_modify]; have := hg.size; omega
 have hcn : (w8.setCell ⟨nb, 1, none⟩ (.slice (some ⟨g8, 0, none⟩) (n + 1) cp8)).cell? ⟨nb, 1, none⟩ = some (.slice (some ⟨g8, 0, none⟩) (n + 1) cp8) := World.cell?_setCell_same' _ _ _ (by rw [c8]; rfl)
 refine ⟨rfl, ⟨_, _, (by rw [hsp, hlen]; exact setCell_block (hb8.trans hB) _), ?_⟩, ?_, ⟨hs8, fun k hk => ?_, fun g o' m c' hc => ?_⟩, hs8, fun k o1 _ hk hc => ?_⟩
 ·rw [hsp, hlen, spV_snoc]; exact ownsRow_setCell_below hown (by dsimp only; omega) _
 ·exact ((KX.of (hbA.mono hbw)).trans (KX.row hg (fun j h => hab j h) (by omega))).trans (KX.set base w8 ⟨nb, 1, none⟩ _)
 ·have h1 : (w8.setCell ⟨nb, 1, none⟩ (.slice (some ⟨g8, 0, none⟩) (n + 1) cp8)).heap[k]? = w8.heap[k]? := Below.heap_setCell w8 _ _ k hk.1
  refine h1.trans ((hg.block k (by have := hk.lt; omega) (fun e => ?_)).trans (hbA.block k hk.lt))
  rcases ha with rfl | ⟨g0, rfl⟩
  ·cases e
  ·cases e
   exact hk.2.2 g0 0 n cp c2 rfl
 ·rw [hcn] at hc
  simp only [Option.some.injEq, Value.slice.injEq, Addr.mk.injEq] at hc
  obtain ⟨⟨rfl, _⟩, _⟩ := hc
  rcases hat with h | h
  ·rcases ha with rfl | ⟨g0, rfl⟩
   ·cases h
   ·cases h
    exact Or.inr ⟨0, n, cp, c2⟩
  ·exact Or.inl (by omega)
 ·have hkn : k ≠ nb := fun e => by subst e; rw [hB] at hk; cases hk; cases hc
  have hkl := (Array.getElem?_eq_some_iff.1 hk).1
  refine (Below.heap_setCell w8 _ _ k hkn).trans ((hg.block k (by omega) (fun e => ?_)).trans ((hbA.block k hkl).trans hk))
  obtain ⟨C, T, F, h⟩ := hcl k e.symm
  rw [h] at hk; cases hk; cases hc
theorem own_cells {w : World} {B e n k : Nat} {v : Value} {xs : List Value} (h : w.ownsRow B e k v n xs) : ∀ j, v.ownBlock = some j → ∃ C T F, w.heap[j]? = some (.cells C T F) := by
 intro j hj
 rcases h.2 with ⟨rfl, _⟩ | ⟨g, cap, cur, rfl, _, hg, _⟩
 ·cases hj
 ·cases hj; exact ⟨_, _, _, hg⟩
set_option maxRecDepth 100000 in
set_option maxHeartbeats 4000000 in
theorem split_add (Bn nb base c s : Nat) (ev : Value) (sp : List (Nat × Nat)) (w : World) (hl2 : sp.length ≤ 100000) (hBn : Bn < base) (hnb : nb < base) (_hne : Bn ≠ nb) (hbw : base ≤ w.heap.size)
  (c1 : w.cell? ⟨Bn, 0, none⟩ = some (.pointer (some ⟨nb, 0, none⟩))) (hS : SpS nb base ev sp w) :
  Calls Tryz.prog 67 #[.int .u64 (c : Int), .int .u32 (s : Int), .pointer (some ⟨Bn, 0, none⟩)] w (AddG nb base c s ev sp w) := by
 obtain ⟨a, cp, hB, hrow⟩ := hS
 obtain ⟨i0, hi, hz0, hz1, hz2⟩ := info_parts infoSpan
 obtain ⟨n, hn⟩ : ∃ n, sp.length = n := ⟨_, rfl⟩
 rw [hn] at hB hrow hl2
 have c2 : w.cell? ⟨nb, 1, none⟩ = some (.slice a n cp) := cell_of hB 1
 have f2 : w.frozen? ⟨nb, 1, none⟩ = false := frozen_of hB 1
 have HN := Lib.hid hn; have HR := Lib.hid hrow; have HBK := Lib.hid hB
 clear hB
 clear hn
 have hab := own_above2 hrow
 have ha : a = none ∨ ∃ g0, a = some ⟨g0, 0, none⟩ := by
  rcases hrow.2 with ⟨h', _⟩ | ⟨g', cap', cur, h', _⟩
  ·simp only [Value.slice.injEq] at h'; exact Or.inl h'.1
  ·simp only [Value.slice.injEq] at h'; exact Or.inr ⟨g', h'.1⟩
 have hbA : Below w.heap.size w (w.alloc (.cells #[.int .u64 (c : Int), .int .u32 (s : Int)] 99)) := (Below.refl _ _).alloc (Nat.le_refl _) _
 have c1a := (hbA.cell (p := ⟨Bn, 0, none⟩) (by dsimp only; omega)).trans c1
 have c2a := (hbA.cell (p := ⟨nb, 1, none⟩) (by dsimp only; omega)).trans c2
 have HA := Lib.hid ha
 clear ha hbA
 by_cases hn0 : n = 0
 ·have hsp : sp = [] := List.length_eq_zero_iff.1 (by rw [HN.out]; exact hn0)
  have hadd : addS sp c s = [(c, s)] := by unfold addS; rw [if_neg (fun h => h.1 hsp), hsp]; rfl
  have HADS := Lib.hid (show addS sp c s = sp ++ [(c, s)] by rw [hadd, hsp]; rfl)
  have hn0b : ((n : Int) == 0) = true := by simp [hn0]
  have HN0 := Lib.hid hn0; have HAB := Lib.hid hab
  clear hadd hsp hn0 hrow hab
  go_enter Tryz.func67, Tryz.ntmps67
  go_wp2_with fail
  go_region_law (refine step_append_lies (hgd := rfl) (s := .tmp 30) (x := .tmp 34) (t := 83) (ho := rfl) (base := base) (e := 99) (i := i0) (z := .agg #[.int .u64 0, .int .u32 0]) (size := 2) (bytes := 16) (ht := Tryz.underlying83) (hi := hi) (hz := hz0) (hsize := hz1) (hby := hz2) (hzs := rfl) (hsz := by decide) (v := _) (n := n) (xs := spV sp) (hs := rfl) (hown := rowBelow HR.out ((below_dr (Below.refl _ _) 1).alloc (Nat.le_refl _) _)) (ad := _) (m := 1) (c := _) (news := [.int .u64 (c : Int), .int .u32 (s : Int)]) (hx := rfl) (hl := rfl) (hnews := World.news_of_block (MapKept.heap_alloc _ _).1) (h1 := two_one (c, s)) (hm := Nat.zero_lt_one) (h63 := by unfold maxLen; omega) (hbytes := by omega) (hbase := by simp; omega) (H := _) (hH := rfl) (h := ?_); intro g8 cp8 w8 hown8 hg8 hat8 _hlt8; have hb8 : w8.heap[nb]? = w.heap[nb]? := (hg8.block nb (by simp; omega) (fun e => by have := HAB.out nb e.symm; omega)).trans (Below.heap_alloc _ _ _ (show nb < w.heap.size by omega)); have hbn8 : w8.heap[Bn]? = w.heap[Bn]? := (hg8.block Bn (by simp; omega) (fun e => by have := HAB.out Bn e.symm; omega)).trans (Below.heap_alloc _ _ _ (show Bn < w.heap.size by omega)); have c18 := (World.cell?_of_block (w := w) (a := ⟨Bn, 0, none⟩) hbn8).trans c1; have c8 := (World.cell?_of_block (w := w) (a := ⟨nb, 1, none⟩) hb8).trans c2; have f8 := (World.frozen?_of_block (w := w) (a := ⟨nb, 1, none⟩) hb8).trans f2; have HGO := Lib.hid (addG_of (d := 1) hnb hbw HBK.out HA.out HAB.out hg8 hat8 hown8 HADS.out HN.out (own_cells HR.out)); clear hown8 hg8 hat8 _hlt8 hb8 hbn8)
  all_goals (
   go_end0
   exact HGO.out)
 ·obtain ⟨g0, rfl⟩ : ∃ g0, a = some ⟨g0, 0, none⟩ := by
   rcases hrow.2 with ⟨_, h⟩ | ⟨g', cap', cur, h', _⟩
   ·exact absurd h hn0
   ·simp only [Value.slice.injEq] at h'; exact ⟨g', h'.1⟩
  obtain ⟨nl, hnl⟩ : ∃ nl, n - 1 = nl := ⟨_, rfl⟩
  have hn0b : ((n : Int) == 0) = false := by simp; omega
  have hnli : (n : Int) - 1 = (nl : Int) := by omega
  have hnln : (nl : Int) < (n : Int) := by omega
  obtain ⟨s0, hs0⟩ : ∃ s0, (sp.getD (sp.length - 1) d0).2 = s0 := ⟨_, rfl⟩
  have hlast : w.cell? ⟨g0, nl * 2 + 1, none⟩ = some (.int .u32 (s0 : Int)) := by
   rw [World.ownsRow.cellAt hrow (nl * 2 + 1) (by omega), (spV_at sp nl (by rw [HN.out]; omega)).2, ← hs0, HN.out, hnl]
  have hspn : sp ≠ [] := fun e => by have := HN.out; rw [e] at this; simp at this; omega
  have HAB := Lib.hid hab
  by_cases hss : s0 = s
  ·have hsb : ((s0 : Int) != (s : Int)) = false := by simp [hss]
   have HADS := Lib.hid (show addS sp c s = sp from by unfold addS; rw [if_pos ⟨hspn, by rw [hs0, hss]⟩])
   clear hss hspn hs0 hnl hab hrow hn0
   go_enter Tryz.func67, Tryz.ntmps67
   go_wp2_with fail
   go_end0
   exact ⟨rfl, ⟨_, _, (by rw [HADS.out, HN.out]; exact HBK.out), by rw [HADS.out, HN.out]; exact HR.out⟩, KX.refl _ _ _, KR.below (Below.refl _ _) (by omega), KeepsFrom.refl _ _⟩
  ·have hsb : ((s0 : Int) != (s : Int)) = true := by simp; omega
   have HADS := Lib.hid (show addS sp c s = sp ++ [(c, s)] from by unfold addS; rw [if_neg (fun h => hss (by rw [← hs0]; exact h.2))])
   clear hss hspn hs0 hnl hab hrow hn0
   go_enter Tryz.func67, Tryz.ntmps67
   go_wp2_with fail
   go_region_law (refine step_append_lies (hgd := rfl) (s := .tmp 30) (x := .tmp 34) (t := 83) (ho := rfl) (base := base) (e := 99) (i := i0) (z := .agg #[.int .u64 0, .int .u32 0]) (size := 2) (bytes := 16) (ht := Tryz.underlying83) (hi := hi) (hz := hz0) (hsize := hz1) (hby := hz2) (hzs := rfl) (hsz := by decide) (v := _) (n := n) (xs := spV sp) (hs := rfl) (hown := rowBelow HR.out ((below_dr (Below.refl _ _) 1).alloc (Nat.le_refl _) _)) (ad := _) (m := 1) (c := _) (news := [.int .u64 (c : Int), .int .u32 (s : Int)]) (hx := rfl) (hl := rfl) (hnews := World.news_of_block (MapKept.heap_alloc _ _).1) (h1 := two_one (c, s)) (hm := Nat.zero_lt_one) (h63 := by unfold maxLen; omega) (hbytes := by omega) (hbase := by simp; omega) (H := _) (hH := rfl) (h := ?_); intro g8 cp8 w8 hown8 hg8 hat8 _hlt8; have hb8 : w8.heap[nb]? = w.heap[nb]? := (hg8.block nb (by simp; omega) (fun e => by have := HAB.out nb e.symm; omega)).trans (Below.heap_alloc _ _ _ (show nb < w.heap.size by omega)); have hbn8 : w8.heap[Bn]? = w.heap[Bn]? := (hg8.block Bn (by simp; omega) (fun e => by have := HAB.out Bn e.symm; omega)).trans (Below.heap_alloc _ _ _ (show Bn < w.heap.size by omega)); have c18 := (World.cell?_of_block (w := w) (a := ⟨Bn, 0, none⟩) hbn8).trans c1; have c8 := (World.cell?_of_block (w := w) (a := ⟨nb, 1, none⟩) hb8).trans c2; have f8 := (World.frozen?_of_block (w := w) (a := ⟨nb, 1, none⟩) hb8).trans f2; have HGO := Lib.hid (addG_of (d := 1) hnb hbw HBK.out HA.out HAB.out hg8 hat8 hown8 HADS.out HN.out (own_cells HR.out)); clear hown8 hg8 hat8 _hlt8 hb8 hbn8)
   all_goals (
    go_end0
    exact HGO.out)
end Go.Proofs.YtggdkfijioeijaaGreatDoor
namespace Go.Proofs.YtggdkfijioeijaaGreatDoor
open Go Go.RowKit
def SpI0 (O : Nat → Nat) (sp : List (Nat × Nat)) (c : Nat) : Prop := (c = 0 ∧ sp = []) ∨ SpI O sp c
theorem addS_law {O : Nat → Nat} {sp : List (Nat × Nat)} {c c' s : Nat} (h : SpI0 O sp c) (hc : c < c') (ho : ∀ u, c ≤ u → u < c' → O u = O c) (hs : s = O c) : SpI O (addS sp c s) c' := by
 subst hs
 unfold addS
 rcases h with ⟨rfl, rfl⟩ | h
 ·rw [if_neg (fun h => h.1 rfl)]
  exact SpI.start hc (fun u hu => ho u (Nat.zero_le _) hu)
 ·by_cases e : (sp.getD (sp.length - 1) d0).2 = O c
  ·rw [if_pos ⟨h.ne, e⟩]; exact h.skip (Nat.le_of_lt hc) ho e
  ·rw [if_neg (fun h => e h.2)]; exact h.add hc ho e
theorem addS_length (sp : List (Nat × Nat)) (c s : Nat) : (addS sp c s).length ≤ sp.length + 1 := by
 unfold addS; split
 ·omega
 ·simp
def Meets (f t : Nat) (x : Rg) : Prop := x.1 ≤ t ∧ f ≤ x.2.1
instance (f t : Nat) (x : Rg) : Decidable (Meets f t x) := inferInstanceAs (Decidable (_ ∧ _))
def stepS (f t tw : Nat) (sp : List (Nat × Nat)) (x : Rg) : List (Nat × Nat) :=
 if Meets f t x then
  let s1 := if x.1 < f then addS sp x.1 x.2.2 else sp
  let s2 := addS s1 (max f x.1) tw
  if t < x.2.1 then addS s2 (t + 1) x.2.2 else s2
 else addS sp x.1 x.2.2
def splitO (O : Nat → Nat) (f t tw : Nat) (u : Nat) : Nat := if f ≤ u ∧ u ≤ t then tw else O u
theorem stepS_law {O : Nat → Nat} {f t tw : Nat} (hft : f ≤ t) {sp : List (Nat × Nat)} {x : Rg} (h : SpI0 (splitO O f t tw) sp x.1) (hx : x.1 ≤ x.2.1) (hO : ∀ u, x.1 ≤ u → u ≤ x.2.1 → O u = x.2.2) : SpI (splitO O f t tw) (stepS f t tw sp x) (x.2.1 + 1) := by
 unfold stepS
 by_cases hm : Meets f t x
 ·rw [if_pos hm]
  obtain ⟨m1, m2⟩ := hm
  simp only
  have h1 : SpI0 (splitO O f t tw) (if x.1 < f then addS sp x.1 x.2.2 else sp) (max f x.1) := by
   by_cases e : x.1 < f
   ·rw [if_pos e, Nat.max_eq_left (by omega)]
    refine Or.inr (addS_law h e (fun u a b => ?_) ?_)
    ·unfold splitO
     rw [if_neg (by omega), if_neg (by omega), hO u a (by omega), hO x.1 (Nat.le_refl _) hx]
    ·unfold splitO; rw [if_neg (by omega), hO x.1 (Nat.le_refl _) hx]
   ·rw [if_neg e, Nat.max_eq_right (by omega)]; exact h
  have hmx : f ≤ max f x.1 ∧ max f x.1 ≤ t ∧ x.1 ≤ max f x.1 ∧ max f x.1 ≤ x.2.1 := by omega
  by_cases e2 : t < x.2.1
  ·rw [if_pos e2]
   have h2 := addS_law (s := tw) (c' := t + 1) h1 (by omega) (fun u a b => by
    unfold splitO; rw [if_pos (by omega), if_pos (by omega)]) (by unfold splitO; rw [if_pos (by omega)])
   refine addS_law (Or.inr h2) (by omega) (fun u a b => ?_) ?_
   ·unfold splitO
    rw [if_neg (by omega), if_neg (by omega), hO u (by omega) (by omega), hO (t + 1) (by omega) (by omega)]
   ·unfold splitO; rw [if_neg (by omega), hO (t + 1) (by omega) (by omega)]
  ·rw [if_neg e2]
   exact addS_law h1 (by omega) (fun u a b => by
    unfold splitO; rw [if_pos (by omega), if_pos (by omega)]) (by unfold splitO; rw [if_pos (by omega)])
 ·rw [if_neg hm]
  have hd : ∀ u, x.1 ≤ u → u ≤ x.2.1 → ¬ (f ≤ u ∧ u ≤ t) := fun u a b c => hm ⟨by omega, by omega⟩
  refine addS_law h (by omega) (fun u a b => ?_) ?_
  ·unfold splitO
   rw [if_neg (hd u a (by omega)), if_neg (hd x.1 (Nat.le_refl _) hx), hO u a (by omega), hO x.1 (Nat.le_refl _) hx]
  ·unfold splitO; rw [if_neg (hd x.1 (Nat.le_refl _) hx), hO x.1 (Nat.le_refl _) hx]
theorem endOf_next {O : Nat → Nat} {sp : List (Nat × Nat)} (h : SpI O sp M64) {k : Nat} (hk : k < sp.length) : (sp.getD k d0).1 ≤ endOf sp k ∧ endOf sp k + 1 = (if k + 1 < sp.length then (sp.getD (k + 1) d0).1 else M64) := by
 have hlt := h.lt (sp.getD k d0) (by rw [List.getD_eq_getElem?_getD, List.getElem?_eq_getElem hk]; exact List.getElem_mem _)
 unfold endOf
 by_cases e : k + 1 < sp.length
 ·rw [if_pos e, if_pos e]
  have := List.pairwise_iff_getElem.1 h.rise k (k + 1) hk e (by omega)
  have h2 : (sp.getD k d0).1 < (sp.getD (k + 1) d0).1 := by
   rw [List.getD_eq_getElem?_getD, List.getD_eq_getElem?_getD, List.getElem?_eq_getElem hk, List.getElem?_eq_getElem e]; exact this
  omega
 ·rw [if_neg e, if_neg e]
  have h2 : (sp.getD k d0).1 < 18446744073709551616 := hlt
  exact ⟨by omega, rfl⟩
theorem fold_law {O : Nat → Nat} {f t tw : Nat} (hft : f ≤ t) {sp : List (Nat × Nat)} (h : SpI O sp M64) : ∀ k, 1 ≤ k → k ≤ sp.length → SpI (splitO O f t tw) (((List.range k).map (nthRg sp)).foldl (stepS f t tw) []) (if k < sp.length then (sp.getD k d0).1 else M64) := by
 intro k
 induction k with
 | zero => intro h1; omega
 | succ k ih =>
  intro _ hk
  rw [List.range_succ, List.map_append, List.foldl_append]
  obtain ⟨e1, e2⟩ := endOf_next h (k := k) (by omega)
  rw [← e2]
  refine stepS_law hft (x := nthRg sp k) ?_ e1 (fun u a b => h.at_ (by omega) a b)
  by_cases e : k = 0
  ·subst e; exact Or.inl ⟨h.zero, rfl⟩
  ·have := ih (by omega) (by omega)
   rw [if_pos (by omega)] at this
   exact Or.inr this
theorem SpI.uniq {O : Nat → Nat} {a b : List (Nat × Nat)} (ha : SpI O a M64) (hb : SpI O b M64) : a = b := by
 have hla := List.length_pos_iff.2 ha.ne
 have hlb := List.length_pos_iff.2 hb.ne
 have hg : ∀ (l : List (Nat × Nat)) i, (hi : i < l.length) → l.getD i d0 = l[i] := fun l i hi => by rw [List.getD_eq_getElem?_getD, List.getElem?_eq_getElem hi]; rfl
 have key : ∀ i, i < a.length → i < b.length ∧ a.getD i d0 = b.getD i d0 := by
  intro i
  induction i with
  | zero =>
   intro _
   refine ⟨hlb, ?_⟩
   have o1 := ha.at_ (k := 0) (u := 0) hla (by rw [ha.zero]; exact Nat.le_refl _) (Nat.zero_le _)
   have o2 := hb.at_ (k := 0) (u := 0) hlb (by rw [hb.zero]; exact Nat.le_refl _) (Nat.zero_le _)
   exact Prod.ext (ha.zero.trans hb.zero.symm) (o1.symm.trans o2)
  | succ i ih =>
   intro hi
   obtain ⟨hib, he⟩ := ih (by omega)
   obtain ⟨a1, a2⟩ := endOf_next ha (k := i) (by omega)
   obtain ⟨b1, b2⟩ := endOf_next hb (k := i) hib
   obtain ⟨a3, _⟩ := endOf_next ha (k := i + 1) hi
   rw [if_pos hi] at a2
   have halt := ha.lt (a.getD (i + 1) d0) (by rw [hg a _ hi]; exact List.getElem_mem _)
   have oa := ha.at_ (k := i + 1) hi (Nat.le_refl _) a3
   have hadj := ha.adj i hi
   -- b's range i ends where a's does
   by_cases hb2 : i + 1 < b.length
   ·rw [if_pos hb2] at b2
    obtain ⟨b3, _⟩ := endOf_next hb (k := i + 1) hb2
    have ob := hb.at_ (k := i + 1) hb2 (Nat.le_refl _) b3
    have hbadj := hb.adj i hb2
    have hfrom : (a.getD (i + 1) d0).1 = (b.getD (i + 1) d0).1 := by
     rcases Nat.lt_trichotomy (a.getD (i + 1) d0).1 (b.getD (i + 1) d0).1 with hlt | heq | hgt
     ·have o := hb.at_ (k := i) hib (u := (a.getD (i + 1) d0).1) (by rw [← he]; omega) (by omega)
      rw [oa, ← he] at o; exact absurd o hadj
     ·exact heq
     ·have o := ha.at_ (k := i) (by omega) (u := (b.getD (i + 1) d0).1) (by rw [he]; omega) (by omega)
      rw [ob, he] at o; exact absurd o hbadj
    exact ⟨hb2, Prod.ext hfrom (by rw [← oa, ← ob, hfrom])⟩
   ·rw [if_neg hb2] at b2
    have o := hb.at_ (k := i) hib (u := (a.getD (i + 1) d0).1) (by rw [← he]; omega) (by omega)
    rw [oa, ← he] at o
    exact absurd o hadj
 have hlen : a.length = b.length := by
  rcases Nat.lt_trichotomy a.length b.length with hlt | heq | hgt
  ·obtain ⟨h1, h2⟩ := key (a.length - 1) (by omega)
   obtain ⟨_, a2⟩ := endOf_next ha (k := a.length - 1) (by omega)
   obtain ⟨_, b2⟩ := endOf_next hb (k := a.length - 1) (by omega)
   rw [if_neg (by omega)] at a2
   rw [if_pos (by omega)] at b2
   have hbm := hb.lt (b.getD (a.length - 1 + 1) d0) (by rw [hg b _ (by omega)]; exact List.getElem_mem _)
   obtain ⟨b3, _⟩ := endOf_next hb (k := a.length - 1 + 1) (by omega)
   have ob := hb.at_ (k := a.length - 1 + 1) (by omega) (Nat.le_refl _) b3
   have hr := List.pairwise_iff_getElem.1 hb.rise (a.length - 1) (a.length - 1 + 1) (by omega) (by omega) (by omega)
   rw [← hg b _ (by omega), ← hg b _ (by omega)] at hr
   have o := ha.at_ (k := a.length - 1) (by omega) (u := (b.getD (a.length - 1 + 1) d0).1) (by rw [h2]; omega) (by omega)
   rw [ob, h2] at o
   exact absurd o (hb.adj (a.length - 1) (by omega))
  ·exact heq
  ·have := (key b.length hgt).1; omega
 refine List.ext_getElem hlen (fun i h1 h2 => ?_)
 have := (key i h1).2
 rwa [hg a i h1, hg b i h2] at this
end Go.Proofs.YtggdkfijioeijaaGreatDoor
