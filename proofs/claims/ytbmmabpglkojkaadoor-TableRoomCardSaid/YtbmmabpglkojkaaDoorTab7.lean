/- Contract: Table.List; numbers and texts. -/
import Derived.Test.YtbmmabpglkojkaaDoorTab6
namespace Go.Proofs.YtbmmabpglkojkaaDoor
open Go Go.RowKit
open Pth
open Go.Maps (has size Canon CanonK Tidy IsMap KeysOf Keyed Merged)

def LiveRel (M : DataW Cel) (left : Lit → Bool) (L : List ByteArray) : Prop := ∀ s : ByteArray, s ∈ L ↔ (has M (kS s) = true ∧ left (kS s) = false ∧ 0 < nowC (cellAt M s))
theorem LiveRel.start (M : DataW Cel) {D : DataW Value} (h : ∀ k, has D k = has M k) : LiveRel M (has D) [] := by
  intro s; rw [h]; cases has M (kS s) <;> simp
theorem sameKey_kS (s x : ByteArray) : (kS s).sameKey (kS x) = decide (s = x) := by
  by_cases e : s = x
  · subst e; rw [WideAt.sameKey_self (kS_key _)]; simp
  · rw [Maps.sameKey_ne (kS_ne e)]; simp [e]
theorem LiveRel.skip {M : DataW Cel} {left : Lit → Bool} {L : List ByteArray} (h : LiveRel M left L) {x : ByteArray} {c : Cel} (hM : has M (kS x) = true) (hat : ∀ zd, M.atKey (kS x) zd = .held c) (hl : left (kS x) = true) (hn : nowC c = 0) : LiveRel M (fun z => left z && !z.sameKey (kS x)) L := by
  intro s
  rw [h s]
  simp only [sameKey_kS]
  by_cases e : s = x
  · subst e; rw [cellAt_of (hat _), hn]; simp
  · simp [e]
theorem LiveRel.step {M : DataW Cel} {left : Lit → Bool} {L : List ByteArray} (h : LiveRel M left L) {x : ByteArray} {c : Cel} (hM : has M (kS x) = true) (hat : ∀ zd, M.atKey (kS x) zd = .held c) (hl : left (kS x) = true) (hn : 0 < nowC c) : LiveRel M (fun z => left z && !z.sameKey (kS x)) (L ++ [x]) := by
  intro s
  rw [List.mem_append, h s, List.mem_singleton]
  simp only [sameKey_kS]
  by_cases e : s = x
  · subst e; rw [cellAt_of (hat _)]; simp [hM, hn]
  · simp [e]
theorem infoStr7 : (Tryd.prog.info? 9).map (fun i => (i.zero, i.size, i.bytes)) = some (some (.string ByteArray.empty), 1, 16) := by kernel_rfl

theorem belowGrown {w w' : World} (hb : Below w.heap.size w w') : w.grownBy w' none := ⟨hb.os, hb.tape, hb.output, hb.size, fun i hi _ => hb.block i hi⟩
/-- What List leaves. -/
def ListGives (p : List UInt8) (M : DataW Cel) (w : World) (e : Ending) (w' : World) : Prop :=
  ∃ L : List ByteArray, (∀ s, s ∈ L ↔ (has M (kS s) = true ∧ 0 < nowC (cellAt M s))) ∧ NamesGives p L w e w'

set_option maxRecDepth 100000 in
set_option maxHeartbeats 2000000 in
theorem tab_list (w : World) {t b : Nat} {q1 q2 B : Int} {M : DataW Cel} (h : TabAt w t b q1 q2 M B) (hg : Good Tryd.prog 9 M) (hm : MX w) (p : ByteArray) (hp : p.size ≤ 140737488351232) (hsM : size M ≤ 1073741824) :
    Calls Tryd.prog 20 #[.pointer (some ⟨t, 0, none⟩), .string p] w (ListGives p.data.toList M w) := by
  have Hmade := Lib.hid (tab_made w h)
  have HG := Lib.hid hg; have HM := Lib.hid hm; have HT := Lib.hid h; clear hg hm h
  go_enter Tryd.func20, Tryd.ntmps20
  go_wp2_with fail
  refine Hmade.out.mono ?_
  rintro e w1 ⟨rfl, hb1⟩
  have h1 := HT.out.below hb1
  have c2 := h1.c2
  have hm1 := h1.m
  obtain ⟨D, hownD, hal⟩ := hm1
  have Hal := Lib.hid hal; have Hb1 := Lib.hid hb1
  clear h1 hal hb1
  obtain ⟨i0, hi, hz0, hz1, hz2⟩ := info_parts infoStr7
  go_wp2_with (first | (at_range; refine wpList_range_own _ rfl _ 66 rfl 9 62 strKeyed Tryd.underlying66 heldR b (size M) D rfl hownD ?_; intro w0 hrg0 hg0 hs0) | fail)
  go_frame
  go_loopw [5] (fun s5 wx => ∃ (left : Lit → Bool) (cnt : Nat) (L : List ByteArray), (∃ a5 c5, s5 = .slice a5 L.length c5) ∧ Hid (wx.ranges Tryd.prog 9 heldR b w1.heap.size (size M) D left cnt) ∧ Hid (LiveRel M left L) ∧ Hid (wx.ownsRow (w1.heap.size + 1) 9 1 s5 L.length (L.map Value.string)) ∧ Hid (L.length + cnt ≤ size M) ∧ Hid (Below w1.heap.size w1 wx)) (fun _ wx => wx.rangeLeft b w1.heap.size)
  case atStart => exact ⟨_, _, [], ⟨none, 0, rfl⟩, Lib.hid hrg0, Lib.hid (LiveRel.start M Hal.out.keys), Lib.hid (World.ownsRow_nil _ _ _ _), Lib.hid (by have := Hal.out.sizes; simp only [List.length_nil]; omega), Lib.hid ((Below.refl _ _).grown hg0 (Nat.le_refl _) (fun k hk => by cases hk))⟩
  case round =>
    obtain ⟨left, cnt, L, ⟨a5, c5, rfl⟩, hrg, hrl, hrow, hle, hbx⟩ := hrel
    have hrgo := hrg.out
    by_cases hc : cnt = 0
    · have Hnames := Lib.hid (fun (hl0 : ∀ kl, left kl = false) => path_names p L (.slice a5 L.length c5) wr hp (by have := hle.out; omega) (by
        intro i hi
        have hmem : L.getD i ByteArray.empty ∈ L := by rw [List.getD_eq_getElem?_getD, List.getElem?_eq_getElem hi]; exact List.getElem_mem hi
        obtain ⟨hh, _⟩ := (hrl.out _).1 hmem
        obtain ⟨p', c, e, _, _, _, _, h4⟩ := HG.out.cells _ hh
        rw [kS_inj e]
        have := mayP_size h4; omega) (IsStrs.own hrow.out) (HM.out.below (Hb1.out.trans (hbx.out.mono Hb1.out.size)) (Nat.le_refl _)))
      go_wp2_with (at_next; refine wpList_next_ranges _ rfl _ rfl 9 strKeyed heldR Value.string (fun v : Value => v) (fun key kl h => by obtain ⟨s, rfl, _⟩ := keyS_inv Tryd.underlying9 h; exact ⟨s, rfl⟩) (fun v y _ => ⟨v, rfl⟩) b w1.heap.size (size M) D left cnt rfl hrgo ?_ (fun x c kl y w' cnt' _ _ _ _ _ hlt' => absurd hlt' (by omega)); intro hc0 hl0)
      refine (Hnames.out hl0).mono ?_
      rintro e w2 ⟨v2, rfl, hv2, hb2⟩
      have Hv2 := Lib.hid hv2; have Hb2 := Lib.hid hb2; clear hv2 hb2
      go_wp2_with fail
      go_ret
      refine ⟨L, fun s => ?_, v2, rfl, Hv2.out, Hb1.out.trans ((hbx.out.trans (Hb2.out.mono hbx.out.size)).mono Hb1.out.size)⟩
      rw [hrl.out s, hl0]; simp
    · go_upto_if 23 with (first
        | (at_next; refine wpList_next_ranges _ rfl _ rfl 9 strKeyed heldR Value.string (fun v : Value => v) (fun key kl h => by obtain ⟨s, rfl, _⟩ := keyS_inv Tryd.underlying9 h; exact ⟨s, rfl⟩) (fun v y _ => ⟨v, rfl⟩) b w1.heap.size (size M) D left cnt rfl hrgo (fun h0 => absurd h0 hc) ?_; intro x c kl y w3 cnt3 hkx hlk hv hat hrg3 hlt3 hg3 hs3 hen; obtain ⟨rfl, hxs⟩ := keyS_of hkx; obtain ⟨cel, ⟨s, rfl, hs⟩, hatM⟩ := entry_cel Hal.out hv hat; have hb3 := hbx.out.grown hg3 hbx.out.size (fun k hk => by cases hk; exact Nat.le_refl _); have Hs := Lib.hid (hs.below hb3 (Nat.le_refl _)); obtain ⟨as1, cs1, rfl, _⟩ := hs; have Hb3 := Lib.hid hb3; have Hg3 := Lib.hid hg3; have Hrg3 := Lib.hid hrg3; have Hlk := Lib.hid hlk; have HatM := Lib.hid hatM; have Hxs := Lib.hid hxs; have Hlt3 := Lib.hid hlt3; clear hb3 hrg3 hlk hat hatM hxs hlt3 hkx hv hg3 hs3)
        | (go_at_call 34; refine (cell_now cel _ _ (Hs.out.below ((Below.refl _ _).alloc (Nat.le_refl _) _) (Nat.le_refl _)) ?len).mono ?_; (case len => have hh := Maps.has_true_of_atKey HatM.out; obtain ⟨p', c', _, h2, h3, _⟩ := HG.out.cells _ hh; have := (HatM.out .nil).symm.trans h2; injection this with this; subst this; have := may_len h3; omega); rintro e w4 ⟨rfl, hb4⟩; have Hb4 := Lib.hid hb4; clear hb4)
        | fail)
      have hrow4 : w4.ownsRow (w1.heap.size + 1) 9 1 (.slice a5 L.length c5) L.length (L.map Value.string) := ownBelow (ownBelow (ownGrown hrow.out Hg3.out (Nat.lt_succ_self _)) ((Below.refl _ _).alloc (Nat.le_refl _) _)) Hb4.out
      have hrg4 := (Hrg3.out.alloc (.cells #[.int .u64 cel.last, .slice as1 cel.l.length cs1] 62)).kept (belowGrown Hb4.out) (by simp) (by simp)
      have hbx4 : Below w1.heap.size w1 w4 := (Hb3.out.alloc Hb3.out.size _).trans (Hb4.out.mono (Hb3.out.alloc Hb3.out.size _).size)
      have hMx := Maps.has_true_of_atKey HatM.out
      have Hrow4 := Lib.hid hrow4; have Hrg4 := Lib.hid hrg4; have Hbx4 := Lib.hid hbx4; have HMx := Lib.hid hMx
      clear hrow4 hrg4 hbx4 hMx
      by_cases hn : 0 < nowC cel
      · have hn' : (0 : Int) < (nowC cel : Int) := by omega
        have hll := hle.out
        have hll2 := Hlt3.out
        have hL1 : L.length + 1 ≤ 1073741824 := by omega
        have Hcnt : Hid (L.length + 1 + cnt3 ≤ size M) := Lib.hid (by omega)
        clear hll hll2
        go_wp2_with (first
          | (at_builtin; refine wpList_append_own _ rfl (.tmp 24) (.tmp 26) 25 rfl (w1.heap.size + 1) 9 i0 (.string ByteArray.empty) 1 16 Tryd.underlying25 hi hz0 hz1 hz2 rfl (by decide) _ _ _ rfl (ownBelow Hrow4.out ((Below.refl _ _).alloc (Nat.le_refl _) _)) ⟨w4.heap.size, 0, none⟩ 1 1 [.string x] rfl rfl (World.news_of_block (MapKept.heap_alloc _ _).1) (by intro u hu; rcases List.mem_singleton.1 hu with rfl; rfl) (by unfold maxLen; omega) (by omega) ?hbase ?go; (case hbase => have h1 := Hrg4.out.lt; simp; omega); intro v5 w5 hown5 hg5 _)
          | fail)
        obtain ⟨a6, c6, rfl⟩ := ownShape hown5
        go_roundw
        case rel =>
          refine ⟨_, cnt3, L ++ [x], ⟨a6, c6, by rw [List.length_append]; rfl⟩, Lib.hid ((Hrg4.out.alloc _).kept hg5 ?_ ?_), Lib.hid (hrl.out.step HMx.out HatM.out Hlk.out hn), Lib.hid ?_, Lib.hid ?_, Lib.hid ((Hbx4.out.alloc Hbx4.out.size _).grown hg5 (Hbx4.out.alloc Hbx4.out.size _).size (fun k hk => by have := ownAbove Hrow4.out k hk; omega))⟩
          · intro e; have := ownAbove Hrow4.out _ e.symm; have := hownD.lt; omega
          · intro e; have := ownAbove Hrow4.out _ e.symm; omega
          · rw [List.length_append, List.map_append]; exact hown5
          · rw [List.length_append]; exact Hcnt.out
        case measure => rw [((Hrg4.out.alloc _).kept hg5 (by intro e; have := ownAbove Hrow4.out _ e.symm; have := hownD.lt; omega) (by intro e; have := ownAbove Hrow4.out _ e.symm; omega)).left_eq, hrg.out.left_eq]; exact Hlt3.out
      · have hn0 : nowC cel = 0 := by omega
        have hn' : ¬ (0 : Int) < (nowC cel : Int) := by omega
        have Hcnt : Hid (L.length + cnt3 ≤ size M) := Lib.hid (by have := hle.out; have := Hlt3.out; omega)
        go_wp2_with fail
        go_roundw
        case rel => exact ⟨_, cnt3, L, ⟨a5, c5, rfl⟩, Hrg4, Lib.hid (hrl.out.skip HMx.out HatM.out Hlk.out hn0), Hrow4, Hcnt, Hbx4⟩
        case measure => rw [Hrg4.out.left_eq, hrg.out.left_eq]; exact Hlt3.out
end Go.Proofs.YtbmmabpglkojkaaDoor
