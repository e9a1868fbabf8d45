/- Contract: cell.Read. Contract: cell.Destroy. Maps with text keys whose elements are held as they are: what such a map holds, key by key. Plain mathematics of paths: splitting at slashes, pieces, under, child. No program is named here. DERIVED: THE SHELF's CONTRACTS AT THIS DUMP, IN PLAIN WORDS (tools/lay-plain.mjs out of 'TryzShelf.lean', which tools/lay-shelf.mjs wrote): THE SAME DECLARATIONS UNDER THE SAME NAMES: 'import', 'namespace', 'open', 'def', 'theorem' AND NOTHING ELSE: no command of the shelf's: FOR A HAND-IN. Each laying: the table of numbers ('.._ren') and one theorem, a field a fact of the dump's own or the kernel's comparison; each contract: ONE APPLICATION. Contracts for package path: piece and its closure, the library's ContainsFunc at it, Pieces, May, Prefix, Under, Child. Contracts for package path: Pieces, May, Prefix, Under, Child. -/
import Derived.Test.YtfbgnpfhjbiikaaGreatDoorQp00
import Derived.Maps.OwnSet
import Derived.Maps.Ext
import Derived.Maps.RangeWalk
import Derived.Lib.SlMapEqual
import Derived.Lib.SlMapMerge
import Derived.StringKeys
import Derived.Lib.Split
import Derived.Shelf.SlIter.Nil
import Derived.Shelf.SortM.Plain
import Derived.Shelf.SortM.SortNone
import Derived.Ground.GgzProg
import Derived.Ground.SlgmProg
import Derived.Shelf.Small.Bits
import Derived.Shelf.Small.Strs
import Derived.Shelf.Utf8.RuneCount
import Derived.Shelf.Strconv.Itoa0
import Derived.Shelf.Strings.Search1
import Derived.Shelf.Strings.Search2
import Derived.Shelf.Strings.Search3
import Derived.Shelf.Strings.Count
import Derived.Shelf.LaysM
import Derived.Shelf.Strings.Shaped
import Derived.Shelf.Sort.Plain
import Derived.Shelf.GgClosure.StringsIndexFunc
import Derived.Ground.GgwProg
import Derived.Shelf.GgClosure.StringsIndexFuncTop
import Derived.Shelf.GgClosure.StringsRunes
import Derived.Shelf.Strings.Prefix
import Derived.Shelf.Strings.Split
import Derived.Shelf.Strings.SplitShaped
import Derived.Shelf.Unicode.Decode
import Derived.Shelf.Strings.RuneCount
import Derived.Shelf.Strings.Explode
import Derived.Shelf.Unicode.DecodeSlow
import Derived.Shelf.Unicode.DecodeAny
import Derived.Shelf.Strings.FuncGrows
import Derived.Shelf.Slices.In.SortNone
import Derived.Ground.SlgfProg
import Derived.Shelf.SlicesE.IndexFunc
import Derived.Ground.SlsfProg
import Derived.Shelf.SlSortCmp.Insertion
import Derived.Shelf.SlSortCmp.Insertion1
import Derived.Test.YtfbgnpfhjbiikaaGreatDoorProg
import Derived.Lib.DecodeN
namespace Go.Proofs.YtfbgnpfhjbiikaaGreatDoor
open Go Go.RowKit
def readE (c : Cel) (n : Nat) : Ver × Nat :=
  if n = 0 ∧ nowC c = 0 ∧ mayC c = true then (dV, 3) else
    if (findE c (if n = 0 then nowC c else n)).2 ≠ 0 then (dV, (findE c (if n = 0 then nowC c else n)).2) else (c.l.getD (findE c (if n = 0 then nowC c else n)).1 dV, 0)
theorem findE_lt {c : Cel} {n : Nat} (h : (findE c n).2 = 0) : (findE c n).1 < c.l.length := by
  unfold findE at h ⊢
  split at h
  · simp at h
  rename_i h1
  rw [if_neg h1]
  split at h
  · simp at h
  rename_i h2
  rw [if_neg h2]
  split at h
  · simp at h
  rename_i h3
  rw [if_neg h3]
  rcases idxV_cases c.l n with e | ⟨k, e, hk⟩
  · rw [e] at h2; exact absurd (by decide) h2
  · rw [e]; simpa using hk
theorem idxV_at {l : List Ver} {n k : Nat} (h : idxV l n = k) : (l.getD k dV).n = n := by
  unfold idxV at h
  split at h
  · rename_i hk
    have hk' : l.findIdx (fun v => decide (v.n = n)) = k := by omega
    subst hk'
    have := List.findIdx_getElem (w := hk)
    rw [List.getD_eq_getElem?_getD, List.getElem?_eq_getElem hk]
    simpa using this
  · omega
theorem findE_n {c : Cel} {n : Nat} (h : (findE c n).2 = 0) : (c.l.getD (findE c n).1 dV).n = n := by
  unfold findE at h ⊢
  split at h
  · simp at h
  rename_i h1
  rw [if_neg h1]
  split at h
  · simp at h
  rename_i h2
  rw [if_neg h2]
  split at h
  · simp at h
  rename_i h3
  rw [if_neg h3]
  rcases idxV_cases c.l n with e | ⟨k, e, hk⟩
  · rw [e] at h2; exact absurd (by decide) h2
  · rw [e]; exact idxV_at e
def destroyE (c : Cel) (n : Nat) : Cel × Nat :=
  if (findE c n).2 ≠ 0 then (c, (findE c n).2) else (⟨c.last, c.l.set (findE c n).1 ⟨n, 3, ByteArray.empty⟩⟩, 0)
set_option maxRecDepth 100000 in
set_option maxHeartbeats 2000000 in
theorem cell_read (c : Cel) (v : Value) (n : Nat) (w : World) (hv : IsVers w v c.l) (hl : c.l.length ≤ 65536) :
    Calls Tryz.prog 54 #[.agg #[.int .u64 c.last, v], .int .u64 n] w fun e w' => e = .returned (.tuple #[verVal (readE c n).1, .int .i64 (readE c n).2]) ∧ Below w.heap.size w w' := by
  have Hr : Hid (readE c n = if n = 0 ∧ nowC c = 0 ∧ mayC c = true then (dV, 3) else
    if (findE c (if n = 0 then nowC c else n)).2 ≠ 0 then (dV, (findE c (if n = 0 then nowC c else n)).2) else (c.l.getD (findE c (if n = 0 then nowC c else n)).1 dV, 0)) := Lib.hid rfl
  generalize readE c n = r at Hr
  have Hmay := Lib.hid (fun (v : Value) (w : World) (h : IsVers w v c.l) => (cell_may c v w h (by omega)))
  have Hnow := Lib.hid (fun (v : Value) (w : World) (h : IsVers w v c.l) => (cell_now c v w h (by omega)))
  have Hfind := Lib.hid (fun (k : Nat) (v : Value) (w : World) (h : IsVers w v c.l) => (cell_find c v k w h hl))
  have Hfind0 : Hid (∀ (v : Value) (w : World), IsVers w v c.l → Calls Tryz.prog 83 #[.agg #[.int .u64 c.last, v], .int .u64 0] w fun e w' => e = .returned (.tuple #[.int .i64 (findE c 0).1, .int .i64 (findE c 0).2]) ∧ Below w.heap.size w w') := Lib.hid (fun v w h => cell_find c v 0 w h hl)
  have Hlt := Lib.hid (fun (k : Nat) (h : (findE c k).2 = 0) => findE_lt h)
  generalize findE c = F at Hr Hfind Hfind0 Hlt
  generalize mayC c = y at Hr Hmay
  generalize nowC c = m at Hr Hnow
  obtain ⟨cl, L⟩ := c
  simp only at hv hl Hmay Hnow Hfind Hfind0 Hlt Hr ⊢
  have hv2 := hv
  obtain ⟨a, cap, rfl, hc⟩ := hv2
  have HC := Lib.hid hc; clear hc
  have Hv := Lib.hid hv; clear hv
  go_enter Tryz.func54, Tryz.ntmps54
  go_upto_region 1 with fail
  refine wp_abs (F := Two w #[.int .u64 cl, .slice a L.length cap] #[.int .u64 0, .int .u8 0, .string ByteArray.empty]) (Two.of w _ _ _ _) ?_
  intro W T
  have q0 := T.c1 0
  have q1 := T.c1 1
  have T := Lib.hid T
  simp at q0 q1
  by_cases hn : n = 0
  · have hB : ((n : Int) == 0) = true := by simp [hn]
    by_cases hm : m = 0
    · have hM : ((m : Int) == 0) = true := by simp [hm]
      cases y with
      | true =>
        obtain rfl : r = (dV, 3) := by rw [Hr.out, if_pos ⟨hn, hm, rfl⟩]
        go_wp2_with fail
        refine (Hnow.out _ _ ?_).mono ?_
        · exact Hv.out.below T.out.b (Nat.le_refl _)
        rintro e w1 ⟨rfl, hb1⟩
        have T1 := Lib.hid (T.out.step hb1)
        clear q0 q1 hb1
        have q0 := T1.out.c1 0
        have q1 := T1.out.c1 1
        simp at q0 q1
        go_wp2_with fail
        refine (Hmay.out _ _ ?_).mono ?_
        · exact Hv.out.below T1.out.b (Nat.le_refl _)
        rintro e w2 ⟨rfl, hb2⟩
        have T2 := Lib.hid (T1.out.step hb2)
        clear q0 q1 hb2
        have q0 := T2.out.c1 0
        have q1 := T2.out.c1 1
        simp at q0 q1
        have z0 := T2.out.c2 0; have z1 := T2.out.c2 1; have z2 := T2.out.c2 2
        have g0 := T2.out.f2 0; have g1 := T2.out.f2 1; have g2 := T2.out.f2 2
        simp at z0 z1 z2
        go_wp2_with fail
        refine bodyPost_ret (v := .tuple #[verVal dV, .int .i64 3]) ?_ rfl ⟨rfl, ?_⟩
        · simp [results, Tryz.results54, go_sem, z0, z1, z2, verVal, dV]; rfl
        · have hz := T2.out.sz
          refine ((T2.out.b.setCell ?_ _).setCell ?_ _).setCell ?_ _ <;> dsimp only <;> omega
      | false =>
        subst hm
        have Hr2 : Hid (r = if (F 0).2 ≠ 0 then (dV, (F 0).2) else (L.getD (F 0).1 dV, 0)) := Lib.hid (by rw [Hr.out, if_neg (by simp), if_pos hn])
        go_wp2_with fail
        refine (Hnow.out _ _ ?_).mono ?_
        · exact Hv.out.below T.out.b (Nat.le_refl _)
        rintro e w1 ⟨rfl, hb1⟩
        have T1 := Lib.hid (T.out.step hb1)
        clear q0 q1 hb1
        have q0 := T1.out.c1 0
        have q1 := T1.out.c1 1
        simp at q0 q1
        go_wp2_with fail
        refine (Hmay.out _ _ ?_).mono ?_
        · exact Hv.out.below T1.out.b (Nat.le_refl _)
        rintro e w2 ⟨rfl, hb2⟩
        have T2 := Lib.hid (T1.out.step hb2)
        clear q0 q1 hb2
        have q0 := T2.out.c1 0
        have q1 := T2.out.c1 1
        simp at q0 q1
        go_wp2_with fail
        refine (Hfind0.out _ _ ?_).mono ?_
        · exact Hv.out.below T2.out.b (Nat.le_refl _)
        rintro e w5 ⟨rfl, hb5⟩
        have T5 := Lib.hid (T2.out.step hb5)
        clear q0 q1 hb5
        have q0 := T5.out.c1 0
        have q1 := T5.out.c1 1
        have z0 := T5.out.c2 0; have z1 := T5.out.c2 1; have z2 := T5.out.c2 2
        have g0 := T5.out.f2 0; have g1 := T5.out.f2 1; have g2 := T5.out.f2 2
        simp at q0 q1 z0 z1 z2
        have hlt := Hlt.out 0
        obtain ⟨p, hp⟩ : ∃ p, p = F 0 := ⟨_, rfl⟩
        rw [← hp] at Hr2 hlt ⊢
        clear hp
        obtain ⟨i, e0⟩ := p
        simp only at Hr2 hlt ⊢
        by_cases he : e0 = 0
        · subst he
          have hi := hlt rfl
          clear hlt
          rcases HC.out with hnn | ⟨b, off, rfl, hblt, hcc⟩
          · subst hnn; simp at hi
          obtain ⟨h1, h2, h3⟩ := hcc i hi
          have k1 := (T5.out.b.cell (p := ⟨b, off + i * 3, none⟩) hblt).trans h1
          have k2 := (T5.out.b.cell (p := ⟨b, off + i * 3 + 1, none⟩) hblt).trans h2
          have k3 := (T5.out.b.cell (p := ⟨b, off + i * 3 + 2, none⟩) hblt).trans h3
          clear h1 h2 h3 hcc
          obtain ⟨x, hx⟩ : ∃ x, x = L.getD i dV := ⟨_, rfl⟩
          rw [← hx] at k1 k2 k3
          obtain rfl : r = (x, 0) := by rw [Hr2.out, if_neg (by simp), hx]
          clear hx
          go_wp2_with fail
          refine bodyPost_ret (v := .tuple #[verVal x, .int .i64 0]) ?_ rfl ⟨rfl, ?_⟩
          · simp [results, Tryz.results54, go_sem, z0, z1, z2, verVal]
          · have hz := T5.out.sz
            refine ((T5.out.b.setCell ?_ _).setCell ?_ _).setCell ?_ _ <;> dsimp only <;> omega
        · have hE : ((e0 : Int) != 0) = true := by simp [bne, he]
          have hE2 : ¬ (e0 : Int) = 0 := by omega
          obtain rfl : r = (dV, e0) := by rw [Hr2.out, if_pos he]
          go_wp2_with fail
          refine bodyPost_ret (v := .tuple #[verVal dV, .int .i64 e0]) ?_ rfl ⟨rfl, ?_⟩
          · simp [results, Tryz.results54, go_sem, z0, z1, z2, verVal, dV]; rfl
          · have hz := T5.out.sz
            refine ((T5.out.b.setCell ?_ _).setCell ?_ _).setCell ?_ _ <;> dsimp only <;> omega
    · have hM : ((m : Int) == 0) = false := by rw [beq_eq_false_iff_ne]; omega
      have Hr2 : Hid (r = if (F m).2 ≠ 0 then (dV, (F m).2) else (L.getD (F m).1 dV, 0)) := Lib.hid (by rw [Hr.out, if_neg (by simp [hm]), if_pos hn])
      go_wp2_with fail
      refine (Hnow.out _ _ ?_).mono ?_
      · exact Hv.out.below T.out.b (Nat.le_refl _)
      rintro e w1 ⟨rfl, hb1⟩
      have T1 := Lib.hid (T.out.step hb1)
      clear q0 q1 hb1
      have q0 := T1.out.c1 0
      have q1 := T1.out.c1 1
      simp at q0 q1
      go_wp2_with fail
      refine (Hfind.out m _ _ ?_).mono ?_
      · exact Hv.out.below T1.out.b (Nat.le_refl _)
      rintro e w5 ⟨rfl, hb5⟩
      have T5 := Lib.hid (T1.out.step hb5)
      clear q0 q1 hb5
      have q0 := T5.out.c1 0
      have q1 := T5.out.c1 1
      have z0 := T5.out.c2 0; have z1 := T5.out.c2 1; have z2 := T5.out.c2 2
      have g0 := T5.out.f2 0; have g1 := T5.out.f2 1; have g2 := T5.out.f2 2
      simp at q0 q1 z0 z1 z2
      have hlt := Hlt.out m
      obtain ⟨p, hp⟩ : ∃ p, p = F m := ⟨_, rfl⟩
      rw [← hp] at Hr2 hlt ⊢
      clear hp
      obtain ⟨i, e0⟩ := p
      simp only at Hr2 hlt ⊢
      by_cases he : e0 = 0
      · subst he
        have hi := hlt rfl
        clear hlt
        rcases HC.out with hnn | ⟨b, off, rfl, hblt, hcc⟩
        · subst hnn; simp at hi
        obtain ⟨h1, h2, h3⟩ := hcc i hi
        have k1 := (T5.out.b.cell (p := ⟨b, off + i * 3, none⟩) hblt).trans h1
        have k2 := (T5.out.b.cell (p := ⟨b, off + i * 3 + 1, none⟩) hblt).trans h2
        have k3 := (T5.out.b.cell (p := ⟨b, off + i * 3 + 2, none⟩) hblt).trans h3
        clear h1 h2 h3 hcc
        obtain ⟨x, hx⟩ : ∃ x, x = L.getD i dV := ⟨_, rfl⟩
        rw [← hx] at k1 k2 k3
        obtain rfl : r = (x, 0) := by rw [Hr2.out, if_neg (by simp), hx]
        clear hx
        go_wp2_with fail
        refine bodyPost_ret (v := .tuple #[verVal x, .int .i64 0]) ?_ rfl ⟨rfl, ?_⟩
        · simp [results, Tryz.results54, go_sem, z0, z1, z2, verVal]
        · have hz := T5.out.sz
          refine ((T5.out.b.setCell ?_ _).setCell ?_ _).setCell ?_ _ <;> dsimp only <;> omega
      · have hE : ((e0 : Int) != 0) = true := by simp [bne, he]
        have hE2 : ¬ (e0 : Int) = 0 := by omega
        obtain rfl : r = (dV, e0) := by rw [Hr2.out, if_pos he]
        go_wp2_with fail
        refine bodyPost_ret (v := .tuple #[verVal dV, .int .i64 e0]) ?_ rfl ⟨rfl, ?_⟩
        · simp [results, Tryz.results54, go_sem, z0, z1, z2, verVal, dV]; rfl
        · have hz := T5.out.sz
          refine ((T5.out.b.setCell ?_ _).setCell ?_ _).setCell ?_ _ <;> dsimp only <;> omega
  · have hB : ((n : Int) == 0) = false := by rw [beq_eq_false_iff_ne]; omega
    have Hr2 : Hid (r = if (F n).2 ≠ 0 then (dV, (F n).2) else (L.getD (F n).1 dV, 0)) := Lib.hid (by rw [Hr.out, if_neg (by simp [hn]), if_neg hn])
    go_wp2_with fail
    refine (Hfind.out n _ _ ?_).mono ?_
    · exact Hv.out.below T.out.b (Nat.le_refl _)
    rintro e w5 ⟨rfl, hb5⟩
    have T5 := Lib.hid (T.out.step hb5)
    clear q0 q1 hb5
    have q0 := T5.out.c1 0
    have q1 := T5.out.c1 1
    have z0 := T5.out.c2 0; have z1 := T5.out.c2 1; have z2 := T5.out.c2 2
    have g0 := T5.out.f2 0; have g1 := T5.out.f2 1; have g2 := T5.out.f2 2
    simp at q0 q1 z0 z1 z2
    have hlt := Hlt.out n
    obtain ⟨p, hp⟩ : ∃ p, p = F n := ⟨_, rfl⟩
    rw [← hp] at Hr2 hlt ⊢
    clear hp
    obtain ⟨i, e0⟩ := p
    simp only at Hr2 hlt ⊢
    by_cases he : e0 = 0
    · subst he
      have hi := hlt rfl
      clear hlt
      rcases HC.out with hnn | ⟨b, off, rfl, hblt, hcc⟩
      · subst hnn; simp at hi
      obtain ⟨h1, h2, h3⟩ := hcc i hi
      have k1 := (T5.out.b.cell (p := ⟨b, off + i * 3, none⟩) hblt).trans h1
      have k2 := (T5.out.b.cell (p := ⟨b, off + i * 3 + 1, none⟩) hblt).trans h2
      have k3 := (T5.out.b.cell (p := ⟨b, off + i * 3 + 2, none⟩) hblt).trans h3
      clear h1 h2 h3 hcc
      obtain ⟨x, hx⟩ : ∃ x, x = L.getD i dV := ⟨_, rfl⟩
      rw [← hx] at k1 k2 k3
      obtain rfl : r = (x, 0) := by rw [Hr2.out, if_neg (by simp), hx]
      clear hx
      go_wp2_with fail
      refine bodyPost_ret (v := .tuple #[verVal x, .int .i64 0]) ?_ rfl ⟨rfl, ?_⟩
      · simp [results, Tryz.results54, go_sem, z0, z1, z2, verVal]
      · have hz := T5.out.sz
        refine ((T5.out.b.setCell ?_ _).setCell ?_ _).setCell ?_ _ <;> dsimp only <;> omega
    · have hE : ((e0 : Int) != 0) = true := by simp [bne, he]
      have hE2 : ¬ (e0 : Int) = 0 := by omega
      obtain rfl : r = (dV, e0) := by rw [Hr2.out, if_pos he]
      go_wp2_with fail
      refine bodyPost_ret (v := .tuple #[verVal dV, .int .i64 e0]) ?_ rfl ⟨rfl, ?_⟩
      · simp [results, Tryz.results54, go_sem, z0, z1, z2, verVal, dV]; rfl
      · have hz := T5.out.sz
        refine ((T5.out.b.setCell ?_ _).setCell ?_ _).setCell ?_ _ <;> dsimp only <;> omega
end Go.Proofs.YtfbgnpfhjbiikaaGreatDoor

namespace Go.Proofs.YtfbgnpfhjbiikaaGreatDoor
open Go Go.RowKit
theorem ownSet3 {w : World} {B e g cap i : Nat} {l : List Ver} (h : w.ownsRow B e 3 (.slice (some ⟨g, 0, none⟩) l.length cap) l.length (flat l)) (hi : i < l.length) (x : Ver) :
    IsVers (((w.setCell ⟨g, i * 3, none⟩ (.int .u64 x.n)).setCell ⟨g, i * 3 + 1, none⟩ (.int .u8 x.st)).setCell ⟨g, i * 3 + 2, none⟩ (.string x.tx)) (.slice (some ⟨g, 0, none⟩) l.length cap) (l.set i x) := by
  have hg : g < w.heap.size := by
    rcases h.2 with ⟨hv, _⟩ | ⟨g', cap'', cur, hv, hB, hg, _⟩
    · cases hv
    · cases hv; exact lt_of_block hg
  refine ⟨some ⟨g, 0, none⟩, cap, by simp, Or.inr ⟨g, 0, rfl, by simpa using hg, fun j hj => ?_⟩⟩
  rw [List.length_set] at hj
  obtain ⟨f1, f2, f3⟩ := flat_at l j hj
  obtain ⟨a1, a2, a3⟩ := flat_at l i hi
  have c1 := World.ownsRow.cellAt h (j * 3) (by omega)
  have c2 := World.ownsRow.cellAt h (j * 3 + 1) (by omega)
  have c3 := World.ownsRow.cellAt h (j * 3 + 2) (by omega)
  have b1 := World.ownsRow.cellAt h (i * 3) (by omega)
  have b2 := World.ownsRow.cellAt h (i * 3 + 1) (by omega)
  have b3 := World.ownsRow.cellAt h (i * 3 + 2) (by omega)
  rw [f1] at c1; rw [f2] at c2; rw [f3] at c3
  rw [a1] at b1; rw [a2] at b2; rw [a3] at b3
  clear f1 f2 f3 a1 a2 a3
  simp only [Nat.zero_add]
  have no : ∀ (W : World) (p q : Nat) (v : Value), p ≠ q → (W.setCell ⟨g, p, none⟩ v).cell? ⟨g, q, none⟩ = W.cell? ⟨g, q, none⟩ := fun W p q v hpq => World.cell?_setCell_other _ _ _ _ (by intro e; injection e with _ e; exact hpq e)
  by_cases e : i = j
  · subst e
    have hs : (l.set i x).getD i dV = x := by simp [List.getD_eq_getElem?_getD, hi]
    rw [hs]
    refine ⟨?_, ?_, ?_⟩
    · rw [no _ _ _ _ (by omega), no _ _ _ _ (by omega)]
      exact World.cell?_setCell_same' _ _ _ (by rw [b1]; rfl)
    · rw [no _ _ _ _ (by omega)]
      exact World.cell?_setCell_same' _ _ _ (by rw [no _ _ _ _ (by omega), b2]; rfl)
    · exact World.cell?_setCell_same' _ _ _ (by rw [no _ _ _ _ (by omega), no _ _ _ _ (by omega), b3]; rfl)
  · have hs : (l.set i x).getD j dV = l.getD j dV := by simp [List.getD_eq_getElem?_getD, e]
    rw [hs]
    refine ⟨?_, ?_, ?_⟩
    · rw [no _ _ _ _ (by omega), no _ _ _ _ (by omega), no _ _ _ _ (by omega)]; exact c1
    · rw [no _ _ _ _ (by omega), no _ _ _ _ (by omega), no _ _ _ _ (by omega)]; exact c2
    · rw [no _ _ _ _ (by omega), no _ _ _ _ (by omega), no _ _ _ _ (by omega)]; exact c3
theorem ownFrozen {w : World} {B e g cap n k : Nat} {xs : List Value} (h : w.ownsRow B e k (.slice (some ⟨g, 0, none⟩) n cap) n xs) (j : Nat) : w.frozen? ⟨g, j, none⟩ = false := by
  rcases h.2 with ⟨hv, _⟩ | ⟨g', cap'', cur, hv, hB, hg, _⟩
  · cases hv
  · cases hv; unfold World.frozen?; rw [hg]; simp

set_option maxRecDepth 100000 in
set_option maxHeartbeats 2000000 in
theorem cell_destroy (c : Cel) (v : Value) (n : Nat) (w : World) (hv : IsVers w v c.l) (hl : c.l.length ≤ 65536) :
    Calls Tryz.prog 112 #[.agg #[.int .u64 c.last, v], .int .u64 n] w (CelErr (destroyE c n) w) := by
  have Hr : Hid (destroyE c n = if (findE c n).2 ≠ 0 then (c, (findE c n).2) else (⟨c.last, c.l.set (findE c n).1 ⟨n, 3, ByteArray.empty⟩⟩, 0)) := Lib.hid rfl
  generalize destroyE c n = r at Hr
  have Hkept := Lib.hid (fun (v : Value) (w : World) (h : IsVers w v c.l) => (cell_kept c v w h (by omega)))
  have Hfind := Lib.hid (fun (v : Value) (w : World) (h : IsVers w v c.l) => (cell_find c v n w h hl))
  have Hlt := Lib.hid (fun (h : (findE c n).2 = 0) => findE_lt h)
  generalize findE c n = p at Hr Hfind Hlt
  obtain ⟨i, e0⟩ := p
  obtain ⟨cl, L⟩ := c
  simp only at hv hl Hkept Hfind Hlt Hr ⊢
  have hv2 := hv
  obtain ⟨a, cap, rfl, hc⟩ := hv2
  clear hc
  have Hv := Lib.hid hv; clear hv
  go_enter Tryz.func112, Tryz.ntmps112
  go_upto_region 1 with fail
  refine wp_abs (F := Two w #[.int .u64 cl, .slice a L.length cap] #[.int .u64 0, .slice none 0 0]) (Two.of w _ _ _ _) ?_
  intro W T
  have q0 := T.c1 0
  have q1 := T.c1 1
  have T := Lib.hid T
  simp at q0 q1
  go_wp2_with fail
  refine (Hfind.out _ _ ?_).mono ?_
  · exact Hv.out.below T.out.b (Nat.le_refl _)
  rintro e w1 ⟨rfl, hb1⟩
  have T1 := Lib.hid (T.out.step hb1)
  clear q0 q1 hb1
  have q0 := T1.out.c1 0
  have q1 := T1.out.c1 1
  have f0 := T1.out.f1 0
  have f1 := T1.out.f1 1
  simp at q0 q1
  by_cases he : e0 = 0
  · have hE : ((e0 : Int) != 0) = false := by simp [he]
    have hi := Hlt.out he
    obtain rfl : r = (⟨cl, L.set i ⟨n, 3, ByteArray.empty⟩⟩, 0) := by rw [Hr.out, if_neg (by simp [he])]
    clear he
    go_wp2_with fail
    refine (Hkept.out _ _ ?_).mono ?_
    · exact Hv.out.below T1.out.b (Nat.le_refl _)
    rintro e w2 ⟨v1, rfl, hown, hb2⟩
    obtain ⟨g, c1, rfl⟩ : ∃ g c1, v1 = .slice (some ⟨g, 0, none⟩) L.length c1 := by
      rcases hown.2 with ⟨hv, hn⟩ | ⟨g', cap'', cur, hv, _⟩
      · simp only at hn; rw [hn] at hi; simp at hi
      · exact ⟨_, _, hv⟩
    have T2 := T1.out.step hb2
    have hsz1 := T1.out.sz
    have hgB : w1.heap.size ≤ g := ownAbove hown g rfl
    have q0 := T2.c1 0; have q1 := T2.c1 1
    have f0 := T2.f1 0; have f1 := T2.f1 1
    have z0 := T2.c2 0; have z1 := T2.c2 1; have g0 := T2.f2 0; have g1 := T2.f2 1
    simp at q0 q1 z0 z1
    obtain ⟨x1, x2, x3⟩ := flat_at L i hi
    have k1 := World.ownsRow.cellAt hown (i * 3) (by omega)
    have k2 := World.ownsRow.cellAt hown (i * 3 + 1) (by omega)
    have k3 := World.ownsRow.cellAt hown (i * 3 + 2) (by omega)
    rw [x1] at k1; rw [x2] at k2; rw [x3] at k3
    clear x1 x2 x3
    have y1 := ownFrozen hown (i * 3)
    have y2 := ownFrozen hown (i * 3 + 1)
    have y3 := ownFrozen hown (i * 3 + 2)
    have hne : ¬ g = w.heap.size := by omega
    have hne1 : ¬ g = w.heap.size + 1 := by omega
    have hne2 : ¬ w.heap.size = g := by omega
    have hne3 : ¬ w.heap.size + 1 = g := by omega
    have hi2 : (i : Int) < (L.length : Int) := by omega
    have Hown := Lib.hid hown; clear hown
    have T2 := Lib.hid T2; have Hb2 := Lib.hid hb2; clear hb2
    go_wp2_with fail
    refine bodyPost_ret (v := .tuple #[.agg #[.int .u64 cl, .slice (some ⟨g, 0, none⟩) L.length c1], .int .i64 0]) ?_ rfl ⟨.slice (some ⟨g, 0, none⟩) L.length c1, rfl, ?_, ?_, ?_⟩
    · simp [results, Tryz.results112, go_sem, z0, z1]
    · have o3 := ownsRow_setCell_below (ownsRow_setCell_below Hown.out (a := ⟨w.heap.size, 0, none⟩) (by dsimp only; omega) (.int .u64 cl)) (a := ⟨w.heap.size, 1, none⟩) (by dsimp only; omega) (.slice (some ⟨g, 0, none⟩) L.length c1)
      refine ((ownSet3 o3 hi ⟨n, 3, ByteArray.empty⟩).setFar (p := ⟨w.heap.size + 1, 0, none⟩) ?_ _).setFar (p := ⟨w.heap.size + 1, 1, none⟩) ?_ _ <;> (intro k hk; cases hk; dsimp only; omega)
    · intro k hk; cases hk; dsimp only; omega
    · refine (((((((T2.out.b.setCell ?_ _).setCell ?_ _).setCell ?_ _).setCell ?_ _).setCell ?_ _).setCell ?_ _).setCell ?_ _) <;> dsimp only <;> omega
  · have hE : ((e0 : Int) != 0) = true := by simp [bne, he]
    have hE2 : ¬ (e0 : Int) = 0 := by omega
    obtain rfl : r = (⟨cl, L⟩, e0) := by rw [Hr.out, if_pos he]
    go_wp2_with fail
    refine (Hkept.out _ _ ?_).mono ?_
    · exact Hv.out.below T1.out.b (Nat.le_refl _)
    rintro e w2 ⟨v1, rfl, hown, hb2⟩
    obtain ⟨a1, c1, rfl⟩ := ownShape hown
    have T2 := T1.out.step hb2
    have z0 := T2.c2 0; have z1 := T2.c2 1; have g0 := T2.f2 0; have g1 := T2.f2 1
    simp at z0 z1
    have T2 := Lib.hid T2; have Hown := Lib.hid hown; have Hb2 := Lib.hid hb2; clear hown hb2
    go_wp2_with fail
    refine bodyPost_ret (v := .tuple #[.agg #[.int .u64 cl, .slice a1 L.length c1], .int .i64 e0]) ?_ rfl ⟨_, rfl, ?_⟩
    · simp [results, Tryz.results112, go_sem, z0, z1]
    · exact T1.out.celEnd Hb2.out (IsVers.own Hown.out) (ownAbove Hown.out) _ _
end Go.Proofs.YtfbgnpfhjbiikaaGreatDoor

namespace Go.Proofs.YtfbgnpfhjbiikaaGreatDoor
open Go Go.RowKit
open Go.Maps (has size Canon CanonK Tidy IsMap KeysOf Keyed)
def heldR : Value → Option (DataW Value × List MemPlace) := fun v => some (.held v, [])
def kS (p : ByteArray) : Lit := .string p.data.toList
theorem kS_key (p : ByteArray) : WideAt.IsKeyLit (kS p) := trivial
theorem kS_inj {p q : ByteArray} (h : kS p = kS q) : p = q := by unfold kS at h; injection h with h; exact ba_ext h
theorem kS_ne {p q : ByteArray} (h : p ≠ q) : kS p ≠ kS q := fun e => h (kS_inj e)
theorem keyS {P : Program} {k : TypeId} (hk : P.underlying k = some .string) {s : ByteArray} (hs : s.size ≤ maxLen) : keyOf P k (.string s) = some (kS s) := Go.WideMaps.keyOf_string_mk hk hs
theorem keyS_inv {P : Program} {k : TypeId} (hk : P.underlying k = some .string) {v : Value} {l : Lit} (h : keyOf P k v = some l) : ∃ s : ByteArray, v = .string s ∧ l = kS s ∧ s.size ≤ maxLen := by
  cases v <;> simp [keyOf, hk, mapKey] at h
  obtain ⟨h1, rfl⟩ := h
  exact ⟨_, rfl, rfl, h1⟩

structure Alike {C : Type} (P : Program) (ks : TypeId) (G : Value → C → Prop) (D : DataW Value) (M : DataW C) : Prop where
  canon : CanonK (KeysOf P ks) M
  keys : ∀ k, has D k = has M k
  sizes : size D = size M
  vals : ∀ k, has M k = true → ∃ v c, D.atKey k .nil = .held v ∧ M.atKey k .nil = .held c ∧ G v c

def HoldsMap {C : Type} (P : Program) (ks : TypeId) (G : Value → C → Prop) (w : World) (b : Nat) (M : DataW C) : Prop :=
  ∃ D : DataW Value, w.ownsMap P ks heldR b (size M) D ∧ Alike P ks G D M

section
variable {C : Type} {P : Program} {ks : TypeId} {G : Value → C → Prop} {D : DataW Value} {M : DataW C} {w : World} {b : Nat}
theorem canonK_tidy {Kd : Lit → Prop} (h : CanonK Kd M) : Tidy M := by
  obtain ⟨es, e, hp, _⟩ := h
  exact ⟨es, e, Maps.apart_of_rising hp⟩
theorem canonK_isMap {Kd : Lit → Prop} (h : CanonK Kd M) : IsMap M := (canonK_tidy h).isMap
theorem canonK_nil (Kd : Lit → Prop) : CanonK Kd (.map [] : DataW C) := ⟨[], rfl, List.Pairwise.nil, fun p hp => by cases hp⟩

theorem Alike.put (h : Alike P ks G D M) (K : Keyed P ks) (tD : Tidy D) {k : Lit} (hk : KeysOf P ks k) {v : Value} {c : C} (hg : G v c) : Alike P ks G (D.put k (.held v)) (M.put k (.held c)) := by
  have hl := K.one.key hk
  have tM := canonK_tidy h.canon
  refine ⟨Maps.canonK_put K.one hk _ h.canon, fun k' => ?_, ?_, fun k' hk' => ?_⟩
  · by_cases e : k' = k
    · subst e; rw [Maps.has_put_same tD.isMap hl, Maps.has_put_same tM.isMap hl]
    · rw [Maps.has_put_other e, Maps.has_put_other e]; exact h.keys k'
  · rw [Maps.size_put tD, Maps.size_put tM, h.keys k, h.sizes]
  · by_cases e : k' = k
    · subst e; exact ⟨v, c, Maps.atKey_put_same tD.isMap hl _ _, Maps.atKey_put_same tM.isMap hl _ _, hg⟩
    · rw [Maps.has_put_other e] at hk'
      rw [Maps.atKey_put_other e, Maps.atKey_put_other e]; exact h.vals k' hk'
theorem Alike.mono (h : Alike P ks G D M) {G' : Value → C → Prop} (hG : ∀ v c, G v c → G' v c) : Alike P ks G' D M :=
  ⟨h.canon, h.keys, h.sizes, fun k hk => by obtain ⟨v, c, a, b, g⟩ := h.vals k hk; exact ⟨v, c, a, b, hG v c g⟩⟩

theorem own_renorm {n : Nat} (h : w.ownsMap P ks heldR b n D) : w.ownsMap P ks heldR b (size D) D := by
  obtain ⟨es, clock, hb, F, hn, rfl⟩ := h
  refine ⟨es, clock, hb, F, ?_, rfl⟩
  simp [Maps.size, length_sorted]
theorem HoldsMap.of {n : Nat} (h : w.ownsMap P ks heldR b n D) (ha : Alike P ks G D M) : HoldsMap P ks G w b M :=
  ⟨D, by rw [← ha.sizes]; exact own_renorm h, ha⟩
theorem HoldsMap.made (w : World) (P : Program) (ks : TypeId) (G : Value → C → Prop) : HoldsMap P ks G (w.alloc (.map #[] 0)) w.heap.size (.map []) :=
  ⟨_, World.ownsMap_made w P ks heldR, canonK_nil _, fun _ => rfl, rfl, fun k hk => by cases hk⟩
theorem HoldsMap.lt (h : HoldsMap P ks G w b M) : b < w.heap.size := by obtain ⟨D, h, _⟩ := h; exact h.lt
theorem HoldsMap.canon (h : HoldsMap P ks G w b M) : CanonK (KeysOf P ks) M := by obtain ⟨D, _, h⟩ := h; exact h.canon
theorem HoldsMap.move (h : HoldsMap P ks G w b M) {w' : World} (hb : w'.heap[b]? = w.heap[b]?) {G' : Value → C → Prop} (hG : ∀ v c, G v c → G' v c) : HoldsMap P ks G' w' b M := by
  obtain ⟨D, ⟨es, clock, hh, F, hn, hD⟩, ha⟩ := h
  exact ⟨D, ⟨es, clock, hb.trans hh, F, hn, hD⟩, ha.mono hG⟩
theorem HoldsMap.len (h : HoldsMap P ks G w b M) {t e : TypeId} (ht : P.underlying t = some (.map ks e)) (ty : TypeId) : (Builtin.len_ #[t] ty #[.map (some b)]).run P w = .ok (.int .i64 (size M)) w := by
  obtain ⟨D, ho, ha⟩ := h
  rw [ho.len ht ty, ha.sizes]
theorem HoldsMap.look (h : HoldsMap P ks G w b M) (K : Keyed P ks) {t e : TypeId} (ht : P.underlying t = some (.map ks e)) {z : Value} (hz : (zeroValue e).run P w = .ok z w) {p : ByteArray} (hkey : keyOf P ks (.string p) = some (kS p)) :
    (has M (kS p) = true ∧ ∃ v c, M.atKey (kS p) .nil = .held c ∧ G v c ∧ (Instr.lookup t (.map (some b)) (.string p) true).run P w = .ok (.tuple #[v, .bool true]) w ∧ (Instr.lookup t (.map (some b)) (.string p) false).run P w = .ok v w) ∨
    (has M (kS p) = false ∧ (Instr.lookup t (.map (some b)) (.string p) true).run P w = .ok (.tuple #[z, .bool false]) w ∧ (Instr.lookup t (.map (some b)) (.string p) false).run P w = .ok z w) := by
  obtain ⟨D, ho, ha⟩ := h
  obtain ⟨v1, p1, hr1, hv1⟩ := ho.look_ok K ht hz (zd := .held z) (zp := []) rfl hkey
  obtain ⟨v2, p2, hr2, hv2⟩ := ho.lookup K ht hz (zd := .held z) (zp := []) rfl hkey
  have e1 : DataW.held v1 = D.atKey (kS p) (.held z) := by simpa [heldR] using (congrArg (fun o => o.map Prod.fst) hv1)
  have e2 : DataW.held v2 = D.atKey (kS p) (.held z) := by simpa [heldR] using (congrArg (fun o => o.map Prod.fst) hv2)
  rw [ha.keys] at hr1
  cases hh : has M (kS p) with
  | true =>
    left
    obtain ⟨v, c, hv, hc, hg⟩ := ha.vals _ hh
    have hD : has D (kS p) = true := by rw [ha.keys]; exact hh
    rw [Maps.atKey_indep hD (.held z) .nil, hv] at e1 e2
    injection e1 with e1; injection e2 with e2
    subst e1; subst e2
    rw [hh] at hr1
    exact ⟨rfl, _, c, hc, hg, hr1, hr2⟩
  | false =>
    right
    have hD : has D (kS p) = false := by rw [ha.keys]; exact hh
    rw [Maps.atKey_of_not_has hD] at e1 e2
    injection e1 with e1; injection e2 with e2
    subst e1; subst e2
    rw [hh] at hr1
    exact ⟨rfl, hr1, hr2⟩
end
end Go.Proofs.YtfbgnpfhjbiikaaGreatDoor

namespace Go.Proofs.YtfbgnpfhjbiikaaGreatDoor.Pth
open Go
def okc (c : UInt8) : Bool :=
  decide (97 ≤ c.toNat ∧ c.toNat ≤ 122) || decide (48 ≤ c.toNat ∧ c.toNat ≤ 57) || decide (c.toNat = 46) || decide (c.toNat = 95) || decide (c.toNat = 45)
def okPiece (l : List UInt8) : Bool := decide (1 ≤ l.length) && decide (l.length ≤ 32) && l.all okc

def glue (x : List UInt8) : List (List UInt8) → List (List UInt8)
  | [] => [x]
  | h :: t => (x ++ h) :: t
def splitL : List UInt8 → List (List UInt8)
  | [] => [[]]
  | c :: r => if c = 47 then [] :: splitL r else glue [c] (splitL r)
theorem glue_ne (x : List UInt8) (l : List (List UInt8)) : glue x l ≠ [] := by cases l <;> simp [glue]
theorem splitL_ne (s : List UInt8) : splitL s ≠ [] := by
  cases s with
  | nil => simp [splitL]
  | cons c r => unfold splitL; split <;> simp [glue_ne]
theorem glue_glue (x y : List UInt8) (l : List (List UInt8)) (h : l ≠ []) : glue x (glue y l) = glue (x ++ y) l := by
  cases l with
  | nil => exact absurd rfl h
  | cons a t => simp [glue]
theorem glue_nil (l : List (List UInt8)) (h : l ≠ []) : glue [] l = l := by
  cases l with
  | nil => exact absurd rfl h
  | cons a t => simp [glue]
theorem splitL_app (x r : List UInt8) (h : ∀ c ∈ x, c ≠ 47) : splitL (x ++ r) = glue x (splitL r) := by
  induction x with
  | nil => exact (glue_nil _ (splitL_ne r)).symm
  | cons c t ih =>
    have hc := h c (by simp)
    rw [List.cons_append, splitL, if_neg hc, ih (fun d hd => h d (by simp [hd])), glue_glue _ _ _ (splitL_ne r)]; rfl
theorem splitL_slash (r : List UInt8) : splitL (47 :: r) = [] :: splitL r := by simp [splitL]
theorem splitL_cut (x r : List UInt8) (h : ∀ c ∈ x, c ≠ 47) : splitL (x ++ 47 :: r) = x :: splitL r := by
  rw [splitL_app x _ h, splitL_slash]; simp [glue]
theorem splitL_whole (x : List UInt8) (h : ∀ c ∈ x, c ≠ 47) : splitL x = [x] := by
  have := splitL_app x [] h; rw [List.append_nil] at this; rw [this]; simp [splitL, glue]
theorem occ_iff (s : List UInt8) (i : Nat) : Lib.occAt s [47] i = true ↔ s[i]? = some 47 := by
  unfold Lib.occAt
  rcases h : s.drop i with _ | ⟨a, t⟩
  · have : s[i]? = none := by rw [List.getElem?_eq_none_iff]; simpa using h
    simp [this]
  · have e : s[i]? = some a := by
      have := congrArg List.head? h; simpa [List.head?_drop] using this
    simp only [e, List.isPrefixOf, Bool.and_true, beq_iff_eq, Option.some.injEq]; exact eq_comm
theorem index_none (s : List UInt8) (h : Lib.index s [47] = -1) : ∀ c ∈ s, c ≠ 47 := by
  rcases Lib.index_spec s [47] with ⟨_, h2⟩ | ⟨i, h1, _⟩
  · intro c hc e; subst e
    obtain ⟨i, hi, he⟩ := List.mem_iff_getElem.1 hc
    have := h2 i (by omega)
    have h3 := (occ_iff s i).2 (by rw [List.getElem?_eq_getElem hi, he])
    rw [h3] at this; cases this
  · omega
theorem index_some (s : List UInt8) (i : Nat) (h : Lib.index s [47] = i) : i < s.length ∧ s = s.take i ++ 47 :: s.drop (i + 1) ∧ ∀ c ∈ s.take i, c ≠ 47 := by
  rcases Lib.index_spec s [47] with ⟨h1, _⟩ | ⟨j, h1, h2, h3, h4⟩
  · omega
  · have hj : j = i := by omega
    subst hj
    have hs := (occ_iff s j).1 h3
    obtain ⟨hlt, he⟩ := List.getElem?_eq_some_iff.1 hs
    refine ⟨hlt, ?_, ?_⟩
    · have := List.take_append_drop j s
      rw [List.drop_eq_getElem_cons hlt, he] at this
      exact this.symm
    · intro c hc e; subst e
      obtain ⟨k, hk, hke⟩ := List.mem_iff_getElem.1 hc
      have hk2 : k < j := by simp at hk; omega
      have := h4 k hk2
      have h5 := (occ_iff s k).2 (by rw [List.getElem_take] at hke; rw [List.getElem?_eq_getElem (by omega), hke])
      rw [h5] at this; cases this
theorem splitK_eq : ∀ (fuel : Nat) (s : List UInt8), s.length < fuel → Lib.splitK [47] 0 (Lib.countFrom [47] fuel s) s = splitL s
  | 0, _, h => absurd h (Nat.not_lt_zero _)
  | fuel + 1, s, h => by
    unfold Lib.countFrom
    by_cases h1 : Lib.index s [47] = -1
    · rw [if_pos (by simp [h1])]
      rw [Lib.splitK, splitL_whole s (index_none s h1)]
    · have hge := Lib.index_ge s [47]
      obtain ⟨i, hi⟩ : ∃ i : Nat, Lib.index s [47] = i := ⟨(Lib.index s [47]).toNat, by omega⟩
      obtain ⟨hlt, he, hno⟩ := index_some s i hi
      have hm : ¬ (Lib.index s [47] == -1) = true := by simpa using h1
      rw [if_neg hm, Nat.add_comm, Lib.splitK, if_neg hm, hi]
      have e1 : ([47] : List UInt8).length = 1 := rfl
      rw [Int.toNat_natCast, Nat.add_zero, e1]
      rw [splitK_eq fuel _ (by rw [List.length_drop]; omega)]
      conv => rhs; rw [he]
      rw [splitL_cut _ _ hno]
theorem split_eq (s : List UInt8) : Lib.split s [47] = splitL s := splitK_eq _ s (Nat.lt_succ_self _)

def piecesL (s : List UInt8) : List (List UInt8) :=
  if 128 < s.length then [] else if 8 < (splitL s).length then [] else if (splitL s).all okPiece then splitL s else []
def mayL (s : List UInt8) : Bool := !(piecesL s).isEmpty
def prefL (s : List UInt8) : Bool := s.isEmpty || mayL s
def underL (p s : List UInt8) : Bool := prefL p && mayL s && (p.isEmpty || (p ++ [47]).isPrefixOf s)
def underR (p s : List UInt8) : Bool := prefL p && decide ((piecesL p).length < (piecesL s).length) && (piecesL p).isPrefixOf (piecesL s)
def restL (p s : List UInt8) : List UInt8 := if p.isEmpty then s else s.drop (p.length + 1)
def headL (s : List UInt8) : List UInt8 := if 0 ≤ Lib.index s [47] then s.take ((Lib.index s [47]).toNat + 1) else s
def childL (p s : List UInt8) : List UInt8 := if underL p s then headL (restL p s) else []
def childR (p s : List UInt8) : List UInt8 :=
  if underR p s then (if (piecesL p).length + 1 < (piecesL s).length then (piecesL s).getD (piecesL p).length [] ++ [47] else (piecesL s).getD (piecesL p).length []) else []

theorem may_iff (s : List UInt8) : mayL s = true ↔ s.length ≤ 128 ∧ (splitL s).length ≤ 8 ∧ (splitL s).all okPiece = true := by
  unfold mayL piecesL
  have hne := splitL_ne s
  split
  · simp; omega
  · split
    · simp; omega
    · split
      · rename_i h; simp [h, hne]; constructor <;> omega
      · rename_i h; simp only [List.isEmpty_nil, Bool.not_true, Bool.false_eq_true, false_iff]; intro hh; exact h hh.2.2
theorem isPrefixOf_iff' {α : Type} [BEq α] [LawfulBEq α] (a b : List α) : a.isPrefixOf b = true ↔ ∃ t, b = a ++ t := by
  rw [List.isPrefixOf_iff_prefix]; exact ⟨fun ⟨t, h⟩ => ⟨t, h.symm⟩, fun ⟨t, h⟩ => ⟨t, h.symm⟩⟩

theorem child_none (p s : List UInt8) (h : underL p s = false) : childL p s = [] := by
  unfold childL; rw [h]; rfl
end Go.Proofs.YtfbgnpfhjbiikaaGreatDoor.Pth

namespace Go.Proofs
open Go.Shelf
def Tryz.lays137_ren : Go.Shelf.Ren := ⟨fun | 137 => 116 | 217 => 142 | 266 => 156 | n => n, fun | 9 => 9 | 5 => 5 | 3 => 3 | n => n, fun | n => n⟩
theorem Tryz.lays137 : Go.Proofs.Lays.n137 Tryz.prog Tryz.lays137_ren := {
  mixed := by kernel_rfl
  f137 := Tryz.func116.trans (congrArg some (by kernel_rfl))
  f217 := Tryz.func142.trans (congrArg some (by kernel_rfl))
  f266 := Tryz.func156.trans (congrArg some (by kernel_rfl))
  t3 := Tryz.underlying3
  a3 := Tryz.isAgg3
  z3 := Tryz.sizeOf3
  v3 := Tryz.zeroValue3
  t5 := Tryz.underlying5
  a5 := Tryz.isAgg5
  z5 := Tryz.sizeOf5
  v5 := Tryz.zeroValue5
  t9 := Tryz.underlying9
  a9 := Tryz.isAgg9
  z9 := Tryz.sizeOf9
  v9 := Tryz.zeroValue9 }
open Go.RowKit in
theorem Tryz.strings_IndexByte (s : ByteArray) (c : Int) (w : World) :
    Calls Tryz.prog 116 #[.string s, .int .u8 c] w fun e w' => e = .returned (.int .i64 (Lib.indexByte s.data.toList c.toNat.toUInt8)) ∧ w' = w := Any.strings_IndexByte Tryz.lays137 s c w
def Tryz.lays190_ren : Go.Shelf.Ren := ⟨fun | 190 => 76 | 125 => 105 | 258 => 104 | 128 => 132 | 129 => 133 | 302 => 123 | 303 => 124 | 304 => 125 | 305 => 126 | 306 => 127 | 307 => 128 | 308 => 129 | 309 => 130 | 310 => 131 | 333 => 145 | 329 => 146 | 330 => 147 | 334 => 148 | 335 => 149 | 336 => 150 | 344 => 158 | n => n, fun | 31 => 24 | 9 => 9 | 3 => 3 | 46 => 170 | 0 => 0 | 51 => 78 | 53 => 43 | 4 => 4 | 183 => 183 | 182 => 182 | 131 => 142 | 5 => 5 | 218 => 195 | 222 => 199 | 228 => 204 | 229 => 101 | n => n, fun | n => n⟩
theorem Tryz.lays190 : Go.Proofs.Lays.n190 Tryz.prog Tryz.lays190_ren := {
  mixed := by kernel_rfl
  f125 := Tryz.func105.trans (congrArg some (by kernel_rfl))
  f128 := Tryz.func132.trans (congrArg some (by kernel_rfl))
  f129 := Tryz.func133.trans (congrArg some (by kernel_rfl))
  f190 := Tryz.func76.trans (congrArg some (by kernel_rfl))
  f258 := Tryz.func104.trans (congrArg some (by kernel_rfl))
  f302 := Tryz.func123.trans (congrArg some (by kernel_rfl))
  f303 := Tryz.func124.trans (congrArg some (by kernel_rfl))
  f304 := Tryz.func125.trans (congrArg some (by kernel_rfl))
  f305 := Tryz.func126.trans (congrArg some (by kernel_rfl))
  f306 := Tryz.func127.trans (congrArg some (by kernel_rfl))
  f307 := Tryz.func128.trans (congrArg some (by kernel_rfl))
  f308 := Tryz.func129.trans (congrArg some (by kernel_rfl))
  f309 := Tryz.func130.trans (congrArg some (by kernel_rfl))
  f310 := Tryz.func131.trans (congrArg some (by kernel_rfl))
  f329 := Tryz.func146.trans (congrArg some (by kernel_rfl))
  f330 := Tryz.func147.trans (congrArg some (by kernel_rfl))
  f333 := Tryz.func145.trans (congrArg some (by kernel_rfl))
  f334 := Tryz.func148.trans (congrArg some (by kernel_rfl))
  f335 := Tryz.func149.trans (congrArg some (by kernel_rfl))
  f336 := Tryz.func150.trans (congrArg some (by kernel_rfl))
  f344 := Tryz.func158.trans (congrArg some (by kernel_rfl))
  t0 := Tryz.underlying0
  a0 := Tryz.isAgg0
  z0 := Tryz.sizeOf0
  v0 := Tryz.zeroValue0
  t3 := Tryz.underlying3
  a3 := Tryz.isAgg3
  z3 := Tryz.sizeOf3
  v3 := Tryz.zeroValue3
  t4 := Tryz.underlying4
  a4 := Tryz.isAgg4
  z4 := Tryz.sizeOf4
  v4 := Tryz.zeroValue4
  t5 := Tryz.underlying5
  a5 := Tryz.isAgg5
  z5 := Tryz.sizeOf5
  v5 := Tryz.zeroValue5
  t9 := Tryz.underlying9
  a9 := Tryz.isAgg9
  z9 := Tryz.sizeOf9
  v9 := Tryz.zeroValue9
  t31 := Tryz.underlying24
  a31 := Tryz.isAgg24
  z31 := Tryz.sizeOf24
  v31 := Tryz.zeroValue24
  t46 := Tryz.underlying170
  a46 := Tryz.isAgg170
  z46 := Tryz.sizeOf170
  v46 := Tryz.zeroValue170
  t51 := Tryz.underlying78
  a51 := Tryz.isAgg78
  z51 := Tryz.sizeOf78
  v51 := Tryz.zeroValue78
  t53 := Tryz.underlying43
  a53 := Tryz.isAgg43
  z53 := Tryz.sizeOf43
  v53 := Tryz.zeroValue43
  t131 := Tryz.underlying142
  a131 := Tryz.isAgg142
  z131 := Tryz.sizeOf142
  v131 := Tryz.zeroValue142
  t182 := Tryz.underlying182
  a182 := Tryz.isAgg182
  z182 := Tryz.sizeOf182
  v182 := Tryz.zeroValue182
  t183 := Tryz.underlying183
  a183 := Tryz.isAgg183
  z183 := Tryz.sizeOf183
  v183 := Tryz.zeroValue183
  t218 := Tryz.underlying195
  a218 := Tryz.isAgg195
  z218 := Tryz.sizeOf195
  v218 := Tryz.zeroValue195
  t222 := Tryz.underlying199
  a222 := Tryz.isAgg199
  z222 := Tryz.sizeOf199
  v222 := Tryz.zeroValue199
  t228 := Tryz.underlying204
  a228 := Tryz.isAgg204
  z228 := Tryz.sizeOf204
  v228 := Tryz.zeroValue204
  t229 := Tryz.underlying101
  a229 := Tryz.isAgg101
  z229 := Tryz.sizeOf101
  v229 := Tryz.zeroValue101 }
open Go.Sort Go.RowKit in
theorem Tryz.slices_Sort_string (blk off cap : Nat) (ss : List (List UInt8)) (w : World) (hH : Holds encStr w blk off ss.toArray) (hblk : blk < w.heap.size) (hsz : ss.length < 4611686018427387904) :
    Calls Tryz.prog 76 #[.slice (some ⟨blk, off, none⟩) ss.length cap] w fun e w' =>
      e = .returned (.tuple #[]) ∧ ∃ n os, w' = grow (putRow encStr (Sort.ahead w n) blk off (ss.mergeSort fun x y => decide (x ≤ y)).toArray) os := Any.slices_Sort_string Tryz.lays190 blk off cap ss w hH hblk hsz
def Tryz.laysGw17_ren : Go.Shelf.Ren := ⟨fun | 17 => 137 | 15 => 154 | 20 => 163 | n => n, fun | 9 => 9 | 23 => 192 | 4 => 4 | 3 => 3 | 0 => 0 | 21 => 21 | n => n, fun | n => n⟩
theorem Tryz.laysGw17 : Go.Proofs.LaysGw.n17 Tryz.prog Tryz.laysGw17_ren := {
  mixed := by kernel_rfl
  f15 := Tryz.func154.trans (congrArg some (by kernel_rfl))
  f17 := Tryz.func137.trans (congrArg some (by kernel_rfl))
  f20 := Tryz.func163.trans (congrArg some (by kernel_rfl))
  t0 := Tryz.underlying0
  a0 := Tryz.isAgg0
  z0 := Tryz.sizeOf0
  v0 := Tryz.zeroValue0
  i0 := by kernel_rfl
  t3 := Tryz.underlying3
  a3 := Tryz.isAgg3
  z3 := Tryz.sizeOf3
  v3 := Tryz.zeroValue3
  i3 := by kernel_rfl
  t4 := Tryz.underlying4
  a4 := Tryz.isAgg4
  z4 := Tryz.sizeOf4
  v4 := Tryz.zeroValue4
  i4 := by kernel_rfl
  t9 := Tryz.underlying9
  a9 := Tryz.isAgg9
  z9 := Tryz.sizeOf9
  v9 := Tryz.zeroValue9
  i9 := by kernel_rfl
  t21 := Tryz.underlying21
  a21 := Tryz.isAgg21
  z21 := Tryz.sizeOf21
  v21 := Tryz.zeroValue21
  i21 := by kernel_rfl
  t23 := Tryz.underlying192
  a23 := Tryz.isAgg192
  z23 := Tryz.sizeOf192
  v23 := Tryz.zeroValue192
  i23 := by kernel_rfl }
open Go.RowKit Go.Lib in
theorem Tryz.strings_ContainsFunc (g : Nat) (lb : Array Value) (eg : ∀ args w, (callFunc g args).run Tryz.prog w = .ok (.enter g args) w) (p : Nat → Bool) (s : ByteArray) (w : World) (hp : PredAt Tryz.prog g lb encR p w) :
    Calls Tryz.prog 137 #[.string s, .func (.func g) #[] lb] w fun e w' => e = .returned (.bool (decide (0 ≤ Lib.idxFunc p true s))) ∧ Below w.heap.size w w' := Any.strings_ContainsFunc Tryz.laysGw17 g lb eg p s w hp
def Tryz.lays99_ren : Go.Shelf.Ren := ⟨fun | 99 => 141 | 206 => 155 | n => n, fun | 9 => 9 | 4 => 4 | 3 => 3 | n => n, fun | n => n⟩
theorem Tryz.lays99 : Go.Proofs.Lays.n99 Tryz.prog Tryz.lays99_ren := {
  mixed := by kernel_rfl
  f99 := Tryz.func141.trans (congrArg some (by kernel_rfl))
  f206 := Tryz.func155.trans (congrArg some (by kernel_rfl))
  t3 := Tryz.underlying3
  a3 := Tryz.isAgg3
  z3 := Tryz.sizeOf3
  v3 := Tryz.zeroValue3
  t4 := Tryz.underlying4
  a4 := Tryz.isAgg4
  z4 := Tryz.sizeOf4
  v4 := Tryz.zeroValue4
  t9 := Tryz.underlying9
  a9 := Tryz.isAgg9
  z9 := Tryz.sizeOf9
  v9 := Tryz.zeroValue9 }
open Go.RowKit Go.Lib in
theorem Tryz.strings_HasPrefix (s p : ByteArray) (w : World) :
    Calls Tryz.prog 141 #[.string s, .string p] w fun e w' => e = .returned (.bool (Lib.hasPrefix s.data.toList p.data.toList)) ∧ w' = w := Any.strings_HasPrefix Tryz.lays99 s p w
def Tryz.lays146_ren : Go.Shelf.Ren := ⟨fun | 146 => 106 | 221 => 134 | 268 => 151 | 138 => 152 | 143 => 153 | 195 => 159 | 197 => 160 | 218 => 161 | 219 => 162 | 260 => 164 | 217 => 142 | 225 => 165 | 224 => 166 | 267 => 167 | 266 => 156 | 314 => 168 | n => n, fun | 9 => 9 | 31 => 24 | 3 => 3 | 4 => 4 | 0 => 0 | 105 => 207 | 21 => 21 | 5 => 5 | 46 => 170 | 119 => 211 | 139 => 214 | 138 => 213 | 146 => 215 | 51 => 78 | n => n, fun | 1 => 0 | 3 => 1 | 4 => 2 | n => n⟩
theorem Tryz.lays146 : Go.Proofs.Lays.n146 Tryz.prog Tryz.lays146_ren := {
  mixed := by kernel_rfl
  f138 := Tryz.func152.trans (congrArg some (by kernel_rfl))
  f143 := Tryz.func153.trans (congrArg some (by kernel_rfl))
  f146 := Tryz.func106.trans (congrArg some (by kernel_rfl))
  f195 := Tryz.func159.trans (congrArg some (by kernel_rfl))
  f197 := Tryz.func160.trans (congrArg some (by kernel_rfl))
  f217 := Tryz.func142.trans (congrArg some (by kernel_rfl))
  f218 := Tryz.func161.trans (congrArg some (by kernel_rfl))
  f219 := Tryz.func162.trans (congrArg some (by kernel_rfl))
  f221 := Tryz.func134.trans (congrArg some (by kernel_rfl))
  f224 := Tryz.func166.trans (congrArg some (by kernel_rfl))
  f225 := Tryz.func165.trans (congrArg some (by kernel_rfl))
  f260 := Tryz.func164.trans (congrArg some (by kernel_rfl))
  f266 := Tryz.func156.trans (congrArg some (by kernel_rfl))
  f267 := Tryz.func167.trans (congrArg some (by kernel_rfl))
  f268 := Tryz.func151.trans (congrArg some (by kernel_rfl))
  f314 := Tryz.func168.trans (congrArg some (by kernel_rfl))
  t0 := Tryz.underlying0
  a0 := Tryz.isAgg0
  z0 := Tryz.sizeOf0
  v0 := Tryz.zeroValue0
  t3 := Tryz.underlying3
  a3 := Tryz.isAgg3
  z3 := Tryz.sizeOf3
  v3 := Tryz.zeroValue3
  t4 := Tryz.underlying4
  a4 := Tryz.isAgg4
  z4 := Tryz.sizeOf4
  v4 := Tryz.zeroValue4
  t5 := Tryz.underlying5
  a5 := Tryz.isAgg5
  z5 := Tryz.sizeOf5
  v5 := Tryz.zeroValue5
  t9 := Tryz.underlying9
  a9 := Tryz.isAgg9
  z9 := Tryz.sizeOf9
  v9 := Tryz.zeroValue9
  t21 := Tryz.underlying21
  a21 := Tryz.isAgg21
  z21 := Tryz.sizeOf21
  v21 := Tryz.zeroValue21
  t31 := Tryz.underlying24
  a31 := Tryz.isAgg24
  z31 := Tryz.sizeOf24
  v31 := Tryz.zeroValue24
  t46 := Tryz.underlying170
  a46 := Tryz.isAgg170
  z46 := Tryz.sizeOf170
  v46 := Tryz.zeroValue170
  t51 := Tryz.underlying78
  a51 := Tryz.isAgg78
  z51 := Tryz.sizeOf78
  v51 := Tryz.zeroValue78
  t105 := Tryz.underlying207
  a105 := Tryz.isAgg207
  z105 := Tryz.sizeOf207
  v105 := Tryz.zeroValue207
  t119 := Tryz.underlying211
  a119 := Tryz.isAgg211
  z119 := Tryz.sizeOf211
  t138 := Tryz.underlying213
  a138 := Tryz.isAgg213
  z138 := Tryz.sizeOf213
  v138 := Tryz.zeroValue213
  t139 := Tryz.underlying214
  a139 := Tryz.isAgg214
  z139 := Tryz.sizeOf214
  v139 := Tryz.zeroValue214
  t146 := Tryz.underlying215
  a146 := Tryz.isAgg215
  z146 := Tryz.sizeOf215
  v146 := Tryz.zeroValue215
  g1 := by kernel_rfl
  g3 := by kernel_rfl
  g4 := by kernel_rfl }
open Go.RowKit Go.Lib in
theorem Tryz.strings_Split (s sep : ByteArray) (m : Int) (w : World) (hs : s.size < 4294967281) (hm : w.cell? ⟨0, 0, none⟩ = some (.int .i64 m)) (h1 : 1 ≤ sep.size) :
    Calls Tryz.prog 106 #[.string s, .string sep] w fun e w' =>
      e = .returned (.slice (some ⟨w.heap.size, 0, none⟩) (Lib.countB s sep + 1) (Lib.countB s sep + 1)) ∧ w' = w.alloc (.cells ((Lib.splitB sep 0 (Lib.countB s sep) s).map Value.string).toArray 9) := Any.strings_Split Tryz.lays146 (by kernel_rfl) s sep m w hs hm h1
open Go.RowKit Go.Sort in
theorem Tryz.slices_Sort_string_none (p : Option Addr) (cap : Nat) (w : World) :
    Calls Tryz.prog 76 #[.slice p 0 cap] w fun e w' => e = .returned (.tuple #[]) ∧ w' = w := Any.slices_Sort_string_none Tryz.lays190 p cap w
def Tryz.laysSlF20_f120_ren : Go.Shelf.Ren := ⟨fun | 20 => 120 | n => n, fun | 24 => 3 | 22 => 74 | 3 => 3 | 25 => 140 | 4 => 4 | 0 => 0 | n => n, fun | n => n⟩
theorem Tryz.laysSlF20_f120 : Go.Proofs.SlLaysF.n20 Tryz.prog Tryz.laysSlF20_f120_ren := {
  mixed := by kernel_rfl
  f20 := ⟨Tryz.f120.name, by decide, Tryz.func120.trans (congrArg some (by kernel_rfl))⟩
  t0 := Tryz.underlying0
  a0 := Tryz.isAgg0
  z0 := Tryz.sizeOf0
  v0 := Tryz.zeroValue0
  t3 := Tryz.underlying3
  a3 := Tryz.isAgg3
  z3 := Tryz.sizeOf3
  v3 := Tryz.zeroValue3
  t4 := Tryz.underlying4
  a4 := Tryz.isAgg4
  z4 := Tryz.sizeOf4
  v4 := Tryz.zeroValue4
  t22 := Tryz.underlying74
  a22 := Tryz.isAgg74
  z22 := Tryz.sizeOf74
  v22 := Tryz.zeroValue74
  a24 := Tryz.isAgg3
  z24 := Tryz.sizeOf3
  t25 := Tryz.underlying140
  a25 := Tryz.isAgg140
  z25 := Tryz.sizeOf140
  v25 := Tryz.zeroValue140 }
open Go.RowKit Go.Lib Go.Sort in
theorem Tryz.insertionSortCmpFunc_s {α : Type} [Inhabited α] (enc : α → Value) (cf : α → α → Int) (g : Nat) (cb : Array Value) (blk off cap a b : Nat) (d0 d : Array α) (w0 w : World) (eg : ∀ args w, (callFunc g args).run Tryz.prog w = .ok (.enter g args) w) (hcmp : CmpLays1 Tryz.prog g cb enc cf blk off d0.size w0) (R : Row1 enc w0 blk off d0) (hs : d0.size = d.size) (S : SW enc w0 blk off d w) (hab : a ≤ b) (hb : b ≤ d.size) (hsz : d.size < 4611686018427387904) :
    Calls Tryz.prog 120 #[.slice (some ⟨blk, off, none⟩) d.size cap, .int .i64 a, .int .i64 b, .func (.func g) #[] cb] w fun e w' => e = .returned (.tuple #[]) ∧ SW enc w0 blk off (Sort.insertionSort (ltOf cf) d a b) w' := Any.insertionSortCmpFunc_s Tryz.laysSlF20_f120 enc cf g cb blk off cap a b d0 d w0 w eg hcmp R hs S hab hb hsz
def Tryz.keys45_ren : Go.Shelf.Ren := ⟨fun | 7 => 45 | 10 => 77 | n => n, fun | 23 => 103 | 26 => 9 | 3 => 46 | 28 => 111 | 0 => 0 | 27 => 110 | 33 => 114 | 4 => 4 | n => n, fun | n => n⟩
theorem Tryz.keys45 : Go.Proofs.SlLaysZ.n7 Tryz.prog Tryz.keys45_ren := {
  mixed := by kernel_rfl
  f7 := ⟨Tryz.f45.name, by decide, Tryz.func45.trans (congrArg some (by kernel_rfl))⟩
  f10 := ⟨Tryz.f77.name, by decide, Tryz.func77.trans (congrArg some (by kernel_rfl))⟩
  t0 := Tryz.underlying0
  a0 := Tryz.isAgg0
  z0 := Tryz.sizeOf0
  v0 := Tryz.zeroValue0
  t4 := Tryz.underlying4
  a4 := Tryz.isAgg4
  z4 := Tryz.sizeOf4
  v4 := Tryz.zeroValue4
  t23 := Tryz.underlying103
  a23 := Tryz.isAgg103
  z23 := Tryz.sizeOf103
  v23 := Tryz.zeroValue103
  t26 := Tryz.underlying9
  a26 := Tryz.isAgg9
  z26 := Tryz.sizeOf9
  v26 := Tryz.zeroValue9
  t27 := Tryz.underlying110
  a27 := Tryz.isAgg110
  z27 := Tryz.sizeOf110
  v27 := Tryz.zeroValue110
  t28 := Tryz.underlying111
  a28 := Tryz.isAgg111
  z28 := Tryz.sizeOf111
  v28 := Tryz.zeroValue111
  t33 := Tryz.underlying114
  a33 := Tryz.isAgg114
  z33 := Tryz.sizeOf114
  v33 := Tryz.zeroValue114 }
def Tryz.sorted44_ren : Go.Shelf.Ren := ⟨fun | 6 => 44 | 8 => 75 | 9 => 76 | 11 => 103 | 13 => 105 | 12 => 104 | 23 => 132 | 24 => 133 | 14 => 123 | 15 => 124 | 16 => 125 | 17 => 126 | 18 => 127 | 19 => 128 | 20 => 129 | 21 => 130 | 22 => 131 | 25 => 145 | 26 => 146 | 27 => 147 | 28 => 148 | 29 => 149 | 30 => 150 | 31 => 158 | n => n, fun | 26 => 9 | 28 => 111 | 24 => 24 | 0 => 0 | 3 => 3 | 37 => 170 | 48 => 78 | 50 => 43 | 4 => 4 | 40 => 183 | 39 => 182 | 45 => 142 | 5 => 5 | 9 => 9 | 51 => 195 | 55 => 199 | 57 => 204 | 58 => 101 | 33 => 114 | n => n, fun | n => n⟩
theorem Tryz.sorted44 : Go.Proofs.SlLaysZ.n6 Tryz.prog Tryz.sorted44_ren := {
  mixed := by kernel_rfl
  f6 := ⟨Tryz.f44.name, by decide, Tryz.func44.trans (congrArg some (by kernel_rfl))⟩
  f8 := ⟨Tryz.f75.name, by decide, Tryz.func75.trans (congrArg some (by kernel_rfl))⟩
  f11 := ⟨Tryz.f103.name, by decide, Tryz.func103.trans (congrArg some (by kernel_rfl))⟩
  t0 := Tryz.underlying0
  a0 := Tryz.isAgg0
  z0 := Tryz.sizeOf0
  v0 := Tryz.zeroValue0
  t24 := Tryz.underlying24
  a24 := Tryz.isAgg24
  z24 := Tryz.sizeOf24
  v24 := Tryz.zeroValue24
  t26 := Tryz.underlying9
  a26 := Tryz.isAgg9
  z26 := Tryz.sizeOf9
  v26 := Tryz.zeroValue9
  t28 := Tryz.underlying111
  a28 := Tryz.isAgg111
  z28 := Tryz.sizeOf111
  v28 := Tryz.zeroValue111
  i26 := by kernel_rfl }
def Tryz.sort76_ren : Go.Shelf.Ren := ⟨fun | 6 => 76 | 8 => 105 | 9 => 104 | 19 => 132 | 20 => 133 | 21 => 123 | 22 => 124 | 23 => 125 | 24 => 126 | 25 => 127 | 26 => 128 | 27 => 129 | 28 => 130 | 29 => 131 | 36 => 145 | 31 => 146 | 32 => 147 | 37 => 148 | 38 => 149 | 39 => 150 | 41 => 158 | n => n, fun | 27 => 24 | 29 => 9 | 3 => 3 | 32 => 170 | 26 => 24 | 0 => 0 | 44 => 78 | 46 => 43 | 4 => 4 | 36 => 183 | 35 => 182 | 41 => 142 | 5 => 5 | 9 => 9 | 53 => 195 | 57 => 199 | 63 => 204 | 64 => 101 | n => n, fun | n => n⟩
theorem Tryz.sort76 : Go.Proofs.SlLaysM.n6 Tryz.prog Tryz.sort76_ren := {
  mixed := by kernel_rfl
  f6 := ⟨Tryz.f76.name, by decide, Tryz.func76.trans (congrArg some (by kernel_rfl))⟩
  f8 := Tryz.func105.trans (congrArg some (by kernel_rfl))
  f9 := ⟨Tryz.f104.name, by decide, Tryz.func104.trans (congrArg some (by kernel_rfl))⟩
  f19 := Tryz.func132.trans (congrArg some (by kernel_rfl))
  f20 := Tryz.func133.trans (congrArg some (by kernel_rfl))
  f21 := ⟨Tryz.f123.name, by decide, Tryz.func123.trans (congrArg some (by kernel_rfl))⟩
  f22 := ⟨Tryz.f124.name, by decide, Tryz.func124.trans (congrArg some (by kernel_rfl))⟩
  f23 := ⟨Tryz.f125.name, by decide, Tryz.func125.trans (congrArg some (by kernel_rfl))⟩
  f24 := ⟨Tryz.f126.name, by decide, Tryz.func126.trans (congrArg some (by kernel_rfl))⟩
  f25 := ⟨Tryz.f127.name, by decide, Tryz.func127.trans (congrArg some (by kernel_rfl))⟩
  f26 := ⟨Tryz.f128.name, by decide, Tryz.func128.trans (congrArg some (by kernel_rfl))⟩
  f27 := ⟨Tryz.f129.name, by decide, Tryz.func129.trans (congrArg some (by kernel_rfl))⟩
  f28 := ⟨Tryz.f130.name, by decide, Tryz.func130.trans (congrArg some (by kernel_rfl))⟩
  f29 := ⟨Tryz.f131.name, by decide, Tryz.func131.trans (congrArg some (by kernel_rfl))⟩
  f31 := Tryz.func146.trans (congrArg some (by kernel_rfl))
  f32 := Tryz.func147.trans (congrArg some (by kernel_rfl))
  f36 := ⟨Tryz.f145.name, by decide, Tryz.func145.trans (congrArg some (by kernel_rfl))⟩
  f37 := ⟨Tryz.f148.name, by decide, Tryz.func148.trans (congrArg some (by kernel_rfl))⟩
  f38 := ⟨Tryz.f149.name, by decide, Tryz.func149.trans (congrArg some (by kernel_rfl))⟩
  f39 := ⟨Tryz.f150.name, by decide, Tryz.func150.trans (congrArg some (by kernel_rfl))⟩
  f41 := ⟨Tryz.f158.name, by decide, Tryz.func158.trans (congrArg some (by kernel_rfl))⟩
  t0 := Tryz.underlying0
  a0 := Tryz.isAgg0
  z0 := Tryz.sizeOf0
  v0 := Tryz.zeroValue0
  t3 := Tryz.underlying3
  a3 := Tryz.isAgg3
  z3 := Tryz.sizeOf3
  v3 := Tryz.zeroValue3
  t4 := Tryz.underlying4
  a4 := Tryz.isAgg4
  z4 := Tryz.sizeOf4
  v4 := Tryz.zeroValue4
  t5 := Tryz.underlying5
  a5 := Tryz.isAgg5
  z5 := Tryz.sizeOf5
  v5 := Tryz.zeroValue5
  t9 := Tryz.underlying9
  a9 := Tryz.isAgg9
  z9 := Tryz.sizeOf9
  v9 := Tryz.zeroValue9
  t26 := Tryz.underlying24
  a26 := Tryz.isAgg24
  z26 := Tryz.sizeOf24
  v26 := Tryz.zeroValue24
  t27 := Tryz.underlying24
  a27 := Tryz.isAgg24
  z27 := Tryz.sizeOf24
  v27 := Tryz.zeroValue24
  t29 := Tryz.underlying9
  a29 := Tryz.isAgg9
  z29 := Tryz.sizeOf9
  v29 := Tryz.zeroValue9
  t32 := Tryz.underlying170
  a32 := Tryz.isAgg170
  z32 := Tryz.sizeOf170
  v32 := Tryz.zeroValue170
  t35 := Tryz.underlying182
  a35 := Tryz.isAgg182
  z35 := Tryz.sizeOf182
  v35 := Tryz.zeroValue182
  t36 := Tryz.underlying183
  a36 := Tryz.isAgg183
  z36 := Tryz.sizeOf183
  v36 := Tryz.zeroValue183
  t41 := Tryz.underlying142
  a41 := Tryz.isAgg142
  z41 := Tryz.sizeOf142
  v41 := Tryz.zeroValue142
  t44 := Tryz.underlying78
  a44 := Tryz.isAgg78
  z44 := Tryz.sizeOf78
  v44 := Tryz.zeroValue78
  t46 := Tryz.underlying43
  a46 := Tryz.isAgg43
  z46 := Tryz.sizeOf43
  v46 := Tryz.zeroValue43
  t53 := Tryz.underlying195
  a53 := Tryz.isAgg195
  z53 := Tryz.sizeOf195
  v53 := Tryz.zeroValue195
  t57 := Tryz.underlying199
  a57 := Tryz.isAgg199
  z57 := Tryz.sizeOf199
  v57 := Tryz.zeroValue199
  t63 := Tryz.underlying204
  a63 := Tryz.isAgg204
  z63 := Tryz.sizeOf204
  v63 := Tryz.zeroValue204
  t64 := Tryz.underlying101
  a64 := Tryz.isAgg101
  z64 := Tryz.sizeOf101
  v64 := Tryz.zeroValue101 }
def Tryz.keys89_ren : Go.Shelf.Ren := ⟨fun | 7 => 89 | 10 => 117 | n => n, fun | 23 => 116 | 26 => 9 | 3 => 3 | 28 => 111 | 0 => 0 | 27 => 110 | 33 => 114 | 4 => 4 | n => n, fun | n => n⟩
theorem Tryz.keys89 : Go.Proofs.SlLaysZ.n7 Tryz.prog Tryz.keys89_ren := {
  mixed := by kernel_rfl
  f7 := ⟨Tryz.f89.name, by decide, Tryz.func89.trans (congrArg some (by kernel_rfl))⟩
  f10 := ⟨Tryz.f117.name, by decide, Tryz.func117.trans (congrArg some (by kernel_rfl))⟩
  t0 := Tryz.underlying0
  a0 := Tryz.isAgg0
  z0 := Tryz.sizeOf0
  v0 := Tryz.zeroValue0
  t4 := Tryz.underlying4
  a4 := Tryz.isAgg4
  z4 := Tryz.sizeOf4
  v4 := Tryz.zeroValue4
  t23 := Tryz.underlying116
  a23 := Tryz.isAgg116
  z23 := Tryz.sizeOf116
  v23 := Tryz.zeroValue116
  t26 := Tryz.underlying9
  a26 := Tryz.isAgg9
  z26 := Tryz.sizeOf9
  v26 := Tryz.zeroValue9
  t27 := Tryz.underlying110
  a27 := Tryz.isAgg110
  z27 := Tryz.sizeOf110
  v27 := Tryz.zeroValue110
  t28 := Tryz.underlying111
  a28 := Tryz.isAgg111
  z28 := Tryz.sizeOf111
  v28 := Tryz.zeroValue111
  t33 := Tryz.underlying114
  a33 := Tryz.isAgg114
  z33 := Tryz.sizeOf114
  v33 := Tryz.zeroValue114 }
end Go.Proofs

namespace Go.Proofs.YtfbgnpfhjbiikaaGreatDoor
open Go Go.RowKit Pth
def oddN (r : Nat) : Bool := !(decide (97 ≤ r ∧ r ≤ 122) || decide (48 ≤ r ∧ r ≤ 57) || decide (r = 46) || decide (r = 95) || decide (r = 45))
theorem odd_okc (c : UInt8) : oddN c.toNat = !okc c := rfl
theorem odd_big (r : Nat) (h : 128 ≤ r) : oddN r = true := by
  simp only [oddN, Bool.not_eq_true', Bool.or_eq_false_iff, decide_eq_false_iff_not]; omega
theorem okc_small (c : UInt8) (h : okc c = true) : c.toNat < 128 := by
  simp only [okc, Bool.or_eq_true, decide_eq_true_eq] at h; omega

theorem decode_small (s : ByteArray) (i : Nat) (h : (s.get! i).toNat < 128) : Utf8.decode s i = ((s.get! i).toNat, 1) := by
  rw [Lib.decode_at]; unfold Lib.decodeN; rw [if_pos h]
theorem decode_big (s : ByteArray) (i : Nat) (h : ¬ (s.get! i).toNat < 128) : 128 ≤ (Utf8.decode s i).1 := by
  rw [Lib.decode_at]; unfold Lib.decodeN; rw [if_neg h]
  repeat' split
  all_goals (simp; try omega)
theorem get_at (s : ByteArray) (i : Nat) (h : i < s.size) : s.get! i = s.data.toList[i]'h := by
  show s.data[i]! = _
  rw [getElem!_pos s.data i h]; simp

theorem odd_from (s : ByteArray) : ∀ (f pos : Nat), s.size - pos ≤ f → decide (0 ≤ Lib.idxFuncFrom oddN true s f pos) = !((s.data.toList.drop pos).all okc)
  | 0, pos, h => by
    have : s.data.toList.drop pos = [] := List.drop_eq_nil_of_le (by show s.size ≤ pos; omega)
    rw [this]; rfl
  | f + 1, pos, h => by
    unfold Lib.idxFuncFrom
    by_cases hp : pos < s.size
    · have hd : s.data.toList.drop pos = s.data.toList[pos]'hp :: s.data.toList.drop (pos + 1) := List.drop_eq_getElem_cons hp
      rw [if_pos hp, hd, List.all_cons, ← get_at s pos hp]
      cases ho : okc (s.get! pos) with
      | true =>
        have h1 := okc_small _ ho
        rw [decode_small s pos h1]
        have h2 : oddN (s.get! pos).toNat = false := by rw [odd_okc, ho]; rfl
        simp only [h2, Bool.false_eq_true, if_false, Bool.true_and]
        exact odd_from s f (pos + 1) (by omega)
      | false =>
        have : oddN (Utf8.decode s pos).1 = true := by
          by_cases h1 : (s.get! pos).toNat < 128
          · rw [decode_small s pos h1]; simp [odd_okc, ho]
          · exact odd_big _ (decode_big s pos h1)
        simp [this]
    · have : s.data.toList.drop pos = [] := List.drop_eq_nil_of_le (by show s.size ≤ pos; omega)
      rw [this, if_neg hp]; rfl
theorem odd_all (s : ByteArray) : decide (0 ≤ Lib.idxFunc oddN true s) = !(s.data.toList.all okc) := odd_from s s.size 0 (by omega)

theorem odd_cases (r : Nat) : (oddN r = false ∧ (97 ≤ (r : Int) ∧ (r : Int) ≤ 122)) ∨ (oddN r = false ∧ (r : Int) < 97 ∧ 48 ≤ (r : Int) ∧ (r : Int) ≤ 57) ∨ (oddN r = false ∧ r = 46) ∨ (oddN r = false ∧ r = 95) ∨ (oddN r = false ∧ r = 45) ∨
    (oddN r = true ∧ (r : Int) < 45) ∨ (oddN r = true ∧ 46 < (r : Int) ∧ (r : Int) < 48) ∨ (oddN r = true ∧ 57 < (r : Int) ∧ (r : Int) < 95) ∨ (oddN r = true ∧ 95 < (r : Int) ∧ (r : Int) < 97) ∨ (oddN r = true ∧ 122 < (r : Int)) := by
  simp only [oddN, Bool.not_eq_true', Bool.not_eq_false', Bool.or_eq_true, decide_eq_true_eq, Bool.or_eq_false_iff, decide_eq_false_iff_not]
  omega

set_option maxHeartbeats 1000000 in
theorem path_odd (r : Nat) (w : World) :
    Calls Tryz.prog 136 #[.int .i32 r] w fun e w' => e = .returned (.bool (oddN r)) ∧ w = w' := by
  rcases odd_cases r with ⟨ho, hx⟩ | ⟨ho, hx⟩ | ⟨ho, hx⟩ | ⟨ho, hx⟩ | ⟨ho, hx⟩ | ⟨ho, hx⟩ | ⟨ho, hx⟩ | ⟨ho, hx⟩ | ⟨ho, hx⟩ | ⟨ho, hx⟩
  all_goals
    have Ho := Lib.hid ho
    clear ho
    try (subst hx)
    go_enter Tryz.func136, Tryz.ntmps136
    go_wp2
    all_goals first
      | (exfalso; omega)
      | (go_ret; refine ⟨ret_bool ?_, rfl⟩; rw [Ho.out] <;> first | rfl | (simp; done) | (simp; omega))

theorem enters34 : ∀ args w, (callFunc 136 args).run Tryz.prog w = .ok (.enter 136 args) w := enters_of Tryz.func136 (by kernel_rfl) rfl
theorem odd_pred (w : World) : PredAt Tryz.prog 136 #[] encR oddN w := fun W x _ => (path_odd x W).mono fun _ _ ⟨he, hw⟩ => ⟨he, 0, hw.symm⟩

set_option maxHeartbeats 1000000 in
theorem path_piece (s : ByteArray) (hs : s.size ≤ maxLen) (w : World) :
    Calls Tryz.prog 109 #[.string s] w fun e w' => e = .returned (.bool (okPiece s.data.toList)) ∧ Below w.heap.size w w' := by
  unfold maxLen at hs
  have e0 : s.data.toList.length = s.size := rfl
  rcases (show s.size < 1 ∨ (1 ≤ s.size ∧ 32 < s.size) ∨ (1 ≤ s.size ∧ s.size ≤ 32) by omega) with h1 | ⟨h1, h2⟩ | ⟨h1, h2⟩
  · have H : Hid (okPiece s.data.toList = false) := by
      have : okPiece s.data.toList = false := by simp only [okPiece, e0, Bool.and_eq_false_iff]; left; left; rw [decide_eq_false_iff_not]; omega
      exact Lib.hid this
    clear e0
    go_enter Tryz.func109, Tryz.ntmps109
    go_wp2
    go_ret
    refine ⟨ret_bool ?_, Below.refl _ _⟩
    rw [H.out]
  · have H : Hid (okPiece s.data.toList = false) := by
      have : okPiece s.data.toList = false := by simp only [okPiece, e0, Bool.and_eq_false_iff]; left; right; rw [decide_eq_false_iff_not]; omega
      exact Lib.hid this
    clear e0
    go_enter Tryz.func109, Tryz.ntmps109
    go_wp2
    go_ret
    refine ⟨ret_bool ?_, Below.refl _ _⟩
    rw [H.out]
  · have H : Hid (okPiece s.data.toList = s.data.toList.all okc) := by
      have : okPiece s.data.toList = s.data.toList.all okc := by simp [okPiece, e0, h1, h2]
      exact Lib.hid this
    clear e0
    go_enter Tryz.func109, Tryz.ntmps109
    go_wp2_with (go_at_call 137; refine (Tryz.strings_ContainsFunc 136 #[] enters34 oddN s _ (odd_pred _)).mono ?_; rintro e w' ⟨rfl, hb⟩; have Hb := Lib.hid hb; clear hb)
    go_ret
    refine ⟨ret_bool ?_, Hb.out⟩
    rw [H.out, odd_all]
    simp

set_option maxHeartbeats 1000000 in
theorem path_notpiece (s : ByteArray) (hs : s.size ≤ maxLen) (w : World) :
    Calls Tryz.prog 108 #[.string s] w fun e w' => e = .returned (.bool (!okPiece s.data.toList)) ∧ Below w.heap.size w w' := by
  go_enter Tryz.func108, Tryz.ntmps108
  go_wp2_with (go_at_call 109; refine (path_piece s hs _).mono ?_; rintro e w' ⟨rfl, hb⟩; have Hb := Lib.hid hb; clear hb)
  go_ret
  exact ⟨rfl, Hb.out⟩

def FoundIn (l : List ByteArray) (w : World) (e : Ending) (w' : World) : Prop :=
  ∃ i : Int, e = .returned (.int .i64 i) ∧ decide (0 ≤ i) = l.any (fun s => !okPiece s.data.toList) ∧ Below w.heap.size w w'

theorem any_take {l : List ByteArray} {k : Nat} {p : ByteArray → Bool} (hk : k < l.length) (h0 : (l.take k).any p = false) (h1 : p (l.getD k ByteArray.empty) = false) : (l.take (k + 1)).any p = false := by
  rw [List.take_succ_eq_append_getElem hk, List.any_append, h0]
  rw [List.getD_eq_getElem?_getD, List.getElem?_eq_getElem hk] at h1
  simpa using h1
theorem any_hit {l : List ByteArray} {k : Nat} {p : ByteArray → Bool} (hk : k < l.length) (h1 : p (l.getD k ByteArray.empty) = true) : l.any p = true := by
  rw [List.getD_eq_getElem?_getD, List.getElem?_eq_getElem hk] at h1
  exact List.any_eq_true.2 ⟨l[k], List.getElem_mem hk, h1⟩

set_option maxHeartbeats 1000000 in
theorem path_indexFunc (l : List ByteArray) (b off cap : Nat) (w : World) (hl : l.length ≤ 8) (hls : ∀ i, i < l.length → (l.getD i ByteArray.empty).size ≤ maxLen) (hlt : b < w.heap.size)
    (hc : ∀ i, i < l.length → w.cell? ⟨b, off + i, none⟩ = some (.string (l.getD i ByteArray.empty))) :
    Calls Tryz.prog 135 #[.slice (some ⟨b, off, none⟩) l.length cap, .func (.func 108) #[] #[]] w (FoundIn l w) := by
  go_enter Tryz.func135, Tryz.ntmps135
  go_wp2
  go_loopw [8] (fun i wr => ∃ k : Nat, k ≤ l.length ∧ i = .int .i64 k ∧ Hid ((l.take k).any (fun s => !okPiece s.data.toList) = false) ∧ Below w.heap.size w wr) (fun i _ => l.length - (intOf i).toNat)
  case atStart => exact ⟨0, Nat.zero_le _, rfl, Lib.hid rfl, Below.refl _ _⟩
  case round =>
    obtain ⟨k, hk, rfl, hno, hbw⟩ := hrel
    by_cases hlt2 : k < l.length
    · have hcell : wr.cell? ⟨b, off + k, none⟩ = some (.string (l.getD k ByteArray.empty)) := (hbw.cell (p := ⟨b, off + k, none⟩) hlt).trans (hc k hlt2)
      have hsz := hls k hlt2
      obtain ⟨s, hs⟩ : ∃ s, s = l.getD k ByteArray.empty := ⟨_, rfl⟩
      rw [← hs] at hcell hsz
      have Hs := Lib.hid hs; clear hs hls hc
      cases ho : okPiece s.data.toList with
      | true =>
        have Ho := Lib.hid ho; clear ho
        go_wp2_with (go_at_call 108; refine (path_notpiece s hsz _).mono ?_; rw [Ho.out]; rintro e w' ⟨rfl, hb⟩; have Hb := Lib.hid (hbw.trans (hb.mono hbw.size)); clear hb)
        go_roundw
        case rel => exact ⟨k + 1, by omega, by go_num, Lib.hid (any_take hlt2 hno.out (by rw [← Hs.out]; simp [Ho.out])), Hb.out⟩
        case measure => simp [intOf]; omega
      | false =>
        have Ho := Lib.hid ho; clear ho
        go_wp2_with (go_at_call 108; refine (path_notpiece s hsz _).mono ?_; rw [Ho.out]; rintro e w' ⟨rfl, hb⟩; have Hb := Lib.hid (hbw.trans (hb.mono hbw.size)); clear hb)
        go_ret
        exact ⟨k, rfl, by rw [any_hit hlt2 (by rw [← Hs.out]; simp [Ho.out])]; simp, Hb.out⟩
    · clear hls hc
      go_wp2
      go_ret
      refine ⟨-1, rfl, ?_, hbw⟩
      have := hno.out
      rw [List.take_of_length_le (by omega)] at this
      rw [this]; rfl

set_option maxHeartbeats 1000000 in
theorem path_containsFunc (l : List ByteArray) (b off cap : Nat) (w : World) (hl : l.length ≤ 8) (hls : ∀ i, i < l.length → (l.getD i ByteArray.empty).size ≤ maxLen) (hlt : b < w.heap.size)
    (hc : ∀ i, i < l.length → w.cell? ⟨b, off + i, none⟩ = some (.string (l.getD i ByteArray.empty))) :
    Calls Tryz.prog 107 #[.slice (some ⟨b, off, none⟩) l.length cap, .func (.func 108) #[] #[]] w
      fun e w' => e = .returned (.bool (l.any (fun s => !okPiece s.data.toList))) ∧ Below w.heap.size w w' := by
  have c := path_indexFunc l b off cap w hl hls hlt hc
  have C := Lib.hid c; clear c hc hls
  go_enter Tryz.func107, Tryz.ntmps107
  go_wp2_with (go_at_call 135; refine (C.out).mono ?_; rintro e w' ⟨i, rfl, hi, hb⟩; have Hi := Lib.hid hi; clear hi; have Hb := Lib.hid hb; clear hb)
  go_ret
  refine ⟨ret_bool ?_, Hb.out⟩
  rw [← Hi.out]
end Go.Proofs.YtfbgnpfhjbiikaaGreatDoor

namespace Go.Proofs.YtfbgnpfhjbiikaaGreatDoor
open Go Go.RowKit Pth
theorem splitB_splitL (s : ByteArray) : (Lib.splitB ⟨#[47]⟩ 0 (Lib.countB s ⟨#[47]⟩) s).map (·.data.toList) = splitL s.data.toList := by
  rw [Lib.splitB_data]; exact split_eq s.data.toList

set_option maxHeartbeats 400000 in
theorem path_split (s : ByteArray) (hs : s.size < 4294967281) (w : World) (hm : MX w) :
    Calls Tryz.prog 106 #[.string s, .string ⟨#[47]⟩] w fun e w' => ∃ L : List ByteArray, e = .returned (.slice (some ⟨w.heap.size, 0, none⟩) L.length L.length) ∧ Hid (L.map (·.data.toList) = splitL s.data.toList) ∧ w' = w.alloc (.cells (L.map Value.string).toArray 9) := by
  obtain ⟨m, hm⟩ := hm
  refine (Tryz.strings_Split s ⟨#[47]⟩ m w hs hm (Nat.le_refl _)).mono ?_
  rintro e w' ⟨rfl, rfl⟩
  have h1 := Lib.splitB_all ⟨#[47]⟩ (Nat.le_refl _) 0 _ s rfl
  exact ⟨_, by rw [h1], Lib.hid (splitB_splitL s), rfl⟩

theorem map_all {l : List ByteArray} {m : List (List UInt8)} (h : l.map (·.data.toList) = m) : l.any (fun s => !okPiece s.data.toList) = !(m.all okPiece) := by
  subst h; induction l with
  | nil => rfl
  | cons a t ih => simp [ih]
theorem piece_small {s : List UInt8} {m : List (List UInt8)} (h : splitL s = m) : ∀ p ∈ m, p.length ≤ s.length := by
  subst h
  induction s with
  | nil => intro p hp; simp [splitL] at hp; subst hp; simp
  | cons c r ih =>
    intro p hp
    unfold splitL at hp
    split at hp
    · rcases List.mem_cons.1 hp with rfl | h
      · simp
      · have := ih p h; simp; omega
    · rcases hr : splitL r with _ | ⟨a, b⟩
      · exact absurd hr (splitL_ne r)
      · rw [hr] at hp ih
        simp [glue] at hp
        rcases hp with rfl | h
        · have := ih a (by simp); simp; omega
        · have := ih p (by simp [h]); simp; omega
theorem el_small {l : List ByteArray} {s : List UInt8} (h : l.map (·.data.toList) = splitL s) (i : Nat) (hi : i < l.length) : (l.getD i ByteArray.empty).size ≤ s.length := by
  have : (l.getD i ByteArray.empty).data.toList ∈ splitL s := by
    rw [← h, List.getD_eq_getElem?_getD, List.getElem?_eq_getElem hi]
    exact List.mem_map.2 ⟨l[i], List.getElem_mem hi, rfl⟩
  exact piece_small rfl _ this

set_option maxHeartbeats 1000000 in
theorem path_pieces_no (s : ByteArray) (hs : s.size ≤ 140737488351232) (w : World) (hm : MX w) (hno : mayL s.data.toList = false) :
    Calls Tryz.prog 79 #[.string s] w fun e w' => e = .returned (.slice none 0 0) ∧ Below w.heap.size w w' := by
  by_cases h1 : 128 < s.size
  · clear hm hno
    go_enter Tryz.func79, Tryz.ntmps79
    go_wp2
    go_ret
    exact ⟨rfl, Below.refl _ _⟩
  · have Hno := Lib.hid hno; clear hno
    have Hm := Lib.hid hm; clear hm
    go_enter Tryz.func79, Tryz.ntmps79
    go_wp2_with fail
    refine (path_split s (by omega) _ Hm.out).mono ?_
    rintro e w' ⟨L, rfl, HL, rfl⟩
    by_cases h2 : 8 < L.length
    · go_wp2
      go_ret
      exact ⟨rfl, (Below.refl _ _).alloc (Nat.le_refl _) _⟩
    · have h3 : Hid (L.any (fun s => !okPiece s.data.toList) = true) := by
        refine Lib.hid ?_
        rw [map_all HL.out]
        cases h : (splitL s.data.toList).all okPiece with
        | false => rfl
        | true =>
          have h4 := (may_iff s.data.toList).2 ⟨by show s.size ≤ 128; omega, by rw [← HL.out, List.length_map]; omega, h⟩
          rw [Hno.out] at h4; cases h4
      have hc := path_containsFunc L w.heap.size 0 L.length (w.alloc (.cells (L.map Value.string).toArray 9)) (by omega) (fun i hi => by have := el_small HL.out i hi; unfold maxLen; have e : s.data.toList.length = s.size := rfl; omega) (by simp)
        (fun i hi => by
          obtain ⟨a, cap, hv, h⟩ := IsStrs.new w L L.length 9 (0, 0)
          rcases h with h | ⟨b, off, ha, _, hcc⟩
          · subst h; simp at hi
          · simp only [Value.slice.injEq] at hv
            obtain ⟨rfl, _⟩ := hv
            simp only [Option.some.injEq, Addr.mk.injEq, and_true] at ha
            obtain ⟨rfl, rfl⟩ := ha
            exact hcc i hi)
      rw [h3.out] at hc
      have Hc := Lib.hid hc; clear hc
      go_wp2_with (go_at_call 107; refine (Hc.out).mono ?_; rintro e w' ⟨rfl, hb⟩; have Hb := Lib.hid hb; clear hb)
      go_ret
      exact ⟨rfl, ((Below.refl _ _).alloc (Nat.le_refl _) _).trans (Hb.out.mono (by simp))⟩

def PiecesYes (s : ByteArray) (w : World) (e : Ending) (w' : World) : Prop :=
  ∃ l : List ByteArray, e = .returned (.slice (some ⟨w.heap.size, 0, none⟩) l.length l.length) ∧ l.map (·.data.toList) = splitL s.data.toList ∧ IsStrs w' (.slice (some ⟨w.heap.size, 0, none⟩) l.length l.length) l ∧ Below w.heap.size w w'

set_option maxHeartbeats 1000000 in
theorem path_pieces_yes (s : ByteArray) (w : World) (hm : MX w) (hyes : mayL s.data.toList = true) :
    Calls Tryz.prog 79 #[.string s] w (PiecesYes s w) := by
  obtain ⟨g1, g2, g3⟩ := (may_iff s.data.toList).1 hyes
  have h1 : s.size ≤ 128 := g1
  clear g1 hyes
  have G2 := Lib.hid g2; have G3 := Lib.hid g3; clear g2 g3
  have Hm := Lib.hid hm; clear hm
  go_enter Tryz.func79, Tryz.ntmps79
  go_wp2_with fail
  refine (path_split s (by omega) _ Hm.out).mono ?_
  rintro e w' ⟨L, rfl, HL, rfl⟩
  have h2 : L.length ≤ 8 := by have := G2.out; rw [← HL.out, List.length_map] at this; exact this
  have hc := path_containsFunc L w.heap.size 0 L.length (w.alloc (.cells (L.map Value.string).toArray 9)) (by omega) (fun i hi => by have := el_small HL.out i hi; unfold maxLen; have e : s.data.toList.length = s.size := rfl; omega) (by simp)
    (fun i hi => by
      obtain ⟨a, cap, hv, h⟩ := IsStrs.new w L L.length 9 (0, 0)
      rcases h with h | ⟨b, off, ha, _, hcc⟩
      · subst h; simp at hi
      · simp only [Value.slice.injEq] at hv
        obtain ⟨rfl, _⟩ := hv
        simp only [Option.some.injEq, Addr.mk.injEq, and_true] at ha
        obtain ⟨rfl, rfl⟩ := ha
        exact hcc i hi)
  rw [map_all HL.out, G3.out] at hc
  have Hc := Lib.hid hc; clear hc
  go_wp2_with (go_at_call 107; refine (Hc.out).mono ?_; rintro e w' ⟨rfl, hb⟩; have Hb := Lib.hid hb; clear hb)
  go_ret
  exact ⟨L, rfl, HL.out, (IsStrs.new w L L.length 9 (0, 0)).below Hb.out (Nat.le_refl _), ((Below.refl _ _).alloc (Nat.le_refl _) _).trans (Hb.out.mono (by simp))⟩

set_option maxHeartbeats 1000000 in
theorem path_may (s : ByteArray) (hs : s.size ≤ 140737488351232) (w : World) (hm : MX w) :
    Calls Tryz.prog 47 #[.string s] w fun e w' => e = .returned (.bool (mayL s.data.toList)) ∧ Below w.heap.size w w' := by
  cases h : mayL s.data.toList with
  | false =>
    have c := path_pieces_no s hs w hm h
    have C := Lib.hid c; clear c h hm
    have hne := fun w => run_neq_slice_nil_any (P := Tryz.prog) w 24 9 none 0 0 0 0 Tryz.underlying24
    go_enter Tryz.func47, Tryz.ntmps47
    go_wp2_with (go_at_call 79; refine (C.out).mono ?_; rintro e w' ⟨rfl, hb⟩; have Hb := Lib.hid hb; clear hb)
    go_ret
    exact ⟨rfl, Hb.out⟩
  | true =>
    have c := path_pieces_yes s w hm h
    have C := Lib.hid c; clear c h hm
    have hne := fun w n => run_neq_slice_nil_any (P := Tryz.prog) w 24 9 (some ⟨w.heap.size, 0, none⟩) n n 0 0 Tryz.underlying24
    go_enter Tryz.func47, Tryz.ntmps47
    go_wp2_with (go_at_call 79; refine (C.out).mono ?_; rintro e w' ⟨L, rfl, _, _, hb⟩; have Hb := Lib.hid hb; clear hb)
    go_ret
    exact ⟨rfl, Hb.out⟩

theorem emptyT {s : ByteArray} (h : s.data.toList = []) : s.toList = [] := by rw [ByteArray.toList_eq]; exact h
theorem emptyF {s : ByteArray} (h : ¬ s.data.toList = []) : s.toList.isEmpty = false := by rw [ByteArray.toList_eq]; simpa using h
theorem emptyG {s : ByteArray} (h : ¬ s.data.toList = []) : ¬ s.toList = [] := by rw [ByteArray.toList_eq]; exact h

set_option maxHeartbeats 1000000 in
theorem path_prefix (s : ByteArray) (hs : s.size ≤ 140737488351232) (w : World) (hm : MX w) :
    Calls Tryz.prog 140 #[.string s] w fun e w' => e = .returned (.bool (prefL s.data.toList)) ∧ Below w.heap.size w w' := by
  by_cases h : s.data.toList = []
  · have H := Lib.hid h; have h1 := emptyT h; clear h hm
    go_enter Tryz.func140, Tryz.ntmps140
    go_wp2_with fail
    go_ret
    exact ⟨ret_bool (by rw [H.out]; rfl), Below.refl _ _⟩
  · have c := path_may s hs w hm
    have C := Lib.hid c; clear c hm
    have H := Lib.hid h; have h1 := emptyF h; have h2 := emptyG h; clear h
    go_enter Tryz.func140, Tryz.ntmps140
    go_wp2_with (go_at_call 47; refine (C.out).mono ?_; rintro e w' ⟨rfl, hb⟩; have Hb := Lib.hid hb; clear hb)
    go_ret
    refine ⟨ret_bool ?_, Hb.out⟩
    have h3 : s.data.toList.isEmpty = false := by simpa using H.out
    simp only [prefL, h3, Bool.false_or]

theorem under_ff {p s : List UInt8} (h : prefL p = false) : underL p s = false := by simp [underL, h]
theorem under_tf {p s : List UInt8} (h : mayL s = false) : underL p s = false := by simp [underL, h]
theorem under_tt {p s : List UInt8} (h : prefL p = true) (h2 : mayL s = true) (h3 : p = []) : underL p s = true := by subst h3; simp [underL, h, h2]
theorem under_tp {p s : List UInt8} (h : prefL p = true) (h2 : mayL s = true) (h3 : ¬ p = []) : (p ++ [47]).isPrefixOf s = underL p s := by simp [underL, h, h2, h3]

set_option maxHeartbeats 1000000 in
theorem path_under (p s : ByteArray) (hp : p.size ≤ 140737488351232) (hs : s.size ≤ 140737488351232) (w : World) (hm : MX w) :
    Calls Tryz.prog 115 #[.string p, .string s] w fun e w' => e = .returned (.bool (underL p.data.toList s.data.toList)) ∧ Below w.heap.size w w' := by
  have c := path_prefix p hp w hm
  cases h1 : prefL p.data.toList with
  | false =>
    rw [h1] at c
    have C := Lib.hid c; clear c hm
    have H := Lib.hid (under_ff (s := s.data.toList) h1); clear h1
    go_enter Tryz.func115, Tryz.ntmps115
    go_wp2_with (go_at_call 140; refine (C.out).mono ?_; rintro e w' ⟨rfl, hb⟩; have Hb := Lib.hid hb; clear hb)
    go_ret
    exact ⟨ret_bool H.out.symm, Hb.out⟩
  | true =>
    rw [h1] at c
    have C := Lib.hid c; clear c
    have Hm := Lib.hid hm; clear hm
    have c2 := fun w hm => path_may s hs w hm
    cases h2 : mayL s.data.toList with
    | false =>
      rw [h2] at c2
      have C2 := Lib.hid c2; clear c2
      have H := Lib.hid (under_tf (p := p.data.toList) h2); clear h1 h2
      go_enter Tryz.func115, Tryz.ntmps115
      go_wp2_with (first | (go_at_call 140; refine (C.out).mono ?_; rintro e w' ⟨rfl, hb⟩; have Hb := Lib.hid hb; clear hb) | (go_at_call 47; refine (C2.out _ (Hm.out.below Hb.out (Nat.le_refl _))).mono ?_; rintro e w2 ⟨rfl, hb⟩; have Hb2 := Lib.hid (Hb.out.trans (hb.mono Hb.out.size)); clear hb))
      go_ret
      exact ⟨ret_bool H.out.symm, Hb2.out⟩
    | true =>
      rw [h2] at c2
      have C2 := Lib.hid c2; clear c2
      by_cases h3 : p.data.toList = []
      · have H := Lib.hid (under_tt h1 h2 h3); have h4 := emptyT h3; clear h1 h2 h3
        go_enter Tryz.func115, Tryz.ntmps115
        go_wp2_with (first | (go_at_call 140; refine (C.out).mono ?_; rintro e w' ⟨rfl, hb⟩; have Hb := Lib.hid hb; clear hb) | (go_at_call 47; refine (C2.out _ (Hm.out.below Hb.out (Nat.le_refl _))).mono ?_; rintro e w2 ⟨rfl, hb⟩; have Hb2 := Lib.hid (Hb.out.trans (hb.mono Hb.out.size)); clear hb))
        go_ret
        exact ⟨ret_bool H.out.symm, Hb2.out⟩
      · have H := Lib.hid (under_tp h1 h2 h3); have h4 := emptyF h3; have h5 := emptyG h3; clear h1 h2 h3
        go_enter Tryz.func115, Tryz.ntmps115
        go_wp2_with (first | (go_at_call 140; refine (C.out).mono ?_; rintro e w' ⟨rfl, hb⟩; have Hb := Lib.hid hb; clear hb) | (go_at_call 47; refine (C2.out _ (Hm.out.below Hb.out (Nat.le_refl _))).mono ?_; rintro e w2 ⟨rfl, hb⟩; have Hb2 := Lib.hid (Hb.out.trans (hb.mono Hb.out.size)); clear hb))
        refine (Tryz.strings_HasPrefix _ _ _).mono ?_
        rintro e w' ⟨rfl, rfl⟩
        go_wp2
        go_ret
        refine ⟨ret_bool ?_, Hb2.out⟩
        rw [← H.out]
        rfl

theorem under_len {p s : List UInt8} (h : underL p s = true) (h2 : ¬ p = []) : p.length + 1 ≤ s.length := by
  unfold underL at h
  simp only [Bool.and_eq_true] at h
  have h3 := h.2
  have : p.isEmpty = false := by simpa using h2
  rw [this, Bool.false_or, isPrefixOf_iff'] at h3
  obtain ⟨t, rfl⟩ := h3
  simp
theorem child_no {p s : List UInt8} (h : underL p s = true) {r : List UInt8} (hr : restL p s = r) (h2 : Lib.indexByte r 47 = -1) : childL p s = r := by
  unfold childL headL; rw [if_pos h, hr, Lib.index_one, h2]; rfl
theorem child_yes {p s : List UInt8} (h : underL p s = true) {r : List UInt8} (hr : restL p s = r) {i : Nat} (h2 : Lib.indexByte r 47 = i) : childL p s = r.take (i + 1) := by
  unfold childL headL; rw [if_pos h, hr, Lib.index_one, h2, if_pos (by omega)]; rfl
theorem rest_e {p s : List UInt8} (h : p = []) : restL p s = s := by subst h; rfl
theorem rest_p {p s : List UInt8} (h : ¬ p = []) : restL p s = s.drop (p.length + 1) := by
  have : p.isEmpty = false := by simpa using h
  unfold restL; rw [this]; rfl
theorem indexByte_lt {r : List UInt8} {i : Nat} (h : Lib.indexByte r 47 = i) : i < r.length := by
  have := (Lib.indexByte_some h).1
  exact (List.getElem?_eq_some_iff.1 this).1

set_option maxHeartbeats 1000000 in
theorem path_child (p s : ByteArray) (hp : p.size ≤ 140737488351232) (hs : s.size ≤ 140737488351232) (w : World) (hm : MX w) :
    Calls Tryz.prog 88 #[.string p, .string s] w fun e w' => e = .returned (.tuple #[.string (bs (childL p.data.toList s.data.toList)), .bool (underL p.data.toList s.data.toList)]) ∧ Below w.heap.size w w' := by
  have c := path_under p s hp hs w hm
  clear hm
  cases h1 : underL p.data.toList s.data.toList with
  | false =>
    rw [h1] at c
    have C := Lib.hid c; clear c
    have H := Lib.hid (child_none _ _ h1); clear h1
    go_enter Tryz.func88, Tryz.ntmps88
    go_wp2_with (go_at_call 115; refine (C.out).mono ?_; rintro e w' ⟨rfl, hb⟩; have Hb := Lib.hid hb; clear hb)
    go_ret2
    exact ⟨ret_strb (by rw [H.out]; rfl) rfl, Hb.out⟩
  | true =>
    rw [h1] at c
    have C := Lib.hid c; clear c
    by_cases h3 : p.data.toList = []
    · have hr := rest_e (s := s.data.toList) h3
      have h4 := emptyT h3; clear h3
      have hge := Lib.indexByte_ge s.data.toList 47
      rcases (show Lib.indexByte s.data.toList 47 = -1 ∨ ∃ i : Nat, Lib.indexByte s.data.toList 47 = i by
        by_cases hx : Lib.indexByte s.data.toList 47 = -1
        · exact Or.inl hx
        · exact Or.inr ⟨(Lib.indexByte s.data.toList 47).toNat, by omega⟩) with hi | ⟨i, hi⟩
      · have H := Lib.hid (child_no h1 hr hi); clear h1 hr hge
        have HI := Lib.hid hi; clear hi
        go_enter Tryz.func88, Tryz.ntmps88
        go_wp2_with (first | (go_at_call 115; refine (C.out).mono ?_; rintro e w' ⟨rfl, hb⟩; have Hb := Lib.hid hb; clear hb) | (go_at_call 116; refine (Tryz.strings_IndexByte _ _ _).mono ?_; rw [show Lib.indexByte s.data.toList (Int.toNat 47).toUInt8 = -1 from HI.out]; rintro e w2 ⟨rfl, rfl⟩))
        go_ret2
        exact ⟨ret_strb (by rw [H.out]; rfl) rfl, Hb.out⟩
      · have H := Lib.hid (child_yes h1 hr hi)
        have hlt : i < s.size := indexByte_lt hi
        clear h1 hr hge
        have HI := Lib.hid hi; clear hi
        go_enter Tryz.func88, Tryz.ntmps88
        go_wp2_with (first | (go_at_call 115; refine (C.out).mono ?_; rintro e w' ⟨rfl, hb⟩; have Hb := Lib.hid hb; clear hb) | (go_at_call 116; refine (Tryz.strings_IndexByte _ _ _).mono ?_; rw [show Lib.indexByte s.data.toList (Int.toNat 47).toUInt8 = i from HI.out]; rintro e w2 ⟨rfl, rfl⟩))
        go_ret2
        refine ⟨ret_strb (ba_ext ?_) rfl, Hb.out⟩
        rw [bs_toList, H.out, Lib.extract_data]; simp
    · have hr := rest_p (s := s.data.toList) h3
      have hln : p.size + 1 ≤ s.size := under_len h1 h3
      have h4 := emptyF h3; have h5 := emptyG h3; clear h3
      obtain ⟨r, hrr⟩ : ∃ r, r = s.extract (p.size + 1) s.size := ⟨_, rfl⟩
      have hrd : r.data.toList = s.data.toList.drop (p.size + 1) := by rw [hrr, Lib.extract_to_end]
      have hrs : r.size ≤ s.size := by
        have : r.data.toList.length = s.data.toList.length - (p.size + 1) := by rw [hrd, List.length_drop]
        have e1 : r.data.toList.length = r.size := rfl
        have e2 : s.data.toList.length = s.size := rfl
        omega
      have hr2 : restL p.data.toList s.data.toList = r.data.toList := by rw [hr, hrd]; rfl
      clear hrd hr
      have hge := Lib.indexByte_ge r.data.toList 47
      have HR := Lib.hid hrr
      rcases (show Lib.indexByte r.data.toList 47 = -1 ∨ ∃ i : Nat, Lib.indexByte r.data.toList 47 = i by
        by_cases hx : Lib.indexByte r.data.toList 47 = -1
        · exact Or.inl hx
        · exact Or.inr ⟨(Lib.indexByte r.data.toList 47).toNat, by omega⟩) with hi | ⟨i, hi⟩
      · have H := Lib.hid (child_no h1 hr2 hi); clear h1 hr2 hge hrr
        have HI := Lib.hid hi; clear hi
        go_enter Tryz.func88, Tryz.ntmps88
        go_wp2_with (first | (go_at_call 115; refine (C.out).mono ?_; rintro e w' ⟨rfl, hb⟩; have Hb := Lib.hid hb; clear hb) | (go_at_call 116; rw [← HR.out]; refine (Tryz.strings_IndexByte _ _ _).mono ?_; rw [show Lib.indexByte r.data.toList (Int.toNat 47).toUInt8 = -1 from HI.out]; rintro e w2 ⟨rfl, rfl⟩))
        go_ret2
        exact ⟨ret_strb (by rw [H.out]; rfl) rfl, Hb.out⟩
      · have H := Lib.hid (child_yes h1 hr2 hi)
        have hlt : i < r.size := indexByte_lt hi
        clear h1 hr2 hge hrr
        have HI := Lib.hid hi; clear hi
        go_enter Tryz.func88, Tryz.ntmps88
        go_wp2_with (first | (go_at_call 115; refine (C.out).mono ?_; rintro e w' ⟨rfl, hb⟩; have Hb := Lib.hid hb; clear hb) | (go_at_call 116; rw [← HR.out]; refine (Tryz.strings_IndexByte _ _ _).mono ?_; rw [show Lib.indexByte r.data.toList (Int.toNat 47).toUInt8 = i from HI.out]; rintro e w2 ⟨rfl, rfl⟩))
        go_ret2
        refine ⟨ret_strb (ba_ext ?_) rfl, Hb.out⟩
        rw [bs_toList, H.out, Lib.extract_data]; simp
end Go.Proofs.YtfbgnpfhjbiikaaGreatDoor
