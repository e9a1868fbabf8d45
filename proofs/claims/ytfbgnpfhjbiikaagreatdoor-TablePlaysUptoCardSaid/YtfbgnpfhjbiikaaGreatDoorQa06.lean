/- Contract: scriniumref17.Read. Contracts for scriniumref16 (piece, cut, Pieces, Prefix, Under, Child). Contracts for scriniumref16 (cut, Pieces, Prefix, Under, Child). Contracts for scriniumref16: Pieces, Prefix, Under, Child. Contract for scriniumref16.Child. Contract for scriniumref16.Names: insertion into a sorted list. Contracts: scriniumref18 at, Bytes, with. -/
import Derived.Test.YtfbgnpfhjbiikaaGreatDoorQa00
import Derived.Test.YtfbgnpfhjbiikaaGreatDoorQa01
import Derived.Test.YtfbgnpfhjbiikaaGreatDoorQa04
import Derived.Test.YtfbgnpfhjbiikaaGreatDoorQa05
import Derived.Deep.DeepMust
import Derived.Deep.QuietTactic
import Derived.BigQuiet
import Derived.Laws.AppendOwnNone
import Derived.Sort.Walk0
namespace Go.Proofs.YtfbgnpfhjbiikaaGreatDoor
open Go Go.RowKit
theorem read_bad {c : Cel} {n : Nat} (h : mayC c = false) : readE c n = (dV, 2) := by
  have hf : ∀ k, findE c k = (0, 2) := fun k => by unfold findE; rw [if_pos h]
  unfold readE
  rw [if_neg (by simp [h]), hf, if_pos (by simp)]
theorem read_none {c : Cel} (h : mayC c = true) (hn : nowC c = 0) : readE c 0 = (dV, 3) := by
  unfold readE; rw [if_pos ⟨rfl, hn, h⟩]
theorem read_last {c : Cel} (h : mayC c = true) (hn : nowC c ≠ 0) : readE c 0 = (lastV c.l, 0) := by
  unfold readE
  rw [if_neg (by simp [hn]), if_pos rfl, (now_last h hn).1, if_neg (by simp)]
  rfl
theorem read_at {c : Cel} {n : Nat} (hn : n ≠ 0) : readE c n = if (findE c n).2 ≠ 0 then (dV, (findE c n).2) else (c.l.getD (findE c n).1 dV, 0) := by
  unfold readE
  rw [if_neg (by simp [hn]), if_neg hn]

set_option maxRecDepth 100000 in
set_option maxHeartbeats 2000000 in
theorem ref17_read (c : Cel) (v : Value) (n : Nat) (w : World) (hv : IsVers w v c.l) (hl : c.l.length ≤ 65536) :
    Calls Tryz.prog 57 #[.agg #[.int .u64 c.last, v], .int .u64 n] w fun e w' => e = .returned (.tuple #[verVal (readE c n).1, .int .i64 (readE c n).2]) ∧ Below w.heap.size w w' := by
  have Hbad := Lib.hid (fun (h : mayC c = false) => read_bad (n := n) h)
  have Hnone := Lib.hid (fun (h : mayC c = true) (hn : nowC c = 0) => read_none h hn)
  have Hlast := Lib.hid (fun (h : mayC c = true) (hn : nowC c ≠ 0) => (⟨read_last h hn, (now_last h hn).2⟩ : readE c 0 = (lastV c.l, 0) ∧ 0 < c.l.length))
  have Hrd := Lib.hid (fun (h : n ≠ 0) => read_at (c := c) h)
  have Hp : Hid (findE c n = if mayC c = false then (0, 2) else if idxV c.l n < 0 then (0, 3) else if (c.l.getD (idxV c.l n).toNat dV).st ≠ 1 then (0, 171) else ((idxV c.l n).toNat, 0)) := Lib.hid rfl
  have Hmay := Lib.hid (fun (v : Value) (w : World) (h : IsVers w v c.l) => ref17_may c v w h (by omega))
  have Hnow := Lib.hid (fun (v : Value) (w : World) (h : IsVers w v c.l) => ref17_now c v w h (by omega))
  have Hat := Lib.hid (fun (v : Value) (w : World) (h : IsVers w v c.l) => ref17_at c v n w h hl)
  have Hz := Lib.hid (idxV_cases c.l n)
  generalize findE c n = p at Hrd Hp
  generalize mayC c = y at Hp Hmay Hbad Hnone Hlast
  generalize nowC c = m at Hnow Hnone Hlast
  generalize idxV c.l n = z at Hp Hat Hz
  have HE := Lib.hid (fun (k : Nat) (hk : k = n) => (by rw [hk] : readE c k = readE c n))
  obtain ⟨R, hR⟩ : ∃ R, readE c = R := ⟨_, rfl⟩
  rw [hR] at Hbad Hnone Hlast Hrd HE ⊢
  clear hR HE
  obtain ⟨cl, L⟩ := c
  simp only at hv hl Hmay Hnow Hat Hp Hz Hlast Hrd ⊢
  have hv2 := hv
  obtain ⟨a, cap, rfl, hc⟩ := hv2
  have HC := Lib.hid hc
  clear hc
  have Hv := Lib.hid hv; clear hv
  go_enter Tryz.func57, Tryz.ntmps57
  go_upto_region 1 with fail
  refine wp_abs (F := Two w #[.int .u64 cl, .slice a L.length cap] #[.int .u64 0, .int .u8 0, .string ByteArray.empty]) (Two.of w _ _ _ _) ?_
  intro W T
  have q0 := T.c1 0; have q1 := T.c1 1
  have T := Lib.hid T
  simp at q0 q1
  go_wp2_with fail
  refine (Hmay.out _ _ (Hv.out.below T.out.b (Nat.le_refl _))).mono ?_
  rintro e w1 ⟨rfl, hb1⟩
  have T1 := Lib.hid (T.out.step hb1)
  clear q0 q1 hb1
  have q0 := T1.out.c1 0; have q1 := T1.out.c1 1; have z0 := T1.out.c2 0; have z1 := T1.out.c2 1; have z2 := T1.out.c2 2; have g0 := T1.out.f2 0; have g1 := T1.out.f2 1; have g2 := T1.out.f2 2
  simp at q0 q1 z0 z1 z2
  cases y with
  | false =>
    go_wp2_with fail
    refine bodyPost_ret (v := .tuple #[verVal dV, .int .i64 2]) ?_ rfl ⟨by rw [Hbad.out trivial]; rfl, ?_⟩
    · simp [results, Tryz.results57, go_sem, z0, z1, z2, verVal, dV]; rfl
    · have hz := T1.out.sz
      refine ((T1.out.b.setCell ?_ _).setCell ?_ _).setCell ?_ _ <;> dsimp only <;> omega
  | true =>
    by_cases hn : n = 0
    · subst hn
      go_wp2_with fail
      refine (Hnow.out _ _ (Hv.out.below T1.out.b (Nat.le_refl _))).mono ?_
      rintro e w2 ⟨rfl, hb2⟩
      have T2 := Lib.hid (T1.out.step hb2)
      clear q0 q1 z0 z1 z2 g0 g1 g2 hb2
      have q0 := T2.out.c1 0; have q1 := T2.out.c1 1; have z0 := T2.out.c2 0; have z1 := T2.out.c2 1; have z2 := T2.out.c2 2; have g0 := T2.out.f2 0; have g1 := T2.out.f2 1; have g2 := T2.out.f2 2
      simp at q0 q1 z0 z1 z2
      by_cases hm : m = 0
      · have hM : ((m : Int) == 0) = true := by simp [hm]
        go_wp2_with fail
        refine bodyPost_ret (v := .tuple #[verVal dV, .int .i64 3]) ?_ rfl ⟨by rw [Hnone.out trivial hm]; rfl, ?_⟩
        · simp [results, Tryz.results57, go_sem, z0, z1, z2, verVal, dV]; rfl
        · have hz := T2.out.sz
          refine ((T2.out.b.setCell ?_ _).setCell ?_ _).setCell ?_ _ <;> dsimp only <;> omega
      have hM : ((m : Int) == 0) = false := by rw [beq_eq_false_iff_ne]; omega
      obtain ⟨hE, h0⟩ := Hlast.out trivial hm
      obtain ⟨k, hk⟩ : ∃ k, k = L.length - 1 := ⟨_, rfl⟩
      have hlt : k < L.length := by omega
      rcases HC.out with hnn | ⟨b, off, rfl, hblt, hcc⟩
      · subst hnn; simp at h0
      obtain ⟨h1, h2, h3⟩ := hcc k hlt
      have k1 := (T2.out.b.cell (p := ⟨b, off + k * 3, none⟩) hblt).trans h1
      have k2 := (T2.out.b.cell (p := ⟨b, off + k * 3 + 1, none⟩) hblt).trans h2
      have k3 := (T2.out.b.cell (p := ⟨b, off + k * 3 + 2, none⟩) hblt).trans h3
      obtain ⟨x, hx⟩ : ∃ x, x = L.getD k dV := ⟨_, rfl⟩
      rw [← hx] at k1 k2 k3
      have hE2 : Hid (R 0 = (x, 0)) := Lib.hid (by rw [hE, hx, hk]; rfl)
      have hsub : (L.length : Int) - 1 = (k : Int) := by omega
      have hwk : IntKind.i64.wrap (k : Int) = (k : Int) := by rw [IntKind.wrap_i64]; omega
      have hki : (k : Int) < (L.length : Int) := by omega
      clear h1 h2 h3 hcc hx hk h0 hE
      go_wp2_with fail
      refine bodyPost_ret (v := .tuple #[verVal x, .int .i64 0]) ?_ rfl ⟨by rw [hE2.out]; rfl, ?_⟩
      · simp [results, Tryz.results57, go_sem, z0, z1, z2, verVal]
      · have hz := T2.out.sz
        refine ((T2.out.b.setCell ?_ _).setCell ?_ _).setCell ?_ _ <;> dsimp only <;> omega
    have hB : ((n : Int) == 0) = false := by rw [beq_eq_false_iff_ne]; omega
    have Hrd2 := Lib.hid (Hrd.out hn)
    go_wp2_with fail
    refine (Hat.out _ _ (Hv.out.below T1.out.b (Nat.le_refl _))).mono ?_
    rintro e w2 ⟨rfl, hb2⟩
    have T2 := Lib.hid (T1.out.step hb2)
    clear q0 q1 z0 z1 z2 g0 g1 g2 hb2
    have q0 := T2.out.c1 0; have q1 := T2.out.c1 1; have z0 := T2.out.c2 0; have z1 := T2.out.c2 1; have z2 := T2.out.c2 2; have g0 := T2.out.f2 0; have g1 := T2.out.f2 1; have g2 := T2.out.f2 2
    simp at q0 q1 z0 z1 z2
    rcases Hz.out with hz | ⟨k, hz, hlt⟩
    · subst hz
      obtain rfl : p = (0, 3) := by rw [Hp.out, if_neg (by simp), if_pos (by decide)]
      have hE2 : Hid (R n = (dV, 3)) := Lib.hid (by rw [Hrd2.out, if_pos (by simp)])
      go_wp2_with fail
      refine bodyPost_ret (v := .tuple #[verVal dV, .int .i64 3]) ?_ rfl ⟨by rw [hE2.out]; rfl, ?_⟩
      · simp [results, Tryz.results57, go_sem, z0, z1, z2, verVal, dV]; rfl
      · have hz := T2.out.sz
        refine ((T2.out.b.setCell ?_ _).setCell ?_ _).setCell ?_ _ <;> dsimp only <;> omega
    subst hz
    rcases HC.out with hnn | ⟨b, off, rfl, hblt, hcc⟩
    · subst hnn; simp at hlt
    obtain ⟨h1, h2, h3⟩ := hcc k hlt
    have k1 := (T2.out.b.cell (p := ⟨b, off + k * 3, none⟩) hblt).trans h1
    have k2 := (T2.out.b.cell (p := ⟨b, off + k * 3 + 1, none⟩) hblt).trans h2
    have k3 := (T2.out.b.cell (p := ⟨b, off + k * 3 + 2, none⟩) hblt).trans h3
    obtain ⟨x, hx⟩ : ∃ x, x = L.getD k dV := ⟨_, rfl⟩
    rw [← hx] at k1 k2 k3
    have hki : (k : Int) < (L.length : Int) := by omega
    have HX := Lib.hid hx
    clear h1 h2 h3 hcc hx
    by_cases hs : x.st = 1
    · have hS : ((x.st : Int) != 1) = false := by simp [hs]
      obtain rfl : p = (k, 0) := by rw [Hp.out, if_neg (by simp), if_neg (by omega), Int.toNat_natCast, ← HX.out, if_neg (by simp [hs])]
      have hE2 : Hid (R n = (x, 0)) := Lib.hid (by rw [Hrd2.out, if_neg (by simp), HX.out])
      clear hs
      go_wp2_with fail
      refine bodyPost_ret (v := .tuple #[verVal x, .int .i64 0]) ?_ rfl ⟨by rw [hE2.out]; rfl, ?_⟩
      · simp [results, Tryz.results57, go_sem, z0, z1, z2, verVal]
      · have hz := T2.out.sz
        refine ((T2.out.b.setCell ?_ _).setCell ?_ _).setCell ?_ _ <;> dsimp only <;> omega
    · have hS : ((x.st : Int) != 1) = true := by simp; omega
      obtain rfl : p = (0, 171) := by rw [Hp.out, if_neg (by simp), if_neg (by omega), Int.toNat_natCast, ← HX.out, if_pos hs]
      have hE2 : Hid (R n = (dV, 171)) := Lib.hid (by rw [Hrd2.out, if_pos (by simp)])
      go_wp2_with fail
      refine bodyPost_ret (v := .tuple #[verVal dV, .int .i64 171]) ?_ rfl ⟨by rw [hE2.out]; rfl, ?_⟩
      · simp [results, Tryz.results57, go_sem, z0, z1, z2, verVal, dV]; rfl
      · have hz := T2.out.sz
        refine ((T2.out.b.setCell ?_ _).setCell ?_ _).setCell ?_ _ <;> dsimp only <;> omega
end Go.Proofs.YtfbgnpfhjbiikaaGreatDoor

namespace Go.Proofs.YtfbgnpfhjbiikaaGreatDoor
open Go Go.RowKit Pth
theorem take_snoc (s : ByteArray) (k : Nat) (h : k < s.size) : s.data.toList.take (k + 1) = s.data.toList.take k ++ [s[k]] := by
  rw [List.take_succ_eq_append_getElem (by simpa using h)]; rfl

theorem all_take_succ (s : ByteArray) (k : Nat) (h : k < s.size) (h0 : (s.data.toList.take k).all okc = true) (hc : okc s[k] = true) : (s.data.toList.take (k + 1)).all okc = true := by
  rw [take_snoc s k h, List.all_append, h0]; simp [hc]
theorem okPiece_no (s : ByteArray) (k : Nat) (h : k < s.size) (hc : okc s[k] = false) : okPiece s.data.toList = false := by
  have : s.data.toList.all okc = false := by
    rw [List.all_eq_false]; exact ⟨s[k], by simp only [Array.mem_toList_iff]; exact Array.getElem_mem h, by simp [hc]⟩
  simp [okPiece, this]
theorem okPiece_yes (s : ByteArray) (h1 : 1 ≤ s.size) (h2 : s.size ≤ 32) (k : Nat) (h : ¬ k < s.size) (h0 : (s.data.toList.take k).all okc = true) : okPiece s.data.toList = true := by
  rw [List.take_of_length_le (by simp; omega)] at h0
  simp [okPiece, h0]; exact ⟨h1, h2⟩
theorem okPiece_size (s : ByteArray) (h : ¬ (1 ≤ s.size ∧ s.size ≤ 32)) : okPiece s.data.toList = false := by
  have e : s.data.toList.length = s.size := by simp
  simp only [okPiece, e, Bool.and_eq_false_iff]
  by_cases h1 : 1 ≤ s.size
  · left; right; rw [decide_eq_false_iff_not]; omega
  · left; left; rw [decide_eq_false_iff_not]; omega
theorem okc_cases (c : UInt8) : (okc c = true ∧ (97 ≤ (c.toNat : Int) ∧ (c.toNat : Int) ≤ 122)) ∨ (okc c = true ∧ (c.toNat : Int) < 97 ∧ 48 ≤ (c.toNat : Int) ∧ (c.toNat : Int) ≤ 57) ∨ (okc c = true ∧ (c.toNat : Int) ≤ 46 ∧ 46 ≤ (c.toNat : Int)) ∨ (okc c = true ∧ (c.toNat : Int) ≤ 95 ∧ 95 ≤ (c.toNat : Int)) ∨ (okc c = true ∧ (c.toNat : Int) ≤ 45 ∧ 45 ≤ (c.toNat : Int)) ∨
    (okc c = false ∧ (c.toNat : Int) < 45) ∨ (okc c = false ∧ 46 < (c.toNat : Int) ∧ (c.toNat : Int) < 48) ∨ (okc c = false ∧ 57 < (c.toNat : Int) ∧ (c.toNat : Int) < 95) ∨ (okc c = false ∧ 95 < (c.toNat : Int) ∧ (c.toNat : Int) < 97) ∨ (okc c = false ∧ 122 < (c.toNat : Int)) := by
  simp only [okc, Bool.or_eq_true, decide_eq_true_eq, Bool.or_eq_false_iff, decide_eq_false_iff_not]
  omega

set_option maxHeartbeats 1000000 in
theorem ref16_piece (s : ByteArray) (hs : s.size ≤ maxLen) (w : World) :
    Calls Tryz.prog 85 #[.string s] w fun e w' => e = .returned (.bool (okPiece s.data.toList)) ∧ w = w' := by
  unfold maxLen at hs
  by_cases h1 : 1 ≤ s.size ∧ s.size ≤ 32
  · obtain ⟨h1, h2⟩ := h1
    go_enter Tryz.func85, Tryz.ntmps85
    go_wp2
    go_loop [3] (fun i => ∃ k : Nat, k ≤ s.size ∧ i = .int .i64 k ∧ Hid ((s.data.toList.take k).all okc = true)) (fun i => s.size - (intOf i).toNat)
    case atStart => exact ⟨0, Nat.zero_le _, rfl, Lib.hid rfl⟩
    case round =>
      obtain ⟨k, hk, rfl, hall⟩ := hrel
      by_cases hlt : k < s.size
      · rcases okc_cases s[k] with ⟨ho, hx⟩ | ⟨ho, hx⟩ | ⟨ho, hx⟩ | ⟨ho, hx⟩ | ⟨ho, hx⟩ | ⟨ho, hx⟩ | ⟨ho, hx⟩ | ⟨ho, hx⟩ | ⟨ho, hx⟩ | ⟨ho, hx⟩
        all_goals (have Ho := Lib.hid ho; clear ho; go_wp2)
        all_goals first
          | (exfalso; omega)
          | (go_round
             case rel => exact ⟨k + 1, by omega, by go_num, Lib.hid (all_take_succ s k hlt hall.out Ho.out)⟩
             case measure => simp [intOf]; omega)
          | (go_ret; exact ⟨ret_bool (okPiece_no s k hlt Ho.out).symm, rfl⟩)
          | (exfalso; simp at *; omega)
      · go_wp2
        go_ret
        exact ⟨ret_bool (okPiece_yes s h1 h2 k hlt hall.out).symm, rfl⟩
  · have H := Lib.hid (okPiece_size s h1)
    rcases (show s.size < 1 ∨ (1 ≤ s.size ∧ 32 < s.size) by omega) with h1 | ⟨h1, h2⟩
    all_goals
      go_enter Tryz.func85, Tryz.ntmps85
      go_wp2
      go_ret
      exact ⟨ret_bool H.out.symm, rfl⟩

end Go.Proofs.YtfbgnpfhjbiikaaGreatDoor

namespace Go.Proofs.YtfbgnpfhjbiikaaGreatDoor
open Go Go.RowKit Pth
theorem info9 : (Tryz.prog.info? 9).map (fun i => (i.zero, i.size, i.bytes)) = some (some (.string ByteArray.empty), 1, 16) := by kernel_rfl

def CutRel (s : List UInt8) (k p : Nat) (done : List ByteArray) : Prop :=
  (k ≤ s.length ∧ p ≤ k ∧ (∀ c ∈ (s.drop p).take (k - p), c ≠ 47) ∧ done.map (·.data.toList) ++ glue ((s.drop p).take (k - p)) (splitL (s.drop k)) = splitL s) ∨ (k = s.length + 1 ∧ done.map (·.data.toList) = splitL s)
theorem CutRel.start (s : List UInt8) : CutRel s 0 0 [] := by
  left; refine ⟨Nat.zero_le _, Nat.le_refl _, by simp, ?_⟩
  simp [glue_nil _ (splitL_ne s)]
theorem CutRel.skip {s : List UInt8} {k p : Nat} {done : List ByteArray} (h : CutRel s k p done) (hk : k < s.length) (hc : s[k] ≠ 47) : CutRel s (k + 1) p done := by
  rcases h with ⟨_, hp, hno, he⟩ | ⟨h1, _⟩
  · left
    have e1 : (s.drop p).take (k + 1 - p) = (s.drop p).take (k - p) ++ [s[k]] := by
      rw [show k + 1 - p = (k - p) + 1 by omega, List.take_succ_eq_append_getElem (by rw [List.length_drop]; omega)]
      congr 2
      rw [List.getElem_drop]; congr 1; omega
    have e2 : splitL (s.drop k) = glue [s[k]] (splitL (s.drop (k + 1))) := by
      rw [List.drop_eq_getElem_cons hk, splitL, if_neg hc]
    refine ⟨by omega, by omega, ?_, ?_⟩
    · rw [e1]; intro c hc2
      rcases List.mem_append.1 hc2 with h | h
      · exact hno c h
      · rw [List.mem_singleton] at h; subst h; exact hc
    · rw [e2, glue_glue _ _ _ (splitL_ne _)] at he
      rw [e1]; exact he
  · omega
theorem CutRel.slash {s : List UInt8} {k p : Nat} {done : List ByteArray} (h : CutRel s k p done) (hk : k < s.length) (hc : s[k] = 47) {x : ByteArray} (hx : x.data.toList = (s.drop p).take (k - p)) : CutRel s (k + 1) (k + 1) (done ++ [x]) := by
  rcases h with ⟨_, hp, hno, he⟩ | ⟨h1, _⟩
  · left
    refine ⟨by omega, by omega, by simp, ?_⟩
    rw [List.drop_eq_getElem_cons hk, hc, splitL_slash] at he
    rw [Nat.sub_self, List.take_zero, glue_nil _ (splitL_ne _), List.map_append, ← he]
    simp [glue, hx]
  · omega
theorem CutRel.last {s : List UInt8} {k p : Nat} {done : List ByteArray} (h : CutRel s k p done) (hk : k = s.length) {x : ByteArray} (hx : x.data.toList = (s.drop p).take (k - p)) : CutRel s (k + 1) (k + 1) (done ++ [x]) := by
  rcases h with ⟨_, hp, hno, he⟩ | ⟨h1, _⟩
  · right
    refine ⟨by omega, ?_⟩
    rw [hk, List.drop_length] at he
    rw [← he, List.map_append]
    simp [splitL, glue, hx, hk]
  · omega
theorem CutRel.fin {s : List UInt8} {k p : Nat} {done : List ByteArray} (h : CutRel s k p done) (hk : s.length < k) : done.map (·.data.toList) = splitL s := by
  rcases h with ⟨h1, _⟩ | ⟨_, h2⟩
  · omega
  · exact h2
theorem CutRel.bound {s : List UInt8} {k p : Nat} {done : List ByteArray} (h : CutRel s k p done) (hk : k ≤ s.length) : p ≤ k := by
  rcases h with ⟨_, hp, _⟩ | ⟨h1, _⟩ <;> omega
theorem one_str (x : ByteArray) : ∀ u ∈ [Value.string x], u.oneCell' = true := by intro u hu; simp at hu; subst hu; rfl

theorem own_above {w : World} {B e n : Nat} {v : Value} {xs : List Value} (h : w.ownsRow B e 1 v n xs) : ∀ k, v.ownBlock = some k → B ≤ k := by
  intro k hk
  rcases h.2 with ⟨hv, _⟩ | ⟨g, cap, cur, hv, hB, _⟩
  · subst hv; cases hk
  · subst hv; cases hk; exact hB
def CutGives (s : List UInt8) (w : World) (e : Ending) (w' : World) : Prop :=
  ∃ (v : Value) (l : List ByteArray), e = .returned v ∧ w'.ownsRow w.heap.size 9 1 v l.length (l.map Value.string) ∧ l.map (·.data.toList) = splitL s ∧ Below w.heap.size w w'

set_option maxRecDepth 100000 in
set_option maxHeartbeats 1000000 in
theorem ref16_cut (s : ByteArray) (hs : s.size ≤ 128) (w : World) :
    Calls Tryz.prog 84 #[.string s] w (CutGives s.data.toList w) := by
  have e0 : s.data.toList.length = s.size := rfl
  obtain ⟨i0, hi, hz0, hz1, hz2⟩ := info_parts info9
  go_enter Tryz.func84, Tryz.ntmps84
  go_wp2
  go_loopw [3, 4, 5] (fun v p i wr => ∃ (k q : Nat) (done : List ByteArray), k ≤ s.size + 1 ∧ q ≤ k ∧ done.length ≤ k ∧ i = .int .i64 k ∧ p = .int .i64 q ∧ wr.ownsRow w.heap.size 9 1 v done.length (done.map Value.string) ∧ Hid (CutRel s.data.toList k q done) ∧ Below w.heap.size w wr) (fun _ _ i _ => s.size + 1 - (intOf i).toNat)
  case atStart => exact ⟨0, 0, [], Nat.zero_le _, Nat.le_refl _, Nat.le_refl _, rfl, rfl, World.ownsRow_nil _ _ _ _, Lib.hid (CutRel.start _), Below.refl _ _⟩
  case round =>
    obtain ⟨k, q, done, hk, hq, hd, rfl, rfl, hown, hrl, hbw⟩ := hrel
    rcases (show k < s.size ∨ k = s.size ∨ k = s.size + 1 by omega) with hlt | heq | hgt
    · by_cases hc : s.data.toList[k]'hlt = 47
      · have Hc := Lib.hid hc
        have hcb : 47 ≤ (s[k].toNat : Int) ∧ (s[k].toNat : Int) ≤ 47 := by
          have : s[k] = 47 := hc
          rw [this]; decide
        have hcB : ((s[k].toNat : Int) == 47) = true := by rw [beq_iff_eq]; omega
        clear hc e0
        go_wp2_with (at_builtin; (refine wpList_append_own _ rfl _ _ 24 rfl w.heap.size 9 i0 (.string ByteArray.empty) 1 16 Tryz.underlying24 hi hz0 hz1 hz2 rfl (by decide) _ _ _ rfl (hown.alloc _) ⟨wr.heap.size, 0, none⟩ 1 1 [.string (s.extract q k)] rfl rfl (cell_one_new _ _ _) (one_str _) (by unfold maxLen; omega) (by omega) (by have := hbw.size; simp; omega) ?_); intro v' w1 hown' hgrow hnil)
        have R := hrl.out.slash hlt Hc.out (x := s.extract q k) (by rw [Lib.extract_data])
        have hcl := hbw.size
        have Hown := Lib.hid hown'
        have Hb := Lib.hid ((hbw.alloc hcl _).grown hgrow (by simp; omega) (own_above hown))
        clear hown' hgrow hnil hown hbw
        go_wp2
        go_roundw
        case rel => exact ⟨k + 1, k + 1, done ++ [s.extract q k], by omega, by omega, by simp; omega, by go_num, by go_num, by rw [List.length_append, List.map_append]; exact Hown.out, Lib.hid R, Hb.out⟩
        case measure => simp [intOf]; omega
      · have Hc := Lib.hid hc
        have hcB : ((s[k].toNat : Int) == 47) = false := by
          have : s[k].toNat ≠ 47 := fun h => hc (UInt8.toNat_inj.1 h)
          rw [beq_eq_false_iff_ne]; omega
        have hcN : ¬ ((s[k].toNat : Int) = 47) := by rw [beq_eq_false_iff_ne] at hcB; exact hcB
        clear hc e0
        · go_wp2
          go_roundw
          case rel => exact ⟨k + 1, q, done, by omega, by omega, by omega, by go_num, rfl, hown, Lib.hid (hrl.out.skip hlt Hc.out), hbw⟩
          case measure => simp [intOf]; omega
    · have hkB : ((k : Int) == (s.size : Int)) = true := by rw [beq_iff_eq]; omega
      have hle : k ≤ s.size := by omega
      have Heq := Lib.hid heq
      clear heq e0
      go_wp2_with (at_builtin; (refine wpList_append_own _ rfl _ _ 24 rfl w.heap.size 9 i0 (.string ByteArray.empty) 1 16 Tryz.underlying24 hi hz0 hz1 hz2 rfl (by decide) _ _ _ rfl (hown.alloc _) ⟨wr.heap.size, 0, none⟩ 1 1 [.string (s.extract q k)] rfl rfl (cell_one_new _ _ _) (one_str _) (by unfold maxLen; omega) (by omega) (by have := hbw.size; simp; omega) ?_); intro v' w1 hown' hgrow hnil)
      have R := hrl.out.last Heq.out (x := s.extract q k) (by rw [Lib.extract_data])
      have hcl := hbw.size
      have Hown := Lib.hid hown'
      have Hb := Lib.hid ((hbw.alloc hcl _).grown hgrow (by simp; omega) (own_above hown))
      clear hown' hgrow hnil hown hbw
      go_wp2
      have heq := Heq.out
      go_roundw
      case rel => exact ⟨k + 1, k + 1, done ++ [s.extract q k], by omega, by omega, by simp; omega, by go_num, by go_num, by rw [List.length_append, List.map_append]; exact Hown.out, Lib.hid R, Hb.out⟩
      case measure => simp [intOf]; omega
    · have Hown := Lib.hid hown; have Hb := Lib.hid hbw
      have hgt2 : ¬ (k : Int) ≤ (s.size : Int) := by omega
      have Hf := Lib.hid (hrl.out.fin (by omega))
      have hlt : (s.size : Int) < (k : Int) := by omega
      clear hgt hown hbw e0
      go_wp2
      go_ret
      exact ⟨_, done, rfl, Hown.out, Hf.out, Hb.out⟩
end Go.Proofs.YtfbgnpfhjbiikaaGreatDoor

namespace Go.Proofs.YtfbgnpfhjbiikaaGreatDoor
open Go Go.RowKit Pth
def GivesStrs (l : List (List UInt8)) (w : World) (e : Ending) (w' : World) : Prop :=
  ∃ (v : Value) (m : List ByteArray), e = .returned v ∧ IsStrs w' v m ∧ m.map (·.data.toList) = l ∧ Below w.heap.size w w'

theorem rpiece_small {s : List UInt8} : ∀ p ∈ splitL s, p.length ≤ s.length := by
  induction s with
  | nil => intro p hp; simp [splitL] at hp; subst hp; simp
  | cons c r ih =>
    intro p hp
    unfold splitL at hp
    split at hp
    · rcases List.mem_cons.1 hp with rfl | h
      · simp
      · have := ih p h; simp; omega
    · rcases hr : splitL r with _ | ⟨a, b⟩
      · exact absurd hr (splitL_ne r)
      · rw [hr] at hp ih
        simp [glue] at hp
        rcases hp with rfl | h
        · have := ih a (by simp); simp; omega
        · have := ih p (by simp [h]); simp; omega
theorem rel_small {l : List ByteArray} {s : List UInt8} (h : l.map (·.data.toList) = splitL s) (i : Nat) (hi : i < l.length) : (l.getD i ByteArray.empty).size ≤ s.length := by
  have : (l.getD i ByteArray.empty).data.toList ∈ splitL s := by
    rw [← h, List.getD_eq_getElem?_getD, List.getElem?_eq_getElem hi]
    exact List.mem_map.2 ⟨l[i], List.getElem_mem hi, rfl⟩
  exact rpiece_small _ this
theorem okAll_map {l : List ByteArray} {m : List (List UInt8)} (h : l.map (·.data.toList) = m) : l.all (fun s => okPiece s.data.toList) = m.all okPiece := by
  subst h; induction l with
  | nil => rfl
  | cons a t ih => simp [ih]
theorem all_take_snoc {l : List ByteArray} {k : Nat} {p : ByteArray → Bool} (hk : k < l.length) (h0 : (l.take k).all p = true) (h1 : p (l.getD k ByteArray.empty) = true) : (l.take (k + 1)).all p = true := by
  rw [List.take_succ_eq_append_getElem hk, List.all_append, h0]
  rw [List.getD_eq_getElem?_getD, List.getElem?_eq_getElem hk] at h1
  simpa using h1
theorem all_hit {l : List ByteArray} {k : Nat} {p : ByteArray → Bool} (hk : k < l.length) (h1 : p (l.getD k ByteArray.empty) = false) : l.all p = false := by
  rw [List.getD_eq_getElem?_getD, List.getElem?_eq_getElem hk] at h1
  exact List.all_eq_false.2 ⟨l[k], List.getElem_mem hk, by simpa using h1⟩

theorem pieces_long {s : List UInt8} (h : 128 < s.length) : piecesL s = [] := by unfold piecesL; rw [if_pos h]
theorem pieces_many {s : List UInt8} (h : 8 < (splitL s).length) : piecesL s = [] := by unfold piecesL; rw [if_pos h]; split <;> rfl
theorem pieces_bad {s : List UInt8} (h : (splitL s).all okPiece = false) : piecesL s = [] := by
  unfold piecesL; rw [if_neg (c := (splitL s).all okPiece = true) (by rw [h]; simp)]; split <;> (try split) <;> rfl
theorem pieces_good {s : List UInt8} (h : s.length ≤ 128) (h1 : (splitL s).length ≤ 8) (h2 : (splitL s).all okPiece = true) : piecesL s = splitL s := by
  unfold piecesL; rw [if_neg (by omega), if_neg (by omega), if_pos h2]

set_option maxRecDepth 100000 in
set_option maxHeartbeats 1000000 in
theorem ref16_pieces (s : ByteArray) (hs : s.size ≤ 140737488351232) (w : World) :
    Calls Tryz.prog 55 #[.string s] w (GivesStrs (piecesL s.data.toList) w) := by
  by_cases h1 : 128 < s.size
  · have H := Lib.hid (pieces_long (s := s.data.toList) h1)
    go_enter Tryz.func55, Tryz.ntmps55
    go_wp2
    go_ret
    exact ⟨_, [], rfl, IsStrs.nil _, by rw [H.out]; rfl, Below.refl _ _⟩
  · have c := fun w => ref16_cut s (by omega) w
    have C := Lib.hid c; clear c
    go_enter Tryz.func55, Tryz.ntmps55
    go_wp2_with fail
    refine (C.out _).mono ?_
    rintro e w1 ⟨v, L, rfl, hown, hL, hb⟩
    have HL := Lib.hid hL; clear hL
    have Hb := Lib.hid hb; clear hb
    have hst := IsStrs.own hown
    clear hown
    obtain ⟨a, cap, rfl, hc⟩ := hst
    have HC := Lib.hid hc; clear hc
    by_cases h2 : 8 < L.length
    · go_wp2
      go_ret
      exact ⟨_, [], rfl, IsStrs.nil _, by rw [pieces_many (by rw [← HL.out, List.length_map]; exact h2)]; rfl, Hb.out⟩
    · go_wp2
      go_loop [4] (fun i => ∃ k : Nat, k ≤ L.length ∧ i = .int .i64 k ∧ Hid ((L.take k).all (fun s => okPiece s.data.toList) = true)) (fun i => L.length - (intOf i).toNat)
      case atStart => exact ⟨0, Nat.zero_le _, rfl, Lib.hid rfl⟩
      case round =>
        obtain ⟨k, hk, rfl, hall⟩ := hrel
        by_cases hlt : k < L.length
        · rcases HC.out with hn | ⟨b, off, rfl, hblt, hcc⟩
          · subst hn; simp at hlt
          have hcell := hcc k hlt
          have hsz := rel_small HL.out k hlt
          obtain ⟨x, hx⟩ : ∃ x, x = L.getD k ByteArray.empty := ⟨_, rfl⟩
          rw [← hx] at hcell hsz
          have Hx := Lib.hid hx; clear hx hcc
          have e0 : s.data.toList.length = s.size := rfl
          have hxm : x.size ≤ maxLen := by unfold maxLen; omega
          clear hsz e0
          have hp := ref16_piece x hxm w1
          cases ho : okPiece x.data.toList with
          | true =>
            rw [ho] at hp
            have Ho := Lib.hid ho; clear ho
            have Hp := Lib.hid hp; clear hp
            go_wp2_with (go_at_call 85; refine (Hp.out).mono ?_; rintro e w' ⟨rfl, rfl⟩)
            go_round
            case rel => exact ⟨k + 1, by omega, by go_num, Lib.hid (all_take_snoc hlt hall.out (by rw [← Hx.out]; exact Ho.out))⟩
            case measure => simp [intOf]; omega
          | false =>
            rw [ho] at hp
            have Ho := Lib.hid ho; clear ho
            have Hp := Lib.hid hp; clear hp
            go_wp2_with (go_at_call 85; refine (Hp.out).mono ?_; rintro e w' ⟨rfl, rfl⟩)
            go_ret
            exact ⟨_, [], rfl, IsStrs.nil _, by rw [pieces_bad (by rw [← okAll_map HL.out]; exact all_hit hlt (by rw [← Hx.out]; exact Ho.out))]; rfl, Hb.out⟩
        · have hall2 := hall.out
          rw [List.take_of_length_le (by omega), okAll_map HL.out] at hall2
          have H2 := Lib.hid hall2; clear hall2
          go_wp2
          go_ret
          exact ⟨_, L, rfl, ⟨a, cap, rfl, HC.out⟩, by rw [HL.out, pieces_good (by show s.size ≤ 128; omega) (by rw [← HL.out, List.length_map]; omega) H2.out], Hb.out⟩

theorem remptyT {s : ByteArray} (h : s.data.toList = []) : s.toList = [] := by rw [ByteArray.toList_eq]; exact h
theorem remptyF {s : ByteArray} (h : ¬ s.data.toList = []) : s.toList.isEmpty = false := by rw [ByteArray.toList_eq]; simpa using h
theorem remptyG {s : ByteArray} (h : ¬ s.data.toList = []) : ¬ s.toList = [] := by rw [ByteArray.toList_eq]; exact h

set_option maxRecDepth 100000 in
set_option maxHeartbeats 1000000 in
theorem ref16_prefix (s : ByteArray) (hs : s.size ≤ 140737488351232) (w : World) :
    Calls Tryz.prog 143 #[.string s] w fun e w' => e = .returned (.bool (prefL s.data.toList)) ∧ Below w.heap.size w w' := by
  by_cases h : s.data.toList = []
  · have H := Lib.hid h; have h1 := remptyT h; clear h
    go_enter Tryz.func143, Tryz.ntmps143
    go_wp2_with fail
    go_ret
    exact ⟨ret_bool (by rw [H.out]; rfl), Below.refl _ _⟩
  · have c := ref16_pieces s hs w
    have C := Lib.hid c; clear c
    have H := Lib.hid h; have h1 := remptyF h; have h2 := remptyG h; clear h
    go_enter Tryz.func143, Tryz.ntmps143
    go_wp2_with (go_at_call 55; refine (C.out).mono ?_; rintro e w' ⟨v, m, rfl, ⟨a, cap, rfl, hc⟩, hm, hb⟩; have Hb := Lib.hid hb; clear hb; have Hc := Lib.hid hc; clear hc; have Hm := Lib.hid hm; clear hm)
    go_ret
    refine ⟨ret_bool ?_, Hb.out⟩
    have h3 : s.data.toList.isEmpty = false := by simpa using H.out
    simp only [prefL, mayL, h3, Bool.false_or, ← Hm.out]
    cases m <;> simp

theorem under_rf {p s : List UInt8} (h : prefL p = false) : underR p s = false := by simp [underR, h]
theorem under_rl {p s : List UInt8} (h : (piecesL s).length ≤ (piecesL p).length) : underR p s = false := by
  have : ¬ (piecesL p).length < (piecesL s).length := by omega
  simp [underR, this]
theorem under_rp {p s : List UInt8} (h : prefL p = true) (h2 : (piecesL p).length < (piecesL s).length) : underR p s = (piecesL p).isPrefixOf (piecesL s) := by simp [underR, h, h2]

def Agree (p l : List ByteArray) (k : Nat) : Prop := ∀ i, i < k → p.getD i ByteArray.empty = l.getD i ByteArray.empty
theorem Agree.snoc {p l : List ByteArray} {k : Nat} (h : Agree p l k) (h1 : p.getD k ByteArray.empty = l.getD k ByteArray.empty) : Agree p l (k + 1) := by
  intro i hi
  by_cases e : i = k
  · subst e; exact h1
  · exact h i (by omega)
theorem pieces_le (s : List UInt8) : (piecesL s).length ≤ 8 := by
  unfold piecesL; repeat' split
  all_goals first | omega | simp
theorem below_drewN' {B : Nat} {a w : World} (h : Below B a w) (q : Nat) : Below B a (w.drewN q) := ⟨h.os, h.tape, h.output, h.size, h.block⟩
theorem Agree.all {p l : List ByteArray} (hl : p.length ≤ l.length) (h : Agree p l p.length) : (p.map (·.data.toList)).isPrefixOf (l.map (·.data.toList)) = true := by
  rw [isPrefixOf_iff']
  refine ⟨(l.drop p.length).map (·.data.toList), ?_⟩
  rw [← List.map_append]
  congr 1
  refine List.ext_getElem (by simp; omega) fun i h1 h2 => ?_
  by_cases hi : i < p.length
  · rw [List.getElem_append_left hi]
    have := h i hi
    rw [List.getD_eq_getElem?_getD, List.getD_eq_getElem?_getD, List.getElem?_eq_getElem hi, List.getElem?_eq_getElem h1] at this
    exact this.symm
  · rw [List.getElem_append_right (by omega), List.getElem_drop]; congr 1; omega
theorem Agree.no {p l : List ByteArray} {k : Nat} (hk : k < p.length) (hl : p.length ≤ l.length) (h : p.getD k ByteArray.empty ≠ l.getD k ByteArray.empty) : (p.map (·.data.toList)).isPrefixOf (l.map (·.data.toList)) = false := by
  rw [Bool.eq_false_iff]
  intro hp
  rw [isPrefixOf_iff'] at hp
  obtain ⟨t, ht⟩ := hp
  have : (l.map (·.data.toList))[k]? = (p.map (·.data.toList))[k]? := by rw [ht, List.getElem?_append_left (by simpa using hk)]
  rw [List.getElem?_map, List.getElem?_map, List.getElem?_eq_getElem hk, List.getElem?_eq_getElem (show k < l.length by omega)] at this
  apply h
  rw [List.getD_eq_getElem?_getD, List.getD_eq_getElem?_getD, List.getElem?_eq_getElem hk, List.getElem?_eq_getElem (show k < l.length by omega)]
  exact ba_ext (by simpa using this.symm)

set_option maxRecDepth 100000 in
set_option maxHeartbeats 1000000 in
theorem ref16_under (p s : ByteArray) (hp : p.size ≤ 140737488351232) (hs : s.size ≤ 140737488351232) (w : World) :
    Calls Tryz.prog 118 #[.string p, .string s] w fun e w' => e = .returned (.bool (underR p.data.toList s.data.toList)) ∧ Below w.heap.size w w' := by
  have C1 := Lib.hid (ref16_pieces p hp w)
  have C2 := Lib.hid (fun w => ref16_pieces s hs w)
  have C3 := Lib.hid (fun w => ref16_prefix p hp w)
  go_enter Tryz.func118, Tryz.ntmps118
  go_wp2_with fail
  refine (C1.out).mono ?_
  rintro e w1 ⟨v1, m1, rfl, hst1, hm1, hb1⟩
  have Hm1 := Lib.hid hm1; clear hm1
  obtain ⟨a1, cap1, rfl, hc1⟩ := hst1
  have Hb1 := Lib.hid hb1; clear hb1
  have Hc1 := Lib.hid hc1; clear hc1
  go_wp2_with fail
  refine (C2.out _).mono ?_
  rintro e w2 ⟨v2, m2, rfl, hst2, hm2, hb2⟩
  have Hm2 := Lib.hid hm2; clear hm2
  obtain ⟨a2, cap2, rfl, hc2⟩ := hst2
  have Hb2 := Lib.hid hb2; clear hb2
  have Hc2 := Lib.hid hc2; clear hc2
  go_wp2_with fail
  refine (C3.out _).mono ?_
  rintro e w3 ⟨rfl, hb3⟩
  have Hb3 := Lib.hid hb3; clear hb3
  have hB : Below w.heap.size w w3 := (Hb1.out.trans (Hb2.out.mono Hb1.out.size)).trans (Hb3.out.mono (Nat.le_trans Hb1.out.size Hb2.out.size))
  have HB := Lib.hid hB; clear hB
  cases h1 : prefL p.data.toList with
  | false =>
    have H := Lib.hid (under_rf (s := s.data.toList) h1); clear h1
    go_wp2
    go_ret
    exact ⟨ret_bool H.out.symm, HB.out⟩
  | true =>
    by_cases h2 : m2.length ≤ m1.length
    · have H := Lib.hid (under_rl (p := p.data.toList) (s := s.data.toList) (by rw [← Hm1.out, ← Hm2.out, List.length_map, List.length_map]; exact h2)); clear h1
      go_wp2
      go_ret
      exact ⟨ret_bool H.out.symm, HB.out⟩
    · have h2' : m1.length < m2.length := by omega
      have H := Lib.hid (under_rp (p := p.data.toList) (s := s.data.toList) h1 (by rw [← Hm1.out, ← Hm2.out, List.length_map, List.length_map]; exact h2')); clear h1 h2
      have hst1 := (show IsStrs w1 (.slice a1 m1.length cap1) m1 from ⟨a1, cap1, rfl, Hc1.out⟩).below (Hb2.out.trans (Hb3.out.mono Hb2.out.size)) (Nat.le_refl _)
      have hst2 := (show IsStrs w2 (.slice a2 m2.length cap2) m2 from ⟨a2, cap2, rfl, Hc2.out⟩).below Hb3.out (Nat.le_refl _)
      clear Hc1 Hc2
      have hle1 : m1.length ≤ 8 := by have := pieces_le p.data.toList; rw [← Hm1.out, List.length_map] at this; exact this
      have hle2 : m2.length ≤ 8 := by have := pieces_le s.data.toList; rw [← Hm2.out, List.length_map] at this; exact this
      have Hst1 := Lib.hid hst1; have Hst2 := Lib.hid hst2; clear hst1 hst2
      go_wp2
      go_loopw [7] (fun i wr => ∃ k : Nat, k ≤ m1.length ∧ i = .int .i64 k ∧ Hid (Agree m1 m2 k) ∧ Below w3.heap.size w3 wr) (fun i _ => m1.length - (intOf i).toNat)
      case atStart => exact ⟨0, Nat.zero_le _, rfl, Lib.hid (fun i hi => by omega), Below.refl _ _⟩
      case round =>
        obtain ⟨k, hk, rfl, hag, hbw⟩ := hrel
        by_cases hlt : k < m1.length
        · obtain ⟨_, _, hv1, hcc1⟩ := Hst1.out
          obtain ⟨_, _, hv2, hcc2⟩ := Hst2.out
          simp only [Value.slice.injEq] at hv1 hv2
          obtain ⟨rfl, _, rfl⟩ := hv1
          obtain ⟨rfl, _, rfl⟩ := hv2
          rcases hcc1 with hn | ⟨b1, o1, rfl, hl1, hcc1⟩
          · subst hn; simp at hlt
          rcases hcc2 with hn | ⟨b2, o2, rfl, hl2, hcc2⟩
          · subst hn; simp at h2'
          have hcell1 := (hbw.cell (p := ⟨b1, o1 + k, none⟩) hl1).trans (hcc1 k hlt)
          have hcell2 := (hbw.cell (p := ⟨b2, o2 + k, none⟩) hl2).trans (hcc2 k (by omega))
          have hlt2 : k < m2.length := by omega
          clear hcc1 hcc2
          have Hbw := Lib.hid hbw; clear hbw
          obtain ⟨x, hx⟩ : ∃ x, x = m1.getD k ByteArray.empty := ⟨_, rfl⟩
          obtain ⟨y, hy⟩ : ∃ y, y = m2.getD k ByteArray.empty := ⟨_, rfl⟩
          rw [← hx] at hcell1
          rw [← hy] at hcell2
          have Hx := Lib.hid hx; have Hy := Lib.hid hy; clear hx hy
          by_cases hxy : x = y
          · have hB : (x.toList == y.toList) = true := by rw [hxy]; simp
            have Hxy := Lib.hid hxy; clear hxy
            go_wp2
            go_quiet (fail)
            go_wp2
            go_roundw
            case rel => exact ⟨k + 1, by omega, by go_num, Lib.hid (hag.out.snoc (by rw [← Hx.out, ← Hy.out]; exact Hxy.out)), below_drewN' Hbw.out _⟩
            case measure => simp [intOf]; omega
          · have hB : (x.toList == y.toList) = false := by
              rw [beq_eq_false_iff_ne, ByteArray.toList_eq, ByteArray.toList_eq]; exact fun h => hxy (ba_ext h)
            have Hxy := Lib.hid hxy; clear hxy
            go_wp2
            go_quiet (fail)
            go_wp2
            go_ret
            refine ⟨ret_bool ?_, HB.out.trans ((below_drewN' Hbw.out _).mono HB.out.size)⟩
            rw [H.out, ← Hm1.out, ← Hm2.out]
            exact (Agree.no hlt (by omega) (by rw [← Hx.out, ← Hy.out]; exact Hxy.out)).symm
        · obtain rfl : k = m1.length := by omega
          have Hbw := Lib.hid hbw; clear hbw
          go_wp2
          go_ret
          refine ⟨ret_bool ?_, HB.out.trans (Hbw.out.mono HB.out.size)⟩
          rw [H.out, ← Hm1.out, ← Hm2.out]
          exact (hag.out.all (by omega)).symm
end Go.Proofs.YtfbgnpfhjbiikaaGreatDoor

namespace Go.Proofs.YtfbgnpfhjbiikaaGreatDoor
open Go Go.RowKit Pth
theorem child_rn {p s : List UInt8} (h : underR p s = false) : childR p s = [] := by unfold childR; rw [h]; rfl
theorem child_rs {p s : List UInt8} {m1 m2 : List ByteArray} (h : underR p s = true) (h1 : m1.map (·.data.toList) = piecesL p) (h2 : m2.map (·.data.toList) = piecesL s) (hlt : m1.length + 1 < m2.length) :
    childR p s = (m2.getD m1.length ByteArray.empty).data.toList ++ [47] := by
  unfold childR
  rw [if_pos h, ← h1, ← h2, List.length_map, List.length_map, if_pos hlt]
  congr 1
  rw [List.getD_eq_getElem?_getD, List.getD_eq_getElem?_getD, List.getElem?_map, List.getElem?_eq_getElem (show m1.length < m2.length by omega)]; rfl
theorem child_rl {p s : List UInt8} {m1 m2 : List ByteArray} (h : underR p s = true) (h1 : m1.map (·.data.toList) = piecesL p) (h2 : m2.map (·.data.toList) = piecesL s) (hlt : m1.length < m2.length) (hge : ¬ m1.length + 1 < m2.length) :
    childR p s = (m2.getD m1.length ByteArray.empty).data.toList := by
  unfold childR
  rw [if_pos h, ← h1, ← h2, List.length_map, List.length_map, if_neg hge]
  rw [List.getD_eq_getElem?_getD, List.getD_eq_getElem?_getD, List.getElem?_map, List.getElem?_eq_getElem hlt]; rfl
theorem under_lt {p s : List UInt8} (h : underR p s = true) : (piecesL p).length < (piecesL s).length := by
  unfold underR at h; simp only [Bool.and_eq_true, decide_eq_true_eq] at h; exact h.1.2
theorem pieces_small {s : List UInt8} {m : List ByteArray} (h : m.map (·.data.toList) = piecesL s) (i : Nat) (hi : i < m.length) : (m.getD i ByteArray.empty).size ≤ 128 := by
  have hm : piecesL s = splitL s ∧ s.length ≤ 128 := by
    cases hy : mayL s with
    | true => exact ⟨pieces_may s hy, ((may_iff s).1 hy).1⟩
    | false => rw [pieces_not s hy] at h; have : m = [] := by simpa using h
               subst this; simp at hi
  have := rel_small (h.trans hm.1) i hi
  omega

set_option maxRecDepth 100000 in
set_option maxHeartbeats 1000000 in
theorem ref16_child (p s : ByteArray) (hp : p.size ≤ 140737488351232) (hs : s.size ≤ 140737488351232) (w : World) :
    Calls Tryz.prog 90 #[.string p, .string s] w fun e w' => e = .returned (.string (bs (childR p.data.toList s.data.toList))) ∧ Below w.heap.size w w' := by
  have C0 := Lib.hid (ref16_under p s hp hs w)
  have C1 := Lib.hid (fun w => ref16_pieces p hp w)
  have C2 := Lib.hid (fun w => ref16_pieces s hs w)
  go_enter Tryz.func90, Tryz.ntmps90
  go_wp2_with fail
  refine (C0.out).mono ?_
  rintro e w0 ⟨rfl, hb0⟩
  have Hb0 := Lib.hid hb0; clear hb0
  cases h0 : underR p.data.toList s.data.toList with
  | false =>
    have H := Lib.hid (child_rn h0); clear h0
    go_wp2
    go_ret
    exact ⟨ret_str (by rw [H.out]; rfl), Hb0.out⟩
  | true =>
    have H0 := Lib.hid h0; clear h0
    go_wp2_with fail
    refine (C1.out _).mono ?_
    rintro e w1 ⟨v1, m1, rfl, hst1, hm1, hb1⟩
    have Hm1 := Lib.hid hm1; clear hm1
    obtain ⟨a1, cap1, rfl, hc1⟩ := hst1
    have Hb1 := Lib.hid hb1; clear hb1
    clear hc1
    go_wp2_with fail
    refine (C2.out _).mono ?_
    rintro e w2 ⟨v2, m2, rfl, hst2, hm2, hb2⟩
    have Hm2 := Lib.hid hm2; clear hm2
    obtain ⟨a2, cap2, rfl, hc2⟩ := hst2
    have Hb2 := Lib.hid hb2; clear hb2
    have hlt : m1.length < m2.length := by
      have := under_lt H0.out; rw [← Hm1.out, ← Hm2.out, List.length_map, List.length_map] at this; exact this
    have hle2 : m2.length ≤ 8 := by have := pieces_le s.data.toList; rw [← Hm2.out, List.length_map] at this; exact this
    have hsm := pieces_small Hm2.out m1.length hlt
    rcases hc2 with hn | ⟨b2, o2, rfl, hl2, hcc2⟩
    · subst hn; simp at hlt
    have hcell := hcc2 m1.length hlt
    clear hcc2
    obtain ⟨x, hx⟩ : ∃ x, x = m2.getD m1.length ByteArray.empty := ⟨_, rfl⟩
    rw [← hx] at hcell hsm
    have Hx := Lib.hid hx; clear hx
    have HB := Lib.hid ((Hb0.out.trans (Hb1.out.mono Hb0.out.size)).trans (Hb2.out.mono (Nat.le_trans Hb0.out.size Hb1.out.size)))
    by_cases hmore : m1.length + 1 < m2.length
    · have H := Lib.hid (child_rs H0.out Hm1.out Hm2.out hmore)
      go_wp2
      go_ret
      refine ⟨ret_str (ba_ext ?_), HB.out⟩
      rw [bs_toList, H.out, ← Hx.out]; simp
    · have H := Lib.hid (child_rl H0.out Hm1.out Hm2.out hlt hmore)
      go_wp2
      go_ret
      refine ⟨ret_str (ba_ext ?_), HB.out⟩
      rw [bs_toList, H.out, ← Hx.out]
end Go.Proofs.YtfbgnpfhjbiikaaGreatDoor

namespace Go.Proofs.YtfbgnpfhjbiikaaGreatDoor
open Go Go.RowKit Pth Go.Sort
def kidsR (p : List UInt8) (l : List (List UInt8)) : List (List UInt8) := (l.map (childR p)).filter (fun c => !c.isEmpty)
theorem kidsR_snoc (p s : List UInt8) (l : List (List UInt8)) : kidsR p (l ++ [s]) = if childR p s = [] then kidsR p l else kidsR p l ++ [childR p s] := by
  unfold kidsR
  rw [List.map_append, List.filter_append]
  by_cases h : childR p s = []
  · simp [h]
  · simp [h]
structure InsRel (p : List UInt8) (l : List ByteArray) (k : Nat) (Z : List ByteArray) : Prop where
  sorted : (Z.map (·.data.toList)).Pairwise (· < ·)
  mem : ∀ x, x ∈ Z.map (·.data.toList) ↔ x ∈ kidsR p ((l.take k).map (·.data.toList))
  len : Z.length ≤ k
theorem InsRel.start (p : List UInt8) (l : List ByteArray) : InsRel p l 0 [] := ⟨List.Pairwise.nil, fun x => by simp [kidsR], Nat.le_refl _⟩
theorem rtake_map_snoc (l : List ByteArray) (k : Nat) (hk : k < l.length) : (l.take (k + 1)).map (·.data.toList) = (l.take k).map (·.data.toList) ++ [(l.getD k ByteArray.empty).data.toList] := by
  rw [List.take_succ_eq_append_getElem hk, List.map_append, List.getD_eq_getElem?_getD, List.getElem?_eq_getElem hk]; rfl
theorem InsRel.skip {p : List UInt8} {l : List ByteArray} {k : Nat} {Z : List ByteArray} (h : InsRel p l k Z) (hk : k < l.length) {s : ByteArray} (hs : s = l.getD k ByteArray.empty) (hc : childR p s.data.toList = []) : InsRel p l (k + 1) Z := by
  refine ⟨h.sorted, fun x => ?_, Nat.le_succ_of_le h.len⟩
  rw [rtake_map_snoc l k hk, kidsR_snoc, ← hs, if_pos hc]; exact h.mem x
theorem InsRel.have {p : List UInt8} {l : List ByteArray} {k : Nat} {Z : List ByteArray} (h : InsRel p l k Z) (hk : k < l.length) {s : ByteArray} (hs : s = l.getD k ByteArray.empty) (hc : ¬ childR p s.data.toList = []) {j : Nat} (hj : j < Z.length) (he : (Z.getD j ByteArray.empty).data.toList = childR p s.data.toList) : InsRel p l (k + 1) Z := by
  refine ⟨h.sorted, fun x => ?_, Nat.le_succ_of_le h.len⟩
  rw [rtake_map_snoc l k hk, kidsR_snoc, ← hs, if_neg hc, List.mem_append, List.mem_singleton, h.mem x]
  constructor
  · exact Or.inl
  · rintro (h2 | rfl)
    · exact h2
    · rw [← h.mem, ← he, List.getD_eq_getElem?_getD, List.getElem?_eq_getElem hj]
      exact List.mem_map.2 ⟨Z[j], List.getElem_mem hj, rfl⟩
theorem InsRel.ins {p : List UInt8} {l : List ByteArray} {k : Nat} {Z : List ByteArray} (h : InsRel p l k Z) (hk : k < l.length) {s : ByteArray} (hs : s = l.getD k ByteArray.empty) {c : ByteArray} (hcc : c.data.toList = childR p s.data.toList) (hc : ¬ childR p s.data.toList = []) {j : Nat} (hj : j ≤ Z.length)
    (hlo : ∀ i, i < j → (Z.getD i ByteArray.empty).data.toList < c.data.toList) (hhi : j < Z.length → c.data.toList < (Z.getD j ByteArray.empty).data.toList) : InsRel p l (k + 1) (Z.take j ++ [c] ++ Z.drop j) := by
  refine ⟨?_, fun x => ?_, by have := h.len; simp; omega⟩
  · have h1 := h.sorted
    rw [← List.take_append_drop j Z, List.map_append] at h1
    rw [List.pairwise_append] at h1
    obtain ⟨ha, hb, hab⟩ := h1
    rw [List.map_append, List.map_append, List.append_assoc, List.pairwise_append]
    have hlo' : ∀ x ∈ (Z.take j).map (·.data.toList), x < c.data.toList := by
      intro x hx
      obtain ⟨y, hy, rfl⟩ := List.mem_map.1 hx
      obtain ⟨i, hi, rfl⟩ := List.mem_iff_getElem.1 hy
      have hi2 : i < j := by rw [List.length_take] at hi; omega
      have := hlo i hi2
      rw [List.getD_eq_getElem?_getD, List.getElem?_eq_getElem (show i < Z.length by omega)] at this
      rw [List.getElem_take]; exact this
    have hhi' : ∀ x ∈ (Z.drop j).map (·.data.toList), c.data.toList < x := by
      rcases hd : Z.drop j with _ | ⟨z, t⟩
      · intro x hx; simp at hx
      · have hjl : j < Z.length := by
          have := congrArg List.length hd; rw [List.length_drop, List.length_cons] at this; omega
        have hz : Z.getD j ByteArray.empty = z := by
          have := List.drop_eq_getElem_cons hjl
          rw [hd] at this
          rw [List.getD_eq_getElem?_getD, List.getElem?_eq_getElem hjl]
          exact (List.cons.inj this).1.symm
        have h0 := hhi hjl
        rw [hz] at h0
        intro x hx
        rw [List.map_cons, List.mem_cons] at hx
        rcases hx with rfl | hx
        · exact h0
        · rw [hd, List.map_cons, List.pairwise_cons] at hb
          exact List.lt_trans h0 (hb.1 x hx)
    refine ⟨ha, ?_, ?_⟩
    · rw [List.map_cons, List.map_nil, List.singleton_append, List.pairwise_cons]
      exact ⟨hhi', hb⟩
    · intro x hx y hy
      rw [List.map_cons, List.map_nil, List.singleton_append, List.mem_cons] at hy
      rcases hy with rfl | hy
      · exact hlo' x hx
      · exact hab x hx y hy
  · rw [rtake_map_snoc l k hk, kidsR_snoc, ← hs, if_neg hc, List.mem_append, List.mem_singleton, ← h.mem x, ← hcc]
    conv => rhs; rw [← List.take_append_drop j Z]
    simp only [List.map_append, List.mem_append, List.map_cons, List.map_nil, List.mem_singleton]
    constructor
    · rintro ((a | b) | c)
      · exact Or.inl (Or.inl a)
      · exact Or.inr b
      · exact Or.inl (Or.inr c)
    · rintro ((a | b) | c)
      · exact Or.inl (Or.inl a)
      · exact Or.inr b
      · exact Or.inl (Or.inr c)
theorem InsRel.notin {x c : ByteArray} (h1 : ¬ x.data.toList < c.data.toList) (h2 : ¬ x.data.toList = c.data.toList) : c.data.toList < x.data.toList := by
  rcases List.le_iff_lt_or_eq.1 (List.not_lt.1 h1) with h | h
  · exact h
  · exact absurd h.symm h2
theorem lt_bytes {a b : ByteArray} (h : a.data.toList < b.data.toList) : Op.bytesLess a.toList b.toList = true := by
  rw [bytesLess_eq, ByteArray.toList_eq, ByteArray.toList_eq]; simpa using h
theorem nlt_bytes {a b : ByteArray} (h : ¬ a.data.toList < b.data.toList) : Op.bytesLess a.toList b.toList = false := by
  rw [bytesLess_eq, ByteArray.toList_eq, ByteArray.toList_eq]; simpa using h
theorem less_nil (l : List UInt8) : Op.bytesLess l [] = false := by cases l <;> rfl
theorem eq_bytes {a b : ByteArray} (h : a.data.toList = b.data.toList) : (a.toList == b.toList) = true := by rw [ba_ext h]; simp
theorem ne_bytes {a b : ByteArray} (h : ¬ a.data.toList = b.data.toList) : (a.toList == b.toList) = false := by
  rw [beq_eq_false_iff_ne, ByteArray.toList_eq, ByteArray.toList_eq]; exact h

theorem oneStr (x : ByteArray) : ∀ u ∈ [Value.string x], u.oneCell' = true := by intro u hu; simp at hu; subst hu; rfl
theorem manyStr (l : List ByteArray) : ∀ u ∈ l.map Value.string, u.oneCell' = true := by
  intro u hu; obtain ⟨_, _, rfl⟩ := List.mem_map.1 hu; rfl
theorem own_below {w w' : World} {B e n : Nat} {v : Value} {xs : List Value} (h : w.ownsRow B e 1 v n xs) (hb : Below w.heap.size w w') : w'.ownsRow B e 1 v n xs := by
  refine ⟨h.1, ?_⟩
  rcases h.2 with hn | ⟨g, cap, cur, hv, hBg, hg, rest⟩
  · exact Or.inl hn
  · exact Or.inr ⟨g, cap, cur, hv, hBg, (hb.block g (lt_of_block hg)).trans hg, rest⟩

theorem addr_add (g o i : Nat) : (⟨g, o, none⟩ : Addr).add i = ⟨g, o + i, none⟩ := by
  unfold Addr.add
  split
  · rename_i h; subst h; rfl
  · rfl
theorem news_none {w : World} {ad : Addr} {l : List ByteArray} (h : l = []) : ∀ i u, (l.map Value.string)[i]? = some u → w.cell? (ad.add i) = some u := by
  subst h; intro i u hu; simp at hu
theorem news_from {w : World} {B e g n cap : Nat} {Z : List ByteArray} (h : w.ownsRow B e 1 (.slice (some ⟨g, 0, none⟩) n cap) n (Z.map Value.string)) {j : Nat} (_hj : j ≤ n) : ∀ i u, ((Z.take j).map Value.string)[i]? = some u → w.cell? ((⟨g, 0, none⟩ : Addr).add i) = some u := by
  intro i u hu
  obtain ⟨hi, _⟩ := List.getElem?_eq_some_iff.1 hu
  rw [List.length_map, List.length_take] at hi
  rw [List.map_take, List.getElem?_take_of_lt (by omega)] at hu
  have := World.ownsRow.cellAt h i (by omega)
  rw [hu] at this
  rw [addr_add, Nat.zero_add]; exact this
theorem news_drop {w w' : World} {B e g n cap : Nat} {Z : List ByteArray} (h : w.ownsRow B e 1 (.slice (some ⟨g, 0, none⟩) n cap) n (Z.map Value.string)) (hb : Below w.heap.size w w') {j : Nat} (_hj : j ≤ n) : ∀ i u, ((Z.drop j).map Value.string)[i]? = some u → w'.cell? ((⟨g, j, none⟩ : Addr).add i) = some u := by
  intro i u hu
  obtain ⟨hi, _⟩ := List.getElem?_eq_some_iff.1 hu
  rw [List.length_map, List.length_drop] at hi
  have hl : n = Z.length := by have := h.1; simpa using this.symm
  rw [List.map_drop, List.getElem?_drop] at hu
  have := World.ownsRow.cellAt (own_below h hb) (j + i) (by omega)
  rw [hu] at this
  rw [addr_add]; exact this
theorem ins_own {w : World} {B B' e : Nat} {v : Value} {Z : List ByteArray} {c : ByteArray} {j : Nat} (h : w.ownsRow B e 1 v (j + 1 + (Z.length - j)) ((Z.take j).map Value.string ++ [.string c] ++ (Z.drop j).map Value.string)) (hB : B' ≤ B) (hj : j ≤ Z.length) :
    w.ownsRow B' e 1 v (Z.take j ++ [c] ++ Z.drop j).length ((Z.take j ++ [c] ++ Z.drop j).map Value.string) := by
  have e1 : (Z.take j ++ [c] ++ Z.drop j).length = j + 1 + (Z.length - j) := by simp; omega
  have e2 : (Z.take j ++ [c] ++ Z.drop j).map Value.string = (Z.take j).map Value.string ++ [.string c] ++ (Z.drop j).map Value.string := by simp
  rw [e1, e2]
  refine ⟨h.1, ?_⟩
  rcases h.2 with hn | ⟨g, cap, cur, hv, hBg, rest⟩
  · exact Or.inl hn
  · exact Or.inr ⟨g, cap, cur, hv, by omega, rest⟩

def RNamesGives (p : List UInt8) (l : List ByteArray) (w : World) (e : Ending) (w' : World) : Prop :=
  ∃ (v : Value) (Z : List ByteArray), e = .returned v ∧ IsStrs w' v Z ∧ InsRel p l l.length Z ∧ Below w.heap.size w w'

set_option maxRecDepth 100000 in
set_option maxHeartbeats 4000000 in
theorem ref16_names (p : ByteArray) (l : List ByteArray) (v : Value) (w : World) (hp : p.size ≤ 140737488351232) (hl : l.length ≤ 1000000) (hls : ∀ i, i < l.length → (l.getD i ByteArray.empty).size ≤ 140737488351232)
    (hv : IsStrs w v l) :
    Calls Tryz.prog 61 #[.string p, v] w (RNamesGives p.data.toList l w) := by
  obtain ⟨a, cap, rfl, hcells⟩ := hv
  have hcells := Lib.hid hcells
  have hls := Lib.hid hls
  obtain ⟨i0, hi, hz0, hz1, hz2⟩ := info_parts info9
  have I := Lib.hid (And.intro hi (And.intro hz0 (And.intro hz1 hz2))); clear hi hz0 hz1 hz2
  go_enter Tryz.func61, Tryz.ntmps61
  go_wp2
  go_loopw [5, 6, 8, 9] (fun v i _ _ wr => ∃ (k : Nat) (Z : List ByteArray), k ≤ l.length ∧ i = .int .i64 k ∧ Hid (wr.ownsRow w.heap.size 9 1 v Z.length (Z.map Value.string)) ∧ Hid (InsRel p.data.toList l k Z) ∧ Hid (Below w.heap.size w wr)) (fun _ i _ _ _ => l.length - (intOf i).toNat)
  case atStart => exact ⟨0, [], Nat.zero_le _, rfl, Lib.hid (World.ownsRow_nil _ _ _ _), Lib.hid (InsRel.start _ _), Lib.hid (Below.refl _ _)⟩
  case round =>
    obtain ⟨k, Z, hk, rfl, hown, hrl, hbw⟩ := hrel
    by_cases hlt : k < l.length
    · rcases hcells.out with hn | ⟨b, off, rfl, hblt, hc⟩
      · subst hn; simp at hlt
      have hcell : wr.cell? ⟨b, off + k, none⟩ = some (.string (l.getD k ByteArray.empty)) := (hbw.out.cell (p := ⟨b, off + k, none⟩) hblt).trans (hc k hlt)
      have hsz := hls.out k hlt
      obtain ⟨s, hs⟩ : ∃ s, s = l.getD k ByteArray.empty := ⟨_, rfl⟩
      rw [← hs] at hcell hsz
      have Hs := Lib.hid hs; clear hs hc
      have HC := Lib.hid (ref16_child p s hp hsz wr)
      obtain ⟨c, hcc⟩ : ∃ c, c = bs (childR p.data.toList s.data.toList) := ⟨_, rfl⟩
      rw [← hcc] at HC
      have hcl : c.data.toList = childR p.data.toList s.data.toList := by rw [hcc]; rfl
      have Hcc := Lib.hid hcl; clear hcc hcl
      have hZl := hrl.out.len
      rcases hown.out.2 with ⟨hv, hZ0⟩ | ⟨g, cap2, cur, hv, hBg, hgr, hnc, hcm, hcs, htk⟩
      · have hZ : Z = [] := List.length_eq_zero_iff.1 hZ0
        subst hZ; subst hv
        clear hZ0 hZl
        go_wp2_with fail
        refine (HC.out).mono ?_
        rintro e w1 ⟨rfl, hb1⟩
        have Hb1 := Lib.hid hb1; clear hb1
        have HB1 := Lib.hid (hbw.out.trans (Hb1.out.mono hbw.out.size))
        go_wp2
        go_loop [8] (fun at' => at' = .int .i64 ((0 : Nat) : Int)) (fun _ => 0)
        case atStart => rfl
        case round =>
          subst hrel
          by_cases hce : c.data.toList = []
          · have hce1 := remptyT hce
            have Hce := Lib.hid hce; clear hce
            go_wp2
            go_roundw
            case rel => exact ⟨k + 1, [], by omega, by go_num, Lib.hid (World.ownsRow_nil _ _ _ _), Lib.hid (hrl.out.skip hlt Hs.out (by rw [← Hcc.out]; exact Hce.out)), HB1⟩
            case measure => simp [intOf]; omega
          · have hce1 := remptyF hce; have hce2 := remptyG hce
            have Hce := Lib.hid hce; clear hce
            obtain ⟨hi, hz0, hz1, hz2⟩ := I.out
            go_wp2_with (first | (at_builtin; refine wpList_append_own_none rfl (.tmp 52) (.tmp 55) 24 rfl w1.heap.size 9 i0 1 Tryz.underlying24 hi _ _ _ rfl (World.ownsRow_nil _ _ _ _) rfl ?_) | (at_builtin; refine wpList_append_own _ rfl (.tmp 57) (.tmp 59) 24 rfl w1.heap.size 9 i0 (.string ByteArray.empty) 1 16 Tryz.underlying24 hi hz0 hz1 hz2 rfl (by decide) _ _ _ rfl (World.ownsRow_nil _ _ _ _) ⟨w1.heap.size, 0, none⟩ 1 1 [.string c] rfl rfl (cell_one_new _ _ _) (oneStr _) (by unfold maxLen; omega) (by omega) (by simp) ?_; intro v3 w3 hown3 hgrow3 _hn3; have Hg3 := Lib.hid (Below.grown ((Below.refl w1.heap.size w1).alloc (Nat.le_refl _) _) hgrow3 (by simp) (fun k h => by cases h)); simp only [Nat.zero_add, List.nil_append] at hown3; clear hgrow3 _hn3) | (at_builtin; refine wpList_append_own_none rfl (.tmp 61) (.tmp 64) 24 rfl w1.heap.size 9 i0 1 Tryz.underlying24 hi _ _ _ rfl hown3 rfl ?_))
            have Hown3 := Lib.hid hown3; clear hown3
            go_wp2
            go_roundw
            case rel => exact ⟨k + 1, [] ++ [c] ++ [], by omega, by go_num, Lib.hid (ins_own (Z := []) (j := 0) Hown3.out HB1.out.size (Nat.le_refl _)), Lib.hid (hrl.out.ins (Z := []) (j := 0) hlt Hs.out Hcc.out (by rw [← Hcc.out]; exact Hce.out) (Nat.le_refl _) (fun i h => by omega) (fun h => by simp at h)), Lib.hid (HB1.out.trans (Hg3.out.mono HB1.out.size))⟩
            case measure => simp [intOf]; omega
      · subst hv
        clear hBg hgr hcs htk
        have hcap : cap2 ≤ 9223372036854775807 := by unfold maxLen at hcm; exact hcm
        clear hcm
        go_wp2_with fail
        refine (HC.out).mono ?_
        rintro e w1 ⟨rfl, hb1⟩
        have Hb1 := Lib.hid hb1; clear hb1
        have Hown1 := Lib.hid (own_below hown.out Hb1.out)
        go_wp2
        go_loop [8] (fun at' => ∃ j : Nat, j ≤ Z.length ∧ at' = .int .i64 j ∧ Hid (∀ i, i < j → (Z.getD i ByteArray.empty).data.toList < c.data.toList)) (fun at' => Z.length - (intOf at').toNat)
        case atStart => exact ⟨0, Nat.zero_le _, rfl, Lib.hid (fun i hi => by omega)⟩
        case round =>
          obtain ⟨j, hj, rfl, hlo⟩ := hrel
          by_cases hjl : j < Z.length
          · have hcj : w1.cell? ⟨g, j, none⟩ = some (.string (Z.getD j ByteArray.empty)) := by
              rw [World.ownsRow.cellAt Hown1.out j (by omega), List.getElem?_map, List.getD_eq_getElem?_getD, List.getElem?_eq_getElem hjl]; rfl
            obtain ⟨x, hx⟩ : ∃ x, x = Z.getD j ByteArray.empty := ⟨_, rfl⟩
            rw [← hx] at hcj
            have Hx := Lib.hid hx; clear hx
            by_cases hlt1 : x.data.toList < c.data.toList
            · have hB := lt_bytes hlt1
              have Hlt1 := Lib.hid hlt1; clear hlt1
              go_wp2
              go_round
              case rel => exact ⟨j + 1, by omega, by go_num, Lib.hid (fun i hi => by
                by_cases e : i = j
                · subst e; rw [← Hx.out]; exact Hlt1.out
                · exact hlo.out i (by omega))⟩
              case measure => simp [intOf]; omega
            · have hB := nlt_bytes hlt1
              have Hlt1 := Lib.hid hlt1; clear hlt1
              by_cases hce : c.data.toList = []
              · have hce1 := remptyT hce
                have hB0 := less_nil x.toList
                have Hce := Lib.hid hce; clear hce
                go_wp2
                go_roundw
                case rel => exact ⟨k + 1, Z, by omega, by go_num, Lib.hid (own_below hown.out Hb1.out), Lib.hid (hrl.out.skip hlt Hs.out (by rw [← Hcc.out]; exact Hce.out)), Lib.hid (hbw.out.trans (Hb1.out.mono hbw.out.size))⟩
                case measure => simp [intOf]; omega
              · by_cases heq : x.data.toList = c.data.toList
                · have hce1 := remptyF hce; have hce2 := remptyG hce
                  have Hce := Lib.hid hce; clear hce
                  have hE := eq_bytes heq
                  have Heq := Lib.hid heq; clear heq
                  go_wp2
                  go_roundw
                  case rel => exact ⟨k + 1, Z, by omega, by go_num, Lib.hid (own_below hown.out Hb1.out), Lib.hid (hrl.out.have hlt Hs.out (by rw [← Hcc.out]; exact Hce.out) hjl (by rw [← Hx.out, ← Hcc.out]; exact Heq.out)), Lib.hid (hbw.out.trans (Hb1.out.mono hbw.out.size))⟩
                  case measure => simp [intOf]; omega
                · have hE := ne_bytes heq
                  have Heq := Lib.hid heq; clear heq
                  have hce1 := remptyF hce; have hce2 := remptyG hce
                  obtain ⟨hi, hz0, hz1, hz2⟩ := I.out
                  go_wp2_with (first | (at_builtin; refine wpList_append_own _ rfl (.tmp 52) (.tmp 55) 24 rfl w1.heap.size 9 i0 (.string ByteArray.empty) 1 16 Tryz.underlying24 hi hz0 hz1 hz2 rfl (by decide) _ _ _ rfl (World.ownsRow_nil _ _ _ _) ⟨g, 0, none⟩ j cap2 ((Z.take j).map Value.string) rfl (by rw [List.length_map, List.length_take]; omega) (news_from Hown1.out (j := j) (by omega)) (manyStr _) (by unfold maxLen; omega) (by omega) (Nat.le_refl _) ?_; intro v2 w2 hown2 hgrow2 _hn2; have Hg2 := Lib.hid (Below.grown (Below.refl w1.heap.size w1) hgrow2 (Nat.le_refl _) (fun k h => by cases h)); simp only [Nat.zero_add, List.nil_append] at hown2; clear hgrow2 _hn2) | (at_builtin; refine wpList_append_own _ rfl (.tmp 57) (.tmp 59) 24 rfl w1.heap.size 9 i0 (.string ByteArray.empty) 1 16 Tryz.underlying24 hi hz0 hz1 hz2 rfl (by decide) _ _ _ rfl (hown2.alloc _) ⟨w2.heap.size, 0, none⟩ 1 1 [.string c] rfl rfl (cell_one_new _ _ _) (oneStr _) (by unfold maxLen; omega) (by omega) (by have := Hg2.out.size; simp; omega) ?_; intro v3 w3 hown3 hgrow3 _hn3; have Hg3 := Lib.hid ((Hg2.out.alloc Hg2.out.size _).grown hgrow3 (by have := Hg2.out.size; simp; omega) (own_above hown2)); clear hgrow3 _hn3) | (at_builtin; refine wpList_append_own _ rfl (.tmp 61) (.tmp 64) 24 rfl w1.heap.size 9 i0 (.string ByteArray.empty) 1 16 Tryz.underlying24 hi hz0 hz1 hz2 rfl (by decide) _ _ _ rfl hown3 ⟨g, j, none⟩ (Z.length - j) (cap2 - j) ((Z.drop j).map Value.string) rfl (by rw [List.length_map, List.length_drop]; omega) (news_drop Hown1.out Hg3.out (j := j) (by omega)) (manyStr _) (by unfold maxLen; omega) (by omega) Hg3.out.size ?_; intro v4 w4 hown4 hgrow4 _hn4; have Hg4 := Lib.hid (Hg3.out.grown hgrow4 Hg3.out.size (own_above hown3)); clear hgrow4 _hn4))
                  have HB4 := Lib.hid ((hbw.out.trans (Hb1.out.mono hbw.out.size)).trans (Hg4.out.mono (Nat.le_trans hbw.out.size Hb1.out.size)))
                  have Hown4 := Lib.hid hown4; clear hown2 hown3 hown4
                  go_wp2
                  go_roundw
                  case rel => exact ⟨k + 1, Z.take j ++ [c] ++ Z.drop j, by omega, by go_num, Lib.hid (ins_own Hown4.out (Nat.le_trans hbw.out.size Hb1.out.size) hj), Lib.hid (hrl.out.ins hlt Hs.out Hcc.out (by rw [← Hcc.out]; exact hce) hj hlo.out (fun _ => by rw [← Hx.out]; exact InsRel.notin Hlt1.out Heq.out)), HB4⟩
                  case measure => simp [intOf]; omega
          · by_cases hce : c.data.toList = []
            · have hce1 := remptyT hce
              have Hce := Lib.hid hce; clear hce
              go_wp2
              go_roundw
              case rel => exact ⟨k + 1, Z, by omega, by go_num, Lib.hid (own_below hown.out Hb1.out), Lib.hid (hrl.out.skip hlt Hs.out (by rw [← Hcc.out]; exact Hce.out)), Lib.hid (hbw.out.trans (Hb1.out.mono hbw.out.size))⟩
              case measure => simp [intOf]; omega
            · rcases (show j < cap2 ∨ (cap2 ≤ j ∧ j ≤ cap2) by omega) with hjc | hjc
              all_goals
                have hce1 := remptyF hce; have hce2 := remptyG hce
                obtain ⟨hi, hz0, hz1, hz2⟩ := I.out
                go_wp2_with (first | (at_builtin; refine wpList_append_own _ rfl (.tmp 52) (.tmp 55) 24 rfl w1.heap.size 9 i0 (.string ByteArray.empty) 1 16 Tryz.underlying24 hi hz0 hz1 hz2 rfl (by decide) _ _ _ rfl (World.ownsRow_nil _ _ _ _) ⟨g, 0, none⟩ j cap2 ((Z.take j).map Value.string) rfl (by rw [List.length_map, List.length_take]; omega) (news_from Hown1.out (j := j) (by omega)) (manyStr _) (by unfold maxLen; omega) (by omega) (Nat.le_refl _) ?_; intro v2 w2 hown2 hgrow2 _hn2; have Hg2 := Lib.hid (Below.grown (Below.refl w1.heap.size w1) hgrow2 (Nat.le_refl _) (fun k h => by cases h)); simp only [Nat.zero_add, List.nil_append] at hown2; clear hgrow2 _hn2) | (at_builtin; refine wpList_append_own _ rfl (.tmp 57) (.tmp 59) 24 rfl w1.heap.size 9 i0 (.string ByteArray.empty) 1 16 Tryz.underlying24 hi hz0 hz1 hz2 rfl (by decide) _ _ _ rfl (hown2.alloc _) ⟨w2.heap.size, 0, none⟩ 1 1 [.string c] rfl rfl (cell_one_new _ _ _) (oneStr _) (by unfold maxLen; omega) (by omega) (by have := Hg2.out.size; simp; omega) ?_; intro v3 w3 hown3 hgrow3 _hn3; have Hg3 := Lib.hid ((Hg2.out.alloc Hg2.out.size _).grown hgrow3 (by have := Hg2.out.size; simp; omega) (own_above hown2)); clear hgrow3 _hn3) | (at_builtin; refine wpList_append_own _ rfl (.tmp 61) (.tmp 64) 24 rfl w1.heap.size 9 i0 (.string ByteArray.empty) 1 16 Tryz.underlying24 hi hz0 hz1 hz2 rfl (by decide) _ _ _ rfl hown3 _ (Z.length - j) _ ((Z.drop j).map Value.string) rfl (by rw [List.length_map, List.length_drop]; omega) (news_none (List.drop_eq_nil_of_le (by omega))) (manyStr _) (by unfold maxLen; omega) (by omega) Hg3.out.size ?_; intro v4 w4 hown4 hgrow4 _hn4; have Hg4 := Lib.hid (Hg3.out.grown hgrow4 Hg3.out.size (own_above hown3)); clear hgrow4 _hn4))
                have HB4 := Lib.hid ((hbw.out.trans (Hb1.out.mono hbw.out.size)).trans (Hg4.out.mono (Nat.le_trans hbw.out.size Hb1.out.size)))
                have Hown4 := Lib.hid hown4; clear hown2 hown3 hown4
                go_wp2
                go_roundw
                case rel => exact ⟨k + 1, Z.take j ++ [c] ++ Z.drop j, by omega, by go_num, Lib.hid (ins_own Hown4.out (Nat.le_trans hbw.out.size Hb1.out.size) hj), Lib.hid (hrl.out.ins hlt Hs.out Hcc.out (by rw [← Hcc.out]; exact hce) hj hlo.out (fun h => absurd h hjl)), HB4⟩
                case measure => simp [intOf]; omega
    · have Hk : Hid (k = l.length) := Lib.hid (by omega)
      have hge : (l.length : Int) ≤ (k : Int) := by omega
      go_wp2
      go_ret
      exact ⟨_, Z, rfl, IsStrs.own hown.out, by rw [← Hk.out]; exact hrl.out, hbw.out⟩
end Go.Proofs.YtfbgnpfhjbiikaaGreatDoor

namespace Go.Proofs.YtfbgnpfhjbiikaaGreatDoor
open Go Go.RowKit
theorem strEq {x y : ByteArray} (h : x = y) : (x.toList == y.toList) = true := by rw [h]; simp
theorem strNe {x y : ByteArray} (h : ¬ x = y) : (x.toList == y.toList) = false := by
  rw [beq_eq_false_iff_ne, ByteArray.toList_eq, ByteArray.toList_eq]; exact fun h' => h (ba_ext h')
theorem atG_hit {l : List Rw} {p : ByteArray} {k : Nat} (hk : k < l.length) (h : (l.getD k dR).1 = p) (hm : ∀ j, j < k → (l.getD j dR).1 ≠ p) : AtG l p k := Or.inl ⟨k, hk, rfl, h, hm⟩
theorem atG_miss {l : List Rw} {p : ByteArray} (h : ∀ j, j < l.length → (l.getD j dR).1 ≠ p) : AtG l p (-1) := by
  refine Or.inr ⟨rfl, fun x hx => ?_⟩
  obtain ⟨j, hj, rfl⟩ := List.getElem_of_mem hx
  have := h j hj
  rwa [List.getD_eq_getElem?_getD, List.getElem?_eq_getElem hj] at this

set_option maxRecDepth 100000 in
set_option maxHeartbeats 1000000 in
theorem ref18_at (l : List Rw) (v : Value) (p : ByteArray) (w : World) (hv : IsRows w v l) (hl : l.length ≤ 9223372036854775807) :
    Calls Tryz.prog 56 #[v, .string p] w fun e w' => ∃ z : Int, e = .returned (.int .i64 z) ∧ AtG l p z ∧ w' = w := by
  obtain ⟨a, cap, rfl, hc⟩ := hv
  have HC := Lib.hid hc; clear hc
  go_enter Tryz.func56, Tryz.ntmps56
  go_wp2_with fail
  go_loopw [5] (fun i wr => ∃ k : Nat, k ≤ l.length ∧ i = .int .i64 k ∧ Hid (∀ j, j < k → (l.getD j dR).1 ≠ p) ∧ wr = w) (fun i _ => l.length - (intOf i).toNat)
  case atStart => exact ⟨0, Nat.zero_le _, rfl, Lib.hid (fun j hj => absurd hj (Nat.not_lt_zero _)), rfl⟩
  case round =>
    obtain ⟨k, hk, rfl, hm, hwr⟩ := hrel
    subst wr
    by_cases hlt : k < l.length
    · rcases HC.out with hn | ⟨b, off, rfl, hbl, hcc⟩
      · subst hn; simp at hlt
      obtain ⟨g0, _, _, _, _⟩ := hcc k hlt
      obtain ⟨x, hx⟩ : ∃ x, x = l.getD k dR := ⟨_, rfl⟩
      rw [← hx] at g0
      have Hx := Lib.hid hx
      have hltI : (k : Int) < (l.length : Int) := by omega
      clear hx hcc
      by_cases he : x.1 = p
      · have hB := strEq he
        have H : Hid (AtG l p k) := Lib.hid (atG_hit hlt (by rw [← Hx.out]; exact he) hm.out)
        clear he
        go_wp2_with fail
        go_ret
        exact ⟨_, rfl, H.out, rfl⟩
      · have hB := strNe he
        have He := Lib.hid he; clear he
        go_wp2_with fail
        go_roundw
        case rel => exact ⟨k + 1, by omega, by go_num, Lib.hid (fun j hj => by
          rcases Nat.lt_or_ge j k with h | h
          · exact hm.out j h
          · obtain rfl : j = k := by omega
            rw [← Hx.out]; exact He.out), trivial⟩
        case measure => simp [intOf]; omega
    · have hge : (l.length : Int) ≤ (k : Int) := by omega
      have H := Lib.hid (atG_miss (l := l) (p := p) (fun j hj => hm.out j (by omega)))
      go_wp2_with fail
      go_ret
      exact ⟨_, rfl, H.out, rfl⟩

set_option maxRecDepth 100000 in
set_option maxHeartbeats 1000000 in
theorem ref18_bytes (l : List Rw) (v : Value) (w : World) (hv : IsRows w v l) (hl : l.length ≤ 1048576) (hs : ∀ i, i < l.length → mayP (l.getD i dR).1 = true ∧ mayC (l.getD i dR).2 = true) :
    Calls Tryz.prog 53 #[v] w fun e w' => e = .returned (.int .i64 (bytesR l)) ∧ Below w.heap.size w w' := by
  obtain ⟨a, cap, rfl, hc⟩ := hv
  have HC := Lib.hid hc; have HS := Lib.hid hs; clear hc hs
  go_enter Tryz.func53, Tryz.ntmps53
  go_wp2_with fail
  go_loopw [3, 4] (fun n i wr => ∃ k N : Nat, k ≤ l.length ∧ i = .int .i64 k ∧ n = .int .i64 N ∧ Hid (N = bytesR (l.take k)) ∧ Hid (N ≤ k * 33000) ∧ Hid (Below w.heap.size w wr)) (fun _ i _ => l.length - (intOf i).toNat)
  case atStart => exact ⟨0, 0, Nat.zero_le _, rfl, rfl, Lib.hid rfl, Lib.hid (by omega), Lib.hid (Below.refl _ _)⟩
  case round =>
    obtain ⟨k, N, hk, rfl, rfl, hN, hNb, hbw⟩ := hrel
    have hNs : N ≤ 34603008000 := by have := hNb.out; omega
    by_cases hlt : k < l.length
    · rcases HC.out with hn | ⟨b, off, rfl, hbl, hcc⟩
      · subst hn; simp at hlt
      obtain ⟨g0, g1, s, g2, hs⟩ := hcc k hlt
      have e0 := (hbw.out.cell (p := ⟨b, off + k * 3, none⟩) hbl).trans g0
      have e1 := (hbw.out.cell (p := ⟨b, off + k * 3 + 1, none⟩) hbl).trans g1
      have e2 := (hbw.out.cell (p := ⟨b, off + k * 3 + 2, none⟩) hbl).trans g2
      obtain ⟨hp1, hp2⟩ := HS.out k hlt
      have hp1 := mayP_size hp1
      have hsz := may_size hp2
      have hln := may_len hp2
      obtain ⟨x, hx⟩ : ∃ x, x = l.getD k dR := ⟨_, rfl⟩
      rw [← hx] at e0 e1 hs hp1 hp2 hsz hln
      have hs2 := hs
      obtain ⟨va, vc, rfl, _⟩ := hs2
      have Hx := Lib.hid hx
      have HSZ := Lib.hid (fun (W : World) (h : Below w.heap.size w W) => ref17_size x.2 (.slice va x.2.l.length vc) W (hs.below h (Nat.le_refl _)) (by omega) (may_sizes hp2))
      obtain ⟨z, hz⟩ : ∃ z, z = sizeL x.2.l := ⟨_, rfl⟩
      rw [← hz] at hsz HSZ
      have Hz := Lib.hid hz
      have hltI : (k : Int) < (l.length : Int) := by omega
      have hb1 : N + x.1.size ≤ 9223372036854775807 := by have := hNb.out; omega
      have hb2 : N + x.1.size + z ≤ 9223372036854775807 := by have := hNb.out; omega
      have hb3 : N + (x.1.size + z) ≤ (k + 1) * 33000 := by have := hNb.out; omega
      have HB3 := Lib.hid hb3
      have hw1 : IntKind.i64.wrap ((N : Int) + (x.1.size : Int)) = (N : Int) + (x.1.size : Int) := by rw [IntKind.wrap_i64]; omega
      have hw2 : IntKind.i64.wrap ((N : Int) + (x.1.size : Int) + (z : Int)) = (N : Int) + (x.1.size : Int) + (z : Int) := by rw [IntKind.wrap_i64]; omega
      clear hx hz g0 g1 g2 hcc hs hp1 hp2 hln hb3
      go_upto_region 5 with fail
      refine wp_region_quiet (C := fun w' => Hid (Below wr.heap.size wr w')) (by kernel_rfl) (by kernel_rfl) (Lib.hid (Below.drew (Below.refl _ _))) ?_
      have HF := Lib.hid (fun (w' : World) (h : Hid (Below wr.heap.size wr w')) => (⟨(h.out.cell (p := ⟨b, off + k * 3, none⟩) (by have := hbw.out.size; dsimp only; omega)).trans e0, (h.out.cell (p := ⟨b, off + k * 3 + 1, none⟩) (by have := hbw.out.size; dsimp only; omega)).trans e1, (h.out.cell (p := ⟨b, off + k * 3 + 2, none⟩) (by have := hbw.out.size; dsimp only; omega)).trans e2⟩ : w'.cell? ⟨b, off + k * 3, none⟩ = some (.string x.1) ∧ w'.cell? ⟨b, off + k * 3 + 1, none⟩ = some (.int .u64 x.2.last) ∧ w'.cell? ⟨b, off + k * 3 + 2, none⟩ = some (.slice va x.2.l.length vc)))
      clear e0 e1 e2
      refine (quiet_plain' ?_ (.int .i64 (N : Int)) (fun w' hw' => ?_) ?_ : _)
      · exact rfl
      · go_simp
      go_frame
      refine (quiet_plain' ?_ (.slice (some ⟨b, off, none⟩) l.length cap) (fun w' hw' => ?_) ?_ : _)
      · exact rfl
      · go_simp
      go_frame
      refine (quiet_plain' ?_ (.int .i64 (k : Int)) (fun w' hw' => ?_) ?_ : _)
      · exact rfl
      · go_simp
      go_frame
      refine (quiet_plain' ?_ (.pointer (some ⟨b, off + k * 3, none⟩)) (fun w' hw' => ?_) ?_ : _)
      · exact rfl
      · go_simp
      go_frame
      refine (quiet_plain' ?_ (.pointer (some ⟨b, off + k * 3, none⟩)) (fun w' hw' => ?_) ?_ : _)
      · exact rfl
      · go_simp
      go_frame
      refine (quiet_plain' ?_ (.string x.1) (fun w' hw' => ?_) ?_ : _)
      · exact rfl
      · obtain ⟨f0, f1, f2⟩ := HF.out w' hw'
        go_simp
      go_frame
      refine (quiet_plain' ?_ (.int .i64 (x.1.size : Int)) (fun w' hw' => ?_) ?_ : _)
      · exact rfl
      · go_simp
      go_frame
      refine (quiet_plain' ?_ (.int .i64 ((N : Int) + (x.1.size : Int))) (fun w' hw' => ?_) ?_ : _)
      · exact rfl
      · go_simp
      go_frame
      refine (quiet_plain' ?_ (.slice (some ⟨b, off, none⟩) l.length cap) (fun w' hw' => ?_) ?_ : _)
      · exact rfl
      · go_simp
      go_frame
      refine (quiet_plain' ?_ (.int .i64 (k : Int)) (fun w' hw' => ?_) ?_ : _)
      · exact rfl
      · go_simp
      go_frame
      refine (quiet_plain' ?_ (.pointer (some ⟨b, off + k * 3, none⟩)) (fun w' hw' => ?_) ?_ : _)
      · exact rfl
      · go_simp
      go_frame
      refine (quiet_plain' ?_ (.pointer (some ⟨b, off + k * 3 + 1, none⟩)) (fun w' hw' => ?_) ?_ : _)
      · exact rfl
      · go_simp
      go_frame
      refine (quiet_plain' ?_ (.agg #[.int .u64 x.2.last, .slice va x.2.l.length vc]) (fun w' hw' => ?_) ?_ : _)
      · exact rfl
      · obtain ⟨f0, f1, f2⟩ := HF.out w' hw'
        go_simp
      go_frame
      refine (quiet_call' ?_ (.int .i64 (z : Int)) 82 #[.agg #[.int .u64 x.2.last, .slice va x.2.l.length vc]] (fun w' hw' => ⟨?_, ?_⟩) ?_ : _)
      · exact rfl
      · obtain ⟨f0, f1, f2⟩ := HF.out w' hw'
        go_simp
      · exact (HSZ.out w' (hbw.out.trans (hw'.out.mono hbw.out.size))).mono (fun e w6 ⟨he, hb⟩ => ⟨he, Lib.hid (hw'.out.trans (hb.mono hw'.out.size))⟩)
      go_frame
      refine (quiet_plain' ?_ (.int .i64 ((N : Int) + (x.1.size : Int) + (z : Int))) (fun w' hw' => ?_) ?_ : _)
      · exact rfl
      · go_simp
      go_frame
      refine (quiet_plain' ?_ (.int .i64 ((N : Int) + (x.1.size : Int) + (z : Int))) (fun w' hw' => ?_) ?_ : _)
      · exact rfl
      · go_simp
      go_frame
      refine (wpQuiet_nil ?_ : _)
      intro W6 hW6
      go_wp2_with fail
      go_roundw
      case rel => exact ⟨k + 1, N + x.1.size + z, by omega, by go_num, by go_num, Lib.hid (by rw [bytesR_take hlt, ← hN.out, ← Hx.out, ← Hz.out]; omega), Lib.hid (by have := HB3.out; omega), Lib.hid (hbw.out.trans (hW6.out.mono hbw.out.size))⟩
      case measure => simp [intOf]; omega
    · have hge : (l.length : Int) ≤ (k : Int) := by omega
      have H : Hid (N = bytesR l) := Lib.hid (by have := hN.out; rw [List.take_of_length_le (by omega)] at this; exact this)
      go_wp2_with fail
      go_ret
      exact ⟨ret_int (by rw [H.out]), hbw.out⟩
end Go.Proofs.YtfbgnpfhjbiikaaGreatDoor
