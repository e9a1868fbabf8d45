/- Contract: cell.Read. -/
import Derived.Test.YtbmmabpglkojkaaDoorCell7
namespace Go.Proofs.YtbmmabpglkojkaaDoor
open Go Go.RowKit

def readE (c : Cel) (n : Nat) : Ver × Nat :=
  if n = 0 ∧ nowC c = 0 ∧ mayC c = true then (dV, 3) else
    if (findE c (if n = 0 then nowC c else n)).2 ≠ 0 then (dV, (findE c (if n = 0 then nowC c else n)).2) else (c.l.getD (findE c (if n = 0 then nowC c else n)).1 dV, 0)
theorem findE_lt {c : Cel} {n : Nat} (h : (findE c n).2 = 0) : (findE c n).1 < c.l.length := by
  unfold findE at h ⊢
  split at h
  · simp at h
  rename_i h1
  rw [if_neg h1]
  split at h
  · simp at h
  rename_i h2
  rw [if_neg h2]
  split at h
  · simp at h
  rename_i h3
  rw [if_neg h3]
  rcases idxV_cases c.l n with e | ⟨k, e, hk⟩
  · rw [e] at h2; exact absurd (by decide) h2
  · rw [e]; simpa using hk
theorem idxV_at {l : List Ver} {n k : Nat} (h : idxV l n = k) : (l.getD k dV).n = n := by
  unfold idxV at h
  split at h
  · rename_i hk
    have hk' : l.findIdx (fun v => decide (v.n = n)) = k := by omega
    subst hk'
    have := List.findIdx_getElem (w := hk)
    rw [List.getD_eq_getElem?_getD, List.getElem?_eq_getElem hk]
    simpa using this
  · omega
theorem findE_n {c : Cel} {n : Nat} (h : (findE c n).2 = 0) : (c.l.getD (findE c n).1 dV).n = n := by
  unfold findE at h ⊢
  split at h
  · simp at h
  rename_i h1
  rw [if_neg h1]
  split at h
  · simp at h
  rename_i h2
  rw [if_neg h2]
  split at h
  · simp at h
  rename_i h3
  rw [if_neg h3]
  rcases idxV_cases c.l n with e | ⟨k, e, hk⟩
  · rw [e] at h2; exact absurd (by decide) h2
  · rw [e]; exact idxV_at e
def destroyE (c : Cel) (n : Nat) : Cel × Nat :=
  if (findE c n).2 ≠ 0 then (c, (findE c n).2) else (⟨c.last, c.l.set (findE c n).1 ⟨n, 3, ByteArray.empty⟩⟩, 0)
set_option maxRecDepth 100000 in
set_option maxHeartbeats 2000000 in
theorem cell_read (c : Cel) (v : Value) (n : Nat) (w : World) (hv : IsVers w v c.l) (hl : c.l.length ≤ 65536) :
    Calls Tryd.prog 33 #[.agg #[.int .u64 c.last, v], .int .u64 n] w fun e w' => e = .returned (.tuple #[verVal (readE c n).1, .int .i64 (readE c n).2]) ∧ Below w.heap.size w w' := by
  have Hr : Hid (readE c n = if n = 0 ∧ nowC c = 0 ∧ mayC c = true then (dV, 3) else
    if (findE c (if n = 0 then nowC c else n)).2 ≠ 0 then (dV, (findE c (if n = 0 then nowC c else n)).2) else (c.l.getD (findE c (if n = 0 then nowC c else n)).1 dV, 0)) := Lib.hid rfl
  generalize readE c n = r at Hr
  have Hmay := Lib.hid (fun (v : Value) (w : World) (h : IsVers w v c.l) => (cell_may c v w h (by omega)))
  have Hnow := Lib.hid (fun (v : Value) (w : World) (h : IsVers w v c.l) => (cell_now c v w h (by omega)))
  have Hfind := Lib.hid (fun (k : Nat) (v : Value) (w : World) (h : IsVers w v c.l) => (cell_find c v k w h hl))
  have Hfind0 : Hid (∀ (v : Value) (w : World), IsVers w v c.l → Calls Tryd.prog 43 #[.agg #[.int .u64 c.last, v], .int .u64 0] w fun e w' => e = .returned (.tuple #[.int .i64 (findE c 0).1, .int .i64 (findE c 0).2]) ∧ Below w.heap.size w w') := Lib.hid (fun v w h => cell_find c v 0 w h hl)
  have Hlt := Lib.hid (fun (k : Nat) (h : (findE c k).2 = 0) => findE_lt h)
  generalize findE c = F at Hr Hfind Hfind0 Hlt
  generalize mayC c = y at Hr Hmay
  generalize nowC c = m at Hr Hnow
  obtain ⟨cl, L⟩ := c
  simp only at hv hl Hmay Hnow Hfind Hfind0 Hlt Hr ⊢
  have hv2 := hv
  obtain ⟨a, cap, rfl, hc⟩ := hv2
  have HC := Lib.hid hc; clear hc
  have Hv := Lib.hid hv; clear hv
  go_enter Tryd.func33, Tryd.ntmps33
  go_upto_region 1 with fail
  refine wp_abs (F := Two w #[.int .u64 cl, .slice a L.length cap] #[.int .u64 0, .int .u8 0, .string ByteArray.empty]) (Two.of w _ _ _ _) ?_
  intro W T
  have q0 := T.c1 0
  have q1 := T.c1 1
  have T := Lib.hid T
  simp at q0 q1
  by_cases hn : n = 0
  · have hB : ((n : Int) == 0) = true := by simp [hn]
    by_cases hm : m = 0
    · have hM : ((m : Int) == 0) = true := by simp [hm]
      cases y with
      | true =>
        obtain rfl : r = (dV, 3) := by rw [Hr.out, if_pos ⟨hn, hm, rfl⟩]
        go_wp2_with fail
        refine (Hnow.out _ _ ?_).mono ?_
        · exact Hv.out.below T.out.b (Nat.le_refl _)
        rintro e w1 ⟨rfl, hb1⟩
        have T1 := Lib.hid (T.out.step hb1)
        clear q0 q1 hb1
        have q0 := T1.out.c1 0
        have q1 := T1.out.c1 1
        simp at q0 q1
        go_wp2_with fail
        refine (Hmay.out _ _ ?_).mono ?_
        · exact Hv.out.below T1.out.b (Nat.le_refl _)
        rintro e w2 ⟨rfl, hb2⟩
        have T2 := Lib.hid (T1.out.step hb2)
        clear q0 q1 hb2
        have q0 := T2.out.c1 0
        have q1 := T2.out.c1 1
        simp at q0 q1
        have z0 := T2.out.c2 0; have z1 := T2.out.c2 1; have z2 := T2.out.c2 2
        have g0 := T2.out.f2 0; have g1 := T2.out.f2 1; have g2 := T2.out.f2 2
        simp at z0 z1 z2
        go_wp2_with fail
        refine bodyPost_ret (v := .tuple #[verVal dV, .int .i64 3]) ?_ rfl ⟨rfl, ?_⟩
        · simp [results, Tryd.results33, go_sem, z0, z1, z2, verVal, dV]; rfl
        · have hz := T2.out.sz
          refine ((T2.out.b.setCell ?_ _).setCell ?_ _).setCell ?_ _ <;> dsimp only <;> omega
      | false =>
        subst hm
        have Hr2 : Hid (r = if (F 0).2 ≠ 0 then (dV, (F 0).2) else (L.getD (F 0).1 dV, 0)) := Lib.hid (by rw [Hr.out, if_neg (by simp), if_pos hn])
        go_wp2_with fail
        refine (Hnow.out _ _ ?_).mono ?_
        · exact Hv.out.below T.out.b (Nat.le_refl _)
        rintro e w1 ⟨rfl, hb1⟩
        have T1 := Lib.hid (T.out.step hb1)
        clear q0 q1 hb1
        have q0 := T1.out.c1 0
        have q1 := T1.out.c1 1
        simp at q0 q1
        go_wp2_with fail
        refine (Hmay.out _ _ ?_).mono ?_
        · exact Hv.out.below T1.out.b (Nat.le_refl _)
        rintro e w2 ⟨rfl, hb2⟩
        have T2 := Lib.hid (T1.out.step hb2)
        clear q0 q1 hb2
        have q0 := T2.out.c1 0
        have q1 := T2.out.c1 1
        simp at q0 q1
        go_wp2_with fail
        refine (Hfind0.out _ _ ?_).mono ?_
        · exact Hv.out.below T2.out.b (Nat.le_refl _)
        rintro e w5 ⟨rfl, hb5⟩
        have T5 := Lib.hid (T2.out.step hb5)
        clear q0 q1 hb5
        have q0 := T5.out.c1 0
        have q1 := T5.out.c1 1
        have z0 := T5.out.c2 0; have z1 := T5.out.c2 1; have z2 := T5.out.c2 2
        have g0 := T5.out.f2 0; have g1 := T5.out.f2 1; have g2 := T5.out.f2 2
        simp at q0 q1 z0 z1 z2
        have hlt := Hlt.out 0
        obtain ⟨p, hp⟩ : ∃ p, p = F 0 := ⟨_, rfl⟩
        rw [← hp] at Hr2 hlt ⊢
        clear hp
        obtain ⟨i, e0⟩ := p
        simp only at Hr2 hlt ⊢
        by_cases he : e0 = 0
        · subst he
          have hi := hlt rfl
          clear hlt
          rcases HC.out with hnn | ⟨b, off, rfl, hblt, hcc⟩
          · subst hnn; simp at hi
          obtain ⟨h1, h2, h3⟩ := hcc i hi
          have k1 := (T5.out.b.cell (p := ⟨b, off + i * 3, none⟩) hblt).trans h1
          have k2 := (T5.out.b.cell (p := ⟨b, off + i * 3 + 1, none⟩) hblt).trans h2
          have k3 := (T5.out.b.cell (p := ⟨b, off + i * 3 + 2, none⟩) hblt).trans h3
          clear h1 h2 h3 hcc
          obtain ⟨x, hx⟩ : ∃ x, x = L.getD i dV := ⟨_, rfl⟩
          rw [← hx] at k1 k2 k3
          obtain rfl : r = (x, 0) := by rw [Hr2.out, if_neg (by simp), hx]
          clear hx
          go_wp2_with fail
          refine bodyPost_ret (v := .tuple #[verVal x, .int .i64 0]) ?_ rfl ⟨rfl, ?_⟩
          · simp [results, Tryd.results33, go_sem, z0, z1, z2, verVal]
          · have hz := T5.out.sz
            refine ((T5.out.b.setCell ?_ _).setCell ?_ _).setCell ?_ _ <;> dsimp only <;> omega
        · have hE : ((e0 : Int) != 0) = true := by simp [bne, he]
          have hE2 : ¬ (e0 : Int) = 0 := by omega
          obtain rfl : r = (dV, e0) := by rw [Hr2.out, if_pos he]
          go_wp2_with fail
          refine bodyPost_ret (v := .tuple #[verVal dV, .int .i64 e0]) ?_ rfl ⟨rfl, ?_⟩
          · simp [results, Tryd.results33, go_sem, z0, z1, z2, verVal, dV]; rfl
          · have hz := T5.out.sz
            refine ((T5.out.b.setCell ?_ _).setCell ?_ _).setCell ?_ _ <;> dsimp only <;> omega
    · have hM : ((m : Int) == 0) = false := by rw [beq_eq_false_iff_ne]; omega
      have Hr2 : Hid (r = if (F m).2 ≠ 0 then (dV, (F m).2) else (L.getD (F m).1 dV, 0)) := Lib.hid (by rw [Hr.out, if_neg (by simp [hm]), if_pos hn])
      go_wp2_with fail
      refine (Hnow.out _ _ ?_).mono ?_
      · exact Hv.out.below T.out.b (Nat.le_refl _)
      rintro e w1 ⟨rfl, hb1⟩
      have T1 := Lib.hid (T.out.step hb1)
      clear q0 q1 hb1
      have q0 := T1.out.c1 0
      have q1 := T1.out.c1 1
      simp at q0 q1
      go_wp2_with fail
      refine (Hfind.out m _ _ ?_).mono ?_
      · exact Hv.out.below T1.out.b (Nat.le_refl _)
      rintro e w5 ⟨rfl, hb5⟩
      have T5 := Lib.hid (T1.out.step hb5)
      clear q0 q1 hb5
      have q0 := T5.out.c1 0
      have q1 := T5.out.c1 1
      have z0 := T5.out.c2 0; have z1 := T5.out.c2 1; have z2 := T5.out.c2 2
      have g0 := T5.out.f2 0; have g1 := T5.out.f2 1; have g2 := T5.out.f2 2
      simp at q0 q1 z0 z1 z2
      have hlt := Hlt.out m
      obtain ⟨p, hp⟩ : ∃ p, p = F m := ⟨_, rfl⟩
      rw [← hp] at Hr2 hlt ⊢
      clear hp
      obtain ⟨i, e0⟩ := p
      simp only at Hr2 hlt ⊢
      by_cases he : e0 = 0
      · subst he
        have hi := hlt rfl
        clear hlt
        rcases HC.out with hnn | ⟨b, off, rfl, hblt, hcc⟩
        · subst hnn; simp at hi
        obtain ⟨h1, h2, h3⟩ := hcc i hi
        have k1 := (T5.out.b.cell (p := ⟨b, off + i * 3, none⟩) hblt).trans h1
        have k2 := (T5.out.b.cell (p := ⟨b, off + i * 3 + 1, none⟩) hblt).trans h2
        have k3 := (T5.out.b.cell (p := ⟨b, off + i * 3 + 2, none⟩) hblt).trans h3
        clear h1 h2 h3 hcc
        obtain ⟨x, hx⟩ : ∃ x, x = L.getD i dV := ⟨_, rfl⟩
        rw [← hx] at k1 k2 k3
        obtain rfl : r = (x, 0) := by rw [Hr2.out, if_neg (by simp), hx]
        clear hx
        go_wp2_with fail
        refine bodyPost_ret (v := .tuple #[verVal x, .int .i64 0]) ?_ rfl ⟨rfl, ?_⟩
        · simp [results, Tryd.results33, go_sem, z0, z1, z2, verVal]
        · have hz := T5.out.sz
          refine ((T5.out.b.setCell ?_ _).setCell ?_ _).setCell ?_ _ <;> dsimp only <;> omega
      · have hE : ((e0 : Int) != 0) = true := by simp [bne, he]
        have hE2 : ¬ (e0 : Int) = 0 := by omega
        obtain rfl : r = (dV, e0) := by rw [Hr2.out, if_pos he]
        go_wp2_with fail
        refine bodyPost_ret (v := .tuple #[verVal dV, .int .i64 e0]) ?_ rfl ⟨rfl, ?_⟩
        · simp [results, Tryd.results33, go_sem, z0, z1, z2, verVal, dV]; rfl
        · have hz := T5.out.sz
          refine ((T5.out.b.setCell ?_ _).setCell ?_ _).setCell ?_ _ <;> dsimp only <;> omega
  · have hB : ((n : Int) == 0) = false := by rw [beq_eq_false_iff_ne]; omega
    have Hr2 : Hid (r = if (F n).2 ≠ 0 then (dV, (F n).2) else (L.getD (F n).1 dV, 0)) := Lib.hid (by rw [Hr.out, if_neg (by simp [hn]), if_neg hn])
    go_wp2_with fail
    refine (Hfind.out n _ _ ?_).mono ?_
    · exact Hv.out.below T.out.b (Nat.le_refl _)
    rintro e w5 ⟨rfl, hb5⟩
    have T5 := Lib.hid (T.out.step hb5)
    clear q0 q1 hb5
    have q0 := T5.out.c1 0
    have q1 := T5.out.c1 1
    have z0 := T5.out.c2 0; have z1 := T5.out.c2 1; have z2 := T5.out.c2 2
    have g0 := T5.out.f2 0; have g1 := T5.out.f2 1; have g2 := T5.out.f2 2
    simp at q0 q1 z0 z1 z2
    have hlt := Hlt.out n
    obtain ⟨p, hp⟩ : ∃ p, p = F n := ⟨_, rfl⟩
    rw [← hp] at Hr2 hlt ⊢
    clear hp
    obtain ⟨i, e0⟩ := p
    simp only at Hr2 hlt ⊢
    by_cases he : e0 = 0
    · subst he
      have hi := hlt rfl
      clear hlt
      rcases HC.out with hnn | ⟨b, off, rfl, hblt, hcc⟩
      · subst hnn; simp at hi
      obtain ⟨h1, h2, h3⟩ := hcc i hi
      have k1 := (T5.out.b.cell (p := ⟨b, off + i * 3, none⟩) hblt).trans h1
      have k2 := (T5.out.b.cell (p := ⟨b, off + i * 3 + 1, none⟩) hblt).trans h2
      have k3 := (T5.out.b.cell (p := ⟨b, off + i * 3 + 2, none⟩) hblt).trans h3
      clear h1 h2 h3 hcc
      obtain ⟨x, hx⟩ : ∃ x, x = L.getD i dV := ⟨_, rfl⟩
      rw [← hx] at k1 k2 k3
      obtain rfl : r = (x, 0) := by rw [Hr2.out, if_neg (by simp), hx]
      clear hx
      go_wp2_with fail
      refine bodyPost_ret (v := .tuple #[verVal x, .int .i64 0]) ?_ rfl ⟨rfl, ?_⟩
      · simp [results, Tryd.results33, go_sem, z0, z1, z2, verVal]
      · have hz := T5.out.sz
        refine ((T5.out.b.setCell ?_ _).setCell ?_ _).setCell ?_ _ <;> dsimp only <;> omega
    · have hE : ((e0 : Int) != 0) = true := by simp [bne, he]
      have hE2 : ¬ (e0 : Int) = 0 := by omega
      obtain rfl : r = (dV, e0) := by rw [Hr2.out, if_pos he]
      go_wp2_with fail
      refine bodyPost_ret (v := .tuple #[verVal dV, .int .i64 e0]) ?_ rfl ⟨rfl, ?_⟩
      · simp [results, Tryd.results33, go_sem, z0, z1, z2, verVal, dV]; rfl
      · have hz := T5.out.sz
        refine ((T5.out.b.setCell ?_ _).setCell ?_ _).setCell ?_ _ <;> dsimp only <;> omega
end Go.Proofs.YtbmmabpglkojkaaDoor
