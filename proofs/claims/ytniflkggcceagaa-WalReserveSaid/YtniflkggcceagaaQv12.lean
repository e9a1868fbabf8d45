/- Contract: the log's Checkpoint. -/
import Derived.Test.YtniflkggcceagaaQv11
namespace Go.Proofs.Ytniflkggcceagaa
open Go Go.RowKit
theorem cz_row2 {w : World} {g B : Nat} {e : TypeId} {u v : Value} (h : Cz w g e #[u, v]) (hB : B ≤ g) : w.ownsRow B e 1 (.slice (some ⟨g, 0, none⟩) 2 2) 2 [u, v] :=
  ⟨rfl, Or.inr ⟨g, 2, #[u, v], rfl, hB, h, Nat.le_refl _, by decide, rfl, rfl⟩⟩
def CkV (b2 : Nat) (W : World) (B : Nat) (v : Value) (f : Int) : Prop := ∃ b11, v = .func (.func 41) #[] #[.pointer (some ⟨b2, 0, none⟩), .pointer (some ⟨b11, 0, none⟩)] ∧ Cz W b11 3 #[.int .i64 f] ∧ B ≤ b11
theorem CkV.step {b2 B : Nat} {W W' : World} {v : Value} {f : Int} (h : CkV b2 W B v f) (hb : Below W.heap.size W W') : CkV b2 W' B v f := by
  obtain ⟨b, h1, h2, h3⟩ := h; exact ⟨b, h1, h2.step hb, h3⟩
theorem CkV.kn {b2 B : Nat} {W W' : World} {v : Value} {f : Int} {X : Nat → Prop} {K : Option TypeId} (h : CkV b2 W B v f) (hb : ButS X W W') (hX : ∀ k, X k → knd W k = K) (hK : K ≠ some 3) : CkV b2 W' B v f := by
  obtain ⟨b, h1, h2, h3⟩ := h; exact ⟨b, h1, h2.kn hb hX hK, h3⟩
set_option maxRecDepth 100000 in
set_option maxHeartbeats 4000000 in
theorem wal_Checkpoint (w : World) {S T : Nat → Prop} {x d : Nat} {W : Wa} {D : Dk} (h : WalAt w T x d W) (hd : DiskAt w S d D) (hST : ∀ k, S k → ¬ T k) (hk : DkOk D) (ho : WaOk W) (ha : AOk W 0) (hg : 1 ≤ W.gen ∧ W.gen < 127) (hn1 : 1 ≤ W.next) (hn3 : 3 ≤ D.n)
    (t : List UInt8) (ht : t.length ≤ 65534) (hloose : D.loose.length + 200 ≤ 1000000) :
    Calls Try.prog 17 #[.pointer (some ⟨x, 0, none⟩), .string (bs t)] w (CkG S T x d (ckR D W t) w) := by
  have HM := Lib.hid (fun w' (hb : Below w.heap.size w w') => wal_mayW w' (h.step hb))
  unfold Wa.mayE at HM
  have H := Lib.hid h; have HD := Lib.hid hd; have HST := Lib.hid hST; have HK := Lib.hid hk; have HO := Lib.hid ho; have HAO := Lib.hid ha; have HN3 := Lib.hid hn3; have HLO := Lib.hid hloose
  have HXB : Hid (x < w.heap.size) := Lib.hid h.lt
  obtain ⟨dn, hdn⟩ : ∃ z, W.down = z := ⟨_, rfl⟩
  have HDN := Lib.hid hdn
  rw [hdn] at HM
  obtain ⟨gn, hgn⟩ : ∃ z, W.gen = z := ⟨_, rfl⟩
  obtain ⟨nx, hnx⟩ : ∃ z, W.next = z := ⟨_, rfl⟩
  have HGN := Lib.hid hgn; have HNX := Lib.hid hnx
  have hnxb : nx ≤ 1000000 := by rw [← hnx]; exact ha.nx
  rw [hgn] at hg
  rw [hnx] at hn1
  obtain ⟨gm, hgm⟩ : ∃ z, gn + 1 = z := ⟨_, rfl⟩
  have HPC := Lib.hid (fun W' (_ : Below w.heap.size w W') => seg_Head 1 gm nx t ⟨by omega, by omega, by omega, fun h => by omega⟩ (by omega) ht W')
  have hQl := Wl.head_length sumF 1 gm nx t
  obtain ⟨Q, hQ⟩ : ∃ z, Wl.head sumF 1 gm nx t = z := ⟨_, rfl⟩
  rw [hQ] at HPC hQl
  have HHQ : Hid (ckHead W t = Q) := Lib.hid (by unfold ckHead; rw [hgn, hnx, hgm]; exact hQ)
  obtain ⟨tl, htl⟩ : ∃ z, t.length = z := ⟨_, rfl⟩
  have HTL := Lib.hid htl
  obtain ⟨L, hL⟩ : ∃ z, 18 + tl = z := ⟨_, rfl⟩
  rw [htl] at hQl ht
  rw [hL] at hQl
  have HQL := Lib.hid hQl
  have hQs : (bs Q).size = L := by rw [bs_size, hQl]
  have HL := Lib.hid hL
  have hLb : L ≤ 65552 := by omega
  have hgmi : (gn : Int) + 1 = (gm : Int) := by omega
  have hgmb : gm ≤ 127 := by omega
  have hgnb : ¬ (281474976710656 : Int) ≤ (gn : Int) := by omega
  have hgnd : decide ((281474976710656 : Int) ≤ (gn : Int)) = false := by simp; omega
  have HGM := Lib.hid hgm
  clear h hd hST hk ho ha hn1 hn3 hloose hdn hgn hnx hQ htl hL hQl hgm
  go_enter Try.func17, Try.ntmps17
  go_upto_region 1 with fail
  refine wp_abs (F := fun W' => Hid (Below w.heap.size w W') ∧ Hid (Cz W' w.heap.size 27 #[.pointer (some ⟨x, 0, none⟩)])) ⟨Lib.hid ((Below.refl _ _).alloc (Nat.le_refl _) _), Lib.hid (Cz.new _ _ _)⟩ ?_
  rintro W0 ⟨HB0, HZ0⟩
  obtain ⟨b2, hb2⟩ : ∃ z, w.heap.size = z := ⟨_, rfl⟩
  have HBE := Lib.hid hb2
  rw [hb2] at HZ0 ⊢
  clear hb2
  have c3 := HZ0.out.c 0
  simp at c3
  by_cases hz : dn = 0
  · have HZD := Lib.hid hz
    rw [if_neg (by simpa using hz)] at HM
    clear hz
    have HW0 := Lib.hid (H.out.step HB0.out)
    have FX : Hid (∀ W', Below W0.heap.size W0 W' → W'.cell? ⟨b2, 0, none⟩ = some (.pointer (some ⟨x, 0, none⟩)) ∧ W'.cell? ⟨x, 4, none⟩ = some (.int .u64 (gn : Int)) ∧ W'.cell? ⟨x, 6, none⟩ = some (.int .u64 (nx : Int))) := Lib.hid (fun W' hb => by
      have h1 := (HZ0.out.step hb).c 0
      simp at h1
      exact ⟨h1, by rw [← HGN.out]; exact (HW0.out.step hb).c4, by rw [← HNX.out]; exact (HW0.out.step hb).c6⟩)
    have HPC0 : Hid (∀ W', Below W0.heap.size W0 W' → _) := Lib.hid (fun W' hb => HPC.out W' (HB0.out.trans (hb.mono HB0.out.size)))
    replace HPC := HPC0
    clear HPC0
    have c4 := (FX.out W0 (Below.refl _ _)).2.1
    have hgw : IntKind.u64.wrap (gm : Int) = (gm : Int) := by rw [IntKind.wrap_u64]; omega
    go_wp2_with fail
    refine (HM.out W0 HB0.out).mono ?_
    rintro e w1 ⟨rfl, hw1⟩
    subst w1
    go_upto_region 6 with fail
    clear c3 c4
    go_cut [6, 7] (fun s6 s7 wx => ∃ b6, s6 = .pointer (some ⟨b6, 0, none⟩) ∧ s7 = .int .i64 0 ∧ Hid (Below W0.heap.size W0 wx) ∧ Hid (Cz wx b6 9 #[.string (bs Q)]) ∧ Hid (W0.heap.size ≤ b6))
    case first =>
      refine wp_region_held_drew (S := fun w' => Hid (Below W0.heap.size W0 w')) (by kernel_rfl) (Lib.hid (Below.drew (Below.refl _ _))) (fun hS => ?_)
      have hX0b : Below W0.heap.size W0 W0.drew := Below.drew (Below.refl _ _)
      generalize W0.drew = X0 at hS hX0b ⊢
      refine wpAnyH_take (i := 0) (v := .pointer (some ⟨x, 0, none⟩)) rfl (by kernel_rfl) (by kernel_rfl) (by kernel_rfl) (fun _ _ _ h => h) (Or.inl ⟨by rfl, fun w' hw => ?_⟩) hS ?_
      · obtain ⟨h1, h4, h6⟩ := FX.out _ hw.out
        go_simp
      simp only [Act.put, List.getElem_toArray, List.getElem_cons_zero, List.setIfInBounds_toArray, List.set_cons_zero, List.set_cons_succ]
      refine wpAnyH_take (i := 1) (v := .pointer (some ⟨x, 0, none⟩)) rfl (by kernel_rfl) (by kernel_rfl) (by kernel_rfl) (fun _ _ _ h => h) (Or.inl ⟨by rfl, fun w' hw => ?_⟩) hS ?_
      · obtain ⟨h1, h4, h6⟩ := FX.out _ hw.out
        go_simp
      simp only [Act.put, List.getElem_toArray, List.getElem_cons_succ, List.getElem_cons_zero, List.setIfInBounds_toArray, List.set_cons_zero, List.set_cons_succ]
      refine wpAnyH_take (i := 2) (v := .pointer (some ⟨x, 4, none⟩)) rfl (by kernel_rfl) (by kernel_rfl) (by kernel_rfl) (fun _ _ _ h => h) (Or.inl ⟨by rfl, fun w' hw => ?_⟩) hS ?_
      · obtain ⟨h1, h4, h6⟩ := FX.out _ hw.out
        go_simp
      simp only [Act.put, List.getElem_toArray, List.getElem_cons_succ, List.getElem_cons_zero, List.setIfInBounds_toArray, List.set_cons_zero, List.set_cons_succ]
      refine wpAnyH_take (i := 3) (v := .int .u64 (gn : Int)) rfl (by kernel_rfl) (by kernel_rfl) (by kernel_rfl) (fun _ _ _ h => h) (Or.inl ⟨by rfl, fun w' hw => ?_⟩) hS ?_
      · obtain ⟨h1, h4, h6⟩ := FX.out _ hw.out
        go_simp
      simp only [Act.put, List.getElem_toArray, List.getElem_cons_succ, List.getElem_cons_zero, List.setIfInBounds_toArray, List.set_cons_zero, List.set_cons_succ]
      refine wpAnyH_take (i := 4) (v := .int .u64 (gm : Int)) rfl (by kernel_rfl) (by kernel_rfl) (by kernel_rfl) (fun _ _ _ h => h) (Or.inl ⟨by rfl, fun w' hw => ?_⟩) hS ?_
      · obtain ⟨h1, h4, h6⟩ := FX.out _ hw.out
        go_simp
      simp only [Act.put, List.getElem_toArray, List.getElem_cons_succ, List.getElem_cons_zero, List.setIfInBounds_toArray, List.set_cons_zero, List.set_cons_succ]
      refine wpAnyH_take (i := 5) (v := .pointer (some ⟨x, 0, none⟩)) rfl (by kernel_rfl) (by kernel_rfl) (by kernel_rfl) (fun _ _ _ h => h) (Or.inl ⟨by rfl, fun w' hw => ?_⟩) hS ?_
      · obtain ⟨h1, h4, h6⟩ := FX.out _ hw.out
        go_simp
      simp only [Act.put, List.getElem_toArray, List.getElem_cons_succ, List.getElem_cons_zero, List.setIfInBounds_toArray, List.set_cons_zero, List.set_cons_succ]
      refine wpAnyH_take (i := 6) (v := .pointer (some ⟨x, 0, none⟩)) rfl (by kernel_rfl) (by kernel_rfl) (by kernel_rfl) (fun _ _ _ h => h) (Or.inl ⟨by rfl, fun w' hw => ?_⟩) hS ?_
      · obtain ⟨h1, h4, h6⟩ := FX.out _ hw.out
        go_simp
      simp only [Act.put, List.getElem_toArray, List.getElem_cons_succ, List.getElem_cons_zero, List.setIfInBounds_toArray, List.set_cons_zero, List.set_cons_succ]
      refine wpAnyH_take (i := 7) (v := .pointer (some ⟨x, 6, none⟩)) rfl (by kernel_rfl) (by kernel_rfl) (by kernel_rfl) (fun _ _ _ h => h) (Or.inl ⟨by rfl, fun w' hw => ?_⟩) hS ?_
      · obtain ⟨h1, h4, h6⟩ := FX.out _ hw.out
        go_simp
      simp only [Act.put, List.getElem_toArray, List.getElem_cons_succ, List.getElem_cons_zero, List.setIfInBounds_toArray, List.set_cons_zero, List.set_cons_succ]
      refine wpAnyH_take (i := 8) (v := .int .u64 (nx : Int)) rfl (by kernel_rfl) (by kernel_rfl) (by kernel_rfl) (fun _ _ _ h => h) (Or.inl ⟨by rfl, fun w' hw => ?_⟩) hS ?_
      · obtain ⟨h1, h4, h6⟩ := FX.out _ hw.out
        go_simp
      simp only [Act.put, List.getElem_toArray, List.getElem_cons_succ, List.getElem_cons_zero, List.setIfInBounds_toArray, List.set_cons_zero, List.set_cons_succ]
      refine wpAnyH_take (i := 9) (v := .string (bs t)) rfl (by kernel_rfl) (by kernel_rfl) (by kernel_rfl) (fun _ _ _ h => h) (Or.inl ⟨by rfl, fun w' hw => ?_⟩) hS ?_
      · obtain ⟨h1, h4, h6⟩ := FX.out _ hw.out
        go_simp
      simp only [Act.put, List.getElem_toArray, List.getElem_cons_succ, List.getElem_cons_zero, List.setIfInBounds_toArray, List.set_cons_zero, List.set_cons_succ]
      refine wpAnyH_ready (rs := [10, 14]) (by kernel_rfl) (by simp) ?_
      refine AllReadyH.cons rfl (fun K hK => ?_) ?_
      · rw [if_pos (by rfl)]
        go_simp
        refine (HPC.out _ hS.out).mono ?_
        rintro e X0c ⟨rfl, hbn⟩
        have hsn : Hid (Below W0.heap.size W0 X0c) := Lib.hid (hS.out.trans (hbn.mono hS.out.size))
        clear hbn
        refine hK.out _ _ hsn (fun hS => ?_)
        clear hK
        (try go_frame)
        refine wpAnyH_take (i := 11) (v := .tuple #[.string (bs Q), .int .i64 0]) rfl (by kernel_rfl) (by kernel_rfl) (by kernel_rfl) (fun _ _ _ h => h) (Or.inl ⟨by rfl, fun w' hw => ?_⟩) hS ?_
        · obtain ⟨h1, h4, h6⟩ := FX.out _ hw.out
          go_simp
        simp only [Act.put, List.getElem_toArray, List.getElem_cons_succ, List.getElem_cons_zero, List.setIfInBounds_toArray, List.set_cons_zero, List.set_cons_succ]
        refine wpAnyH_take (i := 12) (v := .string (bs Q)) rfl (by kernel_rfl) (by kernel_rfl) (by kernel_rfl) (fun _ _ _ h => h) (Or.inl ⟨by rfl, fun w' hw => ?_⟩) hS ?_
        · obtain ⟨h1, h4, h6⟩ := FX.out _ hw.out
          go_simp
        simp only [Act.put, List.getElem_toArray, List.getElem_cons_succ, List.getElem_cons_zero, List.setIfInBounds_toArray, List.set_cons_zero, List.set_cons_succ]
        refine wpAnyH_take (i := 13) (v := .int .i64 0) rfl (by kernel_rfl) (by kernel_rfl) (by kernel_rfl) (fun _ _ _ h => h) (Or.inl ⟨by rfl, fun w' hw => ?_⟩) hS ?_
        · obtain ⟨h1, h4, h6⟩ := FX.out _ hw.out
          go_simp
        simp only [Act.put, List.getElem_toArray, List.getElem_cons_succ, List.getElem_cons_zero, List.setIfInBounds_toArray, List.set_cons_zero, List.set_cons_succ]
        refine wpAnyH_ready (rs := [14]) (by kernel_rfl) (by simp) ?_
        refine AllReadyH.cons rfl (fun K hK => ?_) AllReadyH.nil
        rw [if_pos (by rfl)]
        go_simp
        have hz6 := Cz.new X0c #[.string ⟨#[]⟩] 9
        have hb : Below X0c.heap.size X0c (X0c.alloc (.cells #[.string ⟨#[]⟩] 9)) := (Below.refl _ _).alloc (Nat.le_refl _) _
        have hge6 : W0.heap.size ≤ X0c.heap.size := hS.out.size
        have hsb : Hid (Below W0.heap.size W0 (X0c.alloc (.cells #[.string ⟨#[]⟩] 9))) := Lib.hid (hS.out.trans (hb.mono hS.out.size))
        generalize (X0c.alloc (.cells #[.string ⟨#[]⟩] 9)) = X0cb at hz6 hb hsb ⊢
        obtain ⟨b6, hb6⟩ : ∃ z, X0c.heap.size = z := ⟨_, rfl⟩
        rw [hb6] at hz6 hge6 ⊢
        clear hb hb6
        refine hK.out _ _ hsb (fun hS => ?_)
        clear hK
        (try go_frame)
        refine wpAnyH_ready (rs := [15]) (by kernel_rfl) (by simp) ?_
        refine AllReadyH.cons rfl (fun K hK => ?_) AllReadyH.nil
        rw [if_pos (by rfl)]
        have pz := hz6.c 0; have qz := hz6.f 0
        simp at pz
        go_simp
        have hz6b := hz6.set 0 (.string (bs Q))
        simp at hz6b
        have hse : Hid (Below W0.heap.size W0 (X0cb.setCell ⟨b6, 0, none⟩ (.string (bs Q)))) := Lib.hid (below_but hS.out (ButS.set (S := fun k => k = b6) X0cb (p := ⟨b6, 0, none⟩) rfl _) (fun k h => by omega) (Nat.le_refl _))
        clear pz qz hz6
        generalize (X0cb.setCell ⟨b6, 0, none⟩ (.string (bs Q))) = W6 at hz6b hse ⊢
        refine hK.out _ _ hse (fun hS => ?_)
        clear hK
        (try go_frame)
        refine wpAnyH_take (i := 16) (v := .int .i64 0) rfl (by kernel_rfl) (by kernel_rfl) (by kernel_rfl) (fun _ _ _ h => h) (Or.inl ⟨by rfl, fun w' hw => ?_⟩) hS ?_
        · obtain ⟨h1, h4, h6⟩ := FX.out _ hw.out
          go_simp
        simp only [Act.put, List.getElem_toArray, List.getElem_cons_succ, List.getElem_cons_zero, List.setIfInBounds_toArray, List.set_cons_zero, List.set_cons_succ]
        refine wpAnyH_done (by kernel_rfl) ?_ _
        have HB6 := hS; have HZ6 := Lib.hid hz6b
        have HG6 := Lib.hid hge6
        clear hS hz6b hge6
        go_wp2_with fail
        go_meet
        exact ⟨b6, rfl, rfl, HB6, HZ6, HG6⟩
      refine AllReadyH.cons rfl (fun K hK => ?_) AllReadyH.nil
      rw [if_pos (by rfl)]
      go_simp
      have hz6 := Cz.new X0 #[.string ⟨#[]⟩] 9
      have hb : Below X0.heap.size X0 (X0.alloc (.cells #[.string ⟨#[]⟩] 9)) := (Below.refl _ _).alloc (Nat.le_refl _) _
      have hge6 : W0.heap.size ≤ X0.heap.size := hS.out.size
      have hsb : Hid (Below W0.heap.size W0 (X0.alloc (.cells #[.string ⟨#[]⟩] 9))) := Lib.hid (hS.out.trans (hb.mono hS.out.size))
      generalize (X0.alloc (.cells #[.string ⟨#[]⟩] 9)) = X0b at hz6 hb hsb ⊢
      obtain ⟨b6, hb6⟩ : ∃ z, X0.heap.size = z := ⟨_, rfl⟩
      rw [hb6] at hz6 hge6 ⊢
      clear hb hb6
      refine hK.out _ _ hsb (fun hS => ?_)
      clear hK
      (try go_frame)
      refine wpAnyH_ready (rs := [10]) (by kernel_rfl) (by simp) ?_
      refine AllReadyH.cons rfl (fun K hK => ?_) AllReadyH.nil
      rw [if_pos (by rfl)]
      go_simp
      refine (HPC.out _ hS.out).mono ?_
      rintro e X0bc ⟨rfl, hbn⟩
      have hsn : Hid (Below W0.heap.size W0 X0bc) := Lib.hid (hS.out.trans (hbn.mono hS.out.size))
      replace hz6 := hz6.step hbn
      clear hbn
      refine hK.out _ _ hsn (fun hS => ?_)
      clear hK
      (try go_frame)
      refine wpAnyH_take (i := 11) (v := .tuple #[.string (bs Q), .int .i64 0]) rfl (by kernel_rfl) (by kernel_rfl) (by kernel_rfl) (fun _ _ _ h => h) (Or.inl ⟨by rfl, fun w' hw => ?_⟩) hS ?_
      · obtain ⟨h1, h4, h6⟩ := FX.out _ hw.out
        go_simp
      simp only [Act.put, List.getElem_toArray, List.getElem_cons_succ, List.getElem_cons_zero, List.setIfInBounds_toArray, List.set_cons_zero, List.set_cons_succ]
      refine wpAnyH_take (i := 12) (v := .string (bs Q)) rfl (by kernel_rfl) (by kernel_rfl) (by kernel_rfl) (fun _ _ _ h => h) (Or.inl ⟨by rfl, fun w' hw => ?_⟩) hS ?_
      · obtain ⟨h1, h4, h6⟩ := FX.out _ hw.out
        go_simp
      simp only [Act.put, List.getElem_toArray, List.getElem_cons_succ, List.getElem_cons_zero, List.setIfInBounds_toArray, List.set_cons_zero, List.set_cons_succ]
      refine wpAnyH_take (i := 13) (v := .int .i64 0) rfl (by kernel_rfl) (by kernel_rfl) (by kernel_rfl) (fun _ _ _ h => h) (Or.inl ⟨by rfl, fun w' hw => ?_⟩) hS ?_
      · obtain ⟨h1, h4, h6⟩ := FX.out _ hw.out
        go_simp
      simp only [Act.put, List.getElem_toArray, List.getElem_cons_succ, List.getElem_cons_zero, List.setIfInBounds_toArray, List.set_cons_zero, List.set_cons_succ]
      refine wpAnyH_ready (rs := [15]) (by kernel_rfl) (by simp) ?_
      refine AllReadyH.cons rfl (fun K hK => ?_) AllReadyH.nil
      rw [if_pos (by rfl)]
      have pz := hz6.c 0; have qz := hz6.f 0
      simp at pz
      go_simp
      have hz6b := hz6.set 0 (.string (bs Q))
      simp at hz6b
      have hse : Hid (Below W0.heap.size W0 (X0bc.setCell ⟨b6, 0, none⟩ (.string (bs Q)))) := Lib.hid (below_but hS.out (ButS.set (S := fun k => k = b6) X0bc (p := ⟨b6, 0, none⟩) rfl _) (fun k h => by omega) (Nat.le_refl _))
      clear pz qz hz6
      generalize (X0bc.setCell ⟨b6, 0, none⟩ (.string (bs Q))) = W6 at hz6b hse ⊢
      refine hK.out _ _ hse (fun hS => ?_)
      clear hK
      (try go_frame)
      refine wpAnyH_take (i := 16) (v := .int .i64 0) rfl (by kernel_rfl) (by kernel_rfl) (by kernel_rfl) (fun _ _ _ h => h) (Or.inl ⟨by rfl, fun w' hw => ?_⟩) hS ?_
      · obtain ⟨h1, h4, h6⟩ := FX.out _ hw.out
        go_simp
      simp only [Act.put, List.getElem_toArray, List.getElem_cons_succ, List.getElem_cons_zero, List.setIfInBounds_toArray, List.set_cons_zero, List.set_cons_succ]
      refine wpAnyH_done (by kernel_rfl) ?_ _
      have HB6 := hS; have HZ6 := Lib.hid hz6b
      have HG6 := Lib.hid hge6
      clear hS hz6b hge6
      go_wp2_with fail
      go_meet
      exact ⟨b6, rfl, rfl, HB6, HZ6, HG6⟩
    case rest =>
      obtain ⟨b6, rfl, rfl, HB6, HZ6, HG6⟩ := hcut
      have z6 := HZ6.out.c 0
      simp at z6
      obtain ⟨z2, z4, _⟩ := FX.out wc HB6.out
      have HW6 := Lib.hid (HW0.out.step HB6.out)
      have hwc : Below w.heap.size w wc := HB0.out.trans (HB6.out.mono HB0.out.size)
      have HWC := Lib.hid hwc
      have HD6 := Lib.hid (HD.out.step hwc)
      have k3 := HW6.out.c3
      clear hwc
      by_cases hlong : 42 < tl
      · have hl1 : (60 : Int) < (L : Int) := by have := HL.out; omega
        have HLG := Lib.hid hlong
        go_upto_region 9 with fail
        go_region
        go_wp2_with fail
        go_ret
        have e : ckR D W t = (5, D, W) := by unfold ckR; rw [if_neg (by rw [HDN.out, HZD.out]; exact fun h => h rfl), if_pos (by rw [HTL.out]; exact hlong)]
        rw [e]
        exact ⟨rfl, ((LgAt.of HD.out H.out HST.out).step HWC.out).step ⟨rfl, rfl, rfl, Nat.le_refl _, fun _ _ => rfl⟩⟩
      · have hl1 : ¬ (60 : Int) < (L : Int) := by have := HL.out; omega
        have HLG := Lib.hid hlong
        clear hlong
        go_upto_region 9 with fail
        go_region
        go_upto_region 11 with fail
        obtain ⟨ws1, hws1⟩ : ∃ z, wc.drew = z := ⟨_, rfl⟩
        have hbd : Below wc.heap.size wc ws1 := by rw [← hws1]; exact Below.drew (Below.refl _ _)
        rw [hws1]
        have HW7 := Lib.hid (HW6.out.step hbd); have HD7 := Lib.hid (HD6.out.step hbd)
        have HZ67 := Lib.hid (HZ6.out.step hbd); have HZ27 := Lib.hid ((HZ0.out.step HB6.out).step hbd)
        have HWC7 := Lib.hid (HWC.out.trans (hbd.mono HWC.out.size))
        have hg67 := HG6.out
        have HG7 : Hid (w.heap.size < W0.heap.size ∧ W0.heap.size ≤ b6 ∧ W0.heap.size ≤ ws1.heap.size) := Lib.hid ⟨by have := HZ0.out.lt; have := HBE.out; omega, hg67, by have := HB6.out.size; have := hbd.size; omega⟩
        clear z6 z2 z4 k3 hbd hws1 hg67 HWC HD6 HW6 HZ6 HB6
        have z2 := HZ27.out.c 0
        simp at z2
        have HFS := Lib.hid (wal_frees ws1 HW7.out HD7.out HN3.out)
        obtain ⟨fz, hfz⟩ : ∃ z, freesP D = z := ⟨_, rfl⟩
        have HFZ := Lib.hid hfz
        rw [hfz] at HFS
        have HCK : Hid (ckR D W t = if fz < 1 ∨ openP (L : Int) (D.left + (sumL W.sizes : Nat) - (L : Int)) < W.reserved then (4, D, W) else if (Dk.steps (ckCs (freeP D) Q W.files) D).1 ≠ 0 then ((Dk.steps (ckCs (freeP D) Q W.files) D).1, (Dk.steps (ckCs (freeP D) Q W.files) D).2, { W with down := (Dk.steps (ckCs (freeP D) Q W.files) D).1 }) else (0, (Dk.steps (ckCs (freeP D) Q W.files) D).2, { W with gen := gm, first := nx, files := [freeP D], sizes := [L], down := 0 })) := Lib.hid (by
          unfold ckR
          rw [if_neg (by rw [HDN.out, HZD.out]; exact fun h => h rfl), if_neg (by rw [HTL.out]; exact HLG.out), HHQ.out, HTL.out, HL.out, hfz, HGN.out, HGM.out, HNX.out])
        clear hfz
        by_cases hfree : fz < 1
        · have hfi : ((fz : Nat) : Int) < 1 := by omega
          go_wp2_with fail
          refine HFS.out.mono ?_
          rintro e w6 ⟨rfl, hw6⟩
          subst w6
          go_wp2_with fail
          go_ret
          rw [HCK.out, if_pos (Or.inl hfree)]
          exact ⟨rfl, (LgAt.of HD.out H.out HST.out).step HWC7.out⟩
        · have hfi : ¬ ((fz : Nat) : Int) < 1 := by omega
          obtain ⟨lf, hlf⟩ : ∃ z, D.left = z := ⟨_, rfl⟩
          obtain ⟨us, hus⟩ : ∃ z, sumL W.sizes = z := ⟨_, rfl⟩
          have hlfb : -1125899906842 ≤ lf ∧ lf ≤ 4194304 := by
            rw [← hlf]
            have h1 := HK.out.room
            have h2 : ∀ k, k ≤ 16 → lensN D.now k ≤ k * 1073741824 := fun k => by
              induction k with
              | zero => intro _; exact Nat.le_refl _
              | succ k ih => intro hk2; have := ih (by omega); have := HK.out.now k (by omega); show lensN D.now k + _ ≤ _; omega
            have h3 := h2 16 (by omega)
            unfold Dk.left; omega
          have husb : us ≤ 1099511627776 := by
            rw [← hus]
            have h1 := sumL_le W.sizes 1073741824 HO.out.s
            have h2 := HO.out.n
            have h3 : W.sizes.length * 1073741824 ≤ 1000 * 1073741824 := Nat.mul_le_mul_right _ h2
            omega
          obtain ⟨rs, hrs⟩ : ∃ z, W.reserved = z := ⟨_, rfl⟩
          obtain ⟨op, hop⟩ : ∃ z, openP (L : Int) (lf + (us : Int) - (L : Int)) = z := ⟨_, rfl⟩
          have HRM := Lib.hid (fun n => disk_Room (ws1.drewN n) (HD7.out.step ⟨rfl, rfl, rfl, Nat.le_refl _, fun _ _ => rfl⟩) HK.out.room HK.out.now)
          have HUS := Lib.hid (fun n => wal_used (ws1.drewN n) (HW7.out.drewN n) HO.out.n HO.out.s)
          obtain ⟨lu, hlu⟩ : ∃ z, lf + (us : Int) = z := ⟨_, rfl⟩
          obtain ⟨lv, hlv⟩ : ∃ z, lu - (L : Int) = z := ⟨_, rfl⟩
          have HOP := Lib.hid (fun n => wal_open (ws1.drewN n) (HW7.out.drewN n) (L : Int) lv ⟨by omega, by omega⟩ ⟨by omega, by omega⟩)
          rw [hlu, hlv] at hop
          rw [hop] at HOP
          rw [hlf] at HRM
          rw [hus] at HUS
          have hluw : IntKind.i64.wrap lu = lu := by rw [IntKind.wrap_i64]; omega
          have hlvw : IntKind.i64.wrap lv = lv := by rw [IntKind.wrap_i64]; omega
          have HC0 : Hid (∀ n, (ws1.drewN n).cell? ⟨b2, 0, none⟩ = some (.pointer (some ⟨x, 0, none⟩)) ∧ (ws1.drewN n).cell? ⟨x, 0, none⟩ = some (.pointer (some ⟨d, 0, none⟩)) ∧ (ws1.drewN n).cell? ⟨x, 9, none⟩ = some (.int .i64 rs) ∧ (ws1.drewN n).cell? ⟨b6, 0, none⟩ = some (.string (bs Q))) := Lib.hid (fun n => ⟨z2, HW7.out.c0, by rw [← hrs]; exact HW7.out.c9, by have := HZ67.out.c 0; simpa using this⟩)
          have HCK2 : Hid (ckR D W t = if op < rs then (4, D, W) else if (Dk.steps (ckCs (freeP D) Q W.files) D).1 ≠ 0 then ((Dk.steps (ckCs (freeP D) Q W.files) D).1, (Dk.steps (ckCs (freeP D) Q W.files) D).2, { W with down := (Dk.steps (ckCs (freeP D) Q W.files) D).1 }) else (0, (Dk.steps (ckCs (freeP D) Q W.files) D).2, { W with gen := gm, first := nx, files := [freeP D], sizes := [L], down := 0 })) := Lib.hid (by
            rw [HCK.out, hlf, hus, hlu, hlv, hop, hrs]
            by_cases hc : op < rs
            · rw [if_pos (Or.inr hc), if_pos hc]
            · rw [if_neg (fun h => h.elim hfree hc), if_neg hc])
          have HLU := Lib.hid hlu; have HLV := Lib.hid hlv
          clear HCK hlf hus hrs hop hfree hlu hlv
          have HLUW := Lib.hid hluw; have HLVW := Lib.hid hlvw
          have hfd : decide (((fz : Nat) : Int) < 1) = false := by simpa using hfi
          clear hluw hlvw hfi
          go_wp2_with fail
          refine HFS.out.mono ?_
          rintro e w6 ⟨rfl, hw6⟩
          subst w6
          go_upto_region 12 with fail
          have hluw := HLUW.out; have hlvw := HLVW.out
          clear z2
          refine wp_region_quiet (C := fun W => ∃ n, W = ws1.drewN n) (by kernel_rfl) (by kernel_rfl) ⟨1, rfl⟩ ?_
          refine (quiet_plain' ?_ (.pointer (some ⟨x, 0, none⟩)) (fun w' hw' => ?_) ?_ : _)
          · exact rfl
          · obtain ⟨n, rfl⟩ := hw'; obtain ⟨e1, e2, e3, e4⟩ := HC0.out n
            go_simp
          go_frame
          refine (quiet_plain' ?_ (.pointer (some ⟨x, 0, none⟩)) (fun w' hw' => ?_) ?_ : _)
          · exact rfl
          · go_simp
          go_frame
          refine (quiet_plain' ?_ (.pointer (some ⟨x, 9, none⟩)) (fun w' hw' => ?_) ?_ : _)
          · exact rfl
          · go_simp
          go_frame
          refine (quiet_plain' ?_ (.int .i64 rs) (fun w' hw' => ?_) ?_ : _)
          · exact rfl
          · obtain ⟨n, rfl⟩ := hw'; obtain ⟨e1, e2, e3, e4⟩ := HC0.out n
            go_simp
          go_frame
          refine (quiet_plain' ?_ (.pointer (some ⟨x, 0, none⟩)) (fun w' hw' => ?_) ?_ : _)
          · exact rfl
          · obtain ⟨n, rfl⟩ := hw'; obtain ⟨e1, e2, e3, e4⟩ := HC0.out n
            go_simp
          go_frame
          refine (quiet_plain' ?_ (.string (bs Q)) (fun w' hw' => ?_) ?_ : _)
          · exact rfl
          · obtain ⟨n, rfl⟩ := hw'; obtain ⟨e1, e2, e3, e4⟩ := HC0.out n
            go_simp
          go_frame
          refine (quiet_plain' ?_ (.int .i64 (L : Int)) (fun w' hw' => ?_) ?_ : _)
          · exact rfl
          · go_simp
          go_frame
          refine (quiet_plain' ?_ (.pointer (some ⟨x, 0, none⟩)) (fun w' hw' => ?_) ?_ : _)
          · exact rfl
          · obtain ⟨n, rfl⟩ := hw'; obtain ⟨e1, e2, e3, e4⟩ := HC0.out n
            go_simp
          go_frame
          refine (quiet_plain' ?_ (.pointer (some ⟨x, 0, none⟩)) (fun w' hw' => ?_) ?_ : _)
          · exact rfl
          · go_simp
          go_frame
          refine (quiet_plain' ?_ (.pointer (some ⟨x, 0, none⟩)) (fun w' hw' => ?_) ?_ : _)
          · exact rfl
          · go_simp
          go_frame
          refine (quiet_plain' ?_ (.pointer (some ⟨d, 0, none⟩)) (fun w' hw' => ?_) ?_ : _)
          · exact rfl
          · obtain ⟨n, rfl⟩ := hw'; obtain ⟨e1, e2, e3, e4⟩ := HC0.out n
            go_simp
          go_frame
          refine (quiet_call' ?_ (.int .i64 lf) 12 #[.pointer (some ⟨d, 0, none⟩)] (fun w' hw' => ⟨?_, ?_⟩) ?_ : _)
          · exact rfl
          · obtain ⟨n, rfl⟩ := hw'; obtain ⟨e1, e2, e3, e4⟩ := HC0.out n
            go_simp
          · obtain ⟨n, rfl⟩ := hw'; exact (HRM.out n).mono (fun e wz h => ⟨h.1, n, h.2⟩)
          go_frame
          refine (quiet_plain' ?_ (.pointer (some ⟨x, 0, none⟩)) (fun w' hw' => ?_) ?_ : _)
          · exact rfl
          · obtain ⟨n, rfl⟩ := hw'; obtain ⟨e1, e2, e3, e4⟩ := HC0.out n
            go_simp
          go_frame
          refine (quiet_call' ?_ (.int .i64 (us : Int)) 29 #[.pointer (some ⟨x, 0, none⟩)] (fun w' hw' => ⟨?_, ?_⟩) ?_ : _)
          · exact rfl
          · obtain ⟨n, rfl⟩ := hw'; obtain ⟨e1, e2, e3, e4⟩ := HC0.out n
            go_simp
          · obtain ⟨n, rfl⟩ := hw'; exact (HUS.out n).mono (fun e wz h => ⟨h.1, n, h.2⟩)
          go_frame
          have hlu := HLU.out
          refine (quiet_plain' ?_ (.int .i64 lu) (fun w' hw' => ?_) ?_ : _)
          · exact rfl
          · go_simp
          go_frame
          clear hlu
          refine (quiet_plain' ?_ (.string (bs Q)) (fun w' hw' => ?_) ?_ : _)
          · exact rfl
          · obtain ⟨n, rfl⟩ := hw'; obtain ⟨e1, e2, e3, e4⟩ := HC0.out n
            go_simp
          go_frame
          refine (quiet_plain' ?_ (.int .i64 (L : Int)) (fun w' hw' => ?_) ?_ : _)
          · exact rfl
          · go_simp
          go_frame
          have hlv := HLV.out
          refine (quiet_plain' ?_ (.int .i64 lv) (fun w' hw' => ?_) ?_ : _)
          · exact rfl
          · go_simp
          go_frame
          clear hlv
          refine (quiet_call' ?_ (.int .i64 op) 28 #[.pointer (some ⟨x, 0, none⟩), .int .i64 (L : Int), .int .i64 lv] (fun w' hw' => ⟨?_, ?_⟩) ?_ : _)
          · exact rfl
          · obtain ⟨n, rfl⟩ := hw'; obtain ⟨e1, e2, e3, e4⟩ := HC0.out n
            go_simp
          · obtain ⟨n, rfl⟩ := hw'; exact (HOP.out n).mono (fun e wz h => ⟨h.1, by obtain ⟨m, hm⟩ := h.2; exact ⟨n + m, by rw [hm, World.drewN_drewN]⟩⟩)
          go_frame
          refine (quiet_plain' ?_ (.bool (decide (op < rs))) (fun w' hw' => ?_) ?_ : _)
          · exact rfl
          · go_simp
          go_frame
          refine (quiet_plain' ?_ (.bool (decide (op < rs))) (fun w' hw' => ?_) ?_ : _)
          · exact rfl
          · go_simp
          go_frame
          refine (wpQuiet_nil ?_ : _)
          rintro W6 ⟨nd, rfl⟩
          have hbd2 : Below ws1.heap.size ws1 (ws1.drewN nd) := ⟨rfl, rfl, rfl, Nat.le_refl _, fun _ _ => rfl⟩
          by_cases hres : op < rs
          · have hrd : decide (op < rs) = true := by simpa using hres
            rw [hrd]
            go_wp2_with fail
            go_ret
            rw [HCK2.out, if_pos hres]
            exact ⟨rfl, (LgAt.of HD.out H.out HST.out).step (HWC7.out.trans ⟨rfl, rfl, rfl, Nat.le_refl _, fun _ _ => rfl⟩)⟩
          · have hrd : decide (op < rs) = false := by simpa using hres
            rw [hrd]
            have HCK3 : Hid (ckR D W t = if (Dk.steps (ckCs (freeP D) Q W.files) D).1 ≠ 0 then ((Dk.steps (ckCs (freeP D) Q W.files) D).1, (Dk.steps (ckCs (freeP D) Q W.files) D).2, { W with down := (Dk.steps (ckCs (freeP D) Q W.files) D).1 }) else (0, (Dk.steps (ckCs (freeP D) Q W.files) D).2, { W with gen := gm, first := nx, files := [freeP D], sizes := [L], down := 0 })) := Lib.hid (by rw [HCK2.out, if_neg hres])
            obtain ⟨ws2, hws2⟩ : ∃ z, ws1.drewN nd = z := ⟨_, rfl⟩
            rw [hws2] at hbd2 ⊢
            have HW8 := Lib.hid (HW7.out.step hbd2); have HD8 := Lib.hid (HD7.out.step hbd2); have HZ68 := Lib.hid (HZ67.out.step hbd2); have HZ28 := Lib.hid (HZ27.out.step hbd2)
            have HWC8 := Lib.hid (HWC7.out.trans (hbd2.mono HWC7.out.size))
            have HG8 : Hid (w.heap.size < W0.heap.size ∧ W0.heap.size ≤ b6 ∧ W0.heap.size ≤ ws2.heap.size) := Lib.hid ⟨HG7.out.1, HG7.out.2.1, by have := HG7.out.2.2; have := hbd2.size; omega⟩
            clear HCK2 hrd hres hbd2 hws2 HC0 HRM HUS HOP HW7 HD7 HZ67 HZ27 HWC7 HG7
            have z2 := HZ28.out.c 0
            simp at z2
            obtain ⟨fl, hfl⟩ : ∃ z, freeP D = z := ⟨_, rfl⟩
            have HFR := Lib.hid (wal_free ws2 HW8.out HD8.out HN3.out)
            rw [hfl] at HFR
            rw [hfl] at HCK3
            have c0 := HW8.out.c0
            go_wp2_with fail
            refine HFR.out.mono ?_
            rintro e w6 ⟨rfl, hw6⟩
            subst w6
            go_upto_region 15 with fail
            refine wp_abs (F := fun W' => Hid (Below ws2.heap.size ws2 W') ∧ Hid (Cz W' ws2.heap.size 3 #[.int .i64 fl])) ⟨Lib.hid ((Below.refl _ _).alloc (Nat.le_refl _) _), Lib.hid (Cz.new _ _ _)⟩ ?_
            rintro ws3 ⟨HB3, HZ83⟩
            obtain ⟨b8, hb8⟩ : ∃ z, ws2.heap.size = z := ⟨_, rfl⟩
            have H8 := Lib.hid hb8
            rw [hb8] at HZ83 ⊢
            have HW9 := Lib.hid (HW8.out.step HB3.out); have HD9 := Lib.hid (HD8.out.step HB3.out); have HZ69 := Lib.hid (HZ68.out.step HB3.out); have HZ29 := Lib.hid (HZ28.out.step HB3.out)
            have HWC9 := Lib.hid (HWC8.out.trans (HB3.out.mono HWC8.out.size))
            clear z2 c0 hb8 hfl HW8 HD8 HZ68 HZ28
            have z2 := HZ29.out.c 0
            simp at z2
            have c0 := HW9.out.c0
            obtain ⟨fv, sv, hrw⟩ := HW9.out.look
            obtain ⟨af, cf, rfl⟩ := ownShape hrw.fr
            obtain ⟨nf, hnf⟩ : ∃ z, W.files.length = z := ⟨_, rfl⟩
            have hnf1 : nf ≤ 100 := by rw [← hnf, HAO.out.fs]; have := HAO.out.le; omega
            have HNF := Lib.hid hnf
            have r7 := hrw.c7
            rw [hnf] at r7
            have HFC : Hid (nf = 0 ∨ ∃ gf, af = some ⟨gf, 0, none⟩ ∧ gf < ws3.heap.size ∧ ∀ i f, W.files[i]? = some f → ws3.cell? ⟨gf, i, none⟩ = some (.int .i64 f)) := Lib.hid (by
              rcases row_at hrw.fr (by simp [intsV]) with h1 | ⟨gf, rfl, h1⟩
              · exact Or.inl (hnf.symm.trans h1)
              · exact Or.inr ⟨gf, rfl, (own_k hrw.fr gf rfl).1, fun i f hf => (h1 i _ (by unfold intsV; rw [List.getElem?_map, hf]; rfl)).1⟩)
            clear hrw hnf
            have HLB : Hid (Below ws3.heap.size ws3 (ws3.alloc (.cells #[.func (.func 40) #[] #[.pointer (some ⟨b2, 0, none⟩), .pointer (some ⟨b8, 0, none⟩), .pointer (some ⟨b6, 0, none⟩)], .func (.func 38) #[.pointer (some ⟨d, 0, none⟩)] #[]] 41))) := Lib.hid ((Below.refl _ _).alloc (Nat.le_refl _) _)
            have HLR : Hid ((ws3.alloc (.cells #[.func (.func 40) #[] #[.pointer (some ⟨b2, 0, none⟩), .pointer (some ⟨b8, 0, none⟩), .pointer (some ⟨b6, 0, none⟩)], .func (.func 38) #[.pointer (some ⟨d, 0, none⟩)] #[]] 41)).ownsRow ws3.heap.size 41 1 (.slice (some ⟨ws3.heap.size, 0, none⟩) 2 2) 2 [.func (.func 40) #[] #[.pointer (some ⟨b2, 0, none⟩), .pointer (some ⟨b8, 0, none⟩), .pointer (some ⟨b6, 0, none⟩)], .func (.func 38) #[.pointer (some ⟨d, 0, none⟩)] #[]]) := Lib.hid (cz_row2 (Cz.new _ _ _) (Nat.le_refl _))
            have r7a : (ws3.alloc (.cells #[.func (.func 40) #[] #[.pointer (some ⟨b2, 0, none⟩), .pointer (some ⟨b8, 0, none⟩), .pointer (some ⟨b6, 0, none⟩)], .func (.func 38) #[.pointer (some ⟨d, 0, none⟩)] #[]] 41)).cell? ⟨x, 7, none⟩ = some (.slice af nf cf) := (HLB.out.cell (p := ⟨x, 7, none⟩) HW9.out.lt).trans r7
            have z2a : (ws3.alloc (.cells #[.func (.func 40) #[] #[.pointer (some ⟨b2, 0, none⟩), .pointer (some ⟨b8, 0, none⟩), .pointer (some ⟨b6, 0, none⟩)], .func (.func 38) #[.pointer (some ⟨d, 0, none⟩)] #[]] 41)).cell? ⟨b2, 0, none⟩ = some (.pointer (some ⟨x, 0, none⟩)) := (HLB.out.cell (p := ⟨b2, 0, none⟩) (cell_lt z2)).trans z2
            go_wp2_with fail
            clear r7 r7a z2a
            go_loopw [9, 88] (fun vc i wr => ∃ (q : Nat) (cvs : List Value), q ≤ nf ∧ i = .int .i64 q ∧ Hid (Below ws3.heap.size ws3 wr) ∧ Hid (wr.ownsRow ws3.heap.size 41 1 vc (q + 2) (.func (.func 40) #[] #[.pointer (some ⟨b2, 0, none⟩), .pointer (some ⟨b8, 0, none⟩), .pointer (some ⟨b6, 0, none⟩)] :: .func (.func 38) #[.pointer (some ⟨d, 0, none⟩)] #[] :: cvs)) ∧ Hid (cvs.length = q ∧ ∀ (i : Nat) (v : Value) (f : Int), cvs[i]? = some v → W.files[i]? = some f → CkV b2 wr W0.heap.size v f)) (fun _ i _ => nf - (intOf i).toNat)
            case atStart => exact ⟨0, [], Nat.zero_le _, rfl, HLB, HLR, Lib.hid ⟨rfl, fun i v f hv => (by cases hv)⟩⟩
            case round =>
              obtain ⟨q, cvs, hq, rfl, HBR, HRW, HCV⟩ := hrel
              clear HLB HLR
              by_cases hlt : q < nf
              · have HLT := Lib.hid hlt
                have hqi : (q : Int) < (nf : Int) := by omega
                obtain ⟨gf, rfl, hgfl, hgf⟩ := HFC.out.resolve_left (by omega)
                obtain ⟨f, hf⟩ : ∃ f, W.files[q]? = some f := ⟨_, List.getElem?_eq_getElem (by rw [HNF.out]; exact hlt)⟩
                have HF := Lib.hid hf
                have cq := (HBR.out.cell (p := ⟨gf, q, none⟩) hgfl).trans (hgf q f hf)
                have HWL := Lib.hid HBR.out.size
                clear hgf hf
                go_upto_region 19 with fail
                refine wp_abs (F := fun W' => Hid (Below wr.heap.size wr W') ∧ Hid (Cz W' wr.heap.size 3 #[.int .i64 f])) ⟨Lib.hid ((Below.refl _ _).alloc (Nat.le_refl _) _), Lib.hid (Cz.new _ _ _)⟩ ?_
                rintro w18 ⟨HB18, HZ18⟩
                obtain ⟨b11, hb11⟩ : ∃ z, wr.heap.size = z := ⟨_, rfl⟩
                have H11 := Lib.hid hb11
                rw [hb11] at HZ18 ⊢
                clear hb11 cq
                obtain ⟨i2, hi2, hi2z, hi2s, hi2b⟩ := info_parts infoFn0
                have HRW8 := Lib.hid (ownBelow HRW.out HB18.out)
                obtain ⟨q2, hq2⟩ : ∃ z, q + 2 = z := ⟨_, rfl⟩
                rw [hq2] at HRW8
                have HQ2 := Lib.hid hq2
                have hq2b : q2 ≤ 1000 := by omega
                have HS18 : Hid (ws3.heap.size ≤ w18.heap.size) := Lib.hid (by have := HWL.out; have := HB18.out.size; omega)
                clear hq2
                go_wp2_with (first
                  | (at_builtin; refine wpList_append_own _ rfl _ _ 76 rfl ws3.heap.size 41 i2 .nilFunc 1 8 Try.underlying76 hi2 hi2z hi2s hi2b rfl (by decide) u9 q2 (.func (.func 40) #[] #[.pointer (some ⟨b2, 0, none⟩), .pointer (some ⟨b8, 0, none⟩), .pointer (some ⟨b6, 0, none⟩)] :: .func (.func 38) #[.pointer (some ⟨d, 0, none⟩)] #[] :: cvs) rfl (ownBelow HRW8.out ((Below.refl _ _).alloc (Nat.le_refl _) _)) ⟨w18.heap.size, 0, none⟩ 1 1 [.func (.func 41) #[] #[.pointer (some ⟨b2, 0, none⟩), .pointer (some ⟨b11, 0, none⟩)]] rfl rfl (World.news_of_block (MapKept.heap_alloc _ _).1) (by intro u hu; simp only [List.mem_cons, List.mem_nil_iff, or_false] at hu; rcases hu with rfl; rfl) (by unfold maxLen; omega) (by omega) (by have := HS18.out; simp; omega) ?_; intro v32 w32 hown32 hg32 _; have Hown32 := Lib.hid hown32; have Hg32 := Lib.hid hg32; clear hown32 hg32)
                  | fail)
                go_roundw
                case rel =>
                  have hba : Below w18.heap.size w18 (w18.alloc (.cells #[.func (.func 41) #[] #[.pointer (some ⟨b2, 0, none⟩), .pointer (some ⟨b11, 0, none⟩)]] 41)) := (Below.refl _ _).alloc (Nat.le_refl _) _
                  have hwl := HWL.out; have h18 := HB18.out.size
                  have hbu := ButS.row Hg32.out (S := fun k => u9.ownBlock = some k) (fun j e => e)
                  have hkn : ∀ k, u9.ownBlock = some k → knd (w18.alloc (.cells #[.func (.func 41) #[] #[.pointer (some ⟨b2, 0, none⟩), .pointer (some ⟨b11, 0, none⟩)]] 41)) k = some 41 := fun k e => (own_k (ownBelow HRW8.out hba) k e).2
                  refine ⟨q + 1, cvs ++ [.func (.func 41) #[] #[.pointer (some ⟨b2, 0, none⟩), .pointer (some ⟨b11, 0, none⟩)]], HLT.out, by go_num, Lib.hid ?_, Lib.hid ?_, Lib.hid ⟨by rw [List.length_append, HCV.out.1]; rfl, fun i v f' hv hf' => ?_⟩⟩
                  · have g1 : Below ws3.heap.size w18 w32 := (hba.mono (by omega)).grown Hg32.out (by simp; omega) (fun j e => ownAbove HRW.out j e)
                    exact (HBR.out.trans (HB18.out.mono hwl)).trans g1
                  · rw [show q + 1 + 2 = q2 + 1 from by rw [← HQ2.out]]; exact Hown32.out
                  · by_cases hi : i < cvs.length
                    · rw [List.getElem?_append_left hi] at hv
                      exact (((HCV.out.2 i v f' hv hf').step HB18.out).step hba).kn hbu hkn (by decide)
                    · have hi2 : i = cvs.length := by
                        have := (List.getElem?_eq_some_iff.1 hv).1
                        rw [List.length_append] at this; simp at this; omega
                      subst hi2
                      rw [List.getElem?_append_right (Nat.le_refl _), Nat.sub_self] at hv
                      simp only [List.getElem?_cons_zero, Option.some.injEq] at hv
                      rw [HCV.out.1, HF.out] at hf'
                      cases hf'
                      exact ⟨b11, hv.symm, (HZ18.out.step hba).kn hbu hkn (by decide), by have := H11.out; have := HG8.out.2.2; have := HB3.out.size; omega⟩
                case measure => have := HLT.out; simp [intOf]; omega
              · obtain rfl : q = nf := by omega
                have hb3r := HBR.out
                have HWr := Lib.hid (HW9.out.step hb3r); have HDr := Lib.hid (HD9.out.step hb3r); have HZ6r := Lib.hid (HZ69.out.step hb3r); have HZ2r := Lib.hid (HZ29.out.step hb3r); have HZ8r := Lib.hid (HZ83.out.step hb3r)
                have HWCr := Lib.hid (HWC9.out.trans (hb3r.mono HWC9.out.size))
                have HSZ := Lib.hid (And.intro hb3r.size HB3.out.size)
                clear HW9 HD9 HZ69 HZ29 HZ83 HWC9 hb3r HFC
                have z2 := HZ2r.out.c 0
                simp at z2
                have c0 := HWr.out.c0
                go_upto_region 21 with fail
                refine wp_region_held_drew (S := fun w' => Hid (w'.cell? ⟨b2, 0, none⟩ = some (.pointer (some ⟨x, 0, none⟩)) ∧ w'.cell? ⟨x, 0, none⟩ = some (.pointer (some ⟨d, 0, none⟩)))) (by kernel_rfl) (Lib.hid ⟨z2, c0⟩) (fun hS => ?_)
                have hX0b : Below wr.heap.size wr wr.drew := Below.drew (Below.refl _ _)
                generalize wr.drew = X0 at hS hX0b ⊢
                have HLO1 := Lib.hid (And.intro (HWr.out.step hX0b) (HDr.out.step hX0b))
                refine wpAnyH_take (i := 0) (v := .pointer (some ⟨x, 0, none⟩)) rfl (by kernel_rfl) (by kernel_rfl) (by kernel_rfl) (fun _ _ _ h => h) (Or.inl ⟨by rfl, fun w' hw => ?_⟩) hS ?_
                · obtain ⟨h1, h2⟩ := hw.out
                  go_simp
                go_frame
                refine wpAnyH_take (i := 1) (v := u9) rfl (by kernel_rfl) (by kernel_rfl) (by kernel_rfl) (fun _ _ _ h => h) (Or.inl ⟨by rfl, fun w' hw => ?_⟩) hS ?_
                · obtain ⟨h1, h2⟩ := hw.out
                  go_simp
                go_frame
                refine wpAnyH_take (i := 2) (v := .pointer (some ⟨x, 0, none⟩)) rfl (by kernel_rfl) (by kernel_rfl) (by kernel_rfl) (fun _ _ _ h => h) (Or.inl ⟨by rfl, fun w' hw => ?_⟩) hS ?_
                · obtain ⟨h1, h2⟩ := hw.out
                  go_simp
                go_frame
                refine wpAnyH_take (i := 3) (v := .pointer (some ⟨x, 0, none⟩)) rfl (by kernel_rfl) (by kernel_rfl) (by kernel_rfl) (fun _ _ _ h => h) (Or.inl ⟨by rfl, fun w' hw => ?_⟩) hS ?_
                · obtain ⟨h1, h2⟩ := hw.out
                  go_simp
                go_frame
                refine wpAnyH_take (i := 4) (v := .pointer (some ⟨x, 0, none⟩)) rfl (by kernel_rfl) (by kernel_rfl) (by kernel_rfl) (fun _ _ _ h => h) (Or.inl ⟨by rfl, fun w' hw => ?_⟩) hS ?_
                · obtain ⟨h1, h2⟩ := hw.out
                  go_simp
                go_frame
                refine wpAnyH_take (i := 5) (v := .pointer (some ⟨d, 0, none⟩)) rfl (by kernel_rfl) (by kernel_rfl) (by kernel_rfl) (fun _ _ _ h => h) (Or.inl ⟨by rfl, fun w' hw => ?_⟩) hS ?_
                · obtain ⟨h1, h2⟩ := hw.out
                  go_simp
                go_frame
                refine wpAnyH_take (i := 6) (v := .func (.func 38) #[.pointer (some ⟨d, 0, none⟩)] #[]) rfl (by kernel_rfl) (by kernel_rfl) (by kernel_rfl) (fun _ _ _ h => h) (Or.inl ⟨by rfl, fun w' hw => ?_⟩) hS ?_
                · obtain ⟨h1, h2⟩ := hw.out
                  go_simp
                go_frame
                refine wpAnyH_ready (rs := [7]) (by kernel_rfl) (by simp) ?_
                refine AllReadyH.cons rfl (fun K hK => ?_) AllReadyH.nil
                rw [if_pos (by rfl)]
                go_simp
                have hz7 := Cz.new X0 #[.func (.func 38) #[.pointer (some ⟨d, 0, none⟩)] #[]] 41
                have hb7 : Below X0.heap.size X0 (X0.alloc (.cells #[.func (.func 38) #[.pointer (some ⟨d, 0, none⟩)] #[]] 41)) := (Below.refl _ _).alloc (Nat.le_refl _) _
                have hr7 := ownBelow (ownBelow HRW.out hX0b) hb7
                have hs7 : Hid ((X0.alloc (.cells #[.func (.func 38) #[.pointer (some ⟨d, 0, none⟩)] #[]] 41)).cell? ⟨b2, 0, none⟩ = some (.pointer (some ⟨x, 0, none⟩)) ∧ (X0.alloc (.cells #[.func (.func 38) #[.pointer (some ⟨d, 0, none⟩)] #[]] 41)).cell? ⟨x, 0, none⟩ = some (.pointer (some ⟨d, 0, none⟩))) := Lib.hid ⟨(hb7.cell (p := ⟨b2, 0, none⟩) (cell_lt hS.out.1)).trans hS.out.1, (hb7.cell (p := ⟨x, 0, none⟩) (cell_lt hS.out.2)).trans hS.out.2⟩
                have hX1b : Below wr.heap.size wr (X0.alloc (.cells #[.func (.func 38) #[.pointer (some ⟨d, 0, none⟩)] #[]] 41)) := hX0b.trans (hb7.mono hX0b.size)
                generalize X0.alloc (.cells #[.func (.func 38) #[.pointer (some ⟨d, 0, none⟩)] #[]] 41) = X1 at hz7 hb7 hr7 hs7 hX1b ⊢
                obtain ⟨g7, hg7⟩ : ∃ z, X0.heap.size = z := ⟨_, rfl⟩
                rw [hg7] at hz7 ⊢
                refine hK.out _ _ hs7 (fun hS => ?_)
                clear hK hg7
                (try go_frame)
                refine wpAnyH_ready (rs := [8]) (by kernel_rfl) (by simp) ?_
                refine AllReadyH.cons rfl (fun K hK => ?_) AllReadyH.nil
                rw [if_pos (by rfl)]
                refine wp_appF (.tmp 98) (.tmp 104) rfl rfl hr7 rfl hz7 rfl (by omega) (by have := HSZ.out.1; have := hX1b.size; omega) ?_
                intro v8 X2 hown hg hat
                have hbg : ButS (fun k => u9.ownBlock = some k) X1 X2 := ButS.row hg (fun j e => e)
                have hkn : ∀ k, u9.ownBlock = some k → knd X1 k = some 41 := fun k e => (own_k hr7 k e).2
                have hge9 : ∀ k, u9.ownBlock = some k → ws3.heap.size ≤ k := fun k e => ownAbove hr7 k e
                obtain ⟨a8, c8, hv8⟩ := ownShape hown
                subst hv8
                obtain ⟨g8r, hg8r⟩ : ∃ g, a8 = some ⟨g, 0, none⟩ := by
                  rcases hown.2 with ⟨h', hn'⟩ | ⟨g', cap', cur, h', _⟩
                  · simp at hn'
                  · simp only [Value.slice.injEq] at h'; exact ⟨g', h'.1⟩
                subst hg8r
                have hX2b : Below ws3.heap.size ws3 X2 := (HBR.out.trans (hX1b.mono HSZ.out.1)).trans (hbg.below hge9 (by have := HSZ.out.1; have := hX1b.size; omega))
                have hZ2 := (HZ2r.out.step hX1b).kn hbg hkn (by decide); have hZ6 := (HZ6r.out.step hX1b).kn hbg hkn (by decide); have hZ8 := (HZ8r.out.step hX1b).kn hbg hkn (by decide)
                have hnS : ∀ k, u9.ownBlock = some k → ¬ (S k ∨ T k) := fun k e hs => by
                  have h1 := hge9 k e
                  have h2 := HG8.out; have h3 := HSZ.out.2
                  rcases hs with hs | hs
                  · have := HD.out.own k hs; omega
                  · have := H.out.own k hs; omega
                have hW2 := (HWr.out.step hX1b).but hbg (fun k hk e => hnS k e (Or.inr hk))
                have hD2 := (HDr.out.step hX1b).but hbg (fun k hk e => hnS k e (Or.inl hk))
                have hCV : ∀ (i : Nat) (v : Value) (f : Int), cvs[i]? = some v → W.files[i]? = some f → CkV b2 X2 W0.heap.size v f := fun i v f hv hf => ((HCV.out.2 i v f hv hf).step hX1b).kn hbg hkn (by decide)
                have hcs : (ckCs fl Q W.files).length = q + 2 + 1 := by unfold ckCs; simp [HNF.out]
                have hcv := HCV.out.1
                have hrow : ∀ i v, ((.func (.func 40) #[] #[.pointer (some ⟨b2, 0, none⟩), .pointer (some ⟨b8, 0, none⟩), .pointer (some ⟨b6, 0, none⟩)] :: .func (.func 38) #[.pointer (some ⟨d, 0, none⟩)] #[] :: cvs) ++ [.func (.func 38) #[.pointer (some ⟨d, 0, none⟩)] #[]])[i]? = some v → X2.cell? ⟨g8r, i, none⟩ = some v := fun i v hv => by
                  have hi := (List.getElem?_eq_some_iff.1 hv).1
                  rw [World.ownsRow.cellAt hown i (by simp at hi; omega)]
                  exact hv
                have hSk : ∀ k, S k → k < w.heap.size := HD.out.own
                have h2x : X2.cell? ⟨b2, 0, none⟩ = some (.pointer (some ⟨x, 0, none⟩)) := by have := hZ2.c 0; simpa using this
                have h8x : X2.cell? ⟨b8, 0, none⟩ = some (.int .i64 fl) := by have := hZ8.c 0; simpa using this
                have h6x : X2.cell? ⟨b6, 0, none⟩ = some (.string (bs Q)) := by have := hZ6.c 0; simpa using this
                have hg8 := HG8.out; have h8e := H8.out; have hbe := HBE.out
                have hxS : ¬ S x := fun hs => HST.out x hs H.out.xx
                have hdo := wal_does X2 hW2 hD2 HST.out HK.out (some ⟨g8r, 0, none⟩) c8 ((.func (.func 40) #[] #[.pointer (some ⟨b2, 0, none⟩), .pointer (some ⟨b8, 0, none⟩), .pointer (some ⟨b6, 0, none⟩)] :: .func (.func 38) #[.pointer (some ⟨d, 0, none⟩)] #[] :: cvs) ++ [.func (.func 38) #[.pointer (some ⟨d, 0, none⟩)] #[]]) (ckCs fl Q W.files) (by rw [hcs]; have := HLO.out; omega) (by rw [hcs]; simp [hcv])
                  (Or.inr ⟨g8r, rfl, fun hs => by have := ownAbove hown g8r rfl; have := hSk _ hs; have := HSZ.out.2; omega, (own_k hown g8r rfl).1, hrow⟩)
                  (fun i v c hv hc => by
                    have hdo1 := doer_chk1 (S0 := S) (w0 := X2) (f := fl) (p := Q) ⟨h2x, hW2.c0, h8x⟩ h6x (fun hs => by have := hSk _ hs; omega) hxS (fun hs => by have := hSk _ hs; omega) (fun hs => by have := hSk _ hs; omega)
                    match i with
                    | 0 =>
                      simp only [ckCs, List.cons_append, List.getElem?_cons_zero, Option.some.injEq] at hv hc
                      subst hv; subst hc
                      exact hdo1
                    | 1 =>
                      simp only [ckCs, List.cons_append, List.getElem?_cons_succ, List.getElem?_cons_zero, Option.some.injEq] at hv hc
                      subst hv; subst hc
                      exact doer_sync _ _ _
                    | j + 2 =>
                      simp only [ckCs, List.cons_append, List.getElem?_cons_succ] at hv hc
                      have hml : (W.files.map (fun f => Dc.cut f 0)).length = q := by rw [List.length_map]; exact HNF.out
                      by_cases hj : j < q
                      · rw [List.getElem?_append_left (by omega)] at hv hc
                        rw [List.getElem?_map] at hc
                        obtain ⟨f, hf⟩ : ∃ f, W.files[j]? = some f := ⟨_, List.getElem?_eq_getElem (by rw [HNF.out]; exact hj)⟩
                        rw [hf] at hc
                        simp only [Option.map_some, Option.some.injEq] at hc
                        subst hc
                        obtain ⟨b11, rfl, hz11, hb11⟩ := hCV j v f hv hf
                        exact doer_chk2 ⟨h2x, hW2.c0, by have := hz11.c 0; simpa using this⟩ (fun hs => by have := hSk _ hs; omega) hxS (fun hs => by have := hSk _ hs; omega)
                      · rw [List.getElem?_append_right (by omega)] at hv hc
                        have h0 : j - cvs.length = 0 := by have := (List.getElem?_eq_some_iff.1 hv).1; simpa using this
                        rw [h0] at hv
                        rw [hml, ← hcv, h0] at hc
                        simp only [List.getElem?_cons_zero, Option.some.injEq] at hv hc
                        subst hv; subst hc
                        exact doer_sync _ _ _)
                  (fits_all _ (fun c hc D' => by
                    unfold ckCs at hc
                    rcases List.mem_append.1 hc with hc | hc
                    · rcases List.mem_cons.1 hc with rfl | hc
                      · show Q.length ≤ _; rw [HQL.out]; omega
                      · rcases List.mem_cons.1 hc with rfl | hc
                        · trivial
                        · obtain ⟨f, _, rfl⟩ := List.mem_map.1 hc; exact Nat.zero_le _
                    · simp at hc; subst hc; trivial) _)
                rw [hcs] at hdo
                obtain ⟨r, hr⟩ : ∃ r, Dk.steps (ckCs fl Q W.files) D = r := ⟨_, rfl⟩
                rw [hr] at hdo HCK3
                obtain ⟨er, D2⟩ := r
                dsimp only at hdo HCK3
                unfold LgG at hdo
                have HDO := Lib.hid hdo
                have HXS2 : Hid (Below w.heap.size w X2) := Lib.hid ((HWCr.out.trans (hX1b.mono HWCr.out.size)).trans (hbg.below (fun k e => by have := hge9 k e; have := HSZ.out.2; omega) (by have := HWCr.out.size; have := hX1b.size; omega)))
                have HZ2x := Lib.hid hZ2; have HZ6x := Lib.hid hZ6; have HZ8x := Lib.hid hZ8
                have HSE : Hid (X2.cell? ⟨b2, 0, none⟩ = some (.pointer (some ⟨x, 0, none⟩)) ∧ X2.cell? ⟨x, 0, none⟩ = some (.pointer (some ⟨d, 0, none⟩))) := Lib.hid ⟨h2x, hW2.c0⟩
                clear hdo hr hcs hcv hrow hSk h2x h8x h6x hxS hCV hW2 hD2 hZ2 hZ6 hZ8 hnS hX2b hkn hge9 hbg hat hg hr7 hX1b hb7 hz7 hX0b hg8 h8e hbe
                refine hK.out _ _ HSE (fun hS => ?_)
                clear hK
                (try go_frame)
                refine wpAnyH_ready (rs := [9]) (by kernel_rfl) (by simp) ?_
                refine AllReadyH.cons rfl (fun K hK => ?_) AllReadyH.nil
                rw [if_pos (by rfl)]
                go_simp
                refine HDO.out.mono ?_
                rintro e w9 ⟨rfl, g1, g2, g3⟩
                have G1 := Lib.hid g1; have G2 := Lib.hid g2; have G3 := Lib.hid g3
                have hnb : ∀ b, w.heap.size ≤ b → ¬ (S b ∨ b = x) := fun b hb hs => by
                  rcases hs with hs | hs
                  · have := HD.out.own b hs; omega
                  · have := HXB.out; omega
                have hz2 := HZ2x.out.but g3 (hnb b2 (by have := HBE.out; omega))
                have hz6 := HZ6x.out.but g3 (hnb b6 (by have := HG8.out; omega))
                have hz8 := HZ8x.out.but g3 (hnb b8 (by have := H8.out; have := HG8.out; omega))
                have hs9 : Hid (w9.cell? ⟨b2, 0, none⟩ = some (.pointer (some ⟨x, 0, none⟩)) ∧ w9.cell? ⟨x, 0, none⟩ = some (.pointer (some ⟨d, 0, none⟩))) := Lib.hid ⟨by have := hz2.c 0; simpa using this, g2.c0⟩
                have HZ2y := Lib.hid hz2; have HZ6y := Lib.hid hz6; have HZ8y := Lib.hid hz8
                clear g1 g2 g3 hnb hz2 hz6 hz8 HDO HZ2x HZ6x HZ8x
                refine hK.out _ _ hs9 (fun hS => ?_)
                clear hK hs9
                (try go_frame)
                refine wpAnyH_take (i := 10) (v := .int .i64 er) rfl (by kernel_rfl) (by kernel_rfl) (by kernel_rfl) (fun _ _ _ h => h) (Or.inl ⟨by rfl, fun w' hw => ?_⟩) hS ?_
                · obtain ⟨h1, h2⟩ := hw.out
                  go_simp
                simp only [Act.put, List.getElem_toArray, List.getElem_cons_succ, List.getElem_cons_zero, List.setIfInBounds_toArray, List.set_cons_zero, List.set_cons_succ]
                refine wpAnyH_done (by kernel_rfl) ?_ _
                clear hS
                have HBU : Hid (ButS (fun k => S k ∨ T k) w w9) := Lib.hid ((ButS.of HXS2.out).trans (G3.out.mono (fun k hk => hk.elim Or.inl (fun e => by subst e; exact Or.inr H.out.xx))))
                have HDJ : Hid (∀ k, Gr S X2 w9 k → ¬ T k) := Lib.hid (fun k hk ht => by
                  rcases hk with hk | hk
                  · exact HST.out k hk ht
                  · have := H.out.own k ht; have := HXS2.out.size; omega)
                have HSG : Hid (∀ k, Gr S X2 w9 k → S k ∨ w.heap.size ≤ k) := Lib.hid (fun k hk => hk.imp id (fun h => by have := HXS2.out.size; omega))
                by_cases he : er = 0
                · subst he
                  have c4 := G2.out.c4; have f4 := G2.out.fz 4
                  dsimp only at c4
                  rw [HGN.out] at c4
                  have z2 := HZ2y.out.c 0
                  simp at z2
                  have hwg := G2.out.setGen gm
                  have hbx : ButS (fun k => k = x) w9 (w9.setCell ⟨x, 4, none⟩ (.int .u64 (gm : Int))) := ButS.set (S := fun k => k = x) w9 (p := ⟨x, 4, none⟩) rfl _
                  go_upto_region 25 with fail
                  refine wp_abs (F := fun W' => Hid (WalAt W' T x d { W with gen := gm, down := 0 }) ∧ Hid (ButS (fun k => k = x) w9 W')) ⟨Lib.hid hwg, Lib.hid hbx⟩ ?_
                  rintro ws ⟨HWS, HBX⟩
                  clear c4 f4 z2 hwg hbx
                  have HNBX : Hid (b2 ≠ x ∧ b8 ≠ x ∧ b6 ≠ x) := Lib.hid (by have := HXB.out; have := HBE.out; have := H8.out; have := HG8.out; omega)
                  have hz2 := HZ2y.out.but HBX.out HNBX.out.1; have hz8 := HZ8y.out.but HBX.out HNBX.out.2.1; have hz6 := HZ6y.out.but HBX.out HNBX.out.2.2
                  have HCK : Hid (CkC b2 b8 b6 x fl Q nx ws) := Lib.hid ⟨by have := hz2.c 0; simpa using this, by have := hz8.c 0; simpa using this, by have := hz6.c 0; simpa using this, by have := HWS.out.c6; rw [← HNX.out]; exact this⟩
                  have HXS : Hid (x < ws.heap.size) := Lib.hid HWS.out.lt
                  obtain ⟨fv, sv, hrw⟩ := HWS.out.look
                  have HXC := Lib.hid (HWS.out.xc hrw)
                  clear hz2 hz6 hz8 hrw
                  go_cut [] (fun wx => ∃ g8 g11, Hid (XC ws x (.int .u64 (nx : Int)) (.slice (some ⟨g8, 0, none⟩) 1 1) (.slice (some ⟨g11, 0, none⟩) 1 1) wx) ∧ Hid (Cz wx g8 3 #[.int .i64 fl]) ∧ Hid (Cz wx g11 3 #[.int .i64 (L : Int)]) ∧ Hid (g8 ≠ g11) ∧ Hid (ws.heap.size ≤ g8 ∧ ws.heap.size ≤ g11))
                  case first =>
                    refine wp_region_held_drew (S := fun w' => Hid (CkC b2 b8 b6 x fl Q nx w')) (by kernel_rfl) (Lib.hid (HCK.out.step (Below.drew (Below.refl _ _)))) (fun hS => ?_)
                    have hX0b : Below ws.heap.size ws ws.drew := Below.drew (Below.refl _ _)
                    generalize ws.drew = X0 at hS hX0b ⊢
                    have hx := HXC.out.step hX0b
                    refine wpAnyH_take (i := 0) (v := .pointer (some ⟨x, 0, none⟩)) rfl (by kernel_rfl) (by kernel_rfl) (by kernel_rfl) (fun _ _ _ h => h) (Or.inl ⟨by rfl, fun w' hw => ?_⟩) hS ?_
                    · obtain ⟨h1, h2, h3, h4⟩ := hw.out
                      go_simp
                    simp only [Act.put, List.getElem_toArray, List.getElem_cons_zero, List.setIfInBounds_toArray, List.set_cons_zero, List.set_cons_succ]
                    refine wpAnyH_take (i := 1) (v := .pointer (some ⟨x, 0, none⟩)) rfl (by kernel_rfl) (by kernel_rfl) (by kernel_rfl) (fun _ _ _ h => h) (Or.inl ⟨by rfl, fun w' hw => ?_⟩) hS ?_
                    · obtain ⟨h1, h2, h3, h4⟩ := hw.out
                      go_simp
                    simp only [Act.put, List.getElem_toArray, List.getElem_cons_succ, List.getElem_cons_zero, List.setIfInBounds_toArray, List.set_cons_zero, List.set_cons_succ]
                    refine wpAnyH_take (i := 2) (v := .pointer (some ⟨x, 0, none⟩)) rfl (by kernel_rfl) (by kernel_rfl) (by kernel_rfl) (fun _ _ _ h => h) (Or.inl ⟨by rfl, fun w' hw => ?_⟩) hS ?_
                    · obtain ⟨h1, h2, h3, h4⟩ := hw.out
                      go_simp
                    simp only [Act.put, List.getElem_toArray, List.getElem_cons_succ, List.getElem_cons_zero, List.setIfInBounds_toArray, List.set_cons_zero, List.set_cons_succ]
                    refine wpAnyH_take (i := 3) (v := .pointer (some ⟨x, 0, none⟩)) rfl (by kernel_rfl) (by kernel_rfl) (by kernel_rfl) (fun _ _ _ h => h) (Or.inl ⟨by rfl, fun w' hw => ?_⟩) hS ?_
                    · obtain ⟨h1, h2, h3, h4⟩ := hw.out
                      go_simp
                    simp only [Act.put, List.getElem_toArray, List.getElem_cons_succ, List.getElem_cons_zero, List.setIfInBounds_toArray, List.set_cons_zero, List.set_cons_succ]
                    refine wpAnyH_take (i := 4) (v := .pointer (some ⟨x, 0, none⟩)) rfl (by kernel_rfl) (by kernel_rfl) (by kernel_rfl) (fun _ _ _ h => h) (Or.inl ⟨by rfl, fun w' hw => ?_⟩) hS ?_
                    · obtain ⟨h1, h2, h3, h4⟩ := hw.out
                      go_simp
                    simp only [Act.put, List.getElem_toArray, List.getElem_cons_succ, List.getElem_cons_zero, List.setIfInBounds_toArray, List.set_cons_zero, List.set_cons_succ]
                    refine wpAnyH_take (i := 5) (v := .pointer (some ⟨x, 6, none⟩)) rfl (by kernel_rfl) (by kernel_rfl) (by kernel_rfl) (fun _ _ _ h => h) (Or.inl ⟨by rfl, fun w' hw => ?_⟩) hS ?_
                    · obtain ⟨h1, h2, h3, h4⟩ := hw.out
                      go_simp
                    simp only [Act.put, List.getElem_toArray, List.getElem_cons_succ, List.getElem_cons_zero, List.setIfInBounds_toArray, List.set_cons_zero, List.set_cons_succ]
                    refine wpAnyH_take (i := 6) (v := .int .u64 (nx : Int)) rfl (by kernel_rfl) (by kernel_rfl) (by kernel_rfl) (fun _ _ _ h => h) (Or.inl ⟨by rfl, fun w' hw => ?_⟩) hS ?_
                    · obtain ⟨h1, h2, h3, h4⟩ := hw.out
                      go_simp
                    simp only [Act.put, List.getElem_toArray, List.getElem_cons_succ, List.getElem_cons_zero, List.setIfInBounds_toArray, List.set_cons_zero, List.set_cons_succ]
                    refine wpAnyH_take (i := 7) (v := .int .i64 fl) rfl (by kernel_rfl) (by kernel_rfl) (by kernel_rfl) (fun _ _ _ h => h) (Or.inl ⟨by rfl, fun w' hw => ?_⟩) hS ?_
                    · obtain ⟨h1, h2, h3, h4⟩ := hw.out
                      go_simp
                    simp only [Act.put, List.getElem_toArray, List.getElem_cons_succ, List.getElem_cons_zero, List.setIfInBounds_toArray, List.set_cons_zero, List.set_cons_succ]
                    refine wpAnyH_take (i := 9) (v := .string (bs Q)) rfl (by kernel_rfl) (by kernel_rfl) (by kernel_rfl) (fun _ _ _ h => h) (Or.inl ⟨by rfl, fun w' hw => ?_⟩) hS ?_
                    · obtain ⟨h1, h2, h3, h4⟩ := hw.out
                      go_simp
                    simp only [Act.put, List.getElem_toArray, List.getElem_cons_succ, List.getElem_cons_zero, List.setIfInBounds_toArray, List.set_cons_zero, List.set_cons_succ]
                    refine wpAnyH_take (i := 10) (v := .int .i64 (L : Int)) rfl (by kernel_rfl) (by kernel_rfl) (by kernel_rfl) (fun _ _ _ h => h) (Or.inl ⟨by rfl, fun w' hw => ?_⟩) hS ?_
                    · obtain ⟨h1, h2, h3, h4⟩ := hw.out
                      go_simp
                    simp only [Act.put, List.getElem_toArray, List.getElem_cons_succ, List.getElem_cons_zero, List.setIfInBounds_toArray, List.set_cons_zero, List.set_cons_succ]
                    refine wpAnyH_take (i := 12) (v := .pointer (some ⟨x, 0, none⟩)) rfl (by kernel_rfl) (by kernel_rfl) (by kernel_rfl) (fun _ _ _ h => h) (Or.inl ⟨by rfl, fun w' hw => ?_⟩) hS ?_
                    · obtain ⟨h1, h2, h3, h4⟩ := hw.out
                      go_simp
                    simp only [Act.put, List.getElem_toArray, List.getElem_cons_succ, List.getElem_cons_zero, List.setIfInBounds_toArray, List.set_cons_zero, List.set_cons_succ]
                    refine wpAnyH_take (i := 13) (v := .pointer (some ⟨x, 5, none⟩)) rfl (by kernel_rfl) (by kernel_rfl) (by kernel_rfl) (fun _ _ _ h => h) (Or.inl ⟨by rfl, fun w' hw => ?_⟩) hS ?_
                    · obtain ⟨h1, h2, h3, h4⟩ := hw.out
                      go_simp
                    simp only [Act.put, List.getElem_toArray, List.getElem_cons_succ, List.getElem_cons_zero, List.setIfInBounds_toArray, List.set_cons_zero, List.set_cons_succ]
                    refine wpAnyH_ready (rs := [8, 11, 14]) (by kernel_rfl) (by simp) ?_
                    refine AllReadyH.cons rfl (fun K hK => ?_) ?_
                    · rw [if_pos (by rfl)]
                      go_simp
                      have hz8 := Cz.new X0 #[.int .i64 fl] 3
                      have hb : Below X0.heap.size X0 (X0.alloc (.cells #[.int .i64 fl] 3)) := (Below.refl _ _).alloc (Nat.le_refl _) _
                      have hge8 : ws.heap.size ≤ X0.heap.size := hx.bu.size
                      replace hx := hx.step hb
                      have hsn := hS.out.step hb
                      generalize (X0.alloc (.cells #[.int .i64 fl] 3)) = X0a at hz8 hb hx hsn ⊢
                      obtain ⟨g8, hg8⟩ : ∃ z, X0.heap.size = z := ⟨_, rfl⟩
                      rw [hg8] at hz8 hge8 ⊢
                      clear hg8 hb
                      refine hK.out _ _ (Lib.hid hsn) (fun hS => ?_)
                      clear hK
                      (try go_frame)
                      refine wpAnyH_ready (rs := [11, 14]) (by kernel_rfl) (by simp) ?_
                      refine AllReadyH.cons rfl (fun K hK => ?_) ?_
                      · rw [if_pos (by rfl)]
                        go_simp
                        have hz11 := Cz.new X0a #[.int .i64 (L : Int)] 3
                        have hb : Below X0a.heap.size X0a (X0a.alloc (.cells #[.int .i64 (L : Int)] 3)) := (Below.refl _ _).alloc (Nat.le_refl _) _
                        have hge11 : ws.heap.size ≤ X0a.heap.size := hx.bu.size
                        replace hx := hx.step hb
                        have hne11 : g8 ≠ X0a.heap.size := (by have := hz8.lt; omega)
                        replace hz8 := hz8.step hb
                        have hsn := hS.out.step hb
                        generalize (X0a.alloc (.cells #[.int .i64 (L : Int)] 3)) = X0ab at hz11 hb hx hsn hz8 ⊢
                        obtain ⟨g11, hg11⟩ : ∃ z, X0a.heap.size = z := ⟨_, rfl⟩
                        rw [hg11] at hz11 hge11 hne11 ⊢
                        clear hg11 hb
                        refine hK.out _ _ (Lib.hid hsn) (fun hS => ?_)
                        clear hK
                        (try go_frame)
                        refine wpAnyH_ready (rs := [14]) (by kernel_rfl) (by simp) ?_
                        refine AllReadyH.cons rfl (fun K hK => ?_) AllReadyH.nil
                        rw [if_pos (by rfl)]
                        have pz := hx.c5; have qz := hx.f 5
                        go_simp
                        have hbu : ButS (fun k => k = x) X0ab (X0ab.setCell ⟨x, 5, none⟩ (.int .u64 (nx : Int))) := ButS.set (S := fun k => k = x) X0ab (p := ⟨x, 5, none⟩) rfl _
                        replace hz8 := hz8.but hbu (by have := HXS.out; omega)
                        replace hz11 := hz11.but hbu (by have := HXS.out; omega)
                        replace hx := hx.set5 (.int .u64 (nx : Int))
                        have hsn := hS.out.stX hbu HNBX.out.1 HNBX.out.2.1 HNBX.out.2.2 ((hx.cc 6 (by omega)).trans HCK.out.h4)
                        clear pz qz hbu
                        generalize (X0ab.setCell ⟨x, 5, none⟩ (.int .u64 (nx : Int))) = X0abp at hx hsn hz8 hz11 ⊢
                        refine hK.out _ _ (Lib.hid hsn) (fun hS => ?_)
                        clear hK
                        (try go_frame)
                        refine wpAnyH_take (i := 15) (v := .pointer (some ⟨x, 0, none⟩)) rfl (by kernel_rfl) (by kernel_rfl) (by kernel_rfl) (fun _ _ _ h => h) (Or.inl ⟨by rfl, fun w' hw => ?_⟩) hS ?_
                        · obtain ⟨h1, h2, h3, h4⟩ := hw.out
                          go_simp
                        simp only [Act.put, List.getElem_toArray, List.getElem_cons_succ, List.getElem_cons_zero, List.setIfInBounds_toArray, List.set_cons_zero, List.set_cons_succ]
                        refine wpAnyH_take (i := 16) (v := .pointer (some ⟨x, 7, none⟩)) rfl (by kernel_rfl) (by kernel_rfl) (by kernel_rfl) (fun _ _ _ h => h) (Or.inl ⟨by rfl, fun w' hw => ?_⟩) hS ?_
                        · obtain ⟨h1, h2, h3, h4⟩ := hw.out
                          go_simp
                        simp only [Act.put, List.getElem_toArray, List.getElem_cons_succ, List.getElem_cons_zero, List.setIfInBounds_toArray, List.set_cons_zero, List.set_cons_succ]
                        refine wpAnyH_ready (rs := [17]) (by kernel_rfl) (by simp) ?_
                        refine AllReadyH.cons rfl (fun K hK => ?_) AllReadyH.nil
                        rw [if_pos (by rfl)]
                        have pz := hx.c7; have qz := hx.f 7
                        go_simp
                        have hbu : ButS (fun k => k = x) X0abp (X0abp.setCell ⟨x, 7, none⟩ (.slice (some ⟨g8, 0, none⟩) 1 1)) := ButS.set (S := fun k => k = x) X0abp (p := ⟨x, 7, none⟩) rfl _
                        replace hz8 := hz8.but hbu (by have := HXS.out; omega)
                        replace hz11 := hz11.but hbu (by have := HXS.out; omega)
                        replace hx := hx.set7 (.slice (some ⟨g8, 0, none⟩) 1 1)
                        have hsn := hS.out.stX hbu HNBX.out.1 HNBX.out.2.1 HNBX.out.2.2 ((hx.cc 6 (by omega)).trans HCK.out.h4)
                        clear pz qz hbu
                        generalize (X0abp.setCell ⟨x, 7, none⟩ (.slice (some ⟨g8, 0, none⟩) 1 1)) = X0abpq at hx hsn hz8 hz11 ⊢
                        refine hK.out _ _ (Lib.hid hsn) (fun hS => ?_)
                        clear hK
                        (try go_frame)
                        refine wpAnyH_take (i := 18) (v := .pointer (some ⟨x, 0, none⟩)) rfl (by kernel_rfl) (by kernel_rfl) (by kernel_rfl) (fun _ _ _ h => h) (Or.inl ⟨by rfl, fun w' hw => ?_⟩) hS ?_
                        · obtain ⟨h1, h2, h3, h4⟩ := hw.out
                          go_simp
                        simp only [Act.put, List.getElem_toArray, List.getElem_cons_succ, List.getElem_cons_zero, List.setIfInBounds_toArray, List.set_cons_zero, List.set_cons_succ]
                        refine wpAnyH_take (i := 19) (v := .pointer (some ⟨x, 8, none⟩)) rfl (by kernel_rfl) (by kernel_rfl) (by kernel_rfl) (fun _ _ _ h => h) (Or.inl ⟨by rfl, fun w' hw => ?_⟩) hS ?_
                        · obtain ⟨h1, h2, h3, h4⟩ := hw.out
                          go_simp
                        simp only [Act.put, List.getElem_toArray, List.getElem_cons_succ, List.getElem_cons_zero, List.setIfInBounds_toArray, List.set_cons_zero, List.set_cons_succ]
                        refine wpAnyH_ready (rs := [20]) (by kernel_rfl) (by simp) ?_
                        refine AllReadyH.cons rfl (fun K hK => ?_) AllReadyH.nil
                        rw [if_pos (by rfl)]
                        have pz := hx.c8; have qz := hx.f 8
                        go_simp
                        have hbu : ButS (fun k => k = x) X0abpq (X0abpq.setCell ⟨x, 8, none⟩ (.slice (some ⟨g11, 0, none⟩) 1 1)) := ButS.set (S := fun k => k = x) X0abpq (p := ⟨x, 8, none⟩) rfl _
                        replace hz8 := hz8.but hbu (by have := HXS.out; omega)
                        replace hz11 := hz11.but hbu (by have := HXS.out; omega)
                        replace hx := hx.set8 (.slice (some ⟨g11, 0, none⟩) 1 1)
                        have hsn := hS.out.stX hbu HNBX.out.1 HNBX.out.2.1 HNBX.out.2.2 ((hx.cc 6 (by omega)).trans HCK.out.h4)
                        clear pz qz hbu
                        generalize (X0abpq.setCell ⟨x, 8, none⟩ (.slice (some ⟨g11, 0, none⟩) 1 1)) = X0abpqr at hx hsn hz8 hz11 ⊢
                        refine hK.out _ _ (Lib.hid hsn) (fun hS => ?_)
                        clear hK
                        (try go_frame)
                        refine wpAnyH_done (by kernel_rfl) ?_ _
                        clear hS
                        have HXF := Lib.hid hx; have HZ8 := Lib.hid hz8; have HZ11 := Lib.hid hz11
                        have HNE : Hid (g8 ≠ g11) := Lib.hid (by first | exact hne11 | exact (fun e => hne8 e.symm))
                        have HGE := Lib.hid (And.intro hge8 hge11)
                        clear hx hz8 hz11 hge8 hge11
                        go_wp2_with fail
                        go_meet
                        exact ⟨_, _, HXF, HZ8, HZ11, HNE, HGE⟩
                      refine AllReadyH.cons rfl (fun K hK => ?_) AllReadyH.nil
                      rw [if_pos (by rfl)]
                      have pz := hx.c5; have qz := hx.f 5
                      go_simp
                      have hbu : ButS (fun k => k = x) X0a (X0a.setCell ⟨x, 5, none⟩ (.int .u64 (nx : Int))) := ButS.set (S := fun k => k = x) X0a (p := ⟨x, 5, none⟩) rfl _
                      replace hz8 := hz8.but hbu (by have := HXS.out; omega)
                      replace hx := hx.set5 (.int .u64 (nx : Int))
                      have hsn := hS.out.stX hbu HNBX.out.1 HNBX.out.2.1 HNBX.out.2.2 ((hx.cc 6 (by omega)).trans HCK.out.h4)
                      clear pz qz hbu
                      generalize (X0a.setCell ⟨x, 5, none⟩ (.int .u64 (nx : Int))) = X0ap at hx hsn hz8 ⊢
                      refine hK.out _ _ (Lib.hid hsn) (fun hS => ?_)
                      clear hK
                      (try go_frame)
                      refine wpAnyH_take (i := 15) (v := .pointer (some ⟨x, 0, none⟩)) rfl (by kernel_rfl) (by kernel_rfl) (by kernel_rfl) (fun _ _ _ h => h) (Or.inl ⟨by rfl, fun w' hw => ?_⟩) hS ?_
                      · obtain ⟨h1, h2, h3, h4⟩ := hw.out
                        go_simp
                      simp only [Act.put, List.getElem_toArray, List.getElem_cons_succ, List.getElem_cons_zero, List.setIfInBounds_toArray, List.set_cons_zero, List.set_cons_succ]
                      refine wpAnyH_take (i := 16) (v := .pointer (some ⟨x, 7, none⟩)) rfl (by kernel_rfl) (by kernel_rfl) (by kernel_rfl) (fun _ _ _ h => h) (Or.inl ⟨by rfl, fun w' hw => ?_⟩) hS ?_
                      · obtain ⟨h1, h2, h3, h4⟩ := hw.out
                        go_simp
                      simp only [Act.put, List.getElem_toArray, List.getElem_cons_succ, List.getElem_cons_zero, List.setIfInBounds_toArray, List.set_cons_zero, List.set_cons_succ]
                      refine wpAnyH_ready (rs := [11, 17]) (by kernel_rfl) (by simp) ?_
                      refine AllReadyH.cons rfl (fun K hK => ?_) ?_
                      · rw [if_pos (by rfl)]
                        go_simp
                        have hz11 := Cz.new X0ap #[.int .i64 (L : Int)] 3
                        have hb : Below X0ap.heap.size X0ap (X0ap.alloc (.cells #[.int .i64 (L : Int)] 3)) := (Below.refl _ _).alloc (Nat.le_refl _) _
                        have hge11 : ws.heap.size ≤ X0ap.heap.size := hx.bu.size
                        replace hx := hx.step hb
                        have hne11 : g8 ≠ X0ap.heap.size := (by have := hz8.lt; omega)
                        replace hz8 := hz8.step hb
                        have hsn := hS.out.step hb
                        generalize (X0ap.alloc (.cells #[.int .i64 (L : Int)] 3)) = X0apb at hz11 hb hx hsn hz8 ⊢
                        obtain ⟨g11, hg11⟩ : ∃ z, X0ap.heap.size = z := ⟨_, rfl⟩
                        rw [hg11] at hz11 hge11 hne11 ⊢
                        clear hg11 hb
                        refine hK.out _ _ (Lib.hid hsn) (fun hS => ?_)
                        clear hK
                        (try go_frame)
                        refine wpAnyH_ready (rs := [17]) (by kernel_rfl) (by simp) ?_
                        refine AllReadyH.cons rfl (fun K hK => ?_) AllReadyH.nil
                        rw [if_pos (by rfl)]
                        have pz := hx.c7; have qz := hx.f 7
                        go_simp
                        have hbu : ButS (fun k => k = x) X0apb (X0apb.setCell ⟨x, 7, none⟩ (.slice (some ⟨g8, 0, none⟩) 1 1)) := ButS.set (S := fun k => k = x) X0apb (p := ⟨x, 7, none⟩) rfl _
                        replace hz8 := hz8.but hbu (by have := HXS.out; omega)
                        replace hz11 := hz11.but hbu (by have := HXS.out; omega)
                        replace hx := hx.set7 (.slice (some ⟨g8, 0, none⟩) 1 1)
                        have hsn := hS.out.stX hbu HNBX.out.1 HNBX.out.2.1 HNBX.out.2.2 ((hx.cc 6 (by omega)).trans HCK.out.h4)
                        clear pz qz hbu
                        generalize (X0apb.setCell ⟨x, 7, none⟩ (.slice (some ⟨g8, 0, none⟩) 1 1)) = X0apbq at hx hsn hz8 hz11 ⊢
                        refine hK.out _ _ (Lib.hid hsn) (fun hS => ?_)
                        clear hK
                        (try go_frame)
                        refine wpAnyH_take (i := 18) (v := .pointer (some ⟨x, 0, none⟩)) rfl (by kernel_rfl) (by kernel_rfl) (by kernel_rfl) (fun _ _ _ h => h) (Or.inl ⟨by rfl, fun w' hw => ?_⟩) hS ?_
                        · obtain ⟨h1, h2, h3, h4⟩ := hw.out
                          go_simp
                        simp only [Act.put, List.getElem_toArray, List.getElem_cons_succ, List.getElem_cons_zero, List.setIfInBounds_toArray, List.set_cons_zero, List.set_cons_succ]
                        refine wpAnyH_take (i := 19) (v := .pointer (some ⟨x, 8, none⟩)) rfl (by kernel_rfl) (by kernel_rfl) (by kernel_rfl) (fun _ _ _ h => h) (Or.inl ⟨by rfl, fun w' hw => ?_⟩) hS ?_
                        · obtain ⟨h1, h2, h3, h4⟩ := hw.out
                          go_simp
                        simp only [Act.put, List.getElem_toArray, List.getElem_cons_succ, List.getElem_cons_zero, List.setIfInBounds_toArray, List.set_cons_zero, List.set_cons_succ]
                        refine wpAnyH_ready (rs := [20]) (by kernel_rfl) (by simp) ?_
                        refine AllReadyH.cons rfl (fun K hK => ?_) AllReadyH.nil
                        rw [if_pos (by rfl)]
                        have pz := hx.c8; have qz := hx.f 8
                        go_simp
                        have hbu : ButS (fun k => k = x) X0apbq (X0apbq.setCell ⟨x, 8, none⟩ (.slice (some ⟨g11, 0, none⟩) 1 1)) := ButS.set (S := fun k => k = x) X0apbq (p := ⟨x, 8, none⟩) rfl _
                        replace hz8 := hz8.but hbu (by have := HXS.out; omega)
                        replace hz11 := hz11.but hbu (by have := HXS.out; omega)
                        replace hx := hx.set8 (.slice (some ⟨g11, 0, none⟩) 1 1)
                        have hsn := hS.out.stX hbu HNBX.out.1 HNBX.out.2.1 HNBX.out.2.2 ((hx.cc 6 (by omega)).trans HCK.out.h4)
                        clear pz qz hbu
                        generalize (X0apbq.setCell ⟨x, 8, none⟩ (.slice (some ⟨g11, 0, none⟩) 1 1)) = X0apbqr at hx hsn hz8 hz11 ⊢
                        refine hK.out _ _ (Lib.hid hsn) (fun hS => ?_)
                        clear hK
                        (try go_frame)
                        refine wpAnyH_done (by kernel_rfl) ?_ _
                        clear hS
                        have HXF := Lib.hid hx; have HZ8 := Lib.hid hz8; have HZ11 := Lib.hid hz11
                        have HNE : Hid (g8 ≠ g11) := Lib.hid (by first | exact hne11 | exact (fun e => hne8 e.symm))
                        have HGE := Lib.hid (And.intro hge8 hge11)
                        clear hx hz8 hz11 hge8 hge11
                        go_wp2_with fail
                        go_meet
                        exact ⟨_, _, HXF, HZ8, HZ11, HNE, HGE⟩
                      refine AllReadyH.cons rfl (fun K hK => ?_) AllReadyH.nil
                      rw [if_pos (by rfl)]
                      have pz := hx.c7; have qz := hx.f 7
                      go_simp
                      have hbu : ButS (fun k => k = x) X0ap (X0ap.setCell ⟨x, 7, none⟩ (.slice (some ⟨g8, 0, none⟩) 1 1)) := ButS.set (S := fun k => k = x) X0ap (p := ⟨x, 7, none⟩) rfl _
                      replace hz8 := hz8.but hbu (by have := HXS.out; omega)
                      replace hx := hx.set7 (.slice (some ⟨g8, 0, none⟩) 1 1)
                      have hsn := hS.out.stX hbu HNBX.out.1 HNBX.out.2.1 HNBX.out.2.2 ((hx.cc 6 (by omega)).trans HCK.out.h4)
                      clear pz qz hbu
                      generalize (X0ap.setCell ⟨x, 7, none⟩ (.slice (some ⟨g8, 0, none⟩) 1 1)) = X0apq at hx hsn hz8 ⊢
                      refine hK.out _ _ (Lib.hid hsn) (fun hS => ?_)
                      clear hK
                      (try go_frame)
                      refine wpAnyH_ready (rs := [11]) (by kernel_rfl) (by simp) ?_
                      refine AllReadyH.cons rfl (fun K hK => ?_) AllReadyH.nil
                      rw [if_pos (by rfl)]
                      go_simp
                      have hz11 := Cz.new X0apq #[.int .i64 (L : Int)] 3
                      have hb : Below X0apq.heap.size X0apq (X0apq.alloc (.cells #[.int .i64 (L : Int)] 3)) := (Below.refl _ _).alloc (Nat.le_refl _) _
                      have hge11 : ws.heap.size ≤ X0apq.heap.size := hx.bu.size
                      replace hx := hx.step hb
                      have hne11 : g8 ≠ X0apq.heap.size := (by have := hz8.lt; omega)
                      replace hz8 := hz8.step hb
                      have hsn := hS.out.step hb
                      generalize (X0apq.alloc (.cells #[.int .i64 (L : Int)] 3)) = X0apqb at hz11 hb hx hsn hz8 ⊢
                      obtain ⟨g11, hg11⟩ : ∃ z, X0apq.heap.size = z := ⟨_, rfl⟩
                      rw [hg11] at hz11 hge11 hne11 ⊢
                      clear hg11 hb
                      refine hK.out _ _ (Lib.hid hsn) (fun hS => ?_)
                      clear hK
                      (try go_frame)
                      refine wpAnyH_take (i := 18) (v := .pointer (some ⟨x, 0, none⟩)) rfl (by kernel_rfl) (by kernel_rfl) (by kernel_rfl) (fun _ _ _ h => h) (Or.inl ⟨by rfl, fun w' hw => ?_⟩) hS ?_
                      · obtain ⟨h1, h2, h3, h4⟩ := hw.out
                        go_simp
                      simp only [Act.put, List.getElem_toArray, List.getElem_cons_succ, List.getElem_cons_zero, List.setIfInBounds_toArray, List.set_cons_zero, List.set_cons_succ]
                      refine wpAnyH_take (i := 19) (v := .pointer (some ⟨x, 8, none⟩)) rfl (by kernel_rfl) (by kernel_rfl) (by kernel_rfl) (fun _ _ _ h => h) (Or.inl ⟨by rfl, fun w' hw => ?_⟩) hS ?_
                      · obtain ⟨h1, h2, h3, h4⟩ := hw.out
                        go_simp
                      simp only [Act.put, List.getElem_toArray, List.getElem_cons_succ, List.getElem_cons_zero, List.setIfInBounds_toArray, List.set_cons_zero, List.set_cons_succ]
                      refine wpAnyH_ready (rs := [20]) (by kernel_rfl) (by simp) ?_
                      refine AllReadyH.cons rfl (fun K hK => ?_) AllReadyH.nil
                      rw [if_pos (by rfl)]
                      have pz := hx.c8; have qz := hx.f 8
                      go_simp
                      have hbu : ButS (fun k => k = x) X0apqb (X0apqb.setCell ⟨x, 8, none⟩ (.slice (some ⟨g11, 0, none⟩) 1 1)) := ButS.set (S := fun k => k = x) X0apqb (p := ⟨x, 8, none⟩) rfl _
                      replace hz8 := hz8.but hbu (by have := HXS.out; omega)
                      replace hz11 := hz11.but hbu (by have := HXS.out; omega)
                      replace hx := hx.set8 (.slice (some ⟨g11, 0, none⟩) 1 1)
                      have hsn := hS.out.stX hbu HNBX.out.1 HNBX.out.2.1 HNBX.out.2.2 ((hx.cc 6 (by omega)).trans HCK.out.h4)
                      clear pz qz hbu
                      generalize (X0apqb.setCell ⟨x, 8, none⟩ (.slice (some ⟨g11, 0, none⟩) 1 1)) = X0apqbr at hx hsn hz8 hz11 ⊢
                      refine hK.out _ _ (Lib.hid hsn) (fun hS => ?_)
                      clear hK
                      (try go_frame)
                      refine wpAnyH_done (by kernel_rfl) ?_ _
                      clear hS
                      have HXF := Lib.hid hx; have HZ8 := Lib.hid hz8; have HZ11 := Lib.hid hz11
                      have HNE : Hid (g8 ≠ g11) := Lib.hid (by first | exact hne11 | exact (fun e => hne8 e.symm))
                      have HGE := Lib.hid (And.intro hge8 hge11)
                      clear hx hz8 hz11 hge8 hge11
                      go_wp2_with fail
                      go_meet
                      exact ⟨_, _, HXF, HZ8, HZ11, HNE, HGE⟩
                    refine AllReadyH.cons rfl (fun K hK => ?_) ?_
                    · rw [if_pos (by rfl)]
                      go_simp
                      have hz11 := Cz.new X0 #[.int .i64 (L : Int)] 3
                      have hb : Below X0.heap.size X0 (X0.alloc (.cells #[.int .i64 (L : Int)] 3)) := (Below.refl _ _).alloc (Nat.le_refl _) _
                      have hge11 : ws.heap.size ≤ X0.heap.size := hx.bu.size
                      replace hx := hx.step hb
                      have hsn := hS.out.step hb
                      generalize (X0.alloc (.cells #[.int .i64 (L : Int)] 3)) = X0b at hz11 hb hx hsn ⊢
                      obtain ⟨g11, hg11⟩ : ∃ z, X0.heap.size = z := ⟨_, rfl⟩
                      rw [hg11] at hz11 hge11 ⊢
                      clear hg11 hb
                      refine hK.out _ _ (Lib.hid hsn) (fun hS => ?_)
                      clear hK
                      (try go_frame)
                      refine wpAnyH_ready (rs := [8, 14]) (by kernel_rfl) (by simp) ?_
                      refine AllReadyH.cons rfl (fun K hK => ?_) ?_
                      · rw [if_pos (by rfl)]
                        go_simp
                        have hz8 := Cz.new X0b #[.int .i64 fl] 3
                        have hb : Below X0b.heap.size X0b (X0b.alloc (.cells #[.int .i64 fl] 3)) := (Below.refl _ _).alloc (Nat.le_refl _) _
                        have hge8 : ws.heap.size ≤ X0b.heap.size := hx.bu.size
                        replace hx := hx.step hb
                        have hne8 : g11 ≠ X0b.heap.size := (by have := hz11.lt; omega)
                        replace hz11 := hz11.step hb
                        have hsn := hS.out.step hb
                        generalize (X0b.alloc (.cells #[.int .i64 fl] 3)) = X0ba at hz8 hb hx hsn hz11 ⊢
                        obtain ⟨g8, hg8⟩ : ∃ z, X0b.heap.size = z := ⟨_, rfl⟩
                        rw [hg8] at hz8 hge8 hne8 ⊢
                        clear hg8 hb
                        refine hK.out _ _ (Lib.hid hsn) (fun hS => ?_)
                        clear hK
                        (try go_frame)
                        refine wpAnyH_ready (rs := [14]) (by kernel_rfl) (by simp) ?_
                        refine AllReadyH.cons rfl (fun K hK => ?_) AllReadyH.nil
                        rw [if_pos (by rfl)]
                        have pz := hx.c5; have qz := hx.f 5
                        go_simp
                        have hbu : ButS (fun k => k = x) X0ba (X0ba.setCell ⟨x, 5, none⟩ (.int .u64 (nx : Int))) := ButS.set (S := fun k => k = x) X0ba (p := ⟨x, 5, none⟩) rfl _
                        replace hz8 := hz8.but hbu (by have := HXS.out; omega)
                        replace hz11 := hz11.but hbu (by have := HXS.out; omega)
                        replace hx := hx.set5 (.int .u64 (nx : Int))
                        have hsn := hS.out.stX hbu HNBX.out.1 HNBX.out.2.1 HNBX.out.2.2 ((hx.cc 6 (by omega)).trans HCK.out.h4)
                        clear pz qz hbu
                        generalize (X0ba.setCell ⟨x, 5, none⟩ (.int .u64 (nx : Int))) = X0bap at hx hsn hz8 hz11 ⊢
                        refine hK.out _ _ (Lib.hid hsn) (fun hS => ?_)
                        clear hK
                        (try go_frame)
                        refine wpAnyH_take (i := 15) (v := .pointer (some ⟨x, 0, none⟩)) rfl (by kernel_rfl) (by kernel_rfl) (by kernel_rfl) (fun _ _ _ h => h) (Or.inl ⟨by rfl, fun w' hw => ?_⟩) hS ?_
                        · obtain ⟨h1, h2, h3, h4⟩ := hw.out
                          go_simp
                        simp only [Act.put, List.getElem_toArray, List.getElem_cons_succ, List.getElem_cons_zero, List.setIfInBounds_toArray, List.set_cons_zero, List.set_cons_succ]
                        refine wpAnyH_take (i := 16) (v := .pointer (some ⟨x, 7, none⟩)) rfl (by kernel_rfl) (by kernel_rfl) (by kernel_rfl) (fun _ _ _ h => h) (Or.inl ⟨by rfl, fun w' hw => ?_⟩) hS ?_
                        · obtain ⟨h1, h2, h3, h4⟩ := hw.out
                          go_simp
                        simp only [Act.put, List.getElem_toArray, List.getElem_cons_succ, List.getElem_cons_zero, List.setIfInBounds_toArray, List.set_cons_zero, List.set_cons_succ]
                        refine wpAnyH_ready (rs := [17]) (by kernel_rfl) (by simp) ?_
                        refine AllReadyH.cons rfl (fun K hK => ?_) AllReadyH.nil
                        rw [if_pos (by rfl)]
                        have pz := hx.c7; have qz := hx.f 7
                        go_simp
                        have hbu : ButS (fun k => k = x) X0bap (X0bap.setCell ⟨x, 7, none⟩ (.slice (some ⟨g8, 0, none⟩) 1 1)) := ButS.set (S := fun k => k = x) X0bap (p := ⟨x, 7, none⟩) rfl _
                        replace hz8 := hz8.but hbu (by have := HXS.out; omega)
                        replace hz11 := hz11.but hbu (by have := HXS.out; omega)
                        replace hx := hx.set7 (.slice (some ⟨g8, 0, none⟩) 1 1)
                        have hsn := hS.out.stX hbu HNBX.out.1 HNBX.out.2.1 HNBX.out.2.2 ((hx.cc 6 (by omega)).trans HCK.out.h4)
                        clear pz qz hbu
                        generalize (X0bap.setCell ⟨x, 7, none⟩ (.slice (some ⟨g8, 0, none⟩) 1 1)) = X0bapq at hx hsn hz8 hz11 ⊢
                        refine hK.out _ _ (Lib.hid hsn) (fun hS => ?_)
                        clear hK
                        (try go_frame)
                        refine wpAnyH_take (i := 18) (v := .pointer (some ⟨x, 0, none⟩)) rfl (by kernel_rfl) (by kernel_rfl) (by kernel_rfl) (fun _ _ _ h => h) (Or.inl ⟨by rfl, fun w' hw => ?_⟩) hS ?_
                        · obtain ⟨h1, h2, h3, h4⟩ := hw.out
                          go_simp
                        simp only [Act.put, List.getElem_toArray, List.getElem_cons_succ, List.getElem_cons_zero, List.setIfInBounds_toArray, List.set_cons_zero, List.set_cons_succ]
                        refine wpAnyH_take (i := 19) (v := .pointer (some ⟨x, 8, none⟩)) rfl (by kernel_rfl) (by kernel_rfl) (by kernel_rfl) (fun _ _ _ h => h) (Or.inl ⟨by rfl, fun w' hw => ?_⟩) hS ?_
                        · obtain ⟨h1, h2, h3, h4⟩ := hw.out
                          go_simp
                        simp only [Act.put, List.getElem_toArray, List.getElem_cons_succ, List.getElem_cons_zero, List.setIfInBounds_toArray, List.set_cons_zero, List.set_cons_succ]
                        refine wpAnyH_ready (rs := [20]) (by kernel_rfl) (by simp) ?_
                        refine AllReadyH.cons rfl (fun K hK => ?_) AllReadyH.nil
                        rw [if_pos (by rfl)]
                        have pz := hx.c8; have qz := hx.f 8
                        go_simp
                        have hbu : ButS (fun k => k = x) X0bapq (X0bapq.setCell ⟨x, 8, none⟩ (.slice (some ⟨g11, 0, none⟩) 1 1)) := ButS.set (S := fun k => k = x) X0bapq (p := ⟨x, 8, none⟩) rfl _
                        replace hz8 := hz8.but hbu (by have := HXS.out; omega)
                        replace hz11 := hz11.but hbu (by have := HXS.out; omega)
                        replace hx := hx.set8 (.slice (some ⟨g11, 0, none⟩) 1 1)
                        have hsn := hS.out.stX hbu HNBX.out.1 HNBX.out.2.1 HNBX.out.2.2 ((hx.cc 6 (by omega)).trans HCK.out.h4)
                        clear pz qz hbu
                        generalize (X0bapq.setCell ⟨x, 8, none⟩ (.slice (some ⟨g11, 0, none⟩) 1 1)) = X0bapqr at hx hsn hz8 hz11 ⊢
                        refine hK.out _ _ (Lib.hid hsn) (fun hS => ?_)
                        clear hK
                        (try go_frame)
                        refine wpAnyH_done (by kernel_rfl) ?_ _
                        clear hS
                        have HXF := Lib.hid hx; have HZ8 := Lib.hid hz8; have HZ11 := Lib.hid hz11
                        have HNE : Hid (g8 ≠ g11) := Lib.hid (by first | exact hne11 | exact (fun e => hne8 e.symm))
                        have HGE := Lib.hid (And.intro hge8 hge11)
                        clear hx hz8 hz11 hge8 hge11
                        go_wp2_with fail
                        go_meet
                        exact ⟨_, _, HXF, HZ8, HZ11, HNE, HGE⟩
                      refine AllReadyH.cons rfl (fun K hK => ?_) AllReadyH.nil
                      rw [if_pos (by rfl)]
                      have pz := hx.c5; have qz := hx.f 5
                      go_simp
                      have hbu : ButS (fun k => k = x) X0b (X0b.setCell ⟨x, 5, none⟩ (.int .u64 (nx : Int))) := ButS.set (S := fun k => k = x) X0b (p := ⟨x, 5, none⟩) rfl _
                      replace hz11 := hz11.but hbu (by have := HXS.out; omega)
                      replace hx := hx.set5 (.int .u64 (nx : Int))
                      have hsn := hS.out.stX hbu HNBX.out.1 HNBX.out.2.1 HNBX.out.2.2 ((hx.cc 6 (by omega)).trans HCK.out.h4)
                      clear pz qz hbu
                      generalize (X0b.setCell ⟨x, 5, none⟩ (.int .u64 (nx : Int))) = X0bp at hx hsn hz11 ⊢
                      refine hK.out _ _ (Lib.hid hsn) (fun hS => ?_)
                      clear hK
                      (try go_frame)
                      refine wpAnyH_ready (rs := [8]) (by kernel_rfl) (by simp) ?_
                      refine AllReadyH.cons rfl (fun K hK => ?_) AllReadyH.nil
                      rw [if_pos (by rfl)]
                      go_simp
                      have hz8 := Cz.new X0bp #[.int .i64 fl] 3
                      have hb : Below X0bp.heap.size X0bp (X0bp.alloc (.cells #[.int .i64 fl] 3)) := (Below.refl _ _).alloc (Nat.le_refl _) _
                      have hge8 : ws.heap.size ≤ X0bp.heap.size := hx.bu.size
                      replace hx := hx.step hb
                      have hne8 : g11 ≠ X0bp.heap.size := (by have := hz11.lt; omega)
                      replace hz11 := hz11.step hb
                      have hsn := hS.out.step hb
                      generalize (X0bp.alloc (.cells #[.int .i64 fl] 3)) = X0bpa at hz8 hb hx hsn hz11 ⊢
                      obtain ⟨g8, hg8⟩ : ∃ z, X0bp.heap.size = z := ⟨_, rfl⟩
                      rw [hg8] at hz8 hge8 hne8 ⊢
                      clear hg8 hb
                      refine hK.out _ _ (Lib.hid hsn) (fun hS => ?_)
                      clear hK
                      (try go_frame)
                      refine wpAnyH_take (i := 15) (v := .pointer (some ⟨x, 0, none⟩)) rfl (by kernel_rfl) (by kernel_rfl) (by kernel_rfl) (fun _ _ _ h => h) (Or.inl ⟨by rfl, fun w' hw => ?_⟩) hS ?_
                      · obtain ⟨h1, h2, h3, h4⟩ := hw.out
                        go_simp
                      simp only [Act.put, List.getElem_toArray, List.getElem_cons_succ, List.getElem_cons_zero, List.setIfInBounds_toArray, List.set_cons_zero, List.set_cons_succ]
                      refine wpAnyH_take (i := 16) (v := .pointer (some ⟨x, 7, none⟩)) rfl (by kernel_rfl) (by kernel_rfl) (by kernel_rfl) (fun _ _ _ h => h) (Or.inl ⟨by rfl, fun w' hw => ?_⟩) hS ?_
                      · obtain ⟨h1, h2, h3, h4⟩ := hw.out
                        go_simp
                      simp only [Act.put, List.getElem_toArray, List.getElem_cons_succ, List.getElem_cons_zero, List.setIfInBounds_toArray, List.set_cons_zero, List.set_cons_succ]
                      refine wpAnyH_ready (rs := [17]) (by kernel_rfl) (by simp) ?_
                      refine AllReadyH.cons rfl (fun K hK => ?_) AllReadyH.nil
                      rw [if_pos (by rfl)]
                      have pz := hx.c7; have qz := hx.f 7
                      go_simp
                      have hbu : ButS (fun k => k = x) X0bpa (X0bpa.setCell ⟨x, 7, none⟩ (.slice (some ⟨g8, 0, none⟩) 1 1)) := ButS.set (S := fun k => k = x) X0bpa (p := ⟨x, 7, none⟩) rfl _
                      replace hz8 := hz8.but hbu (by have := HXS.out; omega)
                      replace hz11 := hz11.but hbu (by have := HXS.out; omega)
                      replace hx := hx.set7 (.slice (some ⟨g8, 0, none⟩) 1 1)
                      have hsn := hS.out.stX hbu HNBX.out.1 HNBX.out.2.1 HNBX.out.2.2 ((hx.cc 6 (by omega)).trans HCK.out.h4)
                      clear pz qz hbu
                      generalize (X0bpa.setCell ⟨x, 7, none⟩ (.slice (some ⟨g8, 0, none⟩) 1 1)) = X0bpaq at hx hsn hz8 hz11 ⊢
                      refine hK.out _ _ (Lib.hid hsn) (fun hS => ?_)
                      clear hK
                      (try go_frame)
                      refine wpAnyH_take (i := 18) (v := .pointer (some ⟨x, 0, none⟩)) rfl (by kernel_rfl) (by kernel_rfl) (by kernel_rfl) (fun _ _ _ h => h) (Or.inl ⟨by rfl, fun w' hw => ?_⟩) hS ?_
                      · obtain ⟨h1, h2, h3, h4⟩ := hw.out
                        go_simp
                      simp only [Act.put, List.getElem_toArray, List.getElem_cons_succ, List.getElem_cons_zero, List.setIfInBounds_toArray, List.set_cons_zero, List.set_cons_succ]
                      refine wpAnyH_take (i := 19) (v := .pointer (some ⟨x, 8, none⟩)) rfl (by kernel_rfl) (by kernel_rfl) (by kernel_rfl) (fun _ _ _ h => h) (Or.inl ⟨by rfl, fun w' hw => ?_⟩) hS ?_
                      · obtain ⟨h1, h2, h3, h4⟩ := hw.out
                        go_simp
                      simp only [Act.put, List.getElem_toArray, List.getElem_cons_succ, List.getElem_cons_zero, List.setIfInBounds_toArray, List.set_cons_zero, List.set_cons_succ]
                      refine wpAnyH_ready (rs := [20]) (by kernel_rfl) (by simp) ?_
                      refine AllReadyH.cons rfl (fun K hK => ?_) AllReadyH.nil
                      rw [if_pos (by rfl)]
                      have pz := hx.c8; have qz := hx.f 8
                      go_simp
                      have hbu : ButS (fun k => k = x) X0bpaq (X0bpaq.setCell ⟨x, 8, none⟩ (.slice (some ⟨g11, 0, none⟩) 1 1)) := ButS.set (S := fun k => k = x) X0bpaq (p := ⟨x, 8, none⟩) rfl _
                      replace hz8 := hz8.but hbu (by have := HXS.out; omega)
                      replace hz11 := hz11.but hbu (by have := HXS.out; omega)
                      replace hx := hx.set8 (.slice (some ⟨g11, 0, none⟩) 1 1)
                      have hsn := hS.out.stX hbu HNBX.out.1 HNBX.out.2.1 HNBX.out.2.2 ((hx.cc 6 (by omega)).trans HCK.out.h4)
                      clear pz qz hbu
                      generalize (X0bpaq.setCell ⟨x, 8, none⟩ (.slice (some ⟨g11, 0, none⟩) 1 1)) = X0bpaqr at hx hsn hz8 hz11 ⊢
                      refine hK.out _ _ (Lib.hid hsn) (fun hS => ?_)
                      clear hK
                      (try go_frame)
                      refine wpAnyH_done (by kernel_rfl) ?_ _
                      clear hS
                      have HXF := Lib.hid hx; have HZ8 := Lib.hid hz8; have HZ11 := Lib.hid hz11
                      have HNE : Hid (g8 ≠ g11) := Lib.hid (by first | exact hne11 | exact (fun e => hne8 e.symm))
                      have HGE := Lib.hid (And.intro hge8 hge11)
                      clear hx hz8 hz11 hge8 hge11
                      go_wp2_with fail
                      go_meet
                      exact ⟨_, _, HXF, HZ8, HZ11, HNE, HGE⟩
                    refine AllReadyH.cons rfl (fun K hK => ?_) AllReadyH.nil
                    rw [if_pos (by rfl)]
                    have pz := hx.c5; have qz := hx.f 5
                    go_simp
                    have hbu : ButS (fun k => k = x) X0 (X0.setCell ⟨x, 5, none⟩ (.int .u64 (nx : Int))) := ButS.set (S := fun k => k = x) X0 (p := ⟨x, 5, none⟩) rfl _
                    replace hx := hx.set5 (.int .u64 (nx : Int))
                    have hsn := hS.out.stX hbu HNBX.out.1 HNBX.out.2.1 HNBX.out.2.2 ((hx.cc 6 (by omega)).trans HCK.out.h4)
                    clear pz qz hbu
                    generalize (X0.setCell ⟨x, 5, none⟩ (.int .u64 (nx : Int))) = X0p at hx hsn ⊢
                    refine hK.out _ _ (Lib.hid hsn) (fun hS => ?_)
                    clear hK
                    (try go_frame)
                    refine wpAnyH_ready (rs := [8, 11]) (by kernel_rfl) (by simp) ?_
                    refine AllReadyH.cons rfl (fun K hK => ?_) ?_
                    · rw [if_pos (by rfl)]
                      go_simp
                      have hz8 := Cz.new X0p #[.int .i64 fl] 3
                      have hb : Below X0p.heap.size X0p (X0p.alloc (.cells #[.int .i64 fl] 3)) := (Below.refl _ _).alloc (Nat.le_refl _) _
                      have hge8 : ws.heap.size ≤ X0p.heap.size := hx.bu.size
                      replace hx := hx.step hb
                      have hsn := hS.out.step hb
                      generalize (X0p.alloc (.cells #[.int .i64 fl] 3)) = X0pa at hz8 hb hx hsn ⊢
                      obtain ⟨g8, hg8⟩ : ∃ z, X0p.heap.size = z := ⟨_, rfl⟩
                      rw [hg8] at hz8 hge8 ⊢
                      clear hg8 hb
                      refine hK.out _ _ (Lib.hid hsn) (fun hS => ?_)
                      clear hK
                      (try go_frame)
                      refine wpAnyH_take (i := 15) (v := .pointer (some ⟨x, 0, none⟩)) rfl (by kernel_rfl) (by kernel_rfl) (by kernel_rfl) (fun _ _ _ h => h) (Or.inl ⟨by rfl, fun w' hw => ?_⟩) hS ?_
                      · obtain ⟨h1, h2, h3, h4⟩ := hw.out
                        go_simp
                      simp only [Act.put, List.getElem_toArray, List.getElem_cons_succ, List.getElem_cons_zero, List.setIfInBounds_toArray, List.set_cons_zero, List.set_cons_succ]
                      refine wpAnyH_take (i := 16) (v := .pointer (some ⟨x, 7, none⟩)) rfl (by kernel_rfl) (by kernel_rfl) (by kernel_rfl) (fun _ _ _ h => h) (Or.inl ⟨by rfl, fun w' hw => ?_⟩) hS ?_
                      · obtain ⟨h1, h2, h3, h4⟩ := hw.out
                        go_simp
                      simp only [Act.put, List.getElem_toArray, List.getElem_cons_succ, List.getElem_cons_zero, List.setIfInBounds_toArray, List.set_cons_zero, List.set_cons_succ]
                      refine wpAnyH_ready (rs := [11, 17]) (by kernel_rfl) (by simp) ?_
                      refine AllReadyH.cons rfl (fun K hK => ?_) ?_
                      · rw [if_pos (by rfl)]
                        go_simp
                        have hz11 := Cz.new X0pa #[.int .i64 (L : Int)] 3
                        have hb : Below X0pa.heap.size X0pa (X0pa.alloc (.cells #[.int .i64 (L : Int)] 3)) := (Below.refl _ _).alloc (Nat.le_refl _) _
                        have hge11 : ws.heap.size ≤ X0pa.heap.size := hx.bu.size
                        replace hx := hx.step hb
                        have hne11 : g8 ≠ X0pa.heap.size := (by have := hz8.lt; omega)
                        replace hz8 := hz8.step hb
                        have hsn := hS.out.step hb
                        generalize (X0pa.alloc (.cells #[.int .i64 (L : Int)] 3)) = X0pab at hz11 hb hx hsn hz8 ⊢
                        obtain ⟨g11, hg11⟩ : ∃ z, X0pa.heap.size = z := ⟨_, rfl⟩
                        rw [hg11] at hz11 hge11 hne11 ⊢
                        clear hg11 hb
                        refine hK.out _ _ (Lib.hid hsn) (fun hS => ?_)
                        clear hK
                        (try go_frame)
                        refine wpAnyH_ready (rs := [17]) (by kernel_rfl) (by simp) ?_
                        refine AllReadyH.cons rfl (fun K hK => ?_) AllReadyH.nil
                        rw [if_pos (by rfl)]
                        have pz := hx.c7; have qz := hx.f 7
                        go_simp
                        have hbu : ButS (fun k => k = x) X0pab (X0pab.setCell ⟨x, 7, none⟩ (.slice (some ⟨g8, 0, none⟩) 1 1)) := ButS.set (S := fun k => k = x) X0pab (p := ⟨x, 7, none⟩) rfl _
                        replace hz8 := hz8.but hbu (by have := HXS.out; omega)
                        replace hz11 := hz11.but hbu (by have := HXS.out; omega)
                        replace hx := hx.set7 (.slice (some ⟨g8, 0, none⟩) 1 1)
                        have hsn := hS.out.stX hbu HNBX.out.1 HNBX.out.2.1 HNBX.out.2.2 ((hx.cc 6 (by omega)).trans HCK.out.h4)
                        clear pz qz hbu
                        generalize (X0pab.setCell ⟨x, 7, none⟩ (.slice (some ⟨g8, 0, none⟩) 1 1)) = X0pabq at hx hsn hz8 hz11 ⊢
                        refine hK.out _ _ (Lib.hid hsn) (fun hS => ?_)
                        clear hK
                        (try go_frame)
                        refine wpAnyH_take (i := 18) (v := .pointer (some ⟨x, 0, none⟩)) rfl (by kernel_rfl) (by kernel_rfl) (by kernel_rfl) (fun _ _ _ h => h) (Or.inl ⟨by rfl, fun w' hw => ?_⟩) hS ?_
                        · obtain ⟨h1, h2, h3, h4⟩ := hw.out
                          go_simp
                        simp only [Act.put, List.getElem_toArray, List.getElem_cons_succ, List.getElem_cons_zero, List.setIfInBounds_toArray, List.set_cons_zero, List.set_cons_succ]
                        refine wpAnyH_take (i := 19) (v := .pointer (some ⟨x, 8, none⟩)) rfl (by kernel_rfl) (by kernel_rfl) (by kernel_rfl) (fun _ _ _ h => h) (Or.inl ⟨by rfl, fun w' hw => ?_⟩) hS ?_
                        · obtain ⟨h1, h2, h3, h4⟩ := hw.out
                          go_simp
                        simp only [Act.put, List.getElem_toArray, List.getElem_cons_succ, List.getElem_cons_zero, List.setIfInBounds_toArray, List.set_cons_zero, List.set_cons_succ]
                        refine wpAnyH_ready (rs := [20]) (by kernel_rfl) (by simp) ?_
                        refine AllReadyH.cons rfl (fun K hK => ?_) AllReadyH.nil
                        rw [if_pos (by rfl)]
                        have pz := hx.c8; have qz := hx.f 8
                        go_simp
                        have hbu : ButS (fun k => k = x) X0pabq (X0pabq.setCell ⟨x, 8, none⟩ (.slice (some ⟨g11, 0, none⟩) 1 1)) := ButS.set (S := fun k => k = x) X0pabq (p := ⟨x, 8, none⟩) rfl _
                        replace hz8 := hz8.but hbu (by have := HXS.out; omega)
                        replace hz11 := hz11.but hbu (by have := HXS.out; omega)
                        replace hx := hx.set8 (.slice (some ⟨g11, 0, none⟩) 1 1)
                        have hsn := hS.out.stX hbu HNBX.out.1 HNBX.out.2.1 HNBX.out.2.2 ((hx.cc 6 (by omega)).trans HCK.out.h4)
                        clear pz qz hbu
                        generalize (X0pabq.setCell ⟨x, 8, none⟩ (.slice (some ⟨g11, 0, none⟩) 1 1)) = X0pabqr at hx hsn hz8 hz11 ⊢
                        refine hK.out _ _ (Lib.hid hsn) (fun hS => ?_)
                        clear hK
                        (try go_frame)
                        refine wpAnyH_done (by kernel_rfl) ?_ _
                        clear hS
                        have HXF := Lib.hid hx; have HZ8 := Lib.hid hz8; have HZ11 := Lib.hid hz11
                        have HNE : Hid (g8 ≠ g11) := Lib.hid (by first | exact hne11 | exact (fun e => hne8 e.symm))
                        have HGE := Lib.hid (And.intro hge8 hge11)
                        clear hx hz8 hz11 hge8 hge11
                        go_wp2_with fail
                        go_meet
                        exact ⟨_, _, HXF, HZ8, HZ11, HNE, HGE⟩
                      refine AllReadyH.cons rfl (fun K hK => ?_) AllReadyH.nil
                      rw [if_pos (by rfl)]
                      have pz := hx.c7; have qz := hx.f 7
                      go_simp
                      have hbu : ButS (fun k => k = x) X0pa (X0pa.setCell ⟨x, 7, none⟩ (.slice (some ⟨g8, 0, none⟩) 1 1)) := ButS.set (S := fun k => k = x) X0pa (p := ⟨x, 7, none⟩) rfl _
                      replace hz8 := hz8.but hbu (by have := HXS.out; omega)
                      replace hx := hx.set7 (.slice (some ⟨g8, 0, none⟩) 1 1)
                      have hsn := hS.out.stX hbu HNBX.out.1 HNBX.out.2.1 HNBX.out.2.2 ((hx.cc 6 (by omega)).trans HCK.out.h4)
                      clear pz qz hbu
                      generalize (X0pa.setCell ⟨x, 7, none⟩ (.slice (some ⟨g8, 0, none⟩) 1 1)) = X0paq at hx hsn hz8 ⊢
                      refine hK.out _ _ (Lib.hid hsn) (fun hS => ?_)
                      clear hK
                      (try go_frame)
                      refine wpAnyH_ready (rs := [11]) (by kernel_rfl) (by simp) ?_
                      refine AllReadyH.cons rfl (fun K hK => ?_) AllReadyH.nil
                      rw [if_pos (by rfl)]
                      go_simp
                      have hz11 := Cz.new X0paq #[.int .i64 (L : Int)] 3
                      have hb : Below X0paq.heap.size X0paq (X0paq.alloc (.cells #[.int .i64 (L : Int)] 3)) := (Below.refl _ _).alloc (Nat.le_refl _) _
                      have hge11 : ws.heap.size ≤ X0paq.heap.size := hx.bu.size
                      replace hx := hx.step hb
                      have hne11 : g8 ≠ X0paq.heap.size := (by have := hz8.lt; omega)
                      replace hz8 := hz8.step hb
                      have hsn := hS.out.step hb
                      generalize (X0paq.alloc (.cells #[.int .i64 (L : Int)] 3)) = X0paqb at hz11 hb hx hsn hz8 ⊢
                      obtain ⟨g11, hg11⟩ : ∃ z, X0paq.heap.size = z := ⟨_, rfl⟩
                      rw [hg11] at hz11 hge11 hne11 ⊢
                      clear hg11 hb
                      refine hK.out _ _ (Lib.hid hsn) (fun hS => ?_)
                      clear hK
                      (try go_frame)
                      refine wpAnyH_take (i := 18) (v := .pointer (some ⟨x, 0, none⟩)) rfl (by kernel_rfl) (by kernel_rfl) (by kernel_rfl) (fun _ _ _ h => h) (Or.inl ⟨by rfl, fun w' hw => ?_⟩) hS ?_
                      · obtain ⟨h1, h2, h3, h4⟩ := hw.out
                        go_simp
                      simp only [Act.put, List.getElem_toArray, List.getElem_cons_succ, List.getElem_cons_zero, List.setIfInBounds_toArray, List.set_cons_zero, List.set_cons_succ]
                      refine wpAnyH_take (i := 19) (v := .pointer (some ⟨x, 8, none⟩)) rfl (by kernel_rfl) (by kernel_rfl) (by kernel_rfl) (fun _ _ _ h => h) (Or.inl ⟨by rfl, fun w' hw => ?_⟩) hS ?_
                      · obtain ⟨h1, h2, h3, h4⟩ := hw.out
                        go_simp
                      simp only [Act.put, List.getElem_toArray, List.getElem_cons_succ, List.getElem_cons_zero, List.setIfInBounds_toArray, List.set_cons_zero, List.set_cons_succ]
                      refine wpAnyH_ready (rs := [20]) (by kernel_rfl) (by simp) ?_
                      refine AllReadyH.cons rfl (fun K hK => ?_) AllReadyH.nil
                      rw [if_pos (by rfl)]
                      have pz := hx.c8; have qz := hx.f 8
                      go_simp
                      have hbu : ButS (fun k => k = x) X0paqb (X0paqb.setCell ⟨x, 8, none⟩ (.slice (some ⟨g11, 0, none⟩) 1 1)) := ButS.set (S := fun k => k = x) X0paqb (p := ⟨x, 8, none⟩) rfl _
                      replace hz8 := hz8.but hbu (by have := HXS.out; omega)
                      replace hz11 := hz11.but hbu (by have := HXS.out; omega)
                      replace hx := hx.set8 (.slice (some ⟨g11, 0, none⟩) 1 1)
                      have hsn := hS.out.stX hbu HNBX.out.1 HNBX.out.2.1 HNBX.out.2.2 ((hx.cc 6 (by omega)).trans HCK.out.h4)
                      clear pz qz hbu
                      generalize (X0paqb.setCell ⟨x, 8, none⟩ (.slice (some ⟨g11, 0, none⟩) 1 1)) = X0paqbr at hx hsn hz8 hz11 ⊢
                      refine hK.out _ _ (Lib.hid hsn) (fun hS => ?_)
                      clear hK
                      (try go_frame)
                      refine wpAnyH_done (by kernel_rfl) ?_ _
                      clear hS
                      have HXF := Lib.hid hx; have HZ8 := Lib.hid hz8; have HZ11 := Lib.hid hz11
                      have HNE : Hid (g8 ≠ g11) := Lib.hid (by first | exact hne11 | exact (fun e => hne8 e.symm))
                      have HGE := Lib.hid (And.intro hge8 hge11)
                      clear hx hz8 hz11 hge8 hge11
                      go_wp2_with fail
                      go_meet
                      exact ⟨_, _, HXF, HZ8, HZ11, HNE, HGE⟩
                    refine AllReadyH.cons rfl (fun K hK => ?_) AllReadyH.nil
                    rw [if_pos (by rfl)]
                    go_simp
                    have hz11 := Cz.new X0p #[.int .i64 (L : Int)] 3
                    have hb : Below X0p.heap.size X0p (X0p.alloc (.cells #[.int .i64 (L : Int)] 3)) := (Below.refl _ _).alloc (Nat.le_refl _) _
                    have hge11 : ws.heap.size ≤ X0p.heap.size := hx.bu.size
                    replace hx := hx.step hb
                    have hsn := hS.out.step hb
                    generalize (X0p.alloc (.cells #[.int .i64 (L : Int)] 3)) = X0pb at hz11 hb hx hsn ⊢
                    obtain ⟨g11, hg11⟩ : ∃ z, X0p.heap.size = z := ⟨_, rfl⟩
                    rw [hg11] at hz11 hge11 ⊢
                    clear hg11 hb
                    refine hK.out _ _ (Lib.hid hsn) (fun hS => ?_)
                    clear hK
                    (try go_frame)
                    refine wpAnyH_ready (rs := [8]) (by kernel_rfl) (by simp) ?_
                    refine AllReadyH.cons rfl (fun K hK => ?_) AllReadyH.nil
                    rw [if_pos (by rfl)]
                    go_simp
                    have hz8 := Cz.new X0pb #[.int .i64 fl] 3
                    have hb : Below X0pb.heap.size X0pb (X0pb.alloc (.cells #[.int .i64 fl] 3)) := (Below.refl _ _).alloc (Nat.le_refl _) _
                    have hge8 : ws.heap.size ≤ X0pb.heap.size := hx.bu.size
                    replace hx := hx.step hb
                    have hne8 : g11 ≠ X0pb.heap.size := (by have := hz11.lt; omega)
                    replace hz11 := hz11.step hb
                    have hsn := hS.out.step hb
                    generalize (X0pb.alloc (.cells #[.int .i64 fl] 3)) = X0pba at hz8 hb hx hsn hz11 ⊢
                    obtain ⟨g8, hg8⟩ : ∃ z, X0pb.heap.size = z := ⟨_, rfl⟩
                    rw [hg8] at hz8 hge8 hne8 ⊢
                    clear hg8 hb
                    refine hK.out _ _ (Lib.hid hsn) (fun hS => ?_)
                    clear hK
                    (try go_frame)
                    refine wpAnyH_take (i := 15) (v := .pointer (some ⟨x, 0, none⟩)) rfl (by kernel_rfl) (by kernel_rfl) (by kernel_rfl) (fun _ _ _ h => h) (Or.inl ⟨by rfl, fun w' hw => ?_⟩) hS ?_
                    · obtain ⟨h1, h2, h3, h4⟩ := hw.out
                      go_simp
                    simp only [Act.put, List.getElem_toArray, List.getElem_cons_succ, List.getElem_cons_zero, List.setIfInBounds_toArray, List.set_cons_zero, List.set_cons_succ]
                    refine wpAnyH_take (i := 16) (v := .pointer (some ⟨x, 7, none⟩)) rfl (by kernel_rfl) (by kernel_rfl) (by kernel_rfl) (fun _ _ _ h => h) (Or.inl ⟨by rfl, fun w' hw => ?_⟩) hS ?_
                    · obtain ⟨h1, h2, h3, h4⟩ := hw.out
                      go_simp
                    simp only [Act.put, List.getElem_toArray, List.getElem_cons_succ, List.getElem_cons_zero, List.setIfInBounds_toArray, List.set_cons_zero, List.set_cons_succ]
                    refine wpAnyH_ready (rs := [17]) (by kernel_rfl) (by simp) ?_
                    refine AllReadyH.cons rfl (fun K hK => ?_) AllReadyH.nil
                    rw [if_pos (by rfl)]
                    have pz := hx.c7; have qz := hx.f 7
                    go_simp
                    have hbu : ButS (fun k => k = x) X0pba (X0pba.setCell ⟨x, 7, none⟩ (.slice (some ⟨g8, 0, none⟩) 1 1)) := ButS.set (S := fun k => k = x) X0pba (p := ⟨x, 7, none⟩) rfl _
                    replace hz8 := hz8.but hbu (by have := HXS.out; omega)
                    replace hz11 := hz11.but hbu (by have := HXS.out; omega)
                    replace hx := hx.set7 (.slice (some ⟨g8, 0, none⟩) 1 1)
                    have hsn := hS.out.stX hbu HNBX.out.1 HNBX.out.2.1 HNBX.out.2.2 ((hx.cc 6 (by omega)).trans HCK.out.h4)
                    clear pz qz hbu
                    generalize (X0pba.setCell ⟨x, 7, none⟩ (.slice (some ⟨g8, 0, none⟩) 1 1)) = X0pbaq at hx hsn hz8 hz11 ⊢
                    refine hK.out _ _ (Lib.hid hsn) (fun hS => ?_)
                    clear hK
                    (try go_frame)
                    refine wpAnyH_take (i := 18) (v := .pointer (some ⟨x, 0, none⟩)) rfl (by kernel_rfl) (by kernel_rfl) (by kernel_rfl) (fun _ _ _ h => h) (Or.inl ⟨by rfl, fun w' hw => ?_⟩) hS ?_
                    · obtain ⟨h1, h2, h3, h4⟩ := hw.out
                      go_simp
                    simp only [Act.put, List.getElem_toArray, List.getElem_cons_succ, List.getElem_cons_zero, List.setIfInBounds_toArray, List.set_cons_zero, List.set_cons_succ]
                    refine wpAnyH_take (i := 19) (v := .pointer (some ⟨x, 8, none⟩)) rfl (by kernel_rfl) (by kernel_rfl) (by kernel_rfl) (fun _ _ _ h => h) (Or.inl ⟨by rfl, fun w' hw => ?_⟩) hS ?_
                    · obtain ⟨h1, h2, h3, h4⟩ := hw.out
                      go_simp
                    simp only [Act.put, List.getElem_toArray, List.getElem_cons_succ, List.getElem_cons_zero, List.setIfInBounds_toArray, List.set_cons_zero, List.set_cons_succ]
                    refine wpAnyH_ready (rs := [20]) (by kernel_rfl) (by simp) ?_
                    refine AllReadyH.cons rfl (fun K hK => ?_) AllReadyH.nil
                    rw [if_pos (by rfl)]
                    have pz := hx.c8; have qz := hx.f 8
                    go_simp
                    have hbu : ButS (fun k => k = x) X0pbaq (X0pbaq.setCell ⟨x, 8, none⟩ (.slice (some ⟨g11, 0, none⟩) 1 1)) := ButS.set (S := fun k => k = x) X0pbaq (p := ⟨x, 8, none⟩) rfl _
                    replace hz8 := hz8.but hbu (by have := HXS.out; omega)
                    replace hz11 := hz11.but hbu (by have := HXS.out; omega)
                    replace hx := hx.set8 (.slice (some ⟨g11, 0, none⟩) 1 1)
                    have hsn := hS.out.stX hbu HNBX.out.1 HNBX.out.2.1 HNBX.out.2.2 ((hx.cc 6 (by omega)).trans HCK.out.h4)
                    clear pz qz hbu
                    generalize (X0pbaq.setCell ⟨x, 8, none⟩ (.slice (some ⟨g11, 0, none⟩) 1 1)) = X0pbaqr at hx hsn hz8 hz11 ⊢
                    refine hK.out _ _ (Lib.hid hsn) (fun hS => ?_)
                    clear hK
                    (try go_frame)
                    refine wpAnyH_done (by kernel_rfl) ?_ _
                    clear hS
                    have HXF := Lib.hid hx; have HZ8 := Lib.hid hz8; have HZ11 := Lib.hid hz11
                    have HNE : Hid (g8 ≠ g11) := Lib.hid (by first | exact hne11 | exact (fun e => hne8 e.symm))
                    have HGE := Lib.hid (And.intro hge8 hge11)
                    clear hx hz8 hz11 hge8 hge11
                    go_wp2_with fail
                    go_meet
                    exact ⟨_, _, HXF, HZ8, HZ11, HNE, HGE⟩
                  case rest =>
                    obtain ⟨g8, g11, HXF, HZ8, HZ11, HNE, HGE⟩ := hcut
                    go_wp2_with fail
                    go_ret
                    rw [HCK3.out, if_neg (fun h => h rfl)]
                    have hws9 : w.heap.size ≤ ws.heap.size := by have := HXS2.out.size; have := G3.out.size; have := HBX.out.size; omega
                    have nx1 : ∀ k, Gr S X2 w9 k → k ≠ x := fun k hk e => by subst e; exact HDJ.out k hk H.out.xx
                    refine ⟨rfl, Gr S X2 w9, fun k => T k ∨ k = g8 ∨ k = g11, (G1.out.but HBX.out nx1).but HXF.out.bu nx1, HWS.out |> fun h => XC.wal h HXF.out HZ8.out HZ11.out HNE.out HGE.out, fun k hk ht => ?_, HSG.out, fun k hk => ?_, (HBU.out.wide HBX.out (fun k e => by subst e; exact Or.inl (Or.inr H.out.xx))).wide HXF.out.bu (fun k e => by subst e; exact Or.inl (Or.inr H.out.xx))⟩
                    · have hkl : k < ws.heap.size := by have := G1.out.own k hk; have := HBX.out.size; omega
                      rcases ht with ht | rfl | rfl
                      · exact HDJ.out k hk ht
                      · have := HGE.out; omega
                      · have := HGE.out; omega
                    · rcases hk with hk | rfl | rfl
                      · exact Or.inl hk
                      · exact Or.inr (by have := HGE.out; omega)
                      · exact Or.inr (by have := HGE.out; omega)
                · have heb : (er != 0) = true := by simpa using he
                  go_wp2_with fail
                  go_ret
                  rw [HCK3.out, if_pos he]
                  exact ⟨rfl, Gr S X2 w9, T, G1.out, G2.out, HDJ.out, HSG.out, fun k hk => Or.inl hk, HBU.out⟩
  · rw [if_pos hz] at HM
    have HCKN : Hid (ckR D W t = (121, D, W)) := Lib.hid (by unfold ckR; rw [if_pos (by rw [HDN.out]; exact hz)])
    clear hz
    go_wp2_with fail
    refine (HM.out W0 HB0.out).mono ?_
    rintro e w1 ⟨rfl, hw1⟩
    subst w1
    go_wp2_with fail
    go_ret
    rw [HCKN.out]
    exact ⟨rfl, (LgAt.of HD.out H.out HST.out).step HB0.out⟩
end Go.Proofs.Ytniflkggcceagaa
