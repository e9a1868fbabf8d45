/- Contract: shardmap.Map's Bytes. -/
import Derived.Test.YthcmcjoenepkbaaGreatSmU
import Derived.Test.YthcmcjoenepkbaaGreatWordG
namespace Go.Proofs.YthcmcjoenepkbaaGreat
open Go Go.RowKit Go.Maps

def encX (x : Nat × Nat) : List Nat := Sh.put x.1 8 ++ Sh.put x.2 4
def encM (e : Nat) (sp : List (Nat × Nat)) : List Nat := Sh.put e 8 ++ Sh.put sp.length 4 ++ sp.flatMap encX

set_option maxRecDepth 100000 in
set_option maxHeartbeats 4000000 in
theorem map_Bytes (m e : Nat) (sp : List (Nat × Nat)) (w : World) (hM : MapAt w m e sp) (hl : sp.length ≤ 100000) (he : e < M64) (h64 : ∀ x ∈ sp, x.1 < M64) (h32 : ∀ x ∈ sp, x.2 < 4294967296) :
    Calls Tryz.prog 12 #[.pointer (some ⟨m, 0, none⟩)] w fun en w' => en = .returned (.string (sb (encM e sp))) ∧ Below w.heap.size w w' := by
  obtain ⟨g, c, h1, h2, h3⟩ := hM
  obtain ⟨L, hL⟩ : ∃ L, sp.length = L := ⟨_, rfl⟩
  rw [hL] at h1 h3 hl
  have hml := lt_of_block h1
  have c0 : w.cell? ⟨m, 0, none⟩ = some (.int .u64 (e : Int)) := cell_of h1 0
  have c1 : w.cell? ⟨m, 1, none⟩ = some (.slice (some ⟨g, 0, none⟩) L c) := cell_of h1 1
  have KEEP := Lib.hid (fun w' (h : Below w.heap.size w w') => show w'.cell? ⟨m, 0, none⟩ = some (.int .u64 (e : Int)) ∧ w'.cell? ⟨m, 1, none⟩ = some (.slice (some ⟨g, 0, none⟩) L c) ∧ Hid (Below w.heap.size w w') from ⟨(h.cell (p := ⟨m, 0, none⟩) hml).trans c0, (h.cell (p := ⟨m, 1, none⟩) hml).trans c1, Lib.hid h⟩)
  have hp1 := fun w => word_Put64 e he w
  have hp2 := fun w => word_Put32 L (by omega) w
  obtain ⟨s1, hs1⟩ : ∃ s, sb (Sh.put e 8) = s := ⟨_, rfl⟩
  obtain ⟨s2, hs2⟩ : ∃ s, sb (Sh.put L 4) = s := ⟨_, rfl⟩
  rw [hs1] at hp1; rw [hs2] at hp2
  obtain ⟨P, hP⟩ : ∃ P : Nat → List Nat, P = fun k => Sh.put e 8 ++ Sh.put L 4 ++ (sp.take k).flatMap encX := ⟨_, rfl⟩
  obtain ⟨s3, hs3⟩ : ∃ s, s1 ++ s2 = s := ⟨_, rfl⟩
  have z1 : s1.size = 8 := by rw [← hs1, sb_size, Sh.put_length]
  have z2 : s2.size = 4 := by rw [← hs2, sb_size, Sh.put_length]
  have HP0 := Lib.hid (show sb (P 0) = s3 by rw [hP, ← hs3, ← hs1, ← hs2, sb_app]; simp)
  have HPE := Lib.hid (show P L = encM e sp by rw [hP]; unfold encM; show Sh.put e 8 ++ Sh.put L 4 ++ (sp.take L).flatMap encX = _; rw [hL, List.take_of_length_le (by rw [hL]; exact Nat.le_refl _)])
  have HPZ := Lib.hid (show ∀ k, k ≤ L → (sb (P k)).size = 12 + 12 * k from fun k hk => by
    have hx : ∀ l : List (Nat × Nat), (l.flatMap encX).length = 12 * l.length := fun l => by
      induction l with
      | nil => rfl
      | cons a l ih => rw [List.flatMap_cons, List.length_append, ih]; simp [encX, Sh.put_length]; omega
    rw [sb_size, hP]
    simp [hx, Sh.put_length, List.length_take]
    omega)
  have HPS := Lib.hid (show ∀ k, k < L → sb (P k) ++ (sb (Sh.put (sp.getD k d0).1 8) ++ sb (Sh.put (sp.getD k d0).2 4)) = sb (P (k + 1)) from fun k hk => by
    rw [sb_app, sb_app, hP]
    show sb _ = sb (Sh.put e 8 ++ Sh.put L 4 ++ (sp.take (k + 1)).flatMap encX)
    rw [List.take_succ_eq_append_getElem (by omega), List.flatMap_append, ← List.append_assoc (Sh.put e 8 ++ Sh.put L 4), List.getD_eq_getElem?_getD, List.getElem?_eq_getElem (by omega)]
    simp [encX])
  have HB := Lib.hid (show ∀ k, k < L → (sp.getD k d0).1 < M64 ∧ (sp.getD k d0).2 < 4294967296 from fun k hk => by
    rw [List.getD_eq_getElem?_getD, List.getElem?_eq_getElem (by omega)]
    exact ⟨h64 _ (List.getElem_mem _), h32 _ (List.getElem_mem _)⟩)
  have HP1 := Lib.hid hp1; have HP2 := Lib.hid hp2; have HC := Lib.hid h3; have HG := Lib.hid h2
  have hLw : IntKind.u32.wrap (L : Int) = (L : Int) := by rw [IntKind.wrap_u32]; omega
  clear hp1 hp2 h1 h3 h64 h32 he hs1 hs2 hP hL h2
  have hK0 := KEEP.out w (Below.refl _ _)
  go_enter Tryz.func12, Tryz.ntmps12
  go_wp2_with fail
  refine wp_region_quiet (C := fun w' => w'.cell? ⟨m, 0, none⟩ = some (.int .u64 (e : Int)) ∧ w'.cell? ⟨m, 1, none⟩ = some (.slice (some ⟨g, 0, none⟩) L c) ∧ Hid (Below w.heap.size w w')) (by kernel_rfl) (by kernel_rfl) (KEEP.out _ (Below.drew (Below.refl _ _))) ?_
  refine quiet_plain rfl (Value.pointer (some ⟨m, 0, none⟩)) (fun w' hw' => ?_) ?_
  · obtain ⟨f1, f2, f3⟩ := hw'
    go_simp
  go_frame
  refine quiet_plain rfl (Value.pointer (some ⟨m, 0, none⟩)) (fun w' hw' => ?_) ?_
  · obtain ⟨f1, f2, f3⟩ := hw'
    go_simp
  go_frame
  refine quiet_plain rfl (Value.pointer (some ⟨m, 0, none⟩)) (fun w' hw' => ?_) ?_
  · obtain ⟨f1, f2, f3⟩ := hw'
    go_simp
  go_frame
  refine quiet_plain rfl (Value.int .u64 (e : Int)) (fun w' hw' => ?_) ?_
  · obtain ⟨f1, f2, f3⟩ := hw'
    go_simp
  go_frame
  refine quiet_call rfl (Value.string s1) 29 #[.int .u64 (e : Int)] (fun w' hw' => ⟨?_, ?_⟩) ?_
  · obtain ⟨f1, f2, f3⟩ := hw'
    go_simp
  · exact (HP1.out w').mono (fun en w6 ⟨he, hb⟩ => ⟨he, KEEP.out _ (hw'.2.2.out.trans (hb.mono hw'.2.2.out.size))⟩)
  go_frame
  refine quiet_plain rfl (Value.pointer (some ⟨m, 0, none⟩)) (fun w' hw' => ?_) ?_
  · obtain ⟨f1, f2, f3⟩ := hw'
    go_simp
  go_frame
  refine quiet_plain rfl (Value.pointer (some ⟨m, 0, none⟩)) (fun w' hw' => ?_) ?_
  · obtain ⟨f1, f2, f3⟩ := hw'
    go_simp
  go_frame
  refine quiet_plain rfl (Value.pointer (some ⟨m, 1, none⟩)) (fun w' hw' => ?_) ?_
  · obtain ⟨f1, f2, f3⟩ := hw'
    go_simp
  go_frame
  refine quiet_plain rfl (Value.slice (some ⟨g, 0, none⟩) L c) (fun w' hw' => ?_) ?_
  · obtain ⟨f1, f2, f3⟩ := hw'
    go_simp
  go_frame
  refine quiet_plain rfl (Value.int .i64 L) (fun w' hw' => ?_) ?_
  · obtain ⟨f1, f2, f3⟩ := hw'
    go_simp
  go_frame
  refine quiet_plain rfl (Value.int .u32 L) (fun w' hw' => ?_) ?_
  · obtain ⟨f1, f2, f3⟩ := hw'
    go_simp
  go_frame
  refine quiet_call rfl (Value.string s2) 30 #[.int .u32 (L : Int)] (fun w' hw' => ⟨?_, ?_⟩) ?_
  · obtain ⟨f1, f2, f3⟩ := hw'
    go_simp
  · exact (HP2.out w').mono (fun en w6 ⟨he, hb⟩ => ⟨he, KEEP.out _ (hw'.2.2.out.trans (hb.mono hw'.2.2.out.size))⟩)
  go_frame
  refine quiet_plain rfl (Value.string s3) (fun w' hw' => ?_) ?_
  · obtain ⟨f1, f2, f3⟩ := hw'
    go_simp
  go_frame
  refine quiet_plain rfl (Value.string s3) (fun w' hw' => ?_) ?_
  · obtain ⟨f1, f2, f3⟩ := hw'
    go_simp
  go_frame
  refine fun w1 hw1 => ?_
  obtain ⟨f1, f2, HB1⟩ := hw1
  go_wp2_with fail
  go_loopw [3, 26] (fun v i wr => ∃ k : Nat, k ≤ L ∧ i = .int .i64 k ∧ v = .string (sb (P k)) ∧ Hid (Below w.heap.size w wr)) (fun _ i _ => L - (intOf i).toNat)
  case atStart => exact ⟨0, Nat.zero_le _, rfl, by rw [HP0.out], HB1⟩
  case round =>
    obtain ⟨k, hk, rfl, rfl, HBW⟩ := hrel
    by_cases hlt : k < L
    · obtain ⟨k0, k1⟩ := HC.out k hlt
      have hps := HPS.out k hlt
      obtain ⟨b1, b2⟩ := HB.out k hlt
      have q1 := fun w => word_Put64 (sp.getD k d0).1 b1 w
      have q2 := fun w => word_Put32 (sp.getD k d0).2 b2 w
      obtain ⟨x, hx⟩ : ∃ x, (sp.getD k d0).1 = x := ⟨_, rfl⟩
      obtain ⟨s, hs⟩ : ∃ x, (sp.getD k d0).2 = x := ⟨_, rfl⟩
      rw [hx] at k0 hps q1; rw [hs] at k1 hps q2
      obtain ⟨t1, ht1⟩ : ∃ z, sb (Sh.put x 8) = z := ⟨_, rfl⟩
      obtain ⟨t2, ht2⟩ : ∃ z, sb (Sh.put s 4) = z := ⟨_, rfl⟩
      rw [ht1, ht2] at hps; rw [ht1] at q1; rw [ht2] at q2
      obtain ⟨t0, ht0⟩ : ∃ z, sb (P k) = z := ⟨_, rfl⟩
      obtain ⟨t3, ht3⟩ : ∃ z, t1 ++ t2 = z := ⟨_, rfl⟩
      obtain ⟨t4, ht4⟩ : ∃ z, sb (P (k + 1)) = z := ⟨_, rfl⟩
      rw [ht0, ht3, ht4] at hps
      have y1 : t1.size = 8 := by rw [← ht1, sb_size, Sh.put_length]
      have y2 : t2.size = 4 := by rw [← ht2, sb_size, Sh.put_length]
      have y0 : t0.size = 12 + 12 * k := by rw [← ht0]; exact HPZ.out k hk
      have y3 : t3.size = 12 := by rw [← ht3, ByteArray.size_append, y1, y2]
      rw [ht0]
      have hgw := HG.out
      have r0 : wr.cell? ⟨g, k * 2, none⟩ = some (.int .u64 (x : Int)) := (HBW.out.cell (p := ⟨g, k * 2, none⟩) hgw).trans k0
      have r1 : wr.cell? ⟨g, k * 2 + 1, none⟩ = some (.int .u32 (s : Int)) := (HBW.out.cell (p := ⟨g, k * 2 + 1, none⟩) hgw).trans k1
      have KW := Lib.hid (fun w' (h : Below (wr.heap.size + 1) (wr.alloc (.cells #[.int .u64 (x : Int), .int .u32 (s : Int)] 42)) w') => show w'.cell? ⟨wr.heap.size, 0, none⟩ = some (.int .u64 (x : Int)) ∧ w'.cell? ⟨wr.heap.size, 1, none⟩ = some (.int .u32 (s : Int)) ∧ Hid (Below (wr.heap.size + 1) (wr.alloc (.cells #[.int .u64 (x : Int), .int .u32 (s : Int)] 42)) w') from
        ⟨(h.cell (p := ⟨wr.heap.size, 0, none⟩) (Nat.lt_succ_self _)).trans (cell_of (MapKept.heap_alloc _ _).1 0), (h.cell (p := ⟨wr.heap.size, 1, none⟩) (Nat.lt_succ_self _)).trans (cell_of (MapKept.heap_alloc _ _).1 1), Lib.hid h⟩)
      have Q1 := Lib.hid q1; have Q2 := Lib.hid q2; have HT4 := Lib.hid ht4
      have hki : ((k : Int) < (L : Int)) = True := by simp; omega
      have hki' : (k : Int) < (L : Int) := by omega
      clear q1 q2 k0 k1 hx hs ht1 ht2 ht0 b1 b2 ht4 hgw
      go_wp2_with fail
      refine wp_region_quiet (C := fun w' => w'.cell? ⟨wr.heap.size, 0, none⟩ = some (.int .u64 (x : Int)) ∧ w'.cell? ⟨wr.heap.size, 1, none⟩ = some (.int .u32 (s : Int)) ∧ Hid (Below (wr.heap.size + 1) (wr.alloc (.cells #[.int .u64 (x : Int), .int .u32 (s : Int)] 42)) w')) (by kernel_rfl) (by kernel_rfl) (KW.out _ (Below.drew (Below.refl _ _))) ?_
      refine quiet_plain rfl (Value.string t0) (fun w' hw' => ?_) ?_
      · obtain ⟨f1, f2, f3⟩ := hw'
        go_simp
      go_frame
      refine quiet_plain rfl (Value.pointer (some ⟨wr.heap.size, 0, none⟩)) (fun w' hw' => ?_) ?_
      · obtain ⟨f1, f2, f3⟩ := hw'
        go_simp
      go_frame
      refine quiet_plain rfl (Value.int .u64 (x : Int)) (fun w' hw' => ?_) ?_
      · obtain ⟨f1, f2, f3⟩ := hw'
        go_simp
      go_frame
      refine quiet_call rfl (Value.string t1) 29 #[.int .u64 (x : Int)] (fun w' hw' => ⟨?_, ?_⟩) ?_
      · obtain ⟨f1, f2, f3⟩ := hw'
        go_simp
      · exact (Q1.out w').mono (fun en w6 ⟨he, hb⟩ => ⟨he, KW.out _ (hw'.2.2.out.trans (hb.mono (by have := hw'.2.2.out.size; simpa using this)))⟩)
      go_frame
      refine quiet_plain rfl (Value.pointer (some ⟨wr.heap.size, 1, none⟩)) (fun w' hw' => ?_) ?_
      · obtain ⟨f1, f2, f3⟩ := hw'
        go_simp
      go_frame
      refine quiet_plain rfl (Value.int .u32 (s : Int)) (fun w' hw' => ?_) ?_
      · obtain ⟨f1, f2, f3⟩ := hw'
        go_simp
      go_frame
      refine quiet_call rfl (Value.string t2) 30 #[.int .u32 (s : Int)] (fun w' hw' => ⟨?_, ?_⟩) ?_
      · obtain ⟨f1, f2, f3⟩ := hw'
        go_simp
      · exact (Q2.out w').mono (fun en w6 ⟨he, hb⟩ => ⟨he, KW.out _ (hw'.2.2.out.trans (hb.mono (by have := hw'.2.2.out.size; simpa using this)))⟩)
      go_frame
      refine quiet_plain rfl (Value.string t3) (fun w' hw' => ?_) ?_
      · obtain ⟨f1, f2, f3⟩ := hw'
        go_simp
      go_frame
      refine quiet_plain rfl (Value.string t4) (fun w' hw' => ?_) ?_
      · obtain ⟨f1, f2, f3⟩ := hw'
        go_simp
        omega
      go_frame
      refine quiet_plain rfl (Value.string t4) (fun w' hw' => ?_) ?_
      · obtain ⟨f1, f2, f3⟩ := hw'
        go_simp
      go_frame
      refine fun w2 hw2 => ?_
      obtain ⟨f3, f4, HB2⟩ := hw2
      have HBN := Lib.hid (HBW.out.trans (((Below.refl wr.heap.size wr).alloc (Nat.le_refl _) (.cells #[.int .u64 (x : Int), .int .u32 (s : Int)] 42)).trans (HB2.out.mono (Nat.le_succ _)) |>.mono HBW.out.size))
      clear f3 f4 HB2 KW Q1 Q2
      go_wp2_with fail
      go_roundw
      case rel => exact ⟨k + 1, by omega, rfl, by rw [HT4.out], HBN⟩
      case measure => simp [intOf]; omega
    · obtain rfl : k = L := by omega
      have hpe := HPE.out
      rw [hpe]
      go_wp2_with fail
      go_ret
      exact ⟨rfl, HBW.out⟩
end Go.Proofs.YthcmcjoenepkbaaGreat
