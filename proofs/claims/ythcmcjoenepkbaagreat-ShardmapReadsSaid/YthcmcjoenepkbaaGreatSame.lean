/- Law 27: same: the program's map and the document's have the same epoch and spans. -/
import Derived.Test.YthcmcjoenepkbaaGreatR27d
import Derived.Test.YthcmcjoenepkbaaGreatMof
namespace Go.Proofs.YthcmcjoenepkbaaGreat
open Go Go.RowKit Go.Maps

set_option maxRecDepth 100000 in
set_option maxHeartbeats 4000000 in
theorem law27_same (m r e : Nat) (sp : List (Nat × Nat)) (w : World) (hM : MapAt w m e sp) (hD : DocAt w r e sp) (hl1 : 1 ≤ sp.length) (hl : sp.length ≤ 10000) (he : e < M64) (h64 : ∀ x ∈ sp, x.1 < M64) (h32 : ∀ x ∈ sp, x.2 < 4294967296) :
    Calls Tryz.prog 17 #[.pointer (some ⟨m, 0, none⟩), .pointer (some ⟨r, 0, none⟩)] w fun en w' => en = .returned (.bool true) ∧ Below w.heap.size w w' := by
  have hs1 := map_Spans m e sp w hM (by omega)
  have hep := fun (w' : World) (hb : Below w.heap.size w w') => map_Epoch m e sp w' (hM.below hb)
  have hby1 := fun (w' : World) (hb : Below w.heap.size w w') => map_Bytes m e sp w' (hM.below hb) (by omega) he h64 h32
  have hby2 := fun (w' : World) (hb : Below w.heap.size w w') => d27_Bytes r e sp w' (hD.below hb) (by omega) he h64 h32
  obtain ⟨g, c, h1, h2, h3⟩ := hD
  obtain ⟨L, hLn⟩ : ∃ L, sp.length = L := ⟨_, rfl⟩
  rw [hLn] at h1 h3 hs1 hl1 hl
  have hkeep := fun (w' : World) (hb : Below w.heap.size w w') => show w'.cell? ⟨r, 0, none⟩ = some (.int .u64 (e : Int)) ∧ w'.cell? ⟨r, 1, none⟩ = some (.slice (some ⟨g, 0, none⟩) L c) ∧ ∀ i, i < L → w'.cell? ⟨g, i * 2, none⟩ = some (.int .u64 ((sp.getD i d0).1 : Int)) ∧ w'.cell? ⟨g, i * 2 + 1, none⟩ = some (.int .u32 ((sp.getD i d0).2 : Int)) from
    ⟨cell_of ((hb.block _ (lt_of_block h1)).trans h1) 0, cell_of ((hb.block _ (lt_of_block h1)).trans h1) 1, fun i hi => ⟨(hb.cell (p := ⟨g, i * 2, none⟩) h2).trans (h3 i hi).1, (hb.cell (p := ⟨g, i * 2 + 1, none⟩) h2).trans (h3 i hi).2⟩⟩
  have HS := Lib.hid hs1; have HEP := Lib.hid hep; have HB1 := Lib.hid hby1; have HB2 := Lib.hid hby2; have HK := Lib.hid hkeep; have HLN := Lib.hid hLn
  clear hs1 hep hby1 hby2 hkeep h1 h2 h3 hM h64 h32 he hLn
  go_enter Tryz.func17, Tryz.ntmps17
  go_wp2_with fail
  refine HS.out.mono ?_
  rintro en w1 ⟨v, rfl, hrow, hb1⟩
  obtain ⟨L1, hL1⟩ : ∃ L1, L = L1 + 1 := ⟨L - 1, by omega⟩
  obtain ⟨g1, c1, rfl⟩ : ∃ g c, v = .slice (some ⟨g, 0, none⟩) L c := by subst hL1; exact ownsRow_succ hrow
  have hc1 := cells_of_row hrow HLN.out
  have hg1 := block_lt_of_cell (hc1 0 (by omega)).1
  have HW1 := Lib.hid hb1
  have HC1 := Lib.hid (show ∀ w', Below w1.heap.size w1 w' → ∀ i, i < L → w'.cell? ⟨g1, i * 2, none⟩ = some (.int .u64 ((sp.getD i d0).1 : Int)) ∧ w'.cell? ⟨g1, i * 2 + 1, none⟩ = some (.int .u32 ((sp.getD i d0).2 : Int)) from fun w' h i hi => ⟨(h.cell (p := ⟨g1, i * 2, none⟩) hg1).trans (hc1 i hi).1, (h.cell (p := ⟨g1, i * 2 + 1, none⟩) hg1).trans (hc1 i hi).2⟩)
  clear hrow hb1 hc1 hg1 hL1 HS
  go_wp2_with fail
  refine wp_region_quiet (C := fun w' => w'.cell? ⟨r, 0, none⟩ = some (.int .u64 (e : Int)) ∧ w'.cell? ⟨r, 1, none⟩ = some (.slice (some ⟨g, 0, none⟩) L c) ∧ Hid (Below w1.heap.size w1 w')) (by kernel_rfl) (by kernel_rfl) ⟨(HK.out _ (Below.drew HW1.out)).1, (HK.out _ (Below.drew HW1.out)).2.1, Lib.hid (Below.drew (Below.refl _ _))⟩ ?_
  refine quiet_plain rfl (Value.pointer (some ⟨m, 0, none⟩)) (fun w' hw' => ?_) ?_
  · obtain ⟨f1, f2, f3⟩ := hw'
    go_simp
  go_frame
  refine quiet_call rfl (Value.int .u64 (e : Int)) 10 #[.pointer (some ⟨m, 0, none⟩)] (fun w' hw' => ⟨?_, ?_⟩) ?_
  · obtain ⟨f1, f2, f3⟩ := hw'
    go_simp
  · exact (HEP.out w' (HW1.out.trans (hw'.2.2.out.mono HW1.out.size))).mono (fun en w6 ⟨he, hb⟩ => ⟨he, (HK.out w6 (HW1.out.trans ((hw'.2.2.out.trans (hb.mono hw'.2.2.out.size)).mono HW1.out.size))).1, (HK.out w6 (HW1.out.trans ((hw'.2.2.out.trans (hb.mono hw'.2.2.out.size)).mono HW1.out.size))).2.1, Lib.hid (hw'.2.2.out.trans (hb.mono hw'.2.2.out.size))⟩)
  go_frame
  refine quiet_plain rfl (Value.pointer (some ⟨r, 0, none⟩)) (fun w' hw' => ?_) ?_
  · obtain ⟨f1, f2, f3⟩ := hw'
    go_simp
  go_frame
  refine quiet_plain rfl (Value.pointer (some ⟨r, 0, none⟩)) (fun w' hw' => ?_) ?_
  · obtain ⟨f1, f2, f3⟩ := hw'
    go_simp
  go_frame
  refine quiet_plain rfl (Value.pointer (some ⟨r, 0, none⟩)) (fun w' hw' => ?_) ?_
  · obtain ⟨f1, f2, f3⟩ := hw'
    go_simp
  go_frame
  refine quiet_plain rfl (Value.int .u64 (e : Int)) (fun w' hw' => ?_) ?_
  · obtain ⟨f1, f2, f3⟩ := hw'
    go_simp
  go_frame
  refine quiet_plain rfl (Value.bool false) (fun w' hw' => ?_) ?_
  · obtain ⟨f1, f2, f3⟩ := hw'
    go_simp
  go_frame
  refine quiet_plain rfl (Value.bool false) (fun w' hw' => ?_) ?_
  · obtain ⟨f1, f2, f3⟩ := hw'
    go_simp
  go_frame
  refine quiet_plain rfl (Value.slice (some ⟨g1, 0, none⟩) L c1) (fun w' hw' => ?_) ?_
  · obtain ⟨f1, f2, f3⟩ := hw'
    go_simp
  go_frame
  refine quiet_plain rfl (Value.int .i64 L) (fun w' hw' => ?_) ?_
  · obtain ⟨f1, f2, f3⟩ := hw'
    go_simp
  go_frame
  refine quiet_plain rfl (Value.pointer (some ⟨r, 0, none⟩)) (fun w' hw' => ?_) ?_
  · obtain ⟨f1, f2, f3⟩ := hw'
    go_simp
  go_frame
  refine quiet_plain rfl (Value.pointer (some ⟨r, 0, none⟩)) (fun w' hw' => ?_) ?_
  · obtain ⟨f1, f2, f3⟩ := hw'
    go_simp
  go_frame
  refine quiet_plain rfl (Value.pointer (some ⟨r, 1, none⟩)) (fun w' hw' => ?_) ?_
  · obtain ⟨f1, f2, f3⟩ := hw'
    go_simp
  go_frame
  refine quiet_plain rfl (Value.slice (some ⟨g, 0, none⟩) L c) (fun w' hw' => ?_) ?_
  · obtain ⟨f1, f2, f3⟩ := hw'
    go_simp
  go_frame
  refine quiet_plain rfl (Value.int .i64 L) (fun w' hw' => ?_) ?_
  · obtain ⟨f1, f2, f3⟩ := hw'
    go_simp
  go_frame
  refine quiet_plain rfl (Value.bool false) (fun w' hw' => ?_) ?_
  · obtain ⟨f1, f2, f3⟩ := hw'
    go_simp
  go_frame
  refine quiet_plain rfl (Value.bool false) (fun w' hw' => ?_) ?_
  · obtain ⟨f1, f2, f3⟩ := hw'
    go_simp
  go_frame
  refine fun w2 hw2 => ?_
  obtain ⟨f1, f2, HB12⟩ := hw2
  have HW2 := Lib.hid (HW1.out.trans (HB12.out.mono HW1.out.size))
  clear f1 f2
  go_wp2_with fail
  go_loopw [6] (fun i wr => ∃ k : Nat, k ≤ L ∧ i = .int .i64 k ∧ ∃ nd, wr = w2.drewN nd) (fun i _ => L - (intOf i).toNat)
  case atStart => exact ⟨0, Nat.zero_le _, rfl, 0, rfl⟩
  case round =>
    obtain ⟨k, hk, rfl, nd, rfl⟩ := hrel
    by_cases hlt : k < L
    · obtain ⟨a0, a1⟩ := HC1.out w2 HB12.out k hlt
      obtain ⟨_, r1, hgc⟩ := HK.out w2 HW2.out
      obtain ⟨b0, b1⟩ := hgc k hlt
      obtain ⟨q, hq⟩ : ∃ q, (sp.getD k d0).1 = q := ⟨_, rfl⟩
      obtain ⟨u, hu⟩ : ∃ q, (sp.getD k d0).2 = q := ⟨_, rfl⟩
      rw [hq] at a0 b0; rw [hu] at a1 b1
      have hkl : ((k : Int) < (L : Int)) = True := by simp; omega
      have hkl' : (k : Int) < (L : Int) := by omega
      clear hq hu hgc
      go_wp2_with fail
      go_quiet (fail)
      go_wp2_with fail
      go_roundw
      case rel => exact ⟨k + 1, by omega, by go_num, _, rfl⟩
      case measure => simp [intOf]; omega
    · obtain rfl : k = L := by omega
      have hb3 : Below w.heap.size w (w2.drewN nd) := below_dr HW2.out nd
      have HX := Lib.hid (HB1.out _ hb3); have HW3 := Lib.hid hb3
      clear hb3
      obtain ⟨S, hS⟩ : ∃ S, sb (encM e sp) = S := ⟨_, rfl⟩
      rw [hS] at HX HB2
      clear hS
      go_wp2_with fail
      refine HX.out.mono ?_
      rintro en w4 ⟨rfl, hb4⟩
      have HW4 := Lib.hid (HW3.out.trans (hb4.mono HW3.out.size))
      have HY := Lib.hid (HB2.out _ HW4.out)
      clear hb4 HX
      go_wp2_with fail
      refine HY.out.mono ?_
      rintro en w5 ⟨rfl, hb5⟩
      have HW5 := Lib.hid (HW4.out.trans (hb5.mono HW4.out.size))
      clear hb5 HY
      go_wp2_with fail
      go_ret
      exact ⟨rfl, HW5.out⟩
end Go.Proofs.YthcmcjoenepkbaaGreat
