/- Contract: scriniumref18.Same, where both are one. -/
import Derived.Test.YtbmmabpglkojkaaDoorTabH
namespace Go.Proofs.YtbmmabpglkojkaaDoor
open Go Go.RowKit

set_option maxRecDepth 100000 in
set_option maxHeartbeats 2000000 in
theorem ref18_same (m : List (ByteArray × Cel)) (v1 v2 : Value) (w : World) (h1 : IsRows w v1 m) (h2 : IsRows w v2 m) (hl : m.length ≤ 1099511627776) (hc : ∀ i, i < m.length → (m.getD i dR).2.l.length ≤ 65536) :
    Calls Tryd.prog 11 #[v1, v2] w fun e w' => e = .returned (.bool true) ∧ Below w.heap.size w w' := by
  obtain ⟨a1, cap1, rfl, hc1⟩ := h1
  obtain ⟨a2, cap2, rfl, hc2⟩ := h2
  have Hc1 := Lib.hid hc1; have Hc2 := Lib.hid hc2; have Hcl := Lib.hid hc; clear hc1 hc2 hc
  have hLB : ((m.length : Int) != (m.length : Int)) = false := by simp
  go_enter Tryd.func11, Tryd.ntmps11
  go_wp2_with fail
  go_loopw [5] (fun i wr => ∃ k : Nat, k ≤ m.length ∧ i = .int .i64 k ∧ Hid (Below w.heap.size w wr)) (fun i _ => m.length - (intOf i).toNat)
  case atStart => exact ⟨0, Nat.zero_le _, rfl, Lib.hid (Below.refl _ _)⟩
  case round =>
    obtain ⟨k, hk, rfl, Hbw⟩ := hrel
    by_cases hlt : k < m.length
    · rcases Hc1.out with hn | ⟨b1, o1, rfl, hl1, hcc1⟩
      · subst hn; simp at hlt
      rcases Hc2.out with hn | ⟨b2, o2, rfl, hl2, hcc2⟩
      · subst hn; simp at hlt
      have hlt2 : (k : Int) < (m.length : Int) := by omega
      obtain ⟨g1, g2, s1, g3, hs1⟩ := hcc1 k hlt
      obtain ⟨g4, g5, s2, g6, hs2⟩ := hcc2 k hlt
      have hcl := Hcl.out k hlt
      obtain ⟨x, hx⟩ : ∃ x, x = m.getD k dR := ⟨_, rfl⟩
      rw [← hx] at g1 g2 hs1 g4 g5 hs2 hcl
      clear hx hcc1 hcc2
      have HS1 := Lib.hid hs1; have HS2 := Lib.hid hs2
      obtain ⟨va, vc, rfl, _⟩ := hs1
      obtain ⟨ua, uc, rfl, _⟩ := hs2
      have HS : Hid (∀ w', Below wr.heap.size wr w' → Calls Tryd.prog 29 #[.agg #[.int .u64 x.2.last, .slice va x.2.l.length vc], .agg #[.int .u64 x.2.last, .slice ua x.2.l.length uc]] w' fun e w'' => e = .returned (.bool true) ∧ Below w'.heap.size w' w'') :=
        Lib.hid (fun w' hb => ref17_same x.2 _ _ w' (HS1.out.below (Hbw.out.trans (hb.mono Hbw.out.size)) (Nat.le_refl _)) (HS2.out.below (Hbw.out.trans (hb.mono Hbw.out.size)) (Nat.le_refl _)) hcl)
      have keepS : Hid (∀ w', Below wr.heap.size wr w' → w'.cell? ⟨b1, o1 + k * 3, none⟩ = some (.string x.1) ∧ w'.cell? ⟨b1, o1 + k * 3 + 1, none⟩ = some (.int .u64 x.2.last) ∧ w'.cell? ⟨b1, o1 + k * 3 + 2, none⟩ = some (.slice va x.2.l.length vc) ∧ w'.cell? ⟨b2, o2 + k * 3, none⟩ = some (.string x.1) ∧ w'.cell? ⟨b2, o2 + k * 3 + 1, none⟩ = some (.int .u64 x.2.last) ∧ w'.cell? ⟨b2, o2 + k * 3 + 2, none⟩ = some (.slice ua x.2.l.length uc) ∧ Hid (Below wr.heap.size wr w')) := Lib.hid (fun w' h => by
        have hb := Hbw.out.trans (h.mono Hbw.out.size)
        exact ⟨(hb.cell hl1).trans g1, (hb.cell hl1).trans g2, (hb.cell hl1).trans g3, (hb.cell hl2).trans g4, (hb.cell hl2).trans g5, (hb.cell hl2).trans g6, Lib.hid h⟩)
      have keepB : Hid (∀ w' : World, (w'.cell? ⟨b1, o1 + k * 3, none⟩ = some (.string x.1) ∧ w'.cell? ⟨b1, o1 + k * 3 + 1, none⟩ = some (.int .u64 x.2.last) ∧ w'.cell? ⟨b1, o1 + k * 3 + 2, none⟩ = some (.slice va x.2.l.length vc) ∧ w'.cell? ⟨b2, o2 + k * 3, none⟩ = some (.string x.1) ∧ w'.cell? ⟨b2, o2 + k * 3 + 1, none⟩ = some (.int .u64 x.2.last) ∧ w'.cell? ⟨b2, o2 + k * 3 + 2, none⟩ = some (.slice ua x.2.l.length uc) ∧ Hid (Below wr.heap.size wr w')) → Below wr.heap.size wr w') := Lib.hid (fun w' h => h.2.2.2.2.2.2.out)
      have hB : (x.1.toList == x.1.toList) = true := by simp
      clear g1 g2 g3 g4 g5 g6
      go_wp2_with fail
      refine wp_region_quiet (C := fun w' => w'.cell? ⟨b1, o1 + k * 3, none⟩ = some (.string x.1) ∧ w'.cell? ⟨b1, o1 + k * 3 + 1, none⟩ = some (.int .u64 x.2.last) ∧ w'.cell? ⟨b1, o1 + k * 3 + 2, none⟩ = some (.slice va x.2.l.length vc) ∧ w'.cell? ⟨b2, o2 + k * 3, none⟩ = some (.string x.1) ∧ w'.cell? ⟨b2, o2 + k * 3 + 1, none⟩ = some (.int .u64 x.2.last) ∧ w'.cell? ⟨b2, o2 + k * 3 + 2, none⟩ = some (.slice ua x.2.l.length uc) ∧ Hid (Below wr.heap.size wr w')) (by kernel_rfl) (by kernel_rfl) (keepS.out _ (Below.drew (Below.refl _ _))) ?_
      refine quiet_plain rfl (Value.slice (some ⟨b1, o1, none⟩) m.length cap1) (fun w' hw' => ?_) ?_
      · obtain ⟨f1, f2, f3, f4, f5, f6, f7⟩ := hw'
        go_simp
      go_frame
      refine quiet_plain rfl (Value.int .i64 k) (fun w' hw' => ?_) ?_
      · obtain ⟨f1, f2, f3, f4, f5, f6, f7⟩ := hw'
        go_simp
      go_frame
      refine quiet_plain rfl (Value.pointer (some ⟨b1, o1 + k * 3, none⟩)) (fun w' hw' => ?_) ?_
      · obtain ⟨f1, f2, f3, f4, f5, f6, f7⟩ := hw'
        go_simp
      go_frame
      refine quiet_plain rfl (Value.pointer (some ⟨b1, o1 + k * 3, none⟩)) (fun w' hw' => ?_) ?_
      · obtain ⟨f1, f2, f3, f4, f5, f6, f7⟩ := hw'
        go_simp
      go_frame
      refine quiet_plain rfl (Value.string x.1) (fun w' hw' => ?_) ?_
      · obtain ⟨f1, f2, f3, f4, f5, f6, f7⟩ := hw'
        go_simp
      go_frame
      refine quiet_plain rfl (Value.slice (some ⟨b2, o2, none⟩) m.length cap2) (fun w' hw' => ?_) ?_
      · obtain ⟨f1, f2, f3, f4, f5, f6, f7⟩ := hw'
        go_simp
      go_frame
      refine quiet_plain rfl (Value.int .i64 k) (fun w' hw' => ?_) ?_
      · obtain ⟨f1, f2, f3, f4, f5, f6, f7⟩ := hw'
        go_simp
      go_frame
      refine quiet_plain rfl (Value.pointer (some ⟨b2, o2 + k * 3, none⟩)) (fun w' hw' => ?_) ?_
      · obtain ⟨f1, f2, f3, f4, f5, f6, f7⟩ := hw'
        go_simp
      go_frame
      refine quiet_plain rfl (Value.pointer (some ⟨b2, o2 + k * 3, none⟩)) (fun w' hw' => ?_) ?_
      · obtain ⟨f1, f2, f3, f4, f5, f6, f7⟩ := hw'
        go_simp
      go_frame
      refine quiet_plain rfl (Value.string x.1) (fun w' hw' => ?_) ?_
      · obtain ⟨f1, f2, f3, f4, f5, f6, f7⟩ := hw'
        go_simp
      go_frame
      refine quiet_plain rfl (Value.bool false) (fun w' hw' => ?_) ?_
      · obtain ⟨f1, f2, f3, f4, f5, f6, f7⟩ := hw'
        go_simp
      go_frame
      refine quiet_plain rfl (Value.bool false) (fun w' hw' => ?_) ?_
      · obtain ⟨f1, f2, f3, f4, f5, f6, f7⟩ := hw'
        go_simp
      go_frame
      refine quiet_plain' (by rfl) (Value.slice (some ⟨b1, o1, none⟩) m.length cap1) (fun w' hw' => ?_) ?_
      · obtain ⟨f1, f2, f3, f4, f5, f6, f7⟩ := hw'
        go_simp
      go_frame
      refine quiet_plain' (by rfl) (Value.int .i64 k) (fun w' hw' => ?_) ?_
      · obtain ⟨f1, f2, f3, f4, f5, f6, f7⟩ := hw'
        go_simp
      go_frame
      refine quiet_plain' (by rfl) (Value.pointer (some ⟨b1, o1 + k * 3, none⟩)) (fun w' hw' => ?_) ?_
      · obtain ⟨f1, f2, f3, f4, f5, f6, f7⟩ := hw'
        go_simp
      go_frame
      refine quiet_plain' (by rfl) (Value.pointer (some ⟨b1, o1 + k * 3 + 1, none⟩)) (fun w' hw' => ?_) ?_
      · obtain ⟨f1, f2, f3, f4, f5, f6, f7⟩ := hw'
        go_simp
      go_frame
      refine quiet_plain' (by rfl) (Value.agg #[.int .u64 x.2.last, .slice va x.2.l.length vc]) (fun w' hw' => ?_) ?_
      · obtain ⟨f1, f2, f3, f4, f5, f6, f7⟩ := hw'
        go_simp
      go_frame
      refine quiet_plain' (by rfl) (Value.slice (some ⟨b2, o2, none⟩) m.length cap2) (fun w' hw' => ?_) ?_
      · obtain ⟨f1, f2, f3, f4, f5, f6, f7⟩ := hw'
        go_simp
      go_frame
      refine quiet_plain' (by rfl) (Value.int .i64 k) (fun w' hw' => ?_) ?_
      · obtain ⟨f1, f2, f3, f4, f5, f6, f7⟩ := hw'
        go_simp
      go_frame
      refine quiet_plain' (by rfl) (Value.pointer (some ⟨b2, o2 + k * 3, none⟩)) (fun w' hw' => ?_) ?_
      · obtain ⟨f1, f2, f3, f4, f5, f6, f7⟩ := hw'
        go_simp
      go_frame
      refine quiet_plain' (by rfl) (Value.pointer (some ⟨b2, o2 + k * 3 + 1, none⟩)) (fun w' hw' => ?_) ?_
      · obtain ⟨f1, f2, f3, f4, f5, f6, f7⟩ := hw'
        go_simp
      go_frame
      refine quiet_plain' (by rfl) (Value.agg #[.int .u64 x.2.last, .slice ua x.2.l.length uc]) (fun w' hw' => ?_) ?_
      · obtain ⟨f1, f2, f3, f4, f5, f6, f7⟩ := hw'
        go_simp
      go_frame
      refine quiet_call' (by rfl) (Value.bool true) 29 #[Value.agg #[.int .u64 x.2.last, .slice va x.2.l.length vc], Value.agg #[.int .u64 x.2.last, .slice ua x.2.l.length uc]] (fun w' hw' => ⟨?_, ?_⟩) ?_
      · obtain ⟨f1, f2, f3, f4, f5, f6, f7⟩ := hw'
        go_simp
      · exact (HS.out w' (keepB.out _ hw')).mono (fun e w6 ⟨he, hb⟩ => ⟨he, keepS.out _ ((keepB.out _ hw').trans (hb.mono (keepB.out _ hw').size))⟩)
      go_frame
      refine quiet_plain' (by rfl) (Value.bool false) (fun w' hw' => ?_) ?_
      · obtain ⟨f1, f2, f3, f4, f5, f6, f7⟩ := hw'
        go_simp
      go_frame
      refine quiet_plain rfl (Value.bool false) (fun w' hw' => ?_) ?_
      · obtain ⟨f1, f2, f3, f4, f5, f6, f7⟩ := hw'
        go_simp
      go_frame
      refine wpQuiet_nil ?_
      intro w' hw'
      have hbx := Lib.hid (keepB.out _ hw')
      clear hw'
      go_wp2_with fail
      go_roundw
      case rel => exact ⟨k + 1, by omega, by go_num, Lib.hid (Hbw.out.trans (hbx.out.mono Hbw.out.size))⟩
      case measure => simp [intOf]; omega
    · have hge : (m.length : Int) ≤ (k : Int) := by omega
      go_wp2_with fail
      go_ret
      exact ⟨rfl, Hbw.out⟩
end Go.Proofs.YtbmmabpglkojkaaDoor
