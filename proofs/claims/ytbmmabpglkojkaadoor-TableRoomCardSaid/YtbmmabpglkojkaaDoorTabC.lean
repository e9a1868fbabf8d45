/- Contracts: scriniumref17.Same, scriniumref18.Same, where both are one. -/
import Derived.Test.YtbmmabpglkojkaaDoorTabB
namespace Go.Proofs.YtbmmabpglkojkaaDoor
open Go Go.RowKit

theorem quiet_plain' {P : Program} {ops : Array Oper} {C : World → Prop} {Q : Act → Prop} {a : Act} {o : Oper} {rest : List Oper} (hw : Region.wanted o (yielded ops a.tmps) = true) (v : Value)
    (h : ∀ w, C w → (execOp a.eval o).run P w = .ok (.value v) w) (k : wpQuiet P ops C Q rest (a.put o.dst v)) : wpQuiet P ops C Q (o :: rest) a := by
  refine wpQuiet_step (fun K hK => ?_)
  rw [if_pos hw]
  refine ⟨v, fun w hw => ?_, hK _ k⟩
  unfold Oper.quietAt
  rw [h w hw]
  exact ⟨rfl, rfl⟩
theorem quiet_call' {P : Program} {ops : Array Oper} {C : World → Prop} {Q : Act → Prop} {a : Act} {o : Oper} {rest : List Oper} (hw : Region.wanted o (yielded ops a.tmps) = true) (v : Value) (f : FuncId) (args : Array Value)
    (h : ∀ w, C w → (execOp a.eval o).run P w = .ok (.enter f args) w ∧ Calls P f args w (fun e w'' => e = .returned v ∧ C w'')) (k : wpQuiet P ops C Q rest (a.put o.dst v)) : wpQuiet P ops C Q (o :: rest) a := by
  refine wpQuiet_step (fun K hK => ?_)
  rw [if_pos hw]
  refine ⟨v, fun w hw => ?_, hK _ k⟩
  unfold Oper.quietAt
  rw [(h w hw).1]
  exact ⟨rfl, (h w hw).2⟩

set_option maxRecDepth 100000 in
set_option maxHeartbeats 2000000 in
theorem ref17_same (c : Cel) (v1 v2 : Value) (w : World) (h1 : IsVers w v1 c.l) (h2 : IsVers w v2 c.l) (hl : c.l.length ≤ 65536) :
    Calls Tryd.prog 29 #[.agg #[.int .u64 c.last, v1], .agg #[.int .u64 c.last, v2]] w fun e w' => e = .returned (.bool true) ∧ Below w.heap.size w w' := by
  obtain ⟨cl, L⟩ := c
  simp only at h1 h2 hl ⊢
  obtain ⟨a1, cap1, rfl, hc1⟩ := h1
  obtain ⟨a2, cap2, rfl, hc2⟩ := h2
  have Hc1 := Lib.hid hc1; have Hc2 := Lib.hid hc2; clear hc1 hc2
  have hLB : ((L.length : Int) != (L.length : Int)) = false := by simp
  have hCB : ((cl : Int) != (cl : Int)) = false := by simp
  go_enter Tryd.func29, Tryd.ntmps29
  go_upto_region 1 with fail
  refine wp_abs (F := Two w #[.int .u64 cl, .slice a1 L.length cap1] #[.int .u64 cl, .slice a2 L.length cap2]) (Two.of w _ _ _ _) ?_
  intro W T
  have q0 := T.c1 0; have q1 := T.c1 1; have r0 := T.c2 0; have r1 := T.c2 1
  have T := Lib.hid T
  simp at q0 q1 r0 r1
  go_wp2_with fail
  go_loopw [5] (fun i wr => ∃ k : Nat, k ≤ L.length ∧ i = .int .i64 k ∧ Hid (Below W.heap.size W wr)) (fun i _ => L.length - (intOf i).toNat)
  case atStart => exact ⟨0, Nat.zero_le _, rfl, Lib.hid (Below.refl _ _)⟩
  case round =>
    obtain ⟨k, hk, rfl, Hbw⟩ := hrel
    have Tr := T.out.step Hbw.out
    have hbr := Tr.b
    have q1 := Tr.c1 1; have r1 := Tr.c2 1
    simp at q1 r1
    by_cases hlt : k < L.length
    · rcases Hc1.out with hn | ⟨b1, o1, rfl, hl1, hcc1⟩
      · subst hn; simp at hlt
      rcases Hc2.out with hn | ⟨b2, o2, rfl, hl2, hcc2⟩
      · subst hn; simp at hlt
      obtain ⟨g1, g2, g3⟩ := hcc1 k hlt
      obtain ⟨g4, g5, g6⟩ := hcc2 k hlt
      have k1 := (hbr.cell (p := ⟨b1, o1 + k * 3, none⟩) hl1).trans g1
      have k2 := (hbr.cell (p := ⟨b1, o1 + k * 3 + 1, none⟩) hl1).trans g2
      have k3 := (hbr.cell (p := ⟨b1, o1 + k * 3 + 2, none⟩) hl1).trans g3
      have k4 := (hbr.cell (p := ⟨b2, o2 + k * 3, none⟩) hl2).trans g4
      have k5 := (hbr.cell (p := ⟨b2, o2 + k * 3 + 1, none⟩) hl2).trans g5
      have k6 := (hbr.cell (p := ⟨b2, o2 + k * 3 + 2, none⟩) hl2).trans g6
      clear hcc1 hcc2 g1 g2 g3 g4 g5 g6
      obtain ⟨x, hx⟩ : ∃ x, x = L.getD k dV := ⟨_, rfl⟩
      rw [← hx] at k1 k2 k3 k4 k5 k6
      clear hx hbr
      have Tr := Lib.hid Tr
      go_wp2_with fail
      go_quiet (fail)
      go_wp2_with fail
      go_roundw
      case rel => exact ⟨k + 1, by omega, by go_num, Lib.hid (below_dr Hbw.out _)⟩
      case measure => simp [intOf]; omega
    · have hge : (L.length : Int) ≤ (k : Int) := by omega
      clear hbr
      have Tr := Lib.hid Tr
      go_wp2_with fail
      go_ret
      exact ⟨rfl, Tr.out.b⟩
end Go.Proofs.YtbmmabpglkojkaaDoor
