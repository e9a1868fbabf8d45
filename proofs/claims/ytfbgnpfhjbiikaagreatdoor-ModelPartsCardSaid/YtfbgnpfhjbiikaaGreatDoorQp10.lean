/- ModelParts' walk. A slice of none, to which a whole slice is appended: what is had is a copy; what keeps lists where blocks turn. What law31.told tells, plainly: it's right; what is right stays right without those that have no place; what changes its places is not. append onto a row of structs: that each cell of its block is of its field's kind, the spare ones too; what keeps rows where a row of stories turns. Calls in memory; told stories. Calls that came in, opened, and what the bound on an input's bulk gives of each; truth values. -/
import Derived.Test.YtfbgnpfhjbiikaaGreatDoorQp06
import Derived.Test.YtfbgnpfhjbiikaaGreatDoorQp07
import Derived.Test.YtfbgnpfhjbiikaaGreatDoorQp08
import Derived.Test.YtfbgnpfhjbiikaaGreatDoorQp09
import Derived.Deep.Upon
import Derived.Deep.AppendLies
namespace Go.Proofs.YtfbgnpfhjbiikaaGreatDoor
open Go Go.RowKit
open Pth
open Go.Maps (has size Canon CanonK Tidy IsMap KeysOf Keyed Merged)
theorem infoTxP : (Tryz.prog.info? 82).map (fun i => (i.zero, i.size, i.bytes)) = some (some (.agg #[.int .u64 0, .int .u64 0]), 2, 16) := by kernel_rfl
theorem hev_stosz {s : Sto} (hk : s.call.kind < 256) (h1 : HevOk s) (h2 : HevS s 600) : StoSz s := by
  obtain ⟨a, b, c⟩ := h1
  obtain ⟨r, e, g, n, m⟩ := h2
  exact ⟨⟨hk, by omega, fun i hi => by have := b i hi; omega, by omega, fun i hi => by have := a i hi; constructor <;> omega, by omega⟩, by omega, by omega, by omega, by omega⟩

set_option maxRecDepth 100000 in
set_option maxHeartbeats 8000000 in
theorem law31_parts (l : List Sto) (v : Value) (w : World) (hv : IsStos w v l) (hl : l.length ≤ 140737488351232) (hz : ∀ i, i < l.length → HevSz (l.getD i dS) ∧ (l.getD i dS).call.kind < 256 ∧ TxOk (txOf (l.getD i dS))) (hm : MX w) :
    Calls Tryz.prog 6 #[v] w fun e w' => e = .returned (.bool true) ∧ Below w.heap.size w w' := by
  have HZ := Lib.hid hz; have HM := Lib.hid hm; have HV := Lib.hid hv
  have HAl := Lib.hid (fun (W : World) (h : Below w.heap.size w W) => law_alive W (HM.out.below h (Nat.le_refl _)))
  have HHe := Lib.hid (law_heavy31 l v w hv (by omega) (fun i hi => (hz i hi).1))
  obtain ⟨a, cap, rfl, hcap, hcc⟩ := hv
  have HC := Lib.hid hcc
  obtain ⟨i0, hi, hz0, hz1, hz2⟩ := info_parts infoTxP
  clear hz hm hcc
  go_enter Tryz.func6, Tryz.ntmps6
  go_wp2_with fail
  refine HHe.out.mono ?_
  rintro e w1 ⟨hb, rfl, hhv, hb1⟩
  have HB1 := Lib.hid hb1; have HHv := Lib.hid hhv
  clear hb1 hhv HHe
  cases hb with
  | true =>
    go_wp2_with fail
    refine (HAl.out _ HB1.out).mono ?_
    rintro e w3 ⟨rfl, hb3⟩
    go_wp2_with fail
    go_ret
    exact ⟨rfl, HB1.out.trans (hb3.mono HB1.out.size)⟩
  | false =>
    obtain ⟨h30, hall⟩ := HHv.out rfl
    have HSz : Hid (StosSz l) := Lib.hid (fun i hi => hev_stosz (HZ.out i hi).2.1 (hall i hi).1 (hall i hi).2)
    have hidx : (idxO l l.length).length < 40 := by have := idxO_le l l.length; omega
    have hol : (ordS l).length ≤ 30 := Nat.le_trans (ordL_le _ _) h30
    have HIdx := Lib.hid hidx
    have HOr := Lib.hid (model_orderW l _ w1 (HV.out.below HB1.out (Nat.le_refl _)) (by omega) hidx)
    clear hall hidx HHv
    go_wp2_with fail
    refine HOr.out.mono ?_
    rintro e w2 ⟨vo, rfl, hio, hfo, hb2⟩
    have HB2 : Hid (Below w.heap.size w w2) := Lib.hid (HB1.out.trans (hb2.mono HB1.out.size))
    have HIO := Lib.hid hio
    obtain ⟨ao, co, rfl, hoc, hoo⟩ := hio
    have HOO := Lib.hid hoo
    clear hb2 hfo HOr hoc hoo
    go_wp2_with fail
    go_loopw [3, 5] (fun s3 s5 wr => ∃ (k : Nat) (a3 : Option Addr) (c3 : Nat), k ≤ (ordS l).length ∧ s3 = .slice a3 k c3 ∧ s5 = .int .i64 k ∧ Hid (wr.ownsRow w2.heap.size 82 2 (.slice a3 k c3) k (txFlat (txsT l k))) ∧ Hid (Below w2.heap.size w2 wr)) (fun _ i _ => (ordS l).length - (intOf i).toNat)
    case atStart => exact ⟨0, none, 0, Nat.zero_le _, rfl, rfl, Lib.hid (World.ownsRow_nil _ _ _ _), Lib.hid (Below.refl _ _)⟩
    case round =>
      obtain ⟨k, a3, c3, hk, rfl, rfl, hrow, hbw⟩ := hrel
      have HBr : Hid (Below w.heap.size w wr) := Lib.hid (HB2.out.trans (hbw.out.mono HB2.out.size))
      by_cases hlt : k < (ordS l).length
      · have hltI : (k : Int) < ((ordS l).length : Int) := by omega
        rcases HOO.out with h0 | ⟨ob, oo, rfl, hoblt, hoc2⟩
        · rw [h0] at hlt; simp at hlt
        have HOC := Lib.hid (fun p (hp : p < (ordS l).length) => (hbw.out.cell (p := ⟨ob, oo + p, none⟩) hoblt).trans (hoc2 p hp))
        have HTx0 := Lib.hid (txsT_succ (l := l) hlt)
        have hmk := ord_mem (l := l) hlt
        rcases HC.out with hn | ⟨b1, o1, rfl, hblt, hst⟩
        · rw [hn] at hmk; simp at hmk
        have HSt := Lib.hid (fun i (hi : i < l.length) => show ∃ f, StoAt wr b1 (o1 + i * 18) f (l.getD i dS) from by
          obtain ⟨f, _, h2⟩ := hst i hi
          exact ⟨f, h2.below HBr.out hblt⟩)
        have e0 := HOC.out k hlt
        obtain ⟨x, hx⟩ : ∃ x, (ordS l).getD k 0 = x := ⟨_, rfl⟩
        have hxl := hmk.1
        rw [hx] at e0 hxl HTx0
        obtain ⟨f, hat⟩ := HSt.out x hxl
        have g13 := hat 13 _ rfl
        obtain ⟨cx, hcx⟩ : ∃ c, (l.getD x dS).com = c := ⟨_, rfl⟩
        rw [hcx] at g13
        have g11 := hat 11 _ rfl
        have g12 := hat 12 _ rfl
        obtain ⟨lx, hlx⟩ : ∃ c, (l.getD x dS).life = c := ⟨_, rfl⟩
        obtain ⟨tn, htn⟩ : ∃ c, (l.getD x dS).txn = c := ⟨_, rfl⟩
        rw [hlx] at g11; rw [htn] at g12
        have HTx : Hid (txsT l (k + 1) = txsT l k ++ [(lx, tn)]) := Lib.hid (by rw [HTx0.out, ← hlx, ← htn]; rfl)
        clear HTx0 hlx htn
        have hx0 : ¬ (x : Int) < 0 := by omega
        have hxI : ¬ (l.length : Int) ≤ (x : Int) := by omega
        have hxI2 : (x : Int) < (l.length : Int) := by omega
        have HLt : Hid (ob < wr.heap.size ∧ b1 < wr.heap.size) := Lib.hid (by have h1 := hbw.out.size; have h2 := HBr.out.size; constructor <;> omega)
        clear hst hoc2 hat hmk
        by_cases hk0 : k = 0
        · subst hk0
          rw [Nat.add_zero] at e0
          have h00 : ¬ (0 : Int) < ((0 : Nat) : Int) := by simp
          go_upto_region 8 with fail
          refine wp_region_quiet (C := fun w' => Hid (Below wr.heap.size wr w')) (by kernel_rfl) (by kernel_rfl) (Lib.hid (Below.drew (Below.refl _ _))) ?_
          refine (quiet_plain' ?_ (.slice (some ⟨ob, oo, none⟩) (ordS l).length co) (fun w' hw' => ?_) ?_ : _)
          · exact rfl
          · go_simp
          go_frame
          refine (quiet_plain' ?_ (.int .i64 0) (fun w' hw' => ?_) ?_ : _)
          · exact rfl
          · go_simp
          go_frame
          refine (quiet_plain' ?_ (.pointer (some ⟨ob, oo, none⟩)) (fun w' hw' => ?_) ?_ : _)
          · exact rfl
          · go_simp
          go_frame
          refine (quiet_plain' ?_ (.int .i64 (x : Int)) (fun w' hw' => ?_) ?_ : _)
          · exact rfl
          · have h := (hw'.out.cell (p := ⟨ob, oo, none⟩) HLt.out.1).trans e0
            go_simp
          go_frame
          refine (quiet_plain' ?_ (.bool false) (fun w' hw' => ?_) ?_ : _)
          · exact rfl
          · go_simp
          go_frame
          refine (quiet_plain' ?_ (.bool false) (fun w' hw' => ?_) ?_ : _)
          · exact rfl
          · go_simp
          go_frame
          refine (quiet_plain' ?_ (.slice (some ⟨ob, oo, none⟩) (ordS l).length co) (fun w' hw' => ?_) ?_ : _)
          · exact rfl
          · go_simp
          go_frame
          refine (quiet_plain' ?_ (.int .i64 0) (fun w' hw' => ?_) ?_ : _)
          · exact rfl
          · go_simp
          go_frame
          refine (quiet_plain' ?_ (.pointer (some ⟨ob, oo, none⟩)) (fun w' hw' => ?_) ?_ : _)
          · exact rfl
          · go_simp
          go_frame
          refine (quiet_plain' ?_ (.int .i64 (x : Int)) (fun w' hw' => ?_) ?_ : _)
          · exact rfl
          · have h := (hw'.out.cell (p := ⟨ob, oo, none⟩) HLt.out.1).trans e0
            go_simp
          go_frame
          refine (quiet_plain' ?_ (.slice (some ⟨b1, o1, none⟩) l.length cap) (fun w' hw' => ?_) ?_ : _)
          · exact rfl
          · go_simp
          go_frame
          refine (quiet_plain' ?_ (.int .i64 (l.length : Int)) (fun w' hw' => ?_) ?_ : _)
          · exact rfl
          · go_simp
          go_frame
          refine (quiet_plain' ?_ (.bool false) (fun w' hw' => ?_) ?_ : _)
          · exact rfl
          · go_simp
          go_frame
          refine (quiet_plain' ?_ (.bool false) (fun w' hw' => ?_) ?_ : _)
          · exact rfl
          · go_simp
          go_frame
          refine (quiet_plain' ?_ (.bool false) (fun w' hw' => ?_) ?_ : _)
          · exact rfl
          · go_simp
          go_frame
          refine (quiet_plain' ?_ (.int .i64 0) (fun w' hw' => ?_) ?_ : _)
          · exact rfl
          · go_simp
          go_frame
          refine (quiet_plain' ?_ (.bool false) (fun w' hw' => ?_) ?_ : _)
          · exact rfl
          · go_simp
          go_frame
          refine (quiet_plain' ?_ (.bool false) (fun w' hw' => ?_) ?_ : _)
          · exact rfl
          · go_simp
          go_frame
          refine (quiet_skip ?_ ?_ : _)
          · exact rfl
          go_frame
          refine (quiet_skip ?_ ?_ : _)
          · exact rfl
          go_frame
          refine (quiet_skip ?_ ?_ : _)
          · exact rfl
          go_frame
          refine (quiet_skip ?_ ?_ : _)
          · exact rfl
          go_frame
          refine (quiet_skip ?_ ?_ : _)
          · exact rfl
          go_frame
          refine (quiet_skip ?_ ?_ : _)
          · exact rfl
          go_frame
          refine (quiet_skip ?_ ?_ : _)
          · exact rfl
          go_frame
          refine (quiet_skip ?_ ?_ : _)
          · exact rfl
          go_frame
          refine (quiet_skip ?_ ?_ : _)
          · exact rfl
          go_frame
          refine (quiet_skip ?_ ?_ : _)
          · exact rfl
          go_frame
          refine (quiet_skip ?_ ?_ : _)
          · exact rfl
          go_frame
          refine (quiet_skip ?_ ?_ : _)
          · exact rfl
          go_frame
          refine (quiet_skip ?_ ?_ : _)
          · exact rfl
          go_frame
          refine (quiet_skip ?_ ?_ : _)
          · exact rfl
          go_frame
          refine (quiet_skip ?_ ?_ : _)
          · exact rfl
          go_frame
          refine (quiet_skip ?_ ?_ : _)
          · exact rfl
          go_frame
          refine (quiet_skip ?_ ?_ : _)
          · exact rfl
          go_frame
          refine (quiet_skip ?_ ?_ : _)
          · exact rfl
          go_frame
          refine (quiet_plain' ?_ (.bool false) (fun w' hw' => ?_) ?_ : _)
          · exact rfl
          · go_simp
          go_frame
          refine (quiet_plain' ?_ (.bool false) (fun w' hw' => ?_) ?_ : _)
          · exact rfl
          · go_simp
          go_frame
          refine (wpQuiet_nil ?_ : _)
          intro wq HbD
          have z0 := (HbD.out.cell (p := ⟨ob, oo, none⟩) (HLt.out.1)).trans e0
          have z11 := (HbD.out.cell (p := ⟨b1, o1 + x * 18 + 11, none⟩) (HLt.out.2)).trans g11
          have z12 := (HbD.out.cell (p := ⟨b1, o1 + x * 18 + 12, none⟩) (HLt.out.2)).trans g12
          have HRq := Lib.hid (ownBelow hrow.out HbD.out)
          have hqs := HbD.out.size
          have hks : w2.heap.size ≤ wr.heap.size := hbw.out.size
          clear e0 g11 g12 g13
          go_wp2_with (first
            | (at_builtin; refine wpList_append_own _ rfl (.tmp 61) (.tmp 70) 90 rfl w2.heap.size 82 i0 (.agg #[.int .u64 0, .int .u64 0]) 2 16 Tryz.underlying90 hi hz0 hz1 hz2 rfl (by decide) _ (0) (txFlat (txsT l (0))) rfl (ownBelow HRq.out ((Below.refl _ _).alloc (Nat.le_refl _) _)) ⟨wq.heap.size, 0, none⟩ 1 1 [.int .u64 (lx : Int), .int .u64 (tn : Int)] rfl rfl (World.news_of_block (MapKept.heap_alloc _ _).1) (by intro u hu; simp only [List.mem_cons, List.mem_nil_iff, or_false] at hu; rcases hu with rfl | rfl <;> rfl) (by unfold maxLen; omega) (by omega) ?hbaseA ?goA; (case hbaseA => simp; omega); intro v5 w5 hown5 hg5 _; obtain ⟨a6, c6, rfl⟩ := ownShape hown5; have Hown5 := Lib.hid hown5; have Hg5 := Lib.hid hg5; clear hown5 hg5)
            | fail)
          go_roundw
          case rel =>
            refine ⟨0 + 1, a6, c6, by omega, rfl, by go_num, Lib.hid ?_, Lib.hid ?_⟩
            · rw [HTx.out, txFlat_append]; exact Hown5.out
            · exact (hbw.out.trans (HbD.out.mono hks)).trans (((Below.refl w2.heap.size wq).alloc (by omega) _).grown Hg5.out (by simp; omega) (fun j hj => ownAbove HRq.out j hj))
          case measure => simp [intOf]; omega
        · have hk0I : (0 : Int) < (k : Int) := by omega
          obtain ⟨kp, hkp⟩ : ∃ q, k = q + 1 := ⟨k - 1, by omega⟩
          have hkpI : (k : Int) - 1 = (kp : Int) := by omega
          have hkpl : kp < (ordS l).length := by omega
          have hkpI2 : (kp : Int) < ((ordS l).length : Int) := by omega
          have e1 := HOC.out kp hkpl
          have hmp := ord_mem (l := l) hkpl
          have hle := ord_at (l := l) hlt (show kp < k by omega)
          obtain ⟨y, hy⟩ : ∃ y, (ordS l).getD kp 0 = y := ⟨_, rfl⟩
          rw [hx, hy] at hle
          rw [hy] at e1 hmp
          have hyl := hmp.1
          obtain ⟨fy, haty⟩ := HSt.out y hyl
          have u13 := haty 13 _ rfl
          obtain ⟨cy, hcy⟩ : ∃ c, (l.getD y dS).com = c := ⟨_, rfl⟩
          rw [hcy] at u13
          have hk0N : 0 < k := by omega
          have hkpw : IntKind.i64.wrap (kp : Int) = (kp : Int) := by rw [IntKind.wrap_i64]; omega
          have hyI2 : (y : Int) < (l.length : Int) := by omega
          have hcm : ¬ cx < cy := by have : comF l y ≤ comF l x := hle; unfold comF at this; omega
          have hcmd : decide (cx < cy) = false := decide_eq_false hcm
          clear haty hmp hle hkp
          go_upto_region 8 with fail
          refine wp_region_quiet (C := fun w' => Hid (Below wr.heap.size wr w')) (by kernel_rfl) (by kernel_rfl) (Lib.hid (Below.drew (Below.refl _ _))) ?_
          refine (quiet_plain' ?_ (.slice (some ⟨ob, oo, none⟩) (ordS l).length co) (fun w' hw' => ?_) ?_ : _)
          · exact rfl
          · go_simp
          go_frame
          refine (quiet_plain' ?_ (.int .i64 (k : Int)) (fun w' hw' => ?_) ?_ : _)
          · exact rfl
          · go_simp
          go_frame
          refine (quiet_plain' ?_ (.pointer (some ⟨ob, oo + k, none⟩)) (fun w' hw' => ?_) ?_ : _)
          · exact rfl
          · go_simp
          go_frame
          refine (quiet_plain' ?_ (.int .i64 (x : Int)) (fun w' hw' => ?_) ?_ : _)
          · exact rfl
          · have h := (hw'.out.cell (p := ⟨ob, oo + k, none⟩) HLt.out.1).trans e0
            go_simp
          go_frame
          refine (quiet_plain' ?_ (.bool false) (fun w' hw' => ?_) ?_ : _)
          · exact rfl
          · go_simp
          go_frame
          refine (quiet_plain' ?_ (.bool false) (fun w' hw' => ?_) ?_ : _)
          · exact rfl
          · go_simp
          go_frame
          refine (quiet_plain' ?_ (.slice (some ⟨ob, oo, none⟩) (ordS l).length co) (fun w' hw' => ?_) ?_ : _)
          · exact rfl
          · go_simp
          go_frame
          refine (quiet_plain' ?_ (.int .i64 (k : Int)) (fun w' hw' => ?_) ?_ : _)
          · exact rfl
          · go_simp
          go_frame
          refine (quiet_plain' ?_ (.pointer (some ⟨ob, oo + k, none⟩)) (fun w' hw' => ?_) ?_ : _)
          · exact rfl
          · go_simp
          go_frame
          refine (quiet_plain' ?_ (.int .i64 (x : Int)) (fun w' hw' => ?_) ?_ : _)
          · exact rfl
          · have h := (hw'.out.cell (p := ⟨ob, oo + k, none⟩) HLt.out.1).trans e0
            go_simp
          go_frame
          refine (quiet_plain' ?_ (.slice (some ⟨b1, o1, none⟩) l.length cap) (fun w' hw' => ?_) ?_ : _)
          · exact rfl
          · go_simp
          go_frame
          refine (quiet_plain' ?_ (.int .i64 (l.length : Int)) (fun w' hw' => ?_) ?_ : _)
          · exact rfl
          · go_simp
          go_frame
          refine (quiet_plain' ?_ (.bool false) (fun w' hw' => ?_) ?_ : _)
          · exact rfl
          · go_simp
          go_frame
          refine (quiet_plain' ?_ (.bool false) (fun w' hw' => ?_) ?_ : _)
          · exact rfl
          · go_simp
          go_frame
          refine (quiet_plain' ?_ (.bool false) (fun w' hw' => ?_) ?_ : _)
          · exact rfl
          · go_simp
          go_frame
          refine (quiet_plain' ?_ (.int .i64 (k : Int)) (fun w' hw' => ?_) ?_ : _)
          · exact rfl
          · go_simp
          go_frame
          refine (quiet_plain' ?_ (.bool true) (fun w' hw' => ?_) ?_ : _)
          · exact rfl
          · go_simp
          go_frame
          refine (quiet_plain' ?_ (.bool true) (fun w' hw' => ?_) ?_ : _)
          · exact rfl
          · go_simp
          go_frame
          refine (quiet_plain' ?_ (.slice (some ⟨b1, o1, none⟩) l.length cap) (fun w' hw' => ?_) ?_ : _)
          · exact rfl
          · go_simp
          go_frame
          refine (quiet_plain' ?_ (.slice (some ⟨ob, oo, none⟩) (ordS l).length co) (fun w' hw' => ?_) ?_ : _)
          · exact rfl
          · go_simp
          go_frame
          refine (quiet_plain' ?_ (.int .i64 (k : Int)) (fun w' hw' => ?_) ?_ : _)
          · exact rfl
          · go_simp
          go_frame
          refine (quiet_plain' ?_ (.int .i64 (kp : Int)) (fun w' hw' => ?_) ?_ : _)
          · exact rfl
          · go_simp
          go_frame
          refine (quiet_plain' ?_ (.pointer (some ⟨ob, oo + kp, none⟩)) (fun w' hw' => ?_) ?_ : _)
          · exact rfl
          · go_simp
          go_frame
          refine (quiet_plain' ?_ (.int .i64 (y : Int)) (fun w' hw' => ?_) ?_ : _)
          · exact rfl
          · have h := (hw'.out.cell (p := ⟨ob, oo + kp, none⟩) HLt.out.1).trans e1
            go_simp
          go_frame
          refine (quiet_plain' ?_ (.pointer (some ⟨b1, o1 + y * 18, none⟩)) (fun w' hw' => ?_) ?_ : _)
          · exact rfl
          · go_simp
          go_frame
          refine (quiet_plain' ?_ (.pointer (some ⟨b1, o1 + y * 18 + 13, none⟩)) (fun w' hw' => ?_) ?_ : _)
          · exact rfl
          · go_simp
          go_frame
          refine (quiet_plain' ?_ (.int .i64 cy) (fun w' hw' => ?_) ?_ : _)
          · exact rfl
          · have h := (hw'.out.cell (p := ⟨b1, o1 + y * 18 + 13, none⟩) HLt.out.2).trans u13
            go_simp
          go_frame
          refine (quiet_plain' ?_ (.slice (some ⟨b1, o1, none⟩) l.length cap) (fun w' hw' => ?_) ?_ : _)
          · exact rfl
          · go_simp
          go_frame
          refine (quiet_plain' ?_ (.slice (some ⟨ob, oo, none⟩) (ordS l).length co) (fun w' hw' => ?_) ?_ : _)
          · exact rfl
          · go_simp
          go_frame
          refine (quiet_plain' ?_ (.int .i64 (k : Int)) (fun w' hw' => ?_) ?_ : _)
          · exact rfl
          · go_simp
          go_frame
          refine (quiet_plain' ?_ (.pointer (some ⟨ob, oo + k, none⟩)) (fun w' hw' => ?_) ?_ : _)
          · exact rfl
          · go_simp
          go_frame
          refine (quiet_plain' ?_ (.int .i64 (x : Int)) (fun w' hw' => ?_) ?_ : _)
          · exact rfl
          · have h := (hw'.out.cell (p := ⟨ob, oo + k, none⟩) HLt.out.1).trans e0
            go_simp
          go_frame
          refine (quiet_plain' ?_ (.pointer (some ⟨b1, o1 + x * 18, none⟩)) (fun w' hw' => ?_) ?_ : _)
          · exact rfl
          · go_simp
          go_frame
          refine (quiet_plain' ?_ (.pointer (some ⟨b1, o1 + x * 18 + 13, none⟩)) (fun w' hw' => ?_) ?_ : _)
          · exact rfl
          · go_simp
          go_frame
          refine (quiet_plain' ?_ (.int .i64 cx) (fun w' hw' => ?_) ?_ : _)
          · exact rfl
          · have h := (hw'.out.cell (p := ⟨b1, o1 + x * 18 + 13, none⟩) HLt.out.2).trans g13
            go_simp
          go_frame
          refine (quiet_plain' ?_ (.bool false) (fun w' hw' => ?_) ?_ : _)
          · exact rfl
          · go_simp
          go_frame
          refine (quiet_plain' ?_ (.bool false) (fun w' hw' => ?_) ?_ : _)
          · exact rfl
          · go_simp
          go_frame
          refine (quiet_plain' ?_ (.bool false) (fun w' hw' => ?_) ?_ : _)
          · exact rfl
          · go_simp
          go_frame
          refine (wpQuiet_nil ?_ : _)
          intro wq HbD
          have z0 := (HbD.out.cell (p := ⟨ob, oo + k, none⟩) (HLt.out.1)).trans e0
          have z11 := (HbD.out.cell (p := ⟨b1, o1 + x * 18 + 11, none⟩) (HLt.out.2)).trans g11
          have z12 := (HbD.out.cell (p := ⟨b1, o1 + x * 18 + 12, none⟩) (HLt.out.2)).trans g12
          have HRq := Lib.hid (ownBelow hrow.out HbD.out)
          have hqs := HbD.out.size
          have hks : w2.heap.size ≤ wr.heap.size := hbw.out.size
          clear e0 e1 g11 g12 g13 u13
          go_wp2_with (first
            | (at_builtin; refine wpList_append_own _ rfl (.tmp 61) (.tmp 70) 90 rfl w2.heap.size 82 i0 (.agg #[.int .u64 0, .int .u64 0]) 2 16 Tryz.underlying90 hi hz0 hz1 hz2 rfl (by decide) _ (k) (txFlat (txsT l (k))) rfl (ownBelow HRq.out ((Below.refl _ _).alloc (Nat.le_refl _) _)) ⟨wq.heap.size, 0, none⟩ 1 1 [.int .u64 (lx : Int), .int .u64 (tn : Int)] rfl rfl (World.news_of_block (MapKept.heap_alloc _ _).1) (by intro u hu; simp only [List.mem_cons, List.mem_nil_iff, or_false] at hu; rcases hu with rfl | rfl <;> rfl) (by unfold maxLen; omega) (by omega) ?hbaseB ?goB; (case hbaseB => simp; omega); intro v5 w5 hown5 hg5 _; obtain ⟨a6, c6, rfl⟩ := ownShape hown5; have Hown5 := Lib.hid hown5; have Hg5 := Lib.hid hg5; clear hown5 hg5)
            | fail)
          go_roundw
          case rel =>
            refine ⟨k + 1, a6, c6, by omega, rfl, by go_num, Lib.hid ?_, Lib.hid ?_⟩
            · rw [HTx.out, txFlat_append]; exact Hown5.out
            · exact (hbw.out.trans (HbD.out.mono hks)).trans (((Below.refl w2.heap.size wq).alloc (by omega) _).grown Hg5.out (by simp; omega) (fun j hj => ownAbove HRq.out j hj))
          case measure => simp [intOf]; omega
      · have hge : ¬ (k : Int) < ((ordS l).length : Int) := by omega
        obtain rfl : k = (ordS l).length := by omega
        have HTX : Hid (IsTxs wr (.slice a3 (ordS l).length c3) (txsT l (ordS l).length)) := Lib.hid (by
          refine IsTxs.own (B := w2.heap.size) (e := 82) ?_
          rw [txsT_length (Nat.le_refl _)]; exact hrow.out)
        obtain ⟨n, hn⟩ : ∃ n, n = (ordS l).length := ⟨_, rfl⟩
        have HN := Lib.hid hn
        have HTM := Lib.hid (txsT_mem (l := l)); have HTO := Lib.hid (fun x hx => txsT_of (l := l) (k := (ordS l).length) x hx)
        have hTl := txsT_length (l := l) (Nat.le_refl (ordS l).length)
        rw [← hn] at HTX HTM HTO hTl hol ⊢
        clear hrow hbw hk hn hge
        obtain ⟨tx, htx⟩ : ∃ tx, txsT l n = tx := ⟨_, rfl⟩
        rw [htx] at HTX HTM HTO hTl
        clear htx
        have hTxc := HTX.out
        obtain ⟨a3', c3', hv3, htc⟩ := hTxc
        have HTC := Lib.hid htc
        rw [hTl] at hv3
        injection hv3 with q1 _ q3
        subst q1; subst q3
        clear htc
        obtain ⟨wE, hwE⟩ : ∃ wE, wr = wE := ⟨_, rfl⟩
        rw [hwE] at HTX HBr HTC ⊢
        clear hwE
        go_wp2_with fail
        go_loopw [6, 7] (fun s6 _ wr => ∃ i : Nat, i ≤ l.length ∧ s6 = .int .i64 i ∧ Hid (Below wE.heap.size wE wr)) (fun i _ _ => l.length - (intOf i).toNat)
        case atStart => exact ⟨0, Nat.zero_le _, rfl, Lib.hid (Below.refl _ _)⟩
        case round =>
          obtain ⟨i, hil, rfl, hbi⟩ := hrel
          by_cases hlt : i < l.length
          · have hltI : (i : Int) < (l.length : Int) := by omega
            rcases HC.out with hn | ⟨b1, o1, rfl, hblt, hst⟩
            · rw [hn] at hlt; simp at hlt
            obtain ⟨f, _, hat⟩ := hst i hlt
            have HAT := Lib.hid (hat.below HBr.out hblt)
            have HBL : Hid (b1 < wE.heap.size) := Lib.hid (by have := HBr.out.size; omega)
            obtain ⟨x, hx⟩ : ∃ x, l.getD i dS = x := ⟨_, rfl⟩
            rw [hx] at HAT
            clear hst hat hx
            go_wp2_with fail
            go_loopw [7] (fun s7 wr => ∃ k : Nat, k ≤ n ∧ s7 = .int .i64 k ∧ Hid (Below wE.heap.size wE wr)) (fun k _ => n - (intOf k).toNat)
            case atStart => exact ⟨0, Nat.zero_le _, rfl, hbi⟩
            case round =>
              clear hbi
              obtain ⟨k, hkn, rfl, hbi⟩ := hrel
              by_cases hlk : k < n
              · have hlkI : (k : Int) < (n : Int) := by omega
                rcases HTC.out with hn0 | ⟨b3, o3, rfl, hb3, hct⟩
                · have h1 := congrArg List.length hn0; rw [hTl] at h1; simp at h1; omega
                obtain ⟨t0, t1⟩ := hct k (by rw [hTl]; exact hlk)
                have g13 := HAT.out 13 _ rfl
                have g11 := HAT.out 11 _ rfl
                have g12 := HAT.out 12 _ rfl
                obtain ⟨⟨p1, p2⟩, hp⟩ : ∃ p, tx.getD k (0, 0) = p := ⟨_, rfl⟩
                rw [hp] at t0 t1
                dsimp only at t0 t1
                have HB3 := Lib.hid hb3
                clear hct hp hb3
                by_cases hc0 : x.com ≤ 0
                · have hc0b : decide (x.com ≤ 0) = true := decide_eq_true hc0
                  by_cases hE : x.life = p1 ∧ x.txn = p2
                  · obtain ⟨hE1, hE2⟩ := hE
                    have hE1I : ((x.life : Int) == (p1 : Int)) = true := by rw [hE1]; simp
                    have hE2I : ((x.txn : Int) == (p2 : Int)) = true := by rw [hE2]; simp
                    go_upto_region 17 with fail
                    refine wp_region_quiet (C := fun w' => Hid (Below wE.heap.size wE w')) (by kernel_rfl) (by kernel_rfl) (Lib.hid (Below.drew hbi.out)) ?_
                    refine (quiet_plain' ?_ (.slice (some ⟨b1, o1, none⟩) l.length cap) (fun w' hw' => ?_) ?_ : _)
                    · exact rfl
                    · go_simp
                    go_frame
                    refine (quiet_plain' ?_ (.int .i64 (i : Int)) (fun w' hw' => ?_) ?_ : _)
                    · exact rfl
                    · go_simp
                    go_frame
                    refine (quiet_plain' ?_ (.pointer (some ⟨b1, o1 + i * 18, none⟩)) (fun w' hw' => ?_) ?_ : _)
                    · exact rfl
                    · go_simp
                    go_frame
                    refine (quiet_plain' ?_ (.pointer (some ⟨b1, o1 + i * 18 + 13, none⟩)) (fun w' hw' => ?_) ?_ : _)
                    · exact rfl
                    · go_simp
                    go_frame
                    refine (quiet_plain' ?_ (.int .i64 x.com) (fun w' hw' => ?_) ?_ : _)
                    · exact rfl
                    · have h := (hw'.out.cell (p := ⟨b1, o1 + i * 18 + 13, none⟩) HBL.out).trans g13
                      go_simp
                    go_frame
                    refine (quiet_plain' ?_ (.bool true) (fun w' hw' => ?_) ?_ : _)
                    · exact rfl
                    · go_simp
                    go_frame
                    refine (quiet_plain' ?_ (.bool true) (fun w' hw' => ?_) ?_ : _)
                    · exact rfl
                    · go_simp
                    go_frame
                    refine (quiet_plain' ?_ (.slice (some ⟨b1, o1, none⟩) l.length cap) (fun w' hw' => ?_) ?_ : _)
                    · exact rfl
                    · go_simp
                    go_frame
                    refine (quiet_plain' ?_ (.int .i64 (i : Int)) (fun w' hw' => ?_) ?_ : _)
                    · exact rfl
                    · go_simp
                    go_frame
                    refine (quiet_plain' ?_ (.pointer (some ⟨b1, o1 + i * 18, none⟩)) (fun w' hw' => ?_) ?_ : _)
                    · exact rfl
                    · go_simp
                    go_frame
                    refine (quiet_plain' ?_ (.pointer (some ⟨b1, o1 + i * 18 + 11, none⟩)) (fun w' hw' => ?_) ?_ : _)
                    · exact rfl
                    · go_simp
                    go_frame
                    refine (quiet_plain' ?_ (.agg #[.int .u64 (x.life : Int), .int .u64 (x.txn : Int)]) (fun w' hw' => ?_) ?_ : _)
                    · exact rfl
                    · have h := (hw'.out.cell (p := ⟨b1, o1 + i * 18 + 11, none⟩) HBL.out).trans g11
                      have h2 := (hw'.out.cell (p := ⟨b1, o1 + i * 18 + 12, none⟩) HBL.out).trans g12
                      go_simp
                    go_frame
                    refine (quiet_plain' ?_ (.slice (some ⟨b3, o3, none⟩) n c3) (fun w' hw' => ?_) ?_ : _)
                    · exact rfl
                    · go_simp
                    go_frame
                    refine (quiet_plain' ?_ (.int .i64 (k : Int)) (fun w' hw' => ?_) ?_ : _)
                    · exact rfl
                    · go_simp
                    go_frame
                    refine (quiet_plain' ?_ (.pointer (some ⟨b3, o3 + k * 2, none⟩)) (fun w' hw' => ?_) ?_ : _)
                    · exact rfl
                    · go_simp
                    go_frame
                    refine (quiet_plain' ?_ (.agg #[.int .u64 (p1 : Int), .int .u64 (p2 : Int)]) (fun w' hw' => ?_) ?_ : _)
                    · exact rfl
                    · have h := (hw'.out.cell (p := ⟨b3, o3 + k * 2, none⟩) HB3.out).trans t0
                      have h2 := (hw'.out.cell (p := ⟨b3, o3 + k * 2 + 1, none⟩) HB3.out).trans t1
                      go_simp
                    go_frame
                    refine (quiet_plain' ?_ (.bool true) (fun w' hw' => ?_) ?_ : _)
                    · exact rfl
                    · go_simp
                    go_frame
                    refine (quiet_plain' ?_ (.bool true) (fun w' hw' => ?_) ?_ : _)
                    · exact rfl
                    · go_simp
                    go_frame
                    refine (wpQuiet_nil ?_ : _)
                    intro wq HbD
                    have HbA := Lib.hid (HBr.out.trans (HbD.out.mono HBr.out.size))
                    clear g11 g12 g13 t0 t1 hE1 hE2
                    go_wp2_with fail
                    refine (HAl.out _ HbA.out).mono ?_
                    rintro e w3 ⟨rfl, hb3⟩
                    go_wp2_with fail
                    go_ret
                    exact ⟨rfl, HbA.out.trans (hb3.mono HbA.out.size)⟩
                  · have hEi : (x.life : Int) = (p1 : Int) → ¬ (x.txn : Int) = (p2 : Int) := fun e1 e2 => hE ⟨by omega, by omega⟩
                    go_upto_region 17 with fail
                    refine wp_region_quiet (C := fun w' => Hid (Below wE.heap.size wE w')) (by kernel_rfl) (by kernel_rfl) (Lib.hid (Below.drew hbi.out)) ?_
                    refine (quiet_plain' ?_ (.slice (some ⟨b1, o1, none⟩) l.length cap) (fun w' hw' => ?_) ?_ : _)
                    · exact rfl
                    · go_simp
                    go_frame
                    refine (quiet_plain' ?_ (.int .i64 (i : Int)) (fun w' hw' => ?_) ?_ : _)
                    · exact rfl
                    · go_simp
                    go_frame
                    refine (quiet_plain' ?_ (.pointer (some ⟨b1, o1 + i * 18, none⟩)) (fun w' hw' => ?_) ?_ : _)
                    · exact rfl
                    · go_simp
                    go_frame
                    refine (quiet_plain' ?_ (.pointer (some ⟨b1, o1 + i * 18 + 13, none⟩)) (fun w' hw' => ?_) ?_ : _)
                    · exact rfl
                    · go_simp
                    go_frame
                    refine (quiet_plain' ?_ (.int .i64 x.com) (fun w' hw' => ?_) ?_ : _)
                    · exact rfl
                    · have h := (hw'.out.cell (p := ⟨b1, o1 + i * 18 + 13, none⟩) HBL.out).trans g13
                      go_simp
                    go_frame
                    refine (quiet_plain' ?_ (.bool true) (fun w' hw' => ?_) ?_ : _)
                    · exact rfl
                    · go_simp
                    go_frame
                    refine (quiet_plain' ?_ (.bool true) (fun w' hw' => ?_) ?_ : _)
                    · exact rfl
                    · go_simp
                    go_frame
                    refine (quiet_plain' ?_ (.slice (some ⟨b1, o1, none⟩) l.length cap) (fun w' hw' => ?_) ?_ : _)
                    · exact rfl
                    · go_simp
                    go_frame
                    refine (quiet_plain' ?_ (.int .i64 (i : Int)) (fun w' hw' => ?_) ?_ : _)
                    · exact rfl
                    · go_simp
                    go_frame
                    refine (quiet_plain' ?_ (.pointer (some ⟨b1, o1 + i * 18, none⟩)) (fun w' hw' => ?_) ?_ : _)
                    · exact rfl
                    · go_simp
                    go_frame
                    refine (quiet_plain' ?_ (.pointer (some ⟨b1, o1 + i * 18 + 11, none⟩)) (fun w' hw' => ?_) ?_ : _)
                    · exact rfl
                    · go_simp
                    go_frame
                    refine (quiet_plain' ?_ (.agg #[.int .u64 (x.life : Int), .int .u64 (x.txn : Int)]) (fun w' hw' => ?_) ?_ : _)
                    · exact rfl
                    · have h := (hw'.out.cell (p := ⟨b1, o1 + i * 18 + 11, none⟩) HBL.out).trans g11
                      have h2 := (hw'.out.cell (p := ⟨b1, o1 + i * 18 + 12, none⟩) HBL.out).trans g12
                      go_simp
                    go_frame
                    refine (quiet_plain' ?_ (.slice (some ⟨b3, o3, none⟩) n c3) (fun w' hw' => ?_) ?_ : _)
                    · exact rfl
                    · go_simp
                    go_frame
                    refine (quiet_plain' ?_ (.int .i64 (k : Int)) (fun w' hw' => ?_) ?_ : _)
                    · exact rfl
                    · go_simp
                    go_frame
                    refine (quiet_plain' ?_ (.pointer (some ⟨b3, o3 + k * 2, none⟩)) (fun w' hw' => ?_) ?_ : _)
                    · exact rfl
                    · go_simp
                    go_frame
                    refine (quiet_plain' ?_ (.agg #[.int .u64 (p1 : Int), .int .u64 (p2 : Int)]) (fun w' hw' => ?_) ?_ : _)
                    · exact rfl
                    · have h := (hw'.out.cell (p := ⟨b3, o3 + k * 2, none⟩) HB3.out).trans t0
                      have h2 := (hw'.out.cell (p := ⟨b3, o3 + k * 2 + 1, none⟩) HB3.out).trans t1
                      go_simp
                    go_frame
                    refine (quiet_plain' ?_ (.bool false) (fun w' hw' => ?_) ?_ : _)
                    · exact rfl
                    · first | (go_simp; done) | (go_simp; exact hEi)
                    go_frame
                    refine (quiet_plain' ?_ (.bool false) (fun w' hw' => ?_) ?_ : _)
                    · exact rfl
                    · go_simp
                    go_frame
                    refine (wpQuiet_nil ?_ : _)
                    intro wq HbD
                    clear g11 g12 g13 t0 t1 hE hEi
                    go_wp2_with fail
                    go_roundw
                    case rel => exact ⟨k + 1, by omega, by go_num, HbD⟩
                    case measure => simp [intOf]; omega
                · have hc0b : decide (x.com ≤ 0) = false := decide_eq_false hc0
                  go_upto_region 17 with fail
                  refine wp_region_quiet (C := fun w' => Hid (Below wE.heap.size wE w')) (by kernel_rfl) (by kernel_rfl) (Lib.hid (Below.drew hbi.out)) ?_
                  refine (quiet_plain' ?_ (.slice (some ⟨b1, o1, none⟩) l.length cap) (fun w' hw' => ?_) ?_ : _)
                  · exact rfl
                  · go_simp
                  go_frame
                  refine (quiet_plain' ?_ (.int .i64 (i : Int)) (fun w' hw' => ?_) ?_ : _)
                  · exact rfl
                  · go_simp
                  go_frame
                  refine (quiet_plain' ?_ (.pointer (some ⟨b1, o1 + i * 18, none⟩)) (fun w' hw' => ?_) ?_ : _)
                  · exact rfl
                  · go_simp
                  go_frame
                  refine (quiet_plain' ?_ (.pointer (some ⟨b1, o1 + i * 18 + 13, none⟩)) (fun w' hw' => ?_) ?_ : _)
                  · exact rfl
                  · go_simp
                  go_frame
                  refine (quiet_plain' ?_ (.int .i64 x.com) (fun w' hw' => ?_) ?_ : _)
                  · exact rfl
                  · have h := (hw'.out.cell (p := ⟨b1, o1 + i * 18 + 13, none⟩) HBL.out).trans g13
                    go_simp
                  go_frame
                  refine (quiet_plain' ?_ (.bool false) (fun w' hw' => ?_) ?_ : _)
                  · exact rfl
                  · go_simp
                  go_frame
                  refine (quiet_plain' ?_ (.bool false) (fun w' hw' => ?_) ?_ : _)
                  · exact rfl
                  · go_simp
                  go_frame
                  refine (quiet_skip ?_ ?_ : _)
                  · exact rfl
                  go_frame
                  refine (quiet_skip ?_ ?_ : _)
                  · exact rfl
                  go_frame
                  refine (quiet_skip ?_ ?_ : _)
                  · exact rfl
                  go_frame
                  refine (quiet_skip ?_ ?_ : _)
                  · exact rfl
                  go_frame
                  refine (quiet_skip ?_ ?_ : _)
                  · exact rfl
                  go_frame
                  refine (quiet_skip ?_ ?_ : _)
                  · exact rfl
                  go_frame
                  refine (quiet_skip ?_ ?_ : _)
                  · exact rfl
                  go_frame
                  refine (quiet_skip ?_ ?_ : _)
                  · exact rfl
                  go_frame
                  refine (quiet_skip ?_ ?_ : _)
                  · exact rfl
                  go_frame
                  refine (quiet_skip ?_ ?_ : _)
                  · exact rfl
                  go_frame
                  refine (quiet_plain' ?_ (.bool false) (fun w' hw' => ?_) ?_ : _)
                  · exact rfl
                  · go_simp
                  go_frame
                  refine (wpQuiet_nil ?_ : _)
                  intro wq HbD
                  clear g11 g12 g13 t0 t1
                  go_wp2_with fail
                  go_roundw
                  case rel => exact ⟨k + 1, by omega, by go_num, HbD⟩
                  case measure => simp [intOf]; omega
              · have hlkI : ¬ (k : Int) < (n : Int) := by omega
                go_wp2_with fail
                go_roundw
                case rel => exact ⟨i + 1, by omega, by go_num, hbi⟩
                case measure => simp [intOf]; omega
          · have hltI : ¬ (i : Int) < (l.length : Int) := by omega
            have HBi : Hid (Below w.heap.size w wr) := Lib.hid (HBr.out.trans (hbi.out.mono HBr.out.size))
            have HIs := Lib.hid (HV.out.below HBi.out (Nat.le_refl _))
            have HTi := Lib.hid (HTX.out.below hbi.out (Nat.le_refl _))
            have HKl : Hid (∀ i, i < l.length → TxOk (txOf (l.getD i dS))) := Lib.hid (fun i hi => (HZ.out i hi).2.2)
            have HKt : Hid (∀ x ∈ tx, TxOk x) := Lib.hid (fun x hx => by obtain ⟨i, hi, e⟩ := HTO.out x hx; rw [← e]; exact HKl.out i (mem_ordL.1 hi).1)
            have HBe := Lib.hid (model_behindW l tx _ _ wr HIs.out HTi.out (by omega) (by omega) HIdx.out HSz.out HKt.out HKl.out (HM.out.below HBi.out (Nat.le_refl _)))
            go_wp2_with fail
            refine HBe.out.mono ?_
            rintro e w5 ⟨v5, he5, hr5, hb5⟩
            rw [parts_all HTO.out] at he5
            rw [parts_rows HTM.out] at hr5
            subst he5
            have HB5 : Hid (Below w.heap.size w w5) := Lib.hid (HBi.out.trans (hb5.mono HBi.out.size))
            have HR5 := Lib.hid hr5
            have HBf := Lib.hid (model_behindW l [] _ (.slice none 0 0) w5 (HV.out.below HB5.out (Nat.le_refl _)) ⟨none, 0, rfl, Or.inl rfl⟩ (by omega) (by simp) HIdx.out HSz.out (fun x hx => absurd hx (by simp)) HKl.out (HM.out.below HB5.out (Nat.le_refl _)))
            clear hb5 hr5 HBe HTi HIs hbi
            go_wp2_with fail
            refine HBf.out.mono ?_
            rintro e w6 ⟨v6, he6, hr6, hb6⟩
            rw [(parts_none l (ordS l)).2] at he6
            rw [(parts_none l (ordS l)).1] at hr6
            subst he6
            obtain ⟨a6, c6, rfl, _⟩ := hr6
            have HB6 : Hid (Below w.heap.size w w6) := Lib.hid (HB5.out.trans (hb6.mono HB5.out.size))
            have HR6 := Lib.hid (HR5.out.below hb6 (Nat.le_refl _))
            have HRo := Lib.hid (model_rowsW l _ w6 (HV.out.below HB6.out (Nat.le_refl _)) (by omega) HIdx.out HSz.out (HM.out.below HB6.out (Nat.le_refl _)))
            clear hb6 HBf HR5
            go_wp2_with fail
            refine HRo.out.mono ?_
            rintro e w7 ⟨v7, rfl, hr7, hb7⟩
            have HB7 : Hid (Below w.heap.size w w7) := Lib.hid (HB6.out.trans (hb7.mono HB6.out.size))
            obtain ⟨M, hM, hg, hs⟩ := rows_good l HSz.out (Nat.le_trans (ordL_le _ _) (by omega))
            have hr5 := HR6.out.below hb7 (Nat.le_refl _)
            rw [hM] at hr7 hr5
            have HSm := Lib.hid (ref18_same (rowsL M) v5 v7 w7 hr5 hr7 (by rw [rows_length hg.canon]; omega) (fun i hi => by have := may_len ((Good.okR hg).at hi).1.2.1; omega))
            clear hb7 hr7 hr5 hM hg hs HRo HR6
            go_wp2_with fail
            refine HSm.out.mono ?_
            rintro e w8 ⟨rfl, hb8⟩
            have HB8 : Hid (Below w.heap.size w w8) := Lib.hid (HB7.out.trans (hb8.mono HB7.out.size))
            clear hb8 HSm
            go_wp2_with fail
            refine (HAl.out _ HB8.out).mono ?_
            rintro e w9 ⟨rfl, hb9⟩
            have HB9 : Hid (Below w.heap.size w w9) := Lib.hid (HB8.out.trans (hb9.mono HB8.out.size))
            clear hb9
            go_wp2_with fail
            go_ret
            exact ⟨rfl, HB9.out⟩
end Go.Proofs.YtfbgnpfhjbiikaaGreatDoor

namespace Go.Proofs.YtfbgnpfhjbiikaaGreatDoor
open Go Go.RowKit
open Pth
theorem IsGots.but {S : Nat → Prop} {w w' : World} {v : Value} {l : List GotR} (h : IsGots w v l) (hb : ButS S w w') (hS : l ≠ [] → ∀ k, v.ownBlock = some k → ¬ S k) : IsGots w' v l := by
  obtain ⟨a, cap, hv, h⟩ := h
  refine ⟨a, cap, hv, ?_⟩
  rcases h with h | ⟨b2, off, ha, hlt, hc⟩
  · exact Or.inl h
  · by_cases hl : l = []
    · exact Or.inl hl
    have hn : ¬ S b2 := hS hl b2 (by rw [hv, ha]; rfl)
    refine Or.inr ⟨b2, off, ha, Nat.lt_of_lt_of_le hlt hb.size, fun i hi => ?_⟩
    obtain ⟨h0, h1, h2, h3⟩ := hc i hi
    exact ⟨(hb.cell hlt hn).trans h0, (hb.cell hlt hn).trans h1, (hb.cell hlt hn).trans h2, (hb.cell hlt hn).trans h3⟩
theorem IsNums.but3 {S : Nat → Prop} {w w' : World} {v : Value} {l : List Nat} (h : IsNums w v l) (hb : ButS S w w') (hS : l ≠ [] → ∀ k, v.ownBlock = some k → ¬ S k) : IsNums w' v l := by
  obtain ⟨a, cap, hv, h⟩ := h
  refine ⟨a, cap, hv, ?_⟩
  rcases h with h | ⟨b2, off, ha, hlt, hc⟩
  · exact Or.inl h
  · by_cases hl : l = []
    · exact Or.inl hl
    have hn : ¬ S b2 := hS hl b2 (by rw [hv, ha]; rfl)
    exact Or.inr ⟨b2, off, ha, Nat.lt_of_lt_of_le hlt hb.size, fun i hi => (hb.cell hlt hn).trans (hc i hi)⟩
theorem IsStrs.but3 {S : Nat → Prop} {w w' : World} {v : Value} {l : List ByteArray} (h : IsStrs w v l) (hb : ButS S w w') (hS : l ≠ [] → ∀ k, v.ownBlock = some k → ¬ S k) : IsStrs w' v l := by
  obtain ⟨a, cap, hv, h⟩ := h
  refine ⟨a, cap, hv, ?_⟩
  rcases h with h | ⟨b2, off, ha, hlt, hc⟩
  · exact Or.inl h
  · by_cases hl : l = []
    · exact Or.inl hl
    have hn : ¬ S b2 := hS hl b2 (by rw [hv, ha]; rfl)
    exact Or.inr ⟨b2, off, ha, Nat.lt_of_lt_of_le hlt hb.size, fun i hi => (hb.cell (p := ⟨b2, _, none⟩) hlt hn).trans (hc i hi)⟩
theorem IsGots.lt {w : World} {v : Value} {l : List GotR} (h : IsGots w v l) (hl : l ≠ []) : ∀ k, v.ownBlock = some k → k < w.heap.size := by
  obtain ⟨a, cap, hv, h⟩ := h
  rcases h with h | ⟨b2, off, ha, hlt, _⟩
  · exact absurd h hl
  · intro k hk; rw [hv, ha] at hk; cases hk; exact hlt
theorem IsNums.lt {w : World} {v : Value} {l : List Nat} (h : IsNums w v l) (hl : l ≠ []) : ∀ k, v.ownBlock = some k → k < w.heap.size := by
  obtain ⟨a, cap, hv, h⟩ := h
  rcases h with h | ⟨b2, off, ha, hlt, _⟩
  · exact absurd h hl
  · intro k hk; rw [hv, ha] at hk; cases hk; exact hlt
theorem IsStrs.lt {w : World} {v : Value} {l : List ByteArray} (h : IsStrs w v l) (hl : l ≠ []) : ∀ k, v.ownBlock = some k → k < w.heap.size := by
  obtain ⟨a, cap, hv, h⟩ := h
  rcases h with h | ⟨b2, off, ha, hlt, _⟩
  · exact absurd h hl
  · intro k hk; rw [hv, ha] at hk; cases hk; exact hlt

end Go.Proofs.YtfbgnpfhjbiikaaGreatDoor

namespace Go.Proofs.YtfbgnpfhjbiikaaGreatDoor
open Go Go.RowKit
open Pth
open Go.Maps (has size Canon CanonK Tidy IsMap KeysOf Keyed Merged)
def doM (M : DataW Cel) (c : Cal) : Done := doesT M (bytesR (rowsL M)) QQ QQ c
def tolM (cs : List Cal) : Nat → DataW Cel
  | 0 => .map []
  | k + 1 => (doM (tolM cs k) (cs.getD k dCal)).M
def tolS (i : Nat) (c : Cal) (d : Done) (lost : Bool) : Sto :=
  if d.is = false then ⟨0, c, 2 * i + 1, 2 * i + 2, false, 1, i + 1, 0, 170, [], [], []⟩
  else if lost then ⟨0, c, 2 * i + 1, 0, true, 1, i + 1, i + 1, 0, [], [], []⟩
  else ⟨0, c, 2 * i + 1, 2 * i + 2, false, 1, i + 1, i + 1, 0, d.got, d.nums, d.names⟩
def tolA (cs : List Cal) (lost : List Bool) (k : Nat) : Sto := tolS k (cs.getD k dCal) (doM (tolM cs k) (cs.getD k dCal)) (lost.getD k false)
def edN (cs : List Cal) : Nat → Nat
  | 0 => 0
  | k + 1 => edN cs k + (cs.getD k dCal).eds.length
theorem tolM_good (cs : List Cal) : ∀ k, Good Tryz.prog 9 (tolM cs k) ∧ size (tolM cs k) ≤ edN cs k
  | 0 => ⟨good_none _ _, by simp [tolM, size]⟩
  | k + 1 => by
    obtain ⟨h1, h2⟩ := tolM_good cs k
    obtain ⟨g1, _, g3⟩ := does_good (q1 := QQ) (q2 := QQ) (c := cs.getD k dCal) h1
    exact ⟨g1, by show _ ≤ edN cs k + _; exact Nat.le_trans g3 (by omega)⟩
theorem doM_not {M : DataW Cel} {c : Cal} (h : (doM M c).is = false) : (doM M c).M = M := by
  unfold doM doesT at *
  split at h
  · rename_i hk
    rw [if_pos hk]
    simp only [decide_eq_false_iff_not] at h
    simp only [nextM, if_neg h]
  · split at h <;> simp at h

section
variable {cs : List Cal} {lost : List Bool}
theorem tolA_com (i : Nat) : (tolA cs lost i).com = if (doM (tolM cs i) (cs.getD i dCal)).is = false then 0 else (i : Int) + 1 := by
  unfold tolA tolS
  split
  · rfl
  · split <;> rfl
theorem tolA_frm (i : Nat) : (tolA cs lost i).frm = 2 * i + 1 := by
  unfold tolA tolS
  split
  · rfl
  · split <;> rfl
theorem tolA_til (i : Nat) : (tolA cs lost i).til = 2 * i + 2 ∨ (tolA cs lost i).til = 0 := by
  unfold tolA tolS
  split
  · exact Or.inl rfl
  · split
    · exact Or.inr rfl
    · exact Or.inl rfl
theorem tolA_call (i : Nat) : (tolA cs lost i).call = cs.getD i dCal := by
  unfold tolA tolS
  split
  · rfl
  · split <;> rfl
theorem tolA_alone (i : Nat) : aloneT (tolA cs lost i) = 0 := by
  have h1 : (1 : Int) ≤ 2 * i + 1 := by omega
  unfold aloneT
  have hb1 : aloneB1 (tolA cs lost i) = false := by
    unfold tolA tolS aloneB1
    split
    · simp; omega
    · split
      · simp; omega
      · simp; omega
  have hb2 : aloneB2 (tolA cs lost i) = false := by
    unfold tolA tolS aloneB2
    split
    · simp
    · split
      · simp
      · simp <;> omega
  rw [hb1, hb2]; rfl
theorem tolA_right (i : Nat) : wrongR (doM (tolM cs i) (cs.getD i dCal)) (tolA cs lost i) = false ∨ (doM (tolM cs i) (cs.getD i dCal)).is = false := by
  by_cases h : (doM (tolM cs i) (cs.getD i dCal)).is = false
  · exact Or.inr h
  · left
    unfold tolA tolS
    rw [if_neg h]
    split
    · exact wrongR_false (by simp)
    · rw [wrongR_of (r := true) (by simp; omega) ⟨fun _ => ⟨rfl, rfl, rfl⟩, fun _ => rfl⟩]; rfl
theorem tolM_skip {a : Nat} : ∀ b, a ≤ b → (∀ i, a ≤ i → i < b → (doM (tolM cs i) (cs.getD i dCal)).is = false) → tolM cs b = tolM cs a := by
  intro b hab
  induction b with
  | zero => intro _; obtain rfl : a = 0 := by omega
            rfl
  | succ b ih =>
    intro h
    by_cases e : a = b + 1
    · rw [e]
    · rw [← ih (by omega) (fun i h1 h2 => h i h1 (by omega))]
      exact doM_not (h b (by omega) (by omega))
end
structure SomeT (cs : List Cal) (lost : List Bool) (n : Nat) (idx : List Nat) : Prop where
  lt : ∀ i ∈ idx, i < n
  up : idx.Pairwise (· < ·)
  all : ∀ i, i < n → (doM (tolM cs i) (cs.getD i dCal)).is = true → i ∈ idx
section
variable {cs : List Cal} {lost : List Bool} {n : Nat} {idx : List Nat}
def jAt (idx : List Nat) (p : Nat) : Nat := idx.getD p 0
theorem jAt_get {p : Nat} (h : p < idx.length) : jAt idx p = idx[p] := by unfold jAt; rw [List.getD_eq_getElem?_getD, List.getElem?_eq_getElem h]; rfl
theorem SomeT.mono (h : SomeT cs lost n idx) {p q : Nat} (hq : q < idx.length) (hpq : p < q) : jAt idx p < jAt idx q := by
  rw [jAt_get hq, jAt_get (show p < idx.length by omega)]
  exact List.pairwise_iff_getElem.1 h.up p q (by omega) hq hpq
theorem some_at {p : Nat} (h : p < idx.length) : (idx.map (tolA cs lost)).getD p dS = tolA cs lost (jAt idx p) := by
  rw [jAt_get h]; simp [List.getD_eq_getElem?_getD, h]
def isP (cs : List Cal) (idx : List Nat) (p : Nat) : Bool := (doM (tolM cs (jAt idx p)) (cs.getD (jAt idx p) dCal)).is
theorem some_com {p : Nat} (h : p < idx.length) : comF (idx.map (tolA cs lost)) p = if isP cs idx p = false then 0 else (jAt idx p : Int) + 1 := by
  unfold comF
  rw [some_at h, tolA_com]; rfl
theorem SomeT.ord (h : SomeT cs lost n idx) : ordS (idx.map (tolA cs lost)) = (List.range idx.length).filter (isP cs idx) := by
  unfold ordS
  rw [List.length_map]
  have he : (List.range idx.length).filter (fun i => decide (0 < comF (idx.map (tolA cs lost)) i)) = (List.range idx.length).filter (isP cs idx) := by
    refine List.filter_congr (fun p hp => ?_)
    rw [some_com (List.mem_range.1 hp)]
    cases hi : isP cs idx p with
    | false => simp
    | true => simp <;> omega
  refine (ordL_uniq (by rw [he]) ?_).symm
  have hlt : ((List.range idx.length).filter (isP cs idx)).Pairwise (· < ·) := List.Pairwise.filter _ List.pairwise_lt_range
  refine hlt.imp_of_mem (fun {a b} ha hb hab => ?_)
  obtain ⟨ha1, ha2⟩ := List.mem_filter.1 ha
  obtain ⟨hb1, hb2⟩ := List.mem_filter.1 hb
  have := h.mono (List.mem_range.1 hb1) hab
  simp only [leS, decide_eq_true_eq]
  rw [some_com (List.mem_range.1 ha1), some_com (List.mem_range.1 hb1), if_neg (by simp [ha2]), if_neg (by simp [hb2])]
  omega
def restP (cs : List Cal) (idx : List Nat) (p : Nat) : List Nat := (List.range' p (idx.length - p)).filter (isP cs idx)
theorem restP_no {p : Nat} (hp : p < idx.length) (h : isP cs idx p = false) : restP cs idx p = restP cs idx (p + 1) := by
  unfold restP
  rw [show idx.length - p = (idx.length - (p + 1)) + 1 by omega, List.range'_succ, List.filter_cons_of_neg (by simp [h])]
theorem restP_yes {p : Nat} (hp : p < idx.length) (h : isP cs idx p = true) : restP cs idx p = p :: restP cs idx (p + 1) := by
  unfold restP
  rw [show idx.length - p = (idx.length - (p + 1)) + 1 by omega, List.range'_succ, List.filter_cons_of_pos h]
theorem restP_mem {p q : Nat} (h : q ∈ restP cs idx p) : p ≤ q ∧ q < idx.length ∧ isP cs idx q = true := by
  unfold restP at h
  obtain ⟨h1, h2⟩ := List.mem_filter.1 h
  rw [List.mem_range'_1] at h1
  exact ⟨h1.1, by omega, h2⟩
theorem SomeT.notLate (h : SomeT cs lost n idx) {o : List Nat} (ho : o = (List.range idx.length).filter (isP cs idx)) {k p : Nat} (hp : p < idx.length) (hd : o.drop k = p :: restP cs idx (p + 1)) (hi : isP cs idx p = true) : lateT (idx.map (tolA cs lost)) o k = false := by
  have hk : k < o.length := by
    rcases Nat.lt_or_ge k o.length with h | h
    · exact h
    · rw [List.drop_of_length_le h] at hd; cases hd
  have hd2 := hd
  rw [List.drop_eq_getElem_cons hk] at hd2
  injection hd2 with h1 h2
  have hg : o.getD k 0 = p := by rw [List.getD_eq_getElem?_getD, List.getElem?_eq_getElem hk]; exact h1
  have hup : o.Pairwise (· < ·) := by rw [ho]; exact List.Pairwise.filter _ List.pairwise_lt_range
  unfold lateT
  rw [hg, h2, some_at hp, Bool.or_eq_false_iff]
  constructor
  · by_cases hk0 : 0 < k
    · have hk1 : k - 1 < o.length := by omega
      have hlt : o[k - 1] < o[k] := List.pairwise_iff_getElem.1 hup (k - 1) k hk1 hk (by omega)
      have hm : o[k - 1] ∈ o := List.getElem_mem hk1
      have hg1 : o.getD (k - 1) 0 = o[k - 1] := by rw [List.getD_eq_getElem?_getD, List.getElem?_eq_getElem hk1]; rfl
      rw [hg1]
      obtain ⟨q0, hq0⟩ : ∃ q0, o[k - 1] = q0 := ⟨_, rfl⟩
      rw [hq0] at hm hlt ⊢
      rw [ho] at hm
      obtain ⟨hq, hqi⟩ := List.mem_filter.1 hm
      have hq2 := List.mem_range.1 hq
      rw [h1] at hlt
      have hj := h.mono hp hlt
      rw [some_at hq2, tolA_com, tolA_com]
      have e1 : ¬ (doM (tolM cs (jAt idx q0)) (cs.getD (jAt idx q0) dCal)).is = false := by
        have : isP cs idx q0 = true := hqi
        unfold isP at this; rw [this]; simp
      have e2 : ¬ (doM (tolM cs (jAt idx p)) (cs.getD (jAt idx p) dCal)).is = false := by
        unfold isP at hi; rw [hi]; simp
      rw [if_neg e1, if_neg e2]
      simp; omega
    · simp [hk0]
  · rw [List.any_eq_false]
    intro q hq
    obtain ⟨q1, q2, _⟩ := restP_mem hq
    have hj := h.mono q2 (show p < q by omega)
    rw [some_at q2, tolA_frm]
    rcases tolA_til (cs := cs) (lost := lost) (jAt idx q) with e | e
    · rw [e]; simp; omega
    · rw [e]; simp
theorem SomeT.runs (h : SomeT cs lost n idx) {o : List Nat} (ho : o = (List.range idx.length).filter (isP cs idx)) : ∀ (d p k m : Nat), idx.length - p = d → p ≤ idx.length → o.drop k = restP cs idx p → m ≤ n → (p < idx.length → m ≤ jAt idx p) →
    (∀ i, m ≤ i → i < n → (doM (tolM cs i) (cs.getD i dCal)).is = true → ∃ q, p ≤ q ∧ q < idx.length ∧ jAt idx q = i) →
    chkT (idx.map (tolA cs lost)) o k (restP cs idx p) (tolM cs m, (bytesR (rowsL (tolM cs m)) : Int)) = ⟨true, 0, 0⟩ ∧ (runM (idx.map (tolA cs lost)) (restP cs idx p) (tolM cs m, (bytesR (rowsL (tolM cs m)) : Int))).1 = tolM cs n
  | 0, p, k, m, hd, hp, hdr, hm, hmj, hall => by
    have he : restP cs idx p = [] := by unfold restP; rw [hd]; rfl
    rw [he]
    refine ⟨rfl, ?_⟩
    show tolM cs m = tolM cs n
    refine (tolM_skip n hm (fun i h1 h2 => ?_)).symm
    cases hi : (doM (tolM cs i) (cs.getD i dCal)).is with
    | false => rfl
    | true => obtain ⟨q, q1, q2, _⟩ := hall i h1 h2 hi; omega
  | d + 1, p, k, m, hd, hp, hdr, hm, hmj, hall => by
    have hpl : p < idx.length := by omega
    have hjn : jAt idx p < n := h.lt _ (by rw [jAt_get hpl]; exact List.getElem_mem hpl)
    have hsk : tolM cs (jAt idx p) = tolM cs m := tolM_skip _ (hmj hpl) (fun i h1 h2 => by
      cases hi : (doM (tolM cs i) (cs.getD i dCal)).is with
      | false => rfl
      | true =>
        obtain ⟨q, q1, q2, q3⟩ := hall i h1 (by omega) hi
        by_cases e : q = p
        · subst e; omega
        · have := h.mono q2 (show p < q by omega); omega)
    have hall2 : ∀ i, jAt idx p + 1 ≤ i → i < n → (doM (tolM cs i) (cs.getD i dCal)).is = true → ∃ q, p + 1 ≤ q ∧ q < idx.length ∧ jAt idx q = i := fun i h1 h2 h3 => by
      obtain ⟨q, q1, q2, q3⟩ := hall i (by have := hmj hpl; omega) h2 h3
      refine ⟨q, ?_, q2, q3⟩
      by_cases e : q = p
      · subst e; omega
      · omega
    cases hi : isP cs idx p with
    | false =>
      rw [restP_no hpl hi] at hdr ⊢
      have hst : tolM cs (jAt idx p + 1) = tolM cs m := by rw [← hsk]; exact doM_not hi
      have := SomeT.runs h ho d (p + 1) k (jAt idx p + 1) (by omega) (by omega) hdr (by omega) (fun hp2 => h.mono hp2 (by omega)) hall2
      rw [hst] at this
      exact this
    | true =>
      rw [restP_yes hpl hi] at hdr ⊢
      have hlate := h.notLate ho hpl hdr hi
      have hdr2 : o.drop (k + 1) = restP cs idx (p + 1) := by
        rw [← List.drop_drop, hdr]; rfl
      have hrec := SomeT.runs h ho d (p + 1) (k + 1) (jAt idx p + 1) (by omega) (by omega) hdr2 (by omega) (fun hp2 => h.mono hp2 (by omega)) hall2
      have hca : ((idx.map (tolA cs lost)).getD p dS).call = cs.getD (jAt idx p) dCal := by rw [some_at hpl, tolA_call]
      have hdo : doesT (tolM cs m) (bytesR (rowsL (tolM cs m))) QQ QQ ((idx.map (tolA cs lost)).getD p dS).call = doM (tolM cs (jAt idx p)) (cs.getD (jAt idx p) dCal) := by rw [hca, hsk]; rfl
      have hB : (doM (tolM cs (jAt idx p)) (cs.getD (jAt idx p) dCal)).B = bytesR (rowsL (tolM cs (jAt idx p + 1))) := (does_good (q1 := QQ) (q2 := QQ) (c := cs.getD (jAt idx p) dCal) (tolM_good cs (jAt idx p)).1).2.1
      have hisT : (doM (tolM cs (jAt idx p)) (cs.getD (jAt idx p) dCal)).is = true := hi
      have hw : wrongR (doM (tolM cs (jAt idx p)) (cs.getD (jAt idx p) dCal)) ((idx.map (tolA cs lost)).getD p dS) = false := by
        rw [some_at hpl]
        rcases tolA_right (cs := cs) (lost := lost) (jAt idx p) with e | e
        · exact e
        · rw [hisT] at e; cases e
      constructor
      · unfold chkT
        rw [hlate]
        simp only [Bool.false_eq_true, if_false]
        rw [hdo, hisT, hw]
        simp only [Bool.true_eq_false, Bool.false_eq_true, if_false]
        rw [hB]
        exact hrec.1
      · unfold runM
        simp only
        rw [hdo, hB]
        exact hrec.2
theorem SomeT.right (h : SomeT cs lost n idx) : checkT (idx.map (tolA cs lost)) = ⟨true, 0, 0⟩ ∧ rowsS (idx.map (tolA cs lost)) = rowsL (tolM cs n) := by
  have ho := h.ord
  have hr0 : restP cs idx 0 = (List.range idx.length).filter (isP cs idx) := by unfold restP; rw [Nat.sub_zero, List.range_eq_range']
  have h0 := h.runs ho _ 0 0 0 rfl (Nat.zero_le _) (by rw [List.drop_zero, ho, hr0]) (Nat.zero_le _) (fun _ => Nat.zero_le _) (fun i _ h2 h3 => by
    obtain ⟨q, hq, e⟩ := List.getElem_of_mem (h.all i h2 h3)
    exact ⟨q, Nat.zero_le _, hq, by rw [jAt_get hq]; exact e⟩)
  have hz : (tolM cs 0, (bytesR (rowsL (tolM cs 0)) : Int)) = (DataW.map [], 0) := by
    show (DataW.map [], (bytesR (rowsL (.map [])) : Int)) = _
    rw [rowsL_nil]; rfl
  rw [hz, hr0, ← ho] at h0
  refine ⟨?_, ?_⟩
  · rw [bad_miss (fun j hj => ?_)]
    · exact h0.1
    · rw [List.length_map] at hj
      rw [some_at hj]; exact tolA_alone _
  · unfold rowsS
    rw [h0.2]
end
end Go.Proofs.YtfbgnpfhjbiikaaGreatDoor

namespace Go.Proofs.YtfbgnpfhjbiikaaGreatDoor
open Go Go.RowKit
open Pth
def AllK (K : Nat → Value → Prop) (sz : Nat) (w : World) (o : Option Nat) : Prop := ∀ g, o = some g → ∀ j u, w.cell? ⟨g, j, none⟩ = some u → K (j % sz) u
theorem AllK.nil {K : Nat → Value → Prop} {sz : Nat} {w : World} : AllK K sz w Option.none := fun g h => by cases h
theorem AllK.but {K : Nat → Value → Prop} {sz : Nat} {S : Nat → Prop} {w w' : World} {o : Option Nat} (h : AllK K sz w o) (hb : ButS S w w') (hS : ∀ g, o = some g → ¬ S g ∧ g < w.heap.size) : AllK K sz w' o := by
  intro g hg j u hu
  obtain ⟨h1, h2⟩ := hS g hg
  exact h g hg j u ((hb.cell (p := ⟨g, j, none⟩) h2 h1).symm.trans hu)
section
variable {P : Program} {w : World}
end
def kindS (j : Nat) (u : Value) : Prop :=
  if j = 4 then ∃ s, u = .string s else if j = 5 ∨ j = 6 ∨ j = 11 ∨ j = 12 then ∃ n, u = .int .u64 n else if j = 1 then ∃ n, u = .int .u8 n else (∀ s, u ≠ .string s) ∧ (∀ n, u ≠ .int .u64 n) ∧ ∀ n, u ≠ .int .u8 n
theorem storiesBare {w : World} {g : Nat} (h : AllK kindS 18 w (some g)) : (∀ o s n v, w.cell? ⟨g, o, none⟩ = some (.string s) → w.cell? ⟨g, o + 1, none⟩ = some (.int .u64 n) → w.cell? ⟨g, o + 2, none⟩ = some v → ∃ m, v = .int .u64 m) ∧ NoVers w g := by
  constructor
  · intro o s n v h1 h2 h3
    have k1 := h g rfl o _ h1
    have k3 := h g rfl (o + 2) _ h3
    unfold kindS at k1 k3
    have e : o % 18 = 4 := by
      by_cases e : o % 18 = 4
      · exact e
      · rw [if_neg e] at k1
        split at k1
        · obtain ⟨m, hm⟩ := k1; cases hm
        · split at k1
          · obtain ⟨m, hm⟩ := k1; cases hm
          · exact absurd rfl (k1.1 s)
    have e3 : (o + 2) % 18 = 6 := by omega
    rw [e3, if_neg (by decide), if_pos (by decide)] at k3
    exact k3
  · intro o n s h1 h2
    have k1 := h g rfl o _ h1
    have k2 := h g rfl (o + 1) _ h2
    unfold kindS at k1 k2
    have e : o % 18 = 5 ∨ o % 18 = 6 ∨ o % 18 = 11 ∨ o % 18 = 12 := by
      by_cases e4 : o % 18 = 4
      · rw [if_pos e4] at k1; obtain ⟨m, hm⟩ := k1; cases hm
      · rw [if_neg e4] at k1
        by_cases e : o % 18 = 5 ∨ o % 18 = 6 ∨ o % 18 = 11 ∨ o % 18 = 12
        · exact e
        · rw [if_neg e] at k1
          split at k1
          · obtain ⟨m, hm⟩ := k1; cases hm
          · exact absurd rfl (k1.2.1 n)
    have e1 : (o + 1) % 18 ≠ 1 := by omega
    have e4 : (o + 1) % 18 ≠ 4 := by omega
    rw [if_neg e4] at k2
    split at k2
    · obtain ⟨m, hm⟩ := k2; cases hm
    · exact absurd rfl (k2.2.2 s)
theorem IsRows.but3 {S : Nat → Prop} {w w' : World} {v : Value} {l : List (ByteArray × Cel)} (h : IsRows w v l) (hb : ButS S w w') (hS : ∀ k, S k → Bare w k ∨ AllK kindS 18 w (some k)) : IsRows w' v l := by
  obtain ⟨a, cap, hv, h⟩ := h
  refine ⟨a, cap, hv, ?_⟩
  rcases h with h | ⟨b2, off, ha, hlt, hc⟩
  · exact Or.inl h
  · by_cases hl : l = []
    · exact Or.inl hl
    have hn : ¬ S b2 := by
      intro hs
      obtain ⟨h1, h2, s, h3, hv⟩ := hc 0 (List.length_pos_iff.2 hl)
      rcases hS b2 hs with hb | hk
      · exact (hb _ _ h1).2 _ rfl
      · obtain ⟨m, hm⟩ := (storiesBare hk).1 _ _ _ _ h1 h2 h3
        obtain ⟨a', c', e, _⟩ := hv
        rw [e] at hm; cases hm
    refine Or.inr ⟨b2, off, ha, by have := hb.size; omega, fun i hi => ?_⟩
    obtain ⟨h1, h2, s, h3, hs⟩ := hc i hi
    exact ⟨(hb.cell hlt hn).trans h1, (hb.cell hlt hn).trans h2, s, (hb.cell hlt hn).trans h3, hs.but hb (fun k hk => by
      rcases hS k hk with hb | hk
      · exact hb.noVers
      · exact (storiesBare hk).2)⟩
theorem RefAt.but3 {S : Nat → Prop} {w w' : World} {t : Nat} {q1 q2 : Int} {R : List Rw} (h : RefAt w t q1 q2 R) (hb : ButS S w w') (hS : ∀ k, S k → Bare w k ∨ AllK kindS 18 w (some k)) (ht : ¬ S t) : RefAt w' t q1 q2 R := by
  have hl := h.lt
  obtain ⟨a, c, h2, hr, hcp⟩ := h.c2
  exact ⟨(hb.cell hl ht).trans h.c0, (hb.cell hl ht).trans h.c1, ⟨a, c, (hb.cell hl ht).trans h2, hr.but3 hb hS, hcp⟩, fun j => (hb.cell hl ht).trans (h.cn j), (hb.frozen hl ht).trans h.f2⟩
end Go.Proofs.YtfbgnpfhjbiikaaGreatDoor

namespace Go.Proofs.YtfbgnpfhjbiikaaGreatDoor
open Go Go.RowKit
open Pth
open Go.Maps (has size Canon CanonK Tidy IsMap KeysOf Keyed Merged)
structure TolIs (w0 w : World) (s5 : Value) (t : Nat) (x : Five × Sto) : Prop where
  c : CalIs w0 x.1.r x.1.e x.2.call
  g : IsGots w x.1.g x.2.got
  n : IsNums w x.1.n x.2.nums
  m : IsStrs w x.1.m x.2.names
  fg : x.2.got ≠ [] → ∀ k, x.1.g.ownBlock = some k → ¬ (k = t ∨ s5.ownBlock = some k)
  fn : x.2.nums ≠ [] → ∀ k, x.1.n.ownBlock = some k → ¬ (k = t ∨ s5.ownBlock = some k)
  fm : x.2.names ≠ [] → ∀ k, x.1.m.ownBlock = some k → ¬ (k = t ∨ s5.ownBlock = some k)
theorem TolIs.but {w0 w w' : World} {s5 s5' : Value} {t t' : Nat} {x : Five × Sto} (h : TolIs w0 w s5 t x) (hb : ButS (fun k => k = t ∨ s5.ownBlock = some k) w w')
    (h5 : ∀ k, s5'.ownBlock = some k → s5.ownBlock = some k ∨ w.heap.size ≤ k) (ht : t' = t ∨ w.heap.size ≤ t') : TolIs w0 w' s5' t' x := by
  have far : ∀ k, k < w.heap.size → ¬ (k = t ∨ s5.ownBlock = some k) → ¬ (k = t' ∨ s5'.ownBlock = some k) := by
    rintro k hk hn (e | e)
    · rcases ht with h | h
      · exact hn (Or.inl (e.trans h))
      · omega
    · rcases h5 k e with h | h
      · exact hn (Or.inr h)
      · omega
  exact ⟨h.c, h.g.but hb h.fg, h.n.but3 hb h.fn, h.m.but3 hb h.fm, fun hl k hk => far k (h.g.lt hl k hk) (h.fg hl k hk), fun hl k hk => far k (h.n.lt hl k hk) (h.fn hl k hk), fun hl k hk => far k (h.m.lt hl k hk) (h.fm hl k hk)⟩
end Go.Proofs.YtfbgnpfhjbiikaaGreatDoor

namespace Go.Proofs.YtfbgnpfhjbiikaaGreatDoor
open Go Go.ChangeShapes Go.WideShapes Go.ChangeAt Go.RowKit
theorem list7 {α : Type} {l : List α} (h : l.length = 7) : ∃ c0 c1 c2 c3 c4 c5 c6, l = [c0, c1, c2, c3, c4, c5, c6] := by
  match l, h with
  | [c0, c1, c2, c3, c4, c5, c6], _ => exact ⟨c0, c1, c2, c3, c4, c5, c6, rfl⟩
theorem cRdS : Tryz.prog.cellsOf 133 = 2 := by kernel_rfl
theorem cCallS : Tryz.prog.cellsOf 80 = 7 := by kernel_rfl
theorem cRdsS : Tryz.prog.cellsOf 75 = 1 := by kernel_rfl
theorem cEdsS : Tryz.prog.cellsOf 23 = 1 := by kernel_rfl
theorem cRgS : Tryz.prog.cellsOf 77 = 2 := by kernel_rfl
theorem cU32S : Tryz.prog.cellsOf 78 = 1 := by kernel_rfl
theorem wf_u8S {n : Int} (h : (Lit.int .u8 n).wf = true) : 0 ≤ n ∧ n < 256 := by
  simp [Lit.wf, IntKind.min, IntKind.max, IntKind.signed, IntKind.bits] at h; omega
theorem wf_u32S {n : Int} (h : (Lit.int .u32 n).wf = true) : 0 ≤ n ∧ n < 4294967296 := by
  simp [Lit.wf, IntKind.min, IntKind.max, IntKind.signed, IntKind.bits] at h; omega
def rdDataS {H : Type} (r : Rd) : DataW H := .agg [.lit (.string r.path.data.toList), .lit (.int .u64 (r.n : Int))]
def rdCellsS (r : Rd) : List Value := [.string r.path, .int .u64 r.n]
def CalD {H : Type} (c : Cal) (d : DataW H) : Prop :=
  ∃ dR dE : DataW H, d = .agg [.lit (.int .u8 (c.kind : Int)), dR, dE, .lit (.string c.pre.data.toList), .agg [.lit (.int .u64 (c.f : Int)), .lit (.int .u64 (c.t : Int))], .lit (.int .u32 (c.dst : Int))] ∧
    (dR = .nil ∧ c.rds = [] ∨ ∃ sr, dR = .slice (c.rds.map rdDataS) sr) ∧ (dE = .nil ∧ c.eds = [] ∨ ∃ sr, dE = .slice (c.eds.map edtData) sr)
section
variable {H : Type} {enc : TypeId × Value → H} {w : World} {base : Nat} {sp : Nat → Bool} {held : Bool}
set_option maxRecDepth 100000 in
theorem trod_relD {α : Type} {k : Nat} {t e : TypeId} (z : α) (R : List Value → α → DataW H → Prop) (ht : Tryz.prog.underlying t = some (.slice e)) (hc : Tryz.prog.cellsOf e = k) (hk : 0 < k) (hlen : ∀ cs a n, R cs a n → cs.length = k)
    (hel : ∀ {fuel : Nat} {cs : List Value} {x : DataW H × List MemPlace}, DataW.trod enc Tryz.prog w base sp held fuel e cs = some x → ∃ a : α, R cs a x.1)
    {fuel : Nat} {cs : List Value} {x : DataW H × List MemPlace} (h : DataW.trod enc Tryz.prog w base sp held fuel t cs = some x) :
    ∃ (a0 : Option Addr) (cap : Nat) (l : List α) (Df : Nat → DataW H), cs = [.slice a0 l.length cap] ∧ l.length ≤ cap ∧ (x.1 = .nil ∧ l = [] ∨ ∃ sr, x.1 = .slice ((List.range l.length).map Df) sr) ∧ (l = [] ∨ ∃ b off, a0 = some ⟨b, off, none⟩ ∧ b < w.heap.size ∧ ∀ i, i < l.length →
      ∃ cs', (∀ j u, cs'[j]? = some u → w.cell? ⟨b, off + i * k + j, none⟩ = some u) ∧ R cs' (l.getD i z) (Df i)) := by
  rcases Go.Deep.open_slice ht h with ⟨hcs, hx⟩ | ⟨a, len, cap, m, n, Df, Pl, hcs, _, hl, _, hm, hx, he⟩
  · exact ⟨none, 0, [], fun _ => .nil, hcs, Nat.le_refl _, Or.inl ⟨by rw [hx], rfl⟩, Or.inl rfl⟩
  · have hlm : len ≤ m := by rw [hm]; split <;> omega
    have hE : ∀ i, ∃ y : α × List Value, i < len → R y.2 y.1 (Df i) ∧ (∀ j, j < k → w.cell? ((a.add (i * k)).add j) = y.2[j]?) := by
      intro i
      by_cases hi : i < len
      · obtain ⟨cs', h1, h2⟩ := he i (by omega)
        rw [hc] at h1
        obtain ⟨y, hy⟩ := hel h2
        exact ⟨(y, cs'), fun _ => ⟨hy, (World.cells?_some h1).2.2⟩⟩
      · exact ⟨(z, []), fun h => absurd h hi⟩
    obtain ⟨E, hE⟩ := Classical.axiomOfChoice hE
    refine ⟨some a, cap, (List.range len).map (fun i => (E i).1), Df, by simpa using hcs, by simpa using hl, Or.inr ⟨(List.range (m - len)).map fun j => Df (len + j), by rw [hx]; simp⟩, ?_⟩
    by_cases h0 : len = 0
    · left; subst h0; rfl
    · right
      obtain ⟨r0, c0⟩ := hE 0 (by omega)
      have h00 := c0 0 hk
      have ha0 : (a.add (0 * k)).add 0 = a := by unfold Addr.add; simp
      rw [ha0, List.getElem?_eq_getElem (by rw [hlen _ _ _ r0]; exact hk)] at h00
      have hs := spot_none h00
      refine ⟨a.block, a.off, by rw [← hs], block_lt_of_cell h00, fun i hi => ?_⟩
      have hi' : i < len := by simpa using hi
      have hg : ((List.range len).map (fun i => (E i).1)).getD i z = (E i).1 := by simp [List.getD_eq_getElem?_getD, hi']
      rw [hg]
      obtain ⟨r1, c1⟩ := hE i hi'
      refine ⟨(E i).2, fun j u hu => ?_, r1⟩
      have hj : j < k := by have := (List.getElem?_eq_some_iff.1 hu).1; rwa [hlen _ _ _ r1] at this
      have hc2 := c1 j hj
      rw [addrThree hs] at hc2
      exact hc2.trans hu
theorem map_of_at {α β : Type} (z : α) (D : α → β) (Df : Nat → β) (l : List α) (h : ∀ i, i < l.length → Df i = D (l.getD i z)) : (List.range l.length).map Df = l.map D := by
  apply List.ext_getElem (by simp)
  intro i h1 h2
  have hi : i < l.length := by simpa using h1
  simp only [List.getElem_map, List.getElem_range, h i hi]
  rw [List.getD_eq_getElem?_getD, List.getElem?_eq_getElem hi]; rfl
set_option maxRecDepth 100000 in
theorem trod_rdS {fuel : Nat} {cs : List Value} {x : DataW H × List MemPlace} (h : DataW.trod enc Tryz.prog w base sp held fuel 133 cs = some x) : ∃ r : Rd, cs = rdCellsS r ∧ x.1 = rdDataS r := by
  obtain ⟨xs, n, _, rfl, hl, hlen, hf⟩ := DataW.trod_struct Tryz.underlying133 h
  rw [cRdS] at hl
  obtain ⟨c0, c1, rfl⟩ : ∃ c0 c1, cs = [c0, c1] := by
    match cs, hl with
    | [a, b], _ => exact ⟨a, b, rfl⟩
  obtain ⟨y0, y1, rfl⟩ : ∃ c0 c1, xs = [c0, c1] := by
    match xs, hlen with
    | [a, b], _ => exact ⟨a, b, rfl⟩
  have h0 : DataW.trod enc Tryz.prog w base sp held n 9 [c0] = some y0 := by simpa [cStr] using hf 0 _ rfl
  have h1 : DataW.trod enc Tryz.prog w base sp held n 43 [c1] = some y1 := by simpa [cU64] using hf 1 _ rfl
  obtain ⟨s0, e0, rfl, _⟩ := DataW.trod_string Tryz.underlying9 h0
  obtain ⟨a1, e1, rfl, w1⟩ := DataW.trod_int Tryz.underlying43 h1
  obtain ⟨n1, rfl⟩ := wfNat64 w1
  refine ⟨⟨s0, n1⟩, ?_, ?_⟩
  · simp only [List.cons.injEq, and_true] at e0 e1
    rw [e0, e1]; rfl
  · first | rfl | simp [rdDataS]
set_option maxRecDepth 100000 in
theorem trod_rdsS {fuel : Nat} {cs : List Value} {x : DataW H × List MemPlace} (h : DataW.trod enc Tryz.prog w base sp held fuel 75 cs = some x) :
    ∃ (v : Value) (l : List Rd), cs = [v] ∧ IsRds w v l ∧ (x.1 = .nil ∧ l = [] ∨ ∃ sr, x.1 = .slice (l.map rdDataS) sr) := by
  obtain ⟨a0, cap, l, Df, rfl, _, hx, hh⟩ := trod_relD dRd (fun cs (r : Rd) d => cs = rdCellsS r ∧ d = rdDataS r) Tryz.underlying75 cRdS (by decide) (fun cs a n h => by rw [h.1]; rfl) trod_rdS h
  refine ⟨_, l, rfl, ⟨a0, cap, rfl, ?_⟩, ?_⟩
  · rcases hh with h | ⟨b, off, ha, hb, hc⟩
    · exact Or.inl h
    · refine Or.inr ⟨b, off, ha, hb, fun i hi => ?_⟩
      obtain ⟨cs', h1, rfl, _⟩ := hc i hi
      exact ⟨h1 0 _ rfl, h1 1 _ rfl⟩
  · rcases hx with hx | ⟨sr, hx⟩
    · exact Or.inl hx
    · refine Or.inr ⟨sr, ?_⟩
      rw [hx, map_of_at dRd rdDataS Df l (fun i hi => ?_)]
      rcases hh with h | ⟨b, off, ha, hb, hc⟩
      · subst h; simp at hi
      · obtain ⟨_, _, _, h2⟩ := hc i hi; exact h2
set_option maxRecDepth 100000 in
theorem trod_edtsS {fuel : Nat} {cs : List Value} {x : DataW H × List MemPlace} (h : DataW.trod enc Tryz.prog w base sp held fuel 23 cs = some x) :
    ∃ (v : Value) (l : List Edt), cs = [v] ∧ IsEdts w v l ∧ (x.1 = .nil ∧ l = [] ∨ ∃ sr, x.1 = .slice (l.map edtData) sr) := by
  obtain ⟨a0, cap, l, Df, rfl, _, hx, hh⟩ := trod_relD dE (fun cs (r : Edt) d => cs = edtCells r ∧ d = edtData r) Tryz.underlying23 cEdt (by decide) (fun cs a n h => by rw [h.1]; rfl) (fun h => by
    obtain ⟨e, rfl, rfl⟩ := trod_edt h
    exact ⟨e, rfl, rfl⟩) h
  refine ⟨_, l, rfl, ⟨a0, cap, rfl, ?_⟩, ?_⟩
  · rcases hh with h | ⟨b, off, ha, hb, hc⟩
    · exact Or.inl h
    · refine Or.inr ⟨b, off, ha, hb, fun i hi => ?_⟩
      obtain ⟨cs', h1, rfl, _⟩ := hc i hi
      exact ⟨h1 0 _ rfl, h1 1 _ rfl, h1 2 _ rfl, h1 3 _ rfl, h1 4 _ rfl, h1 5 _ rfl⟩
  · rcases hx with hx | ⟨sr, hx⟩
    · exact Or.inl hx
    · refine Or.inr ⟨sr, ?_⟩
      rw [hx, map_of_at dE edtData Df l (fun i hi => ?_)]
      rcases hh with h | ⟨b, off, ha, hb, hc⟩
      · subst h; simp at hi
      · obtain ⟨_, _, _, h2⟩ := hc i hi; exact h2
set_option maxRecDepth 100000 in
theorem trod_calS {fuel : Nat} {cs : List Value} {x : DataW H × List MemPlace} (h : DataW.trod enc Tryz.prog w base sp held fuel 80 cs = some x) :
    ∃ c : Cal, ∃ vR vE, cs = calCells vR vE c ∧ CalIs w vR vE c ∧ c.kind < 256 ∧ CalD c x.1 := by
  obtain ⟨xs, n, _, hx, hl, hlen, hf⟩ := DataW.trod_struct Tryz.underlying80 h
  rw [cCallS] at hl
  obtain ⟨c0, c1, c2, c3, c4, c5, c6, rfl⟩ := list7 hl
  obtain ⟨y0, y1, y2, y3, y4, y5, rfl⟩ := list6 hlen
  have h0 : DataW.trod enc Tryz.prog w base sp held n 5 [c0] = some y0 := by simpa [cU8] using hf 0 _ rfl
  have h1 : DataW.trod enc Tryz.prog w base sp held n 75 [c1] = some y1 := by simpa [cRdsS] using hf 1 _ rfl
  have h2 : DataW.trod enc Tryz.prog w base sp held n 23 [c2] = some y2 := by simpa [cEdsS] using hf 2 _ rfl
  have h3 : DataW.trod enc Tryz.prog w base sp held n 9 [c3] = some y3 := by simpa [cStr] using hf 3 _ rfl
  have h4 : DataW.trod enc Tryz.prog w base sp held n 77 [c4, c5] = some y4 := by simpa [cRgS] using hf 4 _ rfl
  have h5 : DataW.trod enc Tryz.prog w base sp held n 78 [c6] = some y5 := by simpa [cU32S] using hf 5 _ rfl
  obtain ⟨a0, e0, rfl, w0⟩ := DataW.trod_int Tryz.underlying5 h0
  obtain ⟨v1, l1, e1, i1, q1⟩ := trod_rdsS h1
  obtain ⟨v2, l2, e2, i2, q2⟩ := trod_edtsS h2
  obtain ⟨s3, e3, rfl, _⟩ := DataW.trod_string Tryz.underlying9 h3
  obtain ⟨zs, n4, _, hx4, hl4, hlen4, hf4⟩ := DataW.trod_struct Tryz.underlying77 h4
  obtain ⟨z0, z1, rfl⟩ : ∃ c0 c1, zs = [c0, c1] := by
    match zs, hlen4 with
    | [a, b], _ => exact ⟨a, b, rfl⟩
  have h40 : DataW.trod enc Tryz.prog w base sp held n4 43 [c4] = some z0 := by simpa [cU64] using hf4 0 _ rfl
  have h41 : DataW.trod enc Tryz.prog w base sp held n4 43 [c5] = some z1 := by simpa [cU64] using hf4 1 _ rfl
  obtain ⟨a40, e40, rfl, w40⟩ := DataW.trod_int Tryz.underlying43 h40
  obtain ⟨a41, e41, rfl, w41⟩ := DataW.trod_int Tryz.underlying43 h41
  obtain ⟨a5, e5, rfl, w5⟩ := DataW.trod_int Tryz.underlying78 h5
  have w0' := wf_u8S w0
  have w5' := wf_u32S w5
  obtain ⟨n0, rfl⟩ : ∃ d : Nat, a0 = d := ⟨a0.toNat, by omega⟩
  obtain ⟨n5, rfl⟩ : ∃ d : Nat, a5 = d := ⟨a5.toNat, by omega⟩
  obtain ⟨f, rfl⟩ := wfNat64 w40
  obtain ⟨t, rfl⟩ := wfNat64 w41
  simp only [List.cons.injEq, and_true] at e0 e1 e2 e3 e40 e41 e5
  subst hx
  refine ⟨⟨n0, l1, l2, s3, f, t, n5⟩, v1, v2, ?_, ⟨i1, i2⟩, by show n0 < 256; omega, y1.1, y2.1, ?_, q1, q2⟩
  · rw [e0, e1, e2, e3, e40, e41, e5]; rfl
  · subst hx4; rfl
end
structure CalB (c : Cal) (n : Nat) : Prop where
  k : c.kind < 256
  r : c.rds.length ≤ n
  rs : ∀ i, i < c.rds.length → (c.rds.getD i dRd).path.size ≤ n
  e : 7 * c.eds.length ≤ n
  es : ∀ i, i < c.eds.length → (c.eds.getD i dE).path.size ≤ n ∧ (c.eds.getD i dE).text.size ≤ n
  p : c.pre.size ≤ n
theorem CalB.sz {c : Cal} {n : Nat} (h : CalB c n) (hn : n ≤ 1048576) : CalSz c := by
  have := h.r; have := h.e; have := h.p
  exact ⟨h.k, by omega, fun i hi => by have := h.rs i hi; omega, by omega, fun i hi => by have := h.es i hi; omega, by omega⟩
end Go.Proofs.YtfbgnpfhjbiikaaGreatDoor
