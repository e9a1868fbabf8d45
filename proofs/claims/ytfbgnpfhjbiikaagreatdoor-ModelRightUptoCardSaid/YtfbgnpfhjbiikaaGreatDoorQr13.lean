/- Contract: law31.Heavy: what it lets through is small. Contract: scriniumlaw31.alive. ModelRight's walk. What the bound on an input's bulk gives. Acts that came in, opened; what an input's bound on its bulk gives of each. -/
import Derived.Test.YtfbgnpfhjbiikaaGreatDoorQr05
import Derived.Test.YtfbgnpfhjbiikaaGreatDoorQr09
import Derived.Test.YtfbgnpfhjbiikaaGreatDoorQr10
import Derived.Test.YtfbgnpfhjbiikaaGreatDoorQr11
import Derived.Test.YtfbgnpfhjbiikaaGreatDoorQr12
import Derived.Maps.AppendAt
import Derived.Test.YtfbgnpfhjbiikaaGreatDoorRows
namespace Go.Proofs.YtfbgnpfhjbiikaaGreatDoor
open Go Go.RowKit
open Pth
def HevOk (s : Sto) : Prop := (∀ q, q < s.call.eds.length → (s.call.eds.getD q dE).path.size ≤ 300 ∧ (s.call.eds.getD q dE).text.size ≤ 8192) ∧ (∀ q, q < s.call.rds.length → (s.call.rds.getD q dRd).path.size ≤ 300) ∧ s.call.pre.size ≤ 300
structure HevSz (s : Sto) : Prop where
  r : s.call.rds.length ≤ 281474976710656
  e : s.call.eds.length ≤ 281474976710656
  g : s.got.length ≤ 281474976710656
  n : s.nums.length ≤ 281474976710656
  m : s.names.length ≤ 281474976710656
  rs : ∀ i, i < s.call.rds.length → (s.call.rds.getD i dRd).path.size ≤ 140737488355328
  es : ∀ i, i < s.call.eds.length → (s.call.eds.getD i dE).path.size ≤ 140737488355328 ∧ (s.call.eds.getD i dE).text.size ≤ 140737488355328
  p : s.call.pre.size ≤ 140737488355328
def HevS (s : Sto) (S : Nat) : Prop := s.call.rds.length ≤ S ∧ s.call.eds.length ≤ S ∧ s.got.length ≤ S ∧ s.nums.length ≤ S ∧ s.names.length ≤ S
theorem HevS.up {s : Sto} {a b : Nat} (h : HevS s a) (hab : a ≤ b) : HevS s b := by obtain ⟨h1, h2, h3, h4, h5⟩ := h; exact ⟨by omega, by omega, by omega, by omega, by omega⟩
def HevP (l : List Sto) (i : Nat) (x : Int) : Prop := (∀ q, q < i → HevOk (l.getD q dS)) ∧ (l.length ≤ 30 → ∃ S : Nat, x = S ∧ (∀ q, q < i → HevS (l.getD q dS) S) ∧ S ≤ i * 288230376151711744)
def HevG (l : List Sto) (w : World) (e : Ending) (w' : World) : Prop :=
  ∃ b, e = .returned (.bool b) ∧ (b = false → l.length ≤ 30 ∧ ∀ q, q < l.length → HevOk (l.getD q dS) ∧ HevS (l.getD q dS) 600) ∧ Below w.heap.size w w'
theorem zeroCalA (w : World) : (zeroValue 80).run Tryz.prog w = .ok (.agg #[.int .u8 0, .slice none 0 0, .slice none 0 0, .string ByteArray.empty, .int .u64 0, .int .u64 0, .int .u32 0]) w := by kernel_rfl

theorem wpl_store_cal {ops : Array Oper} {rest : List Oper} {op : Oper} {a : Act} {w : World} {Q : Exit → Act → World → Prop} (hgd : op.guard = none) (x y : Operand) (ho : op.op = .store 80 x y) {c : Array Value} (hx : a.eval x = .pointer (some ⟨w.heap.size, 0, none⟩)) {vR vE : Value} {cc : Cal} (hy : a.eval y = calVal vR vE cc)
    (hoo : c.size = 7) (h1 : (calCells vR vE cc).toArray.all (·.oneCell') = true)
    (h : wpList Tryz.prog ops Q rest (a.put op.dst undef) (w.alloc (.cells (calCells vR vE cc).toArray 80))) : wpList Tryz.prog ops Q (op :: rest) a (w.alloc (.cells c 80)) :=
  wpl_store_new (c' := (calCells vR vE cc).toArray) hgd _ x y ho hx hy infoCal hoo h1 h
set_option maxRecDepth 100000 in
set_option maxHeartbeats 8000000 in
theorem law_heavy31 (l : List Sto) (v : Value) (w : World) (hv : IsStos w v l) (hl : l.length ≤ 140737488355328) (hz : ∀ i, i < l.length → HevSz (l.getD i dS)) :
    Calls Tryz.prog 31 #[v] w (HevG l w) := by
  obtain ⟨a, cap, rfl, hcap, hcc⟩ := hv
  have HC := Lib.hid hcc; have HZ := Lib.hid hz
  have hzc := zeroCalA
  clear hcc hz
  go_enter Tryz.func31, Tryz.ntmps31
  go_wp2_with fail
  go_loopw [3, 4, 5, 6, 7] (fun s3 s4 _ _ _ wr => ∃ (i : Nat) (x : Int), i ≤ l.length ∧ s4 = .int .i64 i ∧ s3 = .int .i64 x ∧ Hid (HevP l i x) ∧ Hid (Below w.heap.size w wr)) (fun _ i _ _ _ _ => l.length - (intOf i).toNat)
  case atStart => exact ⟨0, 0, Nat.zero_le _, rfl, rfl, Lib.hid ⟨fun q hq => by omega, fun _ => ⟨0, rfl, fun q hq => by omega, Nat.zero_le _⟩⟩, Lib.hid (Below.refl _ _)⟩
  case round =>
    obtain ⟨i, x, hi, rfl, rfl, HP, HBw⟩ := hrel
    by_cases hlt : i < l.length
    · have hltI : (i : Int) < (l.length : Int) := by omega
      rcases HC.out with hn | ⟨b1, o1, rfl, hblt, hst⟩
      · rw [hn] at hlt; simp at hlt
      obtain ⟨f, hsi, hat⟩ := hst i hlt
      have HAT := Lib.hid (hat.below HBw.out hblt)
      have HSI := Lib.hid (hsi.below HBw.out (Nat.le_refl _))
      have HZI := Lib.hid (HZ.out i hlt)
      have HPn : Hid (∀ y : Int, HevOk (l.getD i dS) → (l.length ≤ 30 → ∃ A : Nat, y = x + A ∧ HevS (l.getD i dS) A ∧ A ≤ 288230376151711744) → HevP l (i + 1) y) := Lib.hid (fun y h1 h2 => by
        obtain ⟨p1, p2⟩ := HP.out
        refine ⟨fun q hq => ?_, fun h30 => ?_⟩
        · by_cases e : q = i
          · subst e; exact h1
          · exact p1 q (by omega)
        · obtain ⟨S, e1, e2, e3⟩ := p2 h30
          obtain ⟨A, f1, f2, f3⟩ := h2 h30
          refine ⟨S + A, by omega, fun q hq => ?_, by omega⟩
          by_cases e : q = i
          · subst e; exact f2.up (by omega)
          · exact (e2 q (by omega)).up (by omega))
      have HX : Hid (l.length ≤ 30 → 0 ≤ x ∧ x ≤ 8358680908399640576) := Lib.hid (fun h30 => by
        obtain ⟨S, e1, _, e3⟩ := HP.out.2 h30
        omega)
      obtain ⟨y, hy⟩ : ∃ y, l.getD i dS = y := ⟨_, rfl⟩
      rw [hy] at HAT HSI HZI HPn
      have HCal := Lib.hid HAT.out.cal
      have HONE : Hid ((calCells f.r f.e y.call).toArray.all (·.oneCell') = true) := Lib.hid (by
        obtain ⟨_, _, e1, _⟩ := HSI.out.c.r; obtain ⟨_, _, e2, _⟩ := HSI.out.c.e
        simp [calCells, e1, e2]; exact ⟨rfl, rfl, rfl, rfl, rfl, rfl, rfl⟩)
      clear hy hst hsi hat HP
      go_upto_region 6 with (first
        | (refine wpl_load_cal rfl (.tmp 17) rfl rfl HCal.out ?_)
        | (refine wpl_store_cal rfl (.tmp 5) (.tmp 18) rfl rfl (vR := f.r) (vE := f.e) (cc := y.call) rfl rfl HONE.out ?_)
        | fail)
      refine wp_abs (F := fun W => One wr.heap.size #[.int .u8 y.call.kind, f.r, f.e, .string y.call.pre, .int .u64 y.call.f, .int .u64 y.call.t, .int .u32 y.call.dst] W ∧ Below wr.heap.size wr W) ⟨One.of _ _ _, (Below.refl _ _).alloc (Nat.le_refl _) _⟩ ?_
      rintro W1 ⟨hO, hb1⟩
      have HA1 := Lib.hid (HAT.out.below hb1 (by have := HBw.out.size; omega))
      have HB1 := Lib.hid (HBw.out.trans (hb1.mono HBw.out.size))
      have HS1 := Lib.hid (HSI.out.below hb1 (Nat.le_refl _))
      obtain ⟨nb, hnb⟩ : ∃ nb, wr.heap.size = nb := ⟨_, rfl⟩
      rw [hnb] at hO ⊢
      have HO := Lib.hid hO
      clear hb1 hO hnb HAT HBw HSI HCal HONE
      obtain ⟨aR, cR, eR, hRc⟩ := HS1.out.c.r
      obtain ⟨aE, cE, eE, hEc⟩ := HS1.out.c.e
      obtain ⟨aG, cG, eG, _⟩ := HS1.out.g
      obtain ⟨aN, cN, eN, _⟩ := HS1.out.n
      obtain ⟨aM, cM, eM, _⟩ := HS1.out.m
      have HRc := Lib.hid hRc; have HEc := Lib.hid hEc
      have KP := Lib.hid (fun (W : World) (h : Below W1.heap.size W1 W) => show W.cell? ⟨nb, 1, none⟩ = some (.slice aR y.call.rds.length cR) ∧ W.cell? ⟨nb, 2, none⟩ = some (.slice aE y.call.eds.length cE) ∧ W.cell? ⟨nb, 3, none⟩ = some (.string y.call.pre) from by
        have h1 := (HO.out.step h).c 1; have h2 := (HO.out.step h).c 2; have h3 := (HO.out.step h).c 3
        simp at h1 h2 h3
        rw [eR] at h1; rw [eE] at h2
        exact ⟨h1, h2, h3⟩)
      have y15 := HA1.out 15 f.g rfl; have y16 := HA1.out 16 f.n rfl; have y17 := HA1.out 17 f.m rfl
      rw [eG] at y15; rw [eN] at y16; rw [eM] at y17
      clear hRc hEc eR eE eG eN eM
      obtain ⟨x1, x2, x3⟩ := KP.out W1 (Below.refl _ _)
      go_quiet (fail)
      clear y15 y16 y17 x1 x2 x3
      obtain ⟨z, hz⟩ : ∃ z, IntKind.i64.wrap (IntKind.i64.wrap (IntKind.i64.wrap (IntKind.i64.wrap (IntKind.i64.wrap (x + (y.call.rds.length : Int)) + (y.call.eds.length : Int)) + (y.got.length : Int)) + (y.nums.length : Int)) + (y.names.length : Int)) = z := ⟨_, rfl⟩
      rw [hz]
      have HZ1 : Hid (l.length ≤ 30 → z = x + (y.call.rds.length + y.call.eds.length + y.got.length + y.nums.length + y.names.length : Nat) ∧ 0 ≤ x ∧ x ≤ 8358680908399640576) := Lib.hid (fun h30 => by
        obtain ⟨h1, h2⟩ := HX.out h30
        have r := HZI.out.r; have e := HZI.out.e; have g := HZI.out.g; have n := HZI.out.n; have m := HZI.out.m
        refine ⟨?_, h1, h2⟩
        rw [← hz]
        simp only [IntKind.wrap_i64]
        omega)
      clear hz HX
      have HD1 : Hid (Below W1.heap.size W1 (W1.drewN nq)) := Lib.hid (below_dn (Below.refl _ _) _)
      go_wp2_with fail
      go_loopw [3, 6] (fun s3 s6 w2 => ∃ (j : Nat) (z2 : Int), j ≤ y.call.eds.length ∧ s6 = .int .i64 j ∧ s3 = .int .i64 z2 ∧ Hid ((∀ q, q < j → (y.call.eds.getD q dE).path.size ≤ 300 ∧ (y.call.eds.getD q dE).text.size ≤ 8192) ∧ (l.length ≤ 30 → ∃ A : Nat, z2 = z + A ∧ A ≤ j * 512)) ∧ Hid (Below W1.heap.size W1 w2)) (fun _ i _ => y.call.eds.length - (intOf i).toNat)
      case atStart => exact ⟨0, z, Nat.zero_le _, rfl, rfl, Lib.hid ⟨fun q hq => by omega, fun _ => ⟨0, by omega, Nat.zero_le _⟩⟩, HD1⟩
      case round =>
        obtain ⟨j, z2, hj, rfl, rfl, HJ, HB2⟩ := hrel
        have HBE : Hid (Below w.heap.size w wr) := Lib.hid (HB1.out.trans (HB2.out.mono HB1.out.size))
        obtain ⟨x1, x2, x3⟩ := KP.out wr HB2.out
        by_cases hjl : j < y.call.eds.length
        · have hjI : (j : Int) < (y.call.eds.length : Int) := by omega
          rcases HEc.out with hn | ⟨b2, o2, rfl, hb2, hc2⟩
          · rw [hn] at hjl; simp at hjl
          obtain ⟨_, g1, _, _, _, g5⟩ := hc2 j hjl
          have e1 := (HB2.out.cell (p := ⟨b2, o2 + j * 6 + 1, none⟩) hb2).trans g1
          have e5 := (HB2.out.cell (p := ⟨b2, o2 + j * 6 + 5, none⟩) hb2).trans g5
          obtain ⟨q1, q2⟩ := HZI.out.es j hjl
          obtain ⟨ed, hed⟩ : ∃ ed, y.call.eds.getD j dE = ed := ⟨_, rfl⟩
          rw [hed] at e1 e5 q1 q2
          clear g1 g5 hc2 hb2
          have hje : j * 512 ≤ 144115188075855872 := by have := HZI.out.e; omega
          have hjb : j ≤ 281474976710656 := by have := HZI.out.e; omega
          by_cases c1 : ed.path.size ≤ 300
          · have c1i : ¬ (300 : Int) < (ed.path.size : Int) := by omega
            by_cases c2 : ed.text.size ≤ 8192
            · have c2i : ¬ (8192 : Int) < (ed.text.size : Int) := by omega
              have HJ2 : Hid ((∀ q, q < j + 1 → (y.call.eds.getD q dE).path.size ≤ 300 ∧ (y.call.eds.getD q dE).text.size ≤ 8192) ∧ (l.length ≤ 30 → ∃ A : Nat, wrap64 (z2 + (ed.text.size : Int) / 16) = z + A ∧ A ≤ (j + 1) * 512)) := Lib.hid (by
                refine ⟨fun q hq => ?_, fun h30 => ?_⟩
                · by_cases e : q = j
                  · subst e; rw [hed]; exact ⟨c1, c2⟩
                  · exact HJ.out.1 q (by omega)
                · obtain ⟨A, h1, h2⟩ := HJ.out.2 h30
                  obtain ⟨h3, h4, h5⟩ := HZ1.out h30
                  have r := HZI.out.r; have e := HZI.out.e; have g := HZI.out.g; have n := HZI.out.n; have m := HZI.out.m
                  refine ⟨A + ed.text.size / 16, ?_, by omega⟩
                  rw [IntWalk.wrap64_in _ ⟨by omega, by omega⟩]
                  omega)
              clear c1 c2 hed hje
              go_wp2_with fail
              go_roundw
              case rel => exact ⟨j + 1, _, by omega, by go_num, rfl, HJ2, HB2⟩
              case measure => simp [intOf]; omega
            · have c2i : (8192 : Int) < (ed.text.size : Int) := by omega
              clear c1 c2
              go_wp2_with fail
              go_ret
              exact ⟨true, rfl, (fun h => by cases h), HBE.out⟩
          · have c1i : (300 : Int) < (ed.path.size : Int) := by omega
            clear c1
            go_wp2_with fail
            go_ret
            exact ⟨true, rfl, (fun h => by cases h), HBE.out⟩
        · have hjI : ¬ (j : Int) < (y.call.eds.length : Int) := by omega
          obtain rfl : j = y.call.eds.length := by omega
          go_wp2_with fail
          clear x1 x2 x3 HBE
          go_loopw [7] (fun s7 w3 => ∃ q : Nat, q ≤ y.call.rds.length ∧ s7 = .int .i64 q ∧ Hid (∀ p, p < q → (y.call.rds.getD p dRd).path.size ≤ 300) ∧ Hid (Below W1.heap.size W1 w3)) (fun i _ => y.call.rds.length - (intOf i).toNat)
          case atStart => exact ⟨0, Nat.zero_le _, rfl, Lib.hid (fun p hp => by omega), HB2⟩
          case round =>
            clear HB2
            obtain ⟨q, hq, rfl, HQ, HB2⟩ := hrel
            have HBE : Hid (Below w.heap.size w wr) := Lib.hid (HB1.out.trans (HB2.out.mono HB1.out.size))
            obtain ⟨x1, x2, x3⟩ := KP.out wr HB2.out
            by_cases hql : q < y.call.rds.length
            · have hqI : (q : Int) < (y.call.rds.length : Int) := by omega
              rcases HRc.out with hn | ⟨b2, o2, rfl, hb2, hc2⟩
              · rw [hn] at hql; simp at hql
              obtain ⟨g0, _⟩ := hc2 q hql
              have e0 := (HB2.out.cell (p := ⟨b2, o2 + q * 2, none⟩) hb2).trans g0
              have q1 := HZI.out.rs q hql
              have hqb : q ≤ 281474976710656 := by have := HZI.out.r; omega
              obtain ⟨rd, hrd⟩ : ∃ rd, y.call.rds.getD q dRd = rd := ⟨_, rfl⟩
              rw [hrd] at e0 q1
              clear g0 hc2 hb2
              by_cases c1 : rd.path.size ≤ 300
              · have c1i : ¬ (300 : Int) < (rd.path.size : Int) := by omega
                have HQ2 : Hid (∀ p, p < q + 1 → (y.call.rds.getD p dRd).path.size ≤ 300) := Lib.hid (fun p hp => by
                  by_cases e : p = q
                  · subst e; rw [hrd]; exact c1
                  · exact HQ.out p (by omega))
                clear c1 hrd
                go_wp2_with fail
                go_roundw
                case rel => exact ⟨q + 1, by omega, by go_num, HQ2, HB2⟩
                case measure => simp [intOf]; omega
              · have c1i : (300 : Int) < (rd.path.size : Int) := by omega
                clear c1
                go_wp2_with fail
                go_ret
                exact ⟨true, rfl, (fun h => by cases h), HBE.out⟩
            · have hqI : ¬ (q : Int) < (y.call.rds.length : Int) := by omega
              obtain rfl : q = y.call.rds.length := by omega
              have hps := HZI.out.p
              by_cases c1 : y.call.pre.size ≤ 300
              · have c1i : ¬ (300 : Int) < (y.call.pre.size : Int) := by omega
                have HNx := Lib.hid (HPn.out z2 ⟨HJ.out.1, HQ.out, c1⟩ (fun h30 => by
                  obtain ⟨A, h1, h2⟩ := HJ.out.2 h30
                  obtain ⟨h3, h4, h5⟩ := HZ1.out h30
                  have r := HZI.out.r; have e := HZI.out.e; have g := HZI.out.g; have n := HZI.out.n; have m := HZI.out.m
                  exact ⟨y.call.rds.length + y.call.eds.length + y.got.length + y.nums.length + y.names.length + A, by omega, ⟨by omega, by omega, by omega, by omega, by omega⟩, by omega⟩))
                clear c1
                go_wp2_with fail
                go_roundw
                case rel => exact ⟨i + 1, z2, by omega, by go_num, rfl, HNx, HBE⟩
                case measure => simp [intOf]; omega
              · have c1i : (300 : Int) < (y.call.pre.size : Int) := by omega
                clear c1
                go_wp2_with fail
                go_ret
                exact ⟨true, rfl, (fun h => by cases h), HBE.out⟩
    · have hge : ¬ (i : Int) < (l.length : Int) := by omega
      obtain rfl : i = l.length := by omega
      by_cases h30 : l.length ≤ 30
      · have h30i : ¬ (30 : Int) < (l.length : Int) := by omega
        obtain ⟨S, rfl, h2, h3⟩ := HP.out.2 h30
        have H2 := Lib.hid h2
        clear h2
        by_cases h6 : S ≤ 600
        · have h6i : ¬ (600 : Int) < (S : Int) := by omega
          go_wp2_with fail
          go_ret
          exact ⟨false, rfl, fun _ => ⟨h30, fun q hq => ⟨HP.out.1 q hq, (H2.out q hq).up h6⟩⟩, HBw.out⟩
        · have h6i : (600 : Int) < (S : Int) := by omega
          go_wp2_with fail
          go_ret
          exact ⟨true, rfl, (fun h => by cases h), HBw.out⟩
      · have h30i : (30 : Int) < (l.length : Int) := by omega
        go_wp2_with fail
        go_ret
        exact ⟨true, rfl, (fun h => by cases h), HBw.out⟩
end Go.Proofs.YtfbgnpfhjbiikaaGreatDoor

namespace Go.Proofs.YtfbgnpfhjbiikaaGreatDoor
open Go Go.RowKit
open Pth
open Go.Maps (has size Canon CanonK Tidy IsMap KeysOf Keyed Merged)
theorem szA : StoSz sA := sz_put rfl (by decide) (by decide) (by decide) (by decide) (by decide)
theorem szB : StoSz sB := sz_get rfl (by decide) (by decide) (by decide) (by decide)
theorem szC : StoSz sC := sz_get rfl (by decide) (by decide) (by decide) (by decide)
theorem szD : StoSz sD := sz_put rfl (by decide) (by decide) (by decide) (by decide) (by decide)
theorem vd_eq4 (w : World) : (binOp .eql 72 (.agg #[.bool false, .int .i64 1, .int .u8 4]) (.agg #[.bool false, .int .i64 1, .int .u8 4])).run Tryz.prog w = .ok (.bool true) w := by kernel_rfl
theorem vd_eq1 (w : World) : (binOp .eql 72 (.agg #[.bool false, .int .i64 1, .int .u8 1]) (.agg #[.bool false, .int .i64 1, .int .u8 1])).run Tryz.prog w = .ok (.bool true) w := by kernel_rfl
set_option maxRecDepth 100000 in
set_option maxHeartbeats 8000000 in
theorem law_alive (w : World) (hm : MX w) : Calls Tryz.prog 29 #[] w fun e w' => e = .returned (.bool true) ∧ Below w.heap.size w w' := by
  have HM := Lib.hid hm; clear hm
  have hzs := zeroSto
  have hPut := Lib.hid (law_put tA tX w)
  go_enter Tryz.func29, Tryz.ntmps29
  go_wp2_with fail
  refine hPut.out.mono ?_
  rintro e w1 ⟨g1, rfl, hg1, hO1, hb1⟩
  have HB1 := Lib.hid hb1
  have Hg1O := Lib.hid hO1
  clear hO1 hb1 hg1 hPut
  unfold calVal putL
  go_upto_region 2 with (first
    | (refine wpl_build_s rfl _ rfl ⟨nilV, .slice (some ⟨g1, 0, none⟩) 1 1, nilV, .slice (some ⟨w1.heap.size, 0, none⟩) 1 1, nilV⟩ sA (by kernel_rfl) ?_)
    | (refine wpl_store_stN rfl (.tmp 1) (.tmp 14) rfl (w1.heap.size + 1) (by simp) rfl (f := ⟨nilV, .slice (some ⟨g1, 0, none⟩) 1 1, nilV, .slice (some ⟨w1.heap.size, 0, none⟩) 1 1, nilV⟩) (s := sA) rfl rfl (sto_one5 rfl rfl rfl rfl rfl) ?_)
    | fail)
  refine wp_abs (F := fun W => (∃ f, BoxS (w1.heap.size + 1) f sA W) ∧ Below w.heap.size w W) ⟨⟨⟨nilV, .slice (some ⟨g1, 0, none⟩) 1 1, nilV, .slice (some ⟨w1.heap.size, 0, none⟩) 1 1, nilV⟩, ?_⟩, ?_⟩ ?_
  · have hb : Below w1.heap.size w1 (w1.alloc (.cells #[.int .u64 1] 43)) := (Below.refl _ _).alloc (Nat.le_refl _) _
    have := BoxS.new (w := w1.alloc (.cells #[.int .u64 1] 43)) (f := ⟨nilV, .slice (some ⟨g1, 0, none⟩) 1 1, nilV, .slice (some ⟨w1.heap.size, 0, none⟩) 1 1, nilV⟩) (s := sA) ⟨⟨IsRds.nil _, IsEdts.one (Hg1O.out.step hb) 1⟩, IsGots.nil _, IsNums.new1 _ _ _, IsStrs.nil _⟩
    simpa using this
  · exact ((HB1.out.alloc HB1.out.size _).alloc (by have := HB1.out.size; simp; omega) _)
  rintro W1 ⟨⟨f1, hX1⟩, hb1⟩
  have HX1 := Lib.hid hX1; have Hb1 := Lib.hid hb1
  clear hX1 hb1 Hg1O
  obtain ⟨n1, hn1⟩ : ∃ n1, w1.heap.size + 1 = n1 := ⟨_, rfl⟩
  rw [hn1] at HX1 ⊢
  have hGet := Lib.hid (law_get tA W1)
  go_wp2_with fail
  refine hGet.out.mono ?_
  rintro e w2 ⟨vR, rfl, hR2, hb2⟩
  have HX2 := Lib.hid (HX1.out.step hb2); have HR2 := Lib.hid hR2; have HB2 := Lib.hid (Hb1.out.trans (hb2.mono Hb1.out.size))
  clear hR2 hb2 hGet HX1 Hb1
  unfold calVal getL
  go_upto_region 3 with (first
    | (refine wpl_build_s rfl _ rfl ⟨vR, nilV, .slice (some ⟨w2.heap.size, 0, none⟩) 1 1, nilV, nilV⟩ sB (by kernel_rfl) ?_)
    | (refine wpl_store_stN rfl (.tmp 2) (.tmp 21) rfl (w2.heap.size + 1) (by simp) rfl (f := ⟨vR, nilV, .slice (some ⟨w2.heap.size, 0, none⟩) 1 1, nilV, nilV⟩) (s := sB) rfl rfl (sto_one5 (by obtain ⟨_, _, h, _⟩ := HR2.out; rw [h]; rfl) rfl rfl rfl rfl) ?_)
    | fail)
  refine wp_abs (F := fun W => BoxS n1 f1 sA W ∧ (∃ f, BoxS (w2.heap.size + 1) f sB W) ∧ Below w.heap.size w W) ⟨?_, ⟨⟨vR, nilV, .slice (some ⟨w2.heap.size, 0, none⟩) 1 1, nilV, nilV⟩, ?_⟩, ?_⟩ ?_
  · exact HX2.out.step (((Below.refl _ _).alloc (Nat.le_refl _) _).alloc (by simp) _)
  · have hb : Below w2.heap.size w2 (w2.alloc (.cells #[.int .u64 1, .int .u8 1, .string tX, .int .i64 0] 97)) := (Below.refl _ _).alloc (Nat.le_refl _) _
    have := BoxS.new (w := w2.alloc (.cells #[.int .u64 1, .int .u8 1, .string tX, .int .i64 0] 97)) (f := ⟨vR, nilV, .slice (some ⟨w2.heap.size, 0, none⟩) 1 1, nilV, nilV⟩) (s := sB) ⟨⟨HR2.out.below hb (Nat.le_refl _), ⟨none, 0, rfl, Or.inl rfl⟩⟩, IsGots.new1 _ ⟨⟨1, 1, tX⟩, 0⟩ _, ⟨none, 0, rfl, Or.inl rfl⟩, IsStrs.nil _⟩
    rw [show (w2.alloc (.cells #[.int .u64 1, .int .u8 1, .string tX, .int .i64 0] 97)).heap.size = w2.heap.size + 1 by simp] at this
    exact this
  · exact ((HB2.out.alloc HB2.out.size _).alloc (by have := HB2.out.size; simp; omega) _)
  rintro W2 ⟨hX1, ⟨f2, hX2⟩, hb2⟩
  have HA2 := Lib.hid hX1; have HC2 := Lib.hid hX2; have Hb2 := Lib.hid hb2
  clear hX1 hX2 hb2 HX2 HR2 HB2
  obtain ⟨n2, hn2⟩ : ∃ n2, w2.heap.size + 1 = n2 := ⟨_, rfl⟩
  rw [hn2] at HC2 ⊢
  go_wp2_with (first
    | (refine wpl_load_sto rfl (.tmp 1) rfl rfl HA2.out.at ?_)
    | (refine wpl_load_sto rfl (.tmp 2) rfl rfl HC2.out.at ?_)
    | (refine wpl_build_sto2 rfl (.tmp 22) (.tmp 23) rfl rfl rfl ?_)
    | fail)
  refine (check_two sA sB _ _ (IsStos.rowN W2 [(f1, sA), (f2, sB)] _ ?_) szA szB ?_).mono ?_
  · intro x hx
    simp only [List.mem_cons, List.not_mem_nil, or_false] at hx
    rcases hx with rfl | rfl
    · exact HA2.out.i
    · exact HC2.out.i
  · exact HM.out.below (Hb2.out.alloc Hb2.out.size _) (Nat.le_refl _)
  rintro e w3 ⟨rfl, hb3⟩
  have hb3' : Below W2.heap.size W2 w3 := ((Below.refl _ _).alloc (Nat.le_refl _) _).trans (hb3.mono (by simp))
  have HA3 := Lib.hid (HA2.out.step hb3'); have HC3 := Lib.hid (HC2.out.step hb3'); have HB3 := Lib.hid (Hb2.out.trans (hb3'.mono Hb2.out.size))
  clear HA2 HC2 Hb2 hb3 hb3'
  rw [check_AB]
  unfold vdVal
  go_upto_region 4 with fail
  refine wp_abs (F := fun W => BoxS n1 f1 sA W ∧ BoxS n2 f2 sB W ∧ One w3.heap.size #[.bool true, .int .i64 0, .int .u8 0] W ∧ Below w.heap.size w W) ?_ ?_
  · have hb : Below w3.heap.size w3 (w3.alloc (.cells #[.bool true, .int .i64 0, .int .u8 0] 72)) := (Below.refl _ _).alloc (Nat.le_refl _) _
    exact ⟨HA3.out.step hb, HC3.out.step hb, One.of _ _ _, HB3.out.alloc HB3.out.size _⟩
  rintro W3 ⟨hX1, hX2, hV3, hb3⟩
  have HA4 := Lib.hid hX1; have HC4 := Lib.hid hX2; have HV3 := Lib.hid hV3; have Hb3 := Lib.hid hb3
  clear hX1 hX2 hb3 hV3 HA3 HC3 HB3
  obtain ⟨n3, hn3⟩ : ∃ n3, w3.heap.size = n3 := ⟨_, rfl⟩
  rw [hn3] at HV3 ⊢
  go_upto_region 5 with (first
    | (refine wpl_load_sto rfl (.tmp 2) rfl rfl HC4.out.at ?_)
    | (refine wpl_store_stN rfl (.tmp 4) (.tmp 26) rfl W3.heap.size rfl rfl (f := f2) (s := sB) rfl rfl (five_one HC4.out.i) ?_)
    | fail)
  refine wp_abs (F := fun W => BoxS W3.heap.size f2 sB W ∧ Below W3.heap.size W3 W) ⟨BoxS.new HC4.out.i, (Below.refl _ _).alloc (Nat.le_refl _) _⟩ ?_
  rintro W4 ⟨hX4, hb4⟩
  have HX4 := Lib.hid hX4; have Hb4 := Lib.hid hb4
  clear hX4 hb4
  obtain ⟨n4, hn4⟩ : ∃ n4, W3.heap.size = n4 := ⟨_, rfl⟩
  rw [hn4] at HX4 ⊢
  have hO5 := HX4.out.o.step ((Below.refl _ _).alloc (Nat.le_refl _) (.cells #[.int .u64 0, .int .u8 0, .string ⟨#[]⟩, .int .i64 3] 97))
  have c15 := hO5.c 15; have c16 := hO5.c 16; have c17 := hO5.c 17
  have k15 := hO5.f 15; have k16 := hO5.f 16; have k17 := hO5.f 17
  simp [stoCells] at c15 c16 c17
  go_upto_region 6 with fail
  clear c15 c16 c17 k15 k16 k17
  refine wp_abs (F := fun W => (∃ f, BoxS n4 f sC W) ∧ Below W3.heap.size W3 W) ⟨⟨⟨f2.r, f2.e, .slice (some ⟨W4.heap.size, 0, none⟩) 1 1, nilV, nilV⟩, ?_⟩, ?_⟩ ?_
  · have hb : Below W4.heap.size W4 (W4.alloc (.cells #[.int .u64 0, .int .u8 0, .string ⟨#[]⟩, .int .i64 3] 97)) := (Below.refl _ _).alloc (Nat.le_refl _) _
    have hw : Below W3.heap.size W3 ((((W4.alloc (.cells #[.int .u64 0, .int .u8 0, .string ⟨#[]⟩, .int .i64 3] 97)).setCell ⟨n4, 15, none⟩ (.slice (some ⟨W4.heap.size, 0, none⟩) 1 1)).setCell ⟨n4, 16, none⟩ (.slice none 0 0)).setCell ⟨n4, 17, none⟩ (.slice none 0 0)) :=
      (((Hb4.out.alloc Hb4.out.size _).setCell (Nat.le_of_eq hn4) _).setCell (Nat.le_of_eq hn4) _).setCell (Nat.le_of_eq hn4) _
    refine ⟨((hO5.set (i := 15) (by show 15 < 18; decide) _).set (i := 16) (by simp; show 16 < 18; decide) _).set (i := 17) (by simp; show 17 < 18; decide) _, ⟨HC4.out.i.c.r.below hw (Nat.le_refl _), HC4.out.i.c.e.below hw (Nat.le_refl _)⟩, ?_, IsNums.none _, IsStrs.nil _⟩
    have hlt := HX4.out.o.lt
    exact IsGots.one (g := ⟨dV, 3⟩) ((((One.of W4 _ _).far (by show n4 ≠ _; omega) _).far (by show n4 ≠ _; omega) _).far (by show n4 ≠ _; omega) _)
  · exact (((Hb4.out.alloc Hb4.out.size _).setCell (Nat.le_of_eq hn4) _).setCell (Nat.le_of_eq hn4) _).setCell (Nat.le_of_eq hn4) _
  rintro W5 ⟨⟨f4, hX4⟩, hb5⟩
  have HA5 := Lib.hid (HA4.out.step hb5); have HC5 := Lib.hid (HC4.out.step hb5); have HD5 := Lib.hid hX4; have HV5 := Lib.hid (HV3.out.step hb5); have HB5 := Lib.hid (Hb3.out.trans (hb5.mono Hb3.out.size))
  clear hX4 hb5 HA4 HC4 HV3 Hb3 HX4 Hb4 hO5
  go_wp2_with (first
    | (refine wpl_load_sto rfl (.tmp 1) rfl rfl HA5.out.at ?_)
    | (refine wpl_load_sto rfl (.tmp 4) rfl rfl HD5.out.at ?_)
    | (refine wpl_build_sto2 rfl (.tmp 31) (.tmp 32) rfl rfl rfl ?_)
    | fail)
  refine (check_two sA sC _ _ (IsStos.rowN W5 [(f1, sA), (f4, sC)] _ ?_) szA szC ?_).mono ?_
  · intro x hx
    simp only [List.mem_cons, List.not_mem_nil, or_false] at hx
    rcases hx with rfl | rfl
    · exact HA5.out.i
    · exact HD5.out.i
  · exact HM.out.below (HB5.out.alloc HB5.out.size _) (Nat.le_refl _)
  rintro e w6 ⟨rfl, hb6⟩
  have hb6' : Below W5.heap.size W5 w6 := ((Below.refl _ _).alloc (Nat.le_refl _) _).trans (hb6.mono (by simp))
  have HA6 := Lib.hid (HA5.out.step hb6'); have HC6 := Lib.hid (HC5.out.step hb6'); have HV6 := Lib.hid (HV5.out.step hb6'); have HB6 := Lib.hid (HB5.out.trans (hb6'.mono HB5.out.size))
  clear HA5 HC5 HD5 HV5 HB5 hb6 hb6'
  rw [check_AC]
  unfold vdVal
  go_upto_region 7 with fail
  refine wp_abs (F := fun W => BoxS n1 f1 sA W ∧ BoxS n2 f2 sB W ∧ One n3 #[.bool true, .int .i64 0, .int .u8 0] W ∧ One w6.heap.size #[.bool false, .int .i64 1, .int .u8 4] W ∧ Below w.heap.size w W) ?_ ?_
  · have hb : Below w6.heap.size w6 (w6.alloc (.cells #[.bool false, .int .i64 1, .int .u8 4] 72)) := (Below.refl _ _).alloc (Nat.le_refl _) _
    exact ⟨HA6.out.step hb, HC6.out.step hb, HV6.out.step hb, One.of _ _ _, HB6.out.alloc HB6.out.size _⟩
  rintro W6 ⟨hX1, hX2, hV3, hV5, hb7⟩
  have HA7 := Lib.hid hX1; have HC7 := Lib.hid hX2; have HV7 := Lib.hid hV3; have HU7 := Lib.hid hV5; have HB7 := Lib.hid hb7
  clear hX1 hX2 hb7 hV3 hV5 HA6 HC6 HB6 HV6
  obtain ⟨n5, hn5⟩ : ∃ n5, w6.heap.size = n5 := ⟨_, rfl⟩
  rw [hn5] at HU7 ⊢
  go_upto_region 8 with (first
    | (refine wpl_load_sto rfl (.tmp 1) rfl rfl HA7.out.at ?_)
    | (refine wpl_store_stN rfl (.tmp 6) (.tmp 35) rfl W6.heap.size rfl rfl (f := f1) (s := sA) rfl rfl (five_one HA7.out.i) ?_)
    | fail)
  refine wp_abs (F := fun W => BoxS W6.heap.size f1 sA W ∧ Below W6.heap.size W6 W) ⟨BoxS.new HA7.out.i, (Below.refl _ _).alloc (Nat.le_refl _) _⟩ ?_
  rintro W7 ⟨hX6, hb8⟩
  have HX6 := Lib.hid hX6; have Hb8 := Lib.hid hb8
  clear hX6 hb8
  obtain ⟨n6, hn6⟩ : ∃ n6, W6.heap.size = n6 := ⟨_, rfl⟩
  rw [hn6] at HX6 ⊢
  have c13 := HX6.out.o.c 13; have k13 := HX6.out.o.f 13
  simp [stoCells] at c13
  go_upto_region 9 with fail
  clear c13 k13
  refine wp_abs (F := fun W => BoxS n6 f1 sD W ∧ Below W6.heap.size W6 W) ⟨?_, Hb8.out.setCell (Nat.le_of_eq hn6) _⟩ ?_
  · have hw := Hb8.out.setCell (p := ⟨n6, 13, none⟩) (Nat.le_of_eq hn6) (.int .i64 3)
    have hi := HA7.out.i.below hw (Nat.le_refl _)
    exact ⟨HX6.out.o.set (i := 13) (by show 13 < 18; decide) _, ⟨hi.c, hi.g, hi.n, hi.m⟩⟩
  rintro W8 ⟨hX6, hb9⟩
  have HA9 := Lib.hid (HA7.out.step hb9); have HC9 := Lib.hid (HC7.out.step hb9); have HD9 := Lib.hid hX6; have HV9 := Lib.hid (HV7.out.step hb9); have HU9 := Lib.hid (HU7.out.step hb9); have HB9 := Lib.hid (HB7.out.trans (hb9.mono HB7.out.size))
  clear hX6 hb9 HA7 HC7 HV7 HU7 HB7 HX6 Hb8
  go_wp2_with (first
    | (refine wpl_load_sto rfl (.tmp 6) rfl rfl HD9.out.at ?_)
    | (refine wpl_load_sto rfl (.tmp 2) rfl rfl HC9.out.at ?_)
    | (refine wpl_build_sto2 rfl (.tmp 37) (.tmp 38) rfl rfl rfl ?_)
    | fail)
  refine (check_two sD sB _ _ (IsStos.rowN W8 [(f1, sD), (f2, sB)] _ ?_) szD szB ?_).mono ?_
  · intro x hx
    simp only [List.mem_cons, List.not_mem_nil, or_false] at hx
    rcases hx with rfl | rfl
    · exact HD9.out.i
    · exact HC9.out.i
  · exact HM.out.below (HB9.out.alloc HB9.out.size _) (Nat.le_refl _)
  rintro e wA ⟨rfl, hbA⟩
  have hbA' : Below W8.heap.size W8 wA := ((Below.refl _ _).alloc (Nat.le_refl _) _).trans (hbA.mono (by simp))
  have HAA := Lib.hid (HA9.out.step hbA'); have HCA := Lib.hid (HC9.out.step hbA'); have HVA := Lib.hid (HV9.out.step hbA'); have HUA := Lib.hid (HU9.out.step hbA'); have HBA := Lib.hid (HB9.out.trans (hbA'.mono HB9.out.size))
  clear HA9 HC9 HD9 HV9 HU9 HB9 hbA hbA'
  rw [check_DB]
  unfold vdVal
  go_upto_region 10 with fail
  refine wp_abs (F := fun W => BoxS n1 f1 sA W ∧ BoxS n2 f2 sB W ∧ One n3 #[.bool true, .int .i64 0, .int .u8 0] W ∧ One n5 #[.bool false, .int .i64 1, .int .u8 4] W ∧ One wA.heap.size #[.bool false, .int .i64 1, .int .u8 1] W ∧ Below w.heap.size w W) ?_ ?_
  · have hb : Below wA.heap.size wA (wA.alloc (.cells #[.bool false, .int .i64 1, .int .u8 1] 72)) := (Below.refl _ _).alloc (Nat.le_refl _) _
    exact ⟨HAA.out.step hb, HCA.out.step hb, HVA.out.step hb, HUA.out.step hb, One.of _ _ _, HBA.out.alloc HBA.out.size _⟩
  rintro WA ⟨hX1, hX2, hV3, hV5, hV7, hbB⟩
  have HAB := Lib.hid hX1; have HCB := Lib.hid hX2; have HVB := Lib.hid hV3; have HUB := Lib.hid hV5; have HTB := Lib.hid hV7; have HBB := Lib.hid hbB
  clear hX1 hX2 hbB hV3 hV5 hV7 HAA HCA HVA HUA HBA
  obtain ⟨n7, hn7⟩ : ∃ n7, wA.heap.size = n7 := ⟨_, rfl⟩
  rw [hn7] at HTB ⊢
  have hoA := HAB.out.o.step ((Below.refl _ _).alloc (Nat.le_refl _) (.cells (stoFlat [(f1, sA), (f2, sB)]).toArray 87))
  have c11 := hoA.c 11; have c12 := hoA.c 12
  simp [stoCells] at c11 c12
  go_wp2_with (first
    | (refine wpl_load_sto rfl (.tmp 1) rfl rfl HAB.out.at ?_)
    | (refine wpl_load_sto rfl (.tmp 2) rfl rfl HCB.out.at ?_)
    | (refine wpl_build_sto2 rfl (.tmp 42) (.tmp 43) rfl rfl rfl ?_)
    | fail)
  have hwX : Below WA.heap.size WA ((WA.alloc (.cells (stoFlat [(f1, sA), (f2, sB)]).toArray 87)).alloc (.cells #[.int .u64 sA.life, .int .u64 sA.txn] 82)) := ((Below.refl _ _).alloc (Nat.le_refl _) _).alloc (by simp) _
  refine (model_behind [sA, sB] [(1, 1)] _ _ _ ((IsStos.rowN WA [(f1, sA), (f2, sB)] _ ?_).below ((Below.refl _ _).alloc (Nat.le_refl _) _) (Nat.le_refl _)) ⟨_, 1, rfl, Or.inr ⟨_, 0, rfl, ?_, ?_⟩⟩ (by decide) (by decide) (Nat.le_trans (idxO_le _ _) (by decide)) (StosSz.two szA szB) ?_ ?_ ?_).mono ?_
  · intro x hx
    simp only [List.mem_cons, List.not_mem_nil, or_false] at hx
    rcases hx with rfl | rfl
    · exact HAB.out.i
    · exact HCB.out.i
  · simp
  · intro i hi
    obtain rfl : i = 0 := by simpa using hi
    have h := One.of (WA.alloc (.cells (stoFlat [(f1, sA), (f2, sB)]).toArray 87)) #[.int .u64 sA.life, .int .u64 sA.txn] 82
    have h0 := h.c 0; have h1 := h.c 1
    rw [show (WA.alloc (.cells (stoFlat [(f1, sA), (f2, sB)]).toArray 87)).heap.size = WA.heap.size + 1 by simp] at h0 h1
    exact ⟨h0, h1⟩
  · intro x hx
    obtain rfl : x = (1, 1) := by simpa using hx
    exact ⟨by decide, by decide⟩
  · intro i hi
    have : i = 0 ∨ i = 1 := by have : i < 2 := hi; omega
    rcases this with rfl | rfl
    · exact ⟨by decide, by decide⟩
    · exact ⟨by decide, by decide⟩
  · exact HM.out.below (HBB.out.trans (hwX.mono HBB.out.size)) (Nat.le_refl _)
  rintro e wB ⟨vw, rfl, hrw, hbB⟩
  rw [all_AB]
  rw [some_AB, rows_A, rows_exM] at hrw
  have hbX : Below WA.heap.size WA wB := hwX.trans (hbB.mono hwX.size)
  obtain ⟨aw, cw, rfl, hrw⟩ := hrw
  rcases hrw with h | ⟨br, orr, rfl, hlt, hc⟩
  · cases h
  obtain ⟨hr0, _, _⟩ := hc 0 (by decide)
  have h3 := HVB.out.step hbX; have h5 := HUB.out.step hbX; have h7 := HTB.out.step hbX
  have hBZ := HBB.out.trans (hbX.mono HBB.out.size)
  have a30 := h3.c 0; have a50 := h5.c 0; have a51 := h5.c 1; have a52 := h5.c 2; have a70 := h7.c 0; have a71 := h7.c 1; have a72 := h7.c 2
  simp at a30 a50 a51 a52 a70 a71 a72 hr0
  have HZ := Lib.hid hBZ
  clear hBZ h3 h5 h7 hbX hbB hwX hc HAB HCB HVB HUB HTB HBB hlt c11 c12 hoA
  have hq4 := vd_eq4; have hq1 := vd_eq1
  go_upto_region 11 with fail
  go_wp2_with fail
  have hta : (tA.toList == [97]) = true := by kernel_rfl
  rw [hta]
  exact bodyPost_ret (v := .bool true) (by simp [results, Tryz.results29, go_sem]) rfl ⟨rfl, HZ.out⟩
end Go.Proofs.YtfbgnpfhjbiikaaGreatDoor

namespace Go.Proofs.YtfbgnpfhjbiikaaGreatDoor
open Go Go.RowKit
open Pth
open Go.Maps (has size Canon CanonK Tidy IsMap KeysOf Keyed Merged)
theorem infoIntR : (Tryz.prog.info? 3).map (fun i => (i.zero, i.size, i.bytes)) = some (some (.int .i64 0), 1, 8) := by kernel_rfl
section
variable {cs : List Cal} {lost : List Bool}
theorem tolA_lens (i : Nat) : (tolA cs lost i).got.length ≤ (cs.getD i dCal).rds.length ∧ (tolA cs lost i).nums.length ≤ (cs.getD i dCal).eds.length ∧ (tolA cs lost i).names.length ≤ edN cs i := by
  obtain ⟨h1, h2⟩ := tolM_good cs i
  have h3 := does_lens (B := (bytesR (rowsL (tolM cs i)) : Int)) (q1 := QQ) (q2 := QQ) (c := cs.getD i dCal) h1
  unfold tolA tolS
  split
  · exact ⟨Nat.zero_le _, Nat.zero_le _, Nat.zero_le _⟩
  · split
    · exact ⟨Nat.zero_le _, Nat.zero_le _, Nat.zero_le _⟩
    · exact ⟨h3.1, h3.2.1, Nat.le_trans h3.2.2 h2⟩
theorem tol_hev {i : Nat} (hi : i < cs.length) (hz : CalSz (cs.getD i dCal)) (ht : ∀ j, j < (cs.getD i dCal).eds.length → ((cs.getD i dCal).eds.getD j dE).text.size ≤ 1048576) (he : edN cs cs.length ≤ 500000) : HevSz (tolA cs lost i) := by
  obtain ⟨h1, h2, h3⟩ := tolA_lens (cs := cs) (lost := lost) i
  have h4 := edN_mono cs (show i ≤ cs.length by omega)
  have hr := hz.r; have hee := hz.e; have hp := hz.p
  refine ⟨?_, ?_, by omega, by omega, by omega, fun j hj => ?_, fun j hj => ?_, ?_⟩
  · rw [tolA_call]; omega
  · rw [tolA_call]; omega
  · rw [tolA_call] at hj ⊢; have := hz.rs j hj; omega
  · rw [tolA_call] at hj ⊢; have := hz.es j hj; have := ht j hj; constructor <;> omega
  · rw [tolA_call]; omega
theorem tol_stosz {i : Nat} (hz : CalSz (cs.getD i dCal)) (hs : HevS (tolA cs lost i) 600) : StoSz (tolA cs lost i) := by
  obtain ⟨_, h2, h3, h4, h5⟩ := hs
  exact ⟨by rw [tolA_call]; exact hz, by omega, by omega, by omega, by omega⟩
end
theorem StoSz.com {s : Sto} (h : StoSz s) (x : Int) : StoSz { s with com := x } := ⟨h.c, h.e, h.g, h.n, h.m⟩
theorem swap_sz {l : List Sto} {x y : Nat} (h : StosSz l) (hx : x < l.length) (hy : y < l.length) : StosSz (swapS l x y) := by
  intro i hi
  have hl : (swapS l x y).length = l.length := by simp [swapS]
  rw [hl] at hi
  unfold swapS
  rw [List.getD_eq_getElem?_getD]
  by_cases e : y = i
  · subst e
    rw [List.getElem?_set_self (by rw [List.length_set]; exact hi)]
    exact (h _ hy).com _
  · rw [List.getElem?_set_ne e]
    by_cases e2 : x = i
    · subst e2
      rw [List.getElem?_set_self hi]
      exact (h _ hx).com _
    · rw [List.getElem?_set_ne e2, ← List.getD_eq_getElem?_getD]
      exact h i hi
theorem run_right (b : Bool) (x y : Int) (w : World) : (Instr.field 72 (.agg #[.bool b, .int .i64 x, .int .u8 y]) 0).run Tryz.prog w = .ok (.bool b) w := by kernel_rfl
def idxS (cs : List Cal) (lost : List Bool) (k : Nat) : List Nat := (List.range k).filter (fun i => decide (0 < (tolA cs lost i).com))
def atS (cs : List Cal) (lost : List Bool) (k : Nat) : List Nat := (List.range k).filter (fun i => decide (0 < (tolA cs lost i).com) && decide (0 < (tolA cs lost i).til))
theorem idxS_succ (cs : List Cal) (lost : List Bool) (k : Nat) : idxS cs lost (k + 1) = if 0 < (tolA cs lost k).com then idxS cs lost k ++ [k] else idxS cs lost k := by
  unfold idxS
  rw [List.range_succ, List.filter_append]
  by_cases h : 0 < (tolA cs lost k).com <;> simp [h]
theorem atS_succ (cs : List Cal) (lost : List Bool) (k : Nat) : atS cs lost (k + 1) = if 0 < (tolA cs lost k).com ∧ 0 < (tolA cs lost k).til then atS cs lost k ++ [k] else atS cs lost k := by
  unfold atS
  rw [List.range_succ, List.filter_append]
  by_cases h : 0 < (tolA cs lost k).com <;> by_cases h2 : 0 < (tolA cs lost k).til <;> simp [h, h2]
theorem atS_mem {cs : List Cal} {lost : List Bool} {k i : Nat} (h : i ∈ atS cs lost k) : i < k ∧ 0 < (tolA cs lost i).com ∧ 0 < (tolA cs lost i).til := by
  obtain ⟨h1, h2⟩ := List.mem_filter.1 h
  rw [Bool.and_eq_true, decide_eq_true_eq, decide_eq_true_eq] at h2
  exact ⟨List.mem_range.1 h1, h2.1, h2.2⟩

set_option maxRecDepth 100000 in
set_option maxHeartbeats 8000000 in
theorem law31_right (cs : List Cal) (v : Value) (lost : List Bool) (vl : Value) (xa xb : Nat) (w : World) (hv : IsCals w v cs) (hl : IsBools w vl lost) (hz : ∀ i, i < cs.length → CalSz (cs.getD i dCal))
    (ht : ∀ i, i < cs.length → ∀ j, j < (cs.getD i dCal).eds.length → ((cs.getD i dCal).eds.getD j dE).text.size ≤ 1048576) (he : edN cs cs.length ≤ 500000) (hxa : xa < 256) (hxb : xb < 256) (hm : MX w) :
    Calls Tryz.prog 5 #[v, vl, .int .u8 xa, .int .u8 xb] w fun e w' => e = .returned (.bool true) ∧ Below w.heap.size w w' := by
  have HZ := Lib.hid hz; have HE := Lib.hid he; have HT := Lib.hid ht; have HM := Lib.hid hm
  have hrr := run_right
  have HAl := Lib.hid (fun (W : World) (h : Below w.heap.size w W) => law_alive W (HM.out.below h (Nat.le_refl _)))
  have HTo := Lib.hid (fun (h : cs.length ≤ 20) => law_told cs lost v vl w hv hl h hz he)
  obtain ⟨a, cap, rfl, _⟩ := hv
  clear hl hz he ht hm
  go_enter Tryz.func5, Tryz.ntmps5
  by_cases h20 : cs.length ≤ 20
  · have h20i : ¬ (20 : Int) < (cs.length : Int) := by omega
    go_wp2_with fail
    refine (HTo.out h20).mono ?_
    rintro e w1 ⟨vt, rfl, hst, hb1⟩
    have HST := Lib.hid hst; have HB1 := Lib.hid hb1
    have HHe := Lib.hid (law_heavy31 _ vt w1 hst (by rw [tolL_length]; omega) (fun i hi => by rw [tolL_length] at hi; rw [tolL_at hi]; exact tol_hev hi (HZ.out i hi) (HT.out i hi) HE.out))
    obtain ⟨n, hn⟩ : ∃ n, n = cs.length := ⟨_, rfl⟩
    have HN := Lib.hid hn
    rw [← hn] at HST HHe h20
    clear hst hb1 HTo h20i hn
    go_wp2_with fail
    refine HHe.out.mono ?_
    rintro e w2 ⟨hv, rfl, hhv, hb2⟩
    have HB2 : Hid (Below w.heap.size w w2) := Lib.hid (HB1.out.trans (hb2.mono HB1.out.size))
    have HS2 := Lib.hid (HST.out.below hb2 (Nat.le_refl _))
    have HHv := Lib.hid hhv
    clear hb2 hhv HHe HST HB1
    cases hv with
    | true =>
      go_wp2_with fail
      refine (HAl.out _ HB2.out).mono ?_
      rintro e w3 ⟨rfl, hb3⟩
      go_wp2_with fail
      go_ret
      exact ⟨rfl, HB2.out.trans (hb3.mono HB2.out.size)⟩
    | false =>
      have HSz : Hid (∀ i, i < n → StoSz (tolA cs lost i)) := Lib.hid (fun i hi => by
        obtain ⟨_, h2⟩ := HHv.out rfl
        have h3 := (h2 i (by rw [tolL_length]; exact hi)).2
        rw [tolL_at hi] at h3
        exact tol_stosz (HZ.out i (by rw [← HN.out]; exact hi)) h3)
      have HCk : Hid (∀ (idx : List Nat) (u : Value) (W : World), (∀ i ∈ idx, i < n) → idx.length ≤ 20 → IsStos W u (idx.map (tolA cs lost)) → Below w.heap.size w W → Calls Tryz.prog 32 #[u] W (CheckG (idx.map (tolA cs lost)) W)) :=
        Lib.hid (fun idx u W h1 h2 h3 h4 => model_check _ u W h3 (by rw [List.length_map]; omega) (Nat.le_trans (idxO_le _ _) (by rw [List.length_map]; exact h2)) (fun i hi => by
          rw [List.length_map] at hi
          rw [some_at hi]
          exact HSz.out _ (h1 _ (by rw [jAt_get hi]; exact List.getElem_mem hi))) (HM.out.below h4 (Nat.le_refl _)))
      have HRw : Hid (∀ (idx : List Nat) (u : Value) (W : World), (∀ i ∈ idx, i < n) → idx.length ≤ 20 → IsStos W u (idx.map (tolA cs lost)) → Below w.heap.size w W → Calls Tryz.prog 33 #[u] W (RowsSG (idx.map (tolA cs lost)) W)) :=
        Lib.hid (fun idx u W h1 h2 h3 h4 => model_rows _ u W h3 (by rw [List.length_map]; omega) (Nat.le_trans (idxO_le _ _) (by rw [List.length_map]; exact h2)) (fun i hi => by
          rw [List.length_map] at hi
          rw [some_at hi]
          exact HSz.out _ (h1 _ (by rw [jAt_get hi]; exact List.getElem_mem hi))) (HM.out.below h4 (Nat.le_refl _)))
      have hR1 := (someT_all cs lost n).right
      have hR2 := (someT_com cs lost n).right
      have HR1 := Lib.hid hR1; have HR2 := Lib.hid hR2
      clear hR1 hR2
      have HCl := Lib.hid (HCk.out (List.range n) vt w2 (fun i hi => List.mem_range.1 hi) (by simpa using h20) HS2.out HB2.out)
      go_wp2_with fail
      refine HCl.out.mono ?_
      rintro e w3 ⟨rfl, hb3⟩
      have HB3 : Hid (Below w.heap.size w w3) := Lib.hid (HB2.out.trans (hb3.mono HB2.out.size))
      have HS3 := Lib.hid (HS2.out.below hb3 (Nat.le_refl _))
      rw [HR1.out.1]
      unfold vdVal
      clear hb3 HCl HS2
      obtain ⟨i0, hi, hz0, hz1, hz2⟩ := info_parts infoStoA
      obtain ⟨j0, hji, hj0, hj1, hj2⟩ := info_parts infoIntR
      obtain ⟨aT, cT, rfl, hcT, hoT⟩ := HS3.out
      have hlT : (tolL cs lost n).length = n := tolL_length _ _ _
      have HOT := Lib.hid hoT
      rw [hlT] at HS3 hcT HOT ⊢
      clear hoT hlT
      go_wp2_with fail
      go_loopw [10, 11, 12] (fun s10 s11 s12 wr => ∃ (k : Nat) (T : List (Five × Sto)) (a10 a11 : Option Addr) (c10 c11 : Nat), k ≤ n ∧ s10 = .slice a10 T.length c10 ∧ s11 = .slice a11 (atS cs lost k).length c11 ∧ s12 = .int .i64 k ∧ Hid (T.map (·.2) = (idxS cs lost k).map (tolA cs lost)) ∧ Hid (∀ x ∈ T, StoIs w3 x.1 x.2) ∧
        Hid (wr.ownsRow w3.heap.size 87 18 (.slice a10 T.length c10) T.length (stoFlat T)) ∧ Hid (wr.ownsRow w3.heap.size 3 1 (.slice a11 (atS cs lost k).length c11) (atS cs lost k).length ((atS cs lost k).map (fun j : Nat => Value.int .i64 j))) ∧ Hid (∀ j, (Value.slice a10 T.length c10).ownBlock = some j → ¬ (Value.slice a11 (atS cs lost k).length c11).ownBlock = some j) ∧ Hid (Below w3.heap.size w3 wr)) (fun _ _ i _ => n - (intOf i).toNat)
      case atStart => exact ⟨0, [], none, none, 0, 0, Nat.zero_le _, rfl, rfl, rfl, Lib.hid rfl, Lib.hid (fun x hx => by cases hx), Lib.hid (World.ownsRow_nil _ _ _ _), Lib.hid (World.ownsRow_nil _ _ _ _), Lib.hid (fun j hj => by cases hj), Lib.hid (Below.refl _ _)⟩
      case round =>
        obtain ⟨k, T, a10, a11, c10, c11, hk, rfl, rfl, rfl, hmap, hsi, hrow, hrw2, hdis, hbw⟩ := hrel
        have hTl : T.length ≤ k := by
          have h1 := congrArg List.length hmap.out
          rw [List.length_map, List.length_map] at h1
          rw [h1]; unfold idxS
          exact Nat.le_trans (List.length_filter_le _ _) (by simp)
        have hAl : (atS cs lost k).length ≤ k := by unfold atS; exact Nat.le_trans (List.length_filter_le _ _) (by simp)
        have hk20 : k ≤ 20 := by omega
        by_cases hlt : k < n
        · have hltI : (k : Int) < (n : Int) := by omega
          rcases HOT.out with hn0 | ⟨b1, o1, rfl, hblt, hst⟩
          · have := congrArg List.length hn0; rw [tolL_length] at this; simp at this; omega
          obtain ⟨f, hsi1, hat⟩ := hst k hlt
          rw [tolL_at hlt] at hsi1 hat
          have HAT := Lib.hid (hat.below hbw.out hblt)
          have HSI := Lib.hid hsi1
          have HIx := Lib.hid (idxS_succ cs lost k); have HAx := Lib.hid (atS_succ cs lost k)
          obtain ⟨x, hx⟩ : ∃ x, tolA cs lost k = x := ⟨_, rfl⟩
          have HX := Lib.hid hx
          rw [hx] at HAT HSI HIx HAx
          have y13 := HAT.out 13 _ rfl
          have y9 := HAT.out 9 _ rfl
          have HBL : Hid (b1 < w3.heap.size) := Lib.hid hblt
          obtain ⟨L, hL⟩ : ∃ L, atS cs lost k = L := ⟨_, rfl⟩
          rw [hL] at hrw2 hdis hAl HAx ⊢
          have HLe := Lib.hid hL
          clear hx hst hsi1 hat hL
          by_cases hc : 0 < x.com
          · have HIx2 : Hid (idxS cs lost (k + 1) = idxS cs lost k ++ [k]) := Lib.hid (by rw [HIx.out, if_pos hc])
            have hcI : (0 : Int) < x.com := hc
            have hbA : Below wr.heap.size wr (wr.alloc (.cells (stoCells f x).toArray 87)) := (Below.refl _ _).alloc (Nat.le_refl _) _
            have HbA := Lib.hid hbA
            clear hbA HIx hc
            go_upto_region 15 with (first
              | (refine wpl_load_sto rfl (.tmp 48) rfl rfl HAT.out ?_)
              | (refine wpl_build_sto rfl (.tmp 49) rfl rfl ?_)
              | (at_builtin; refine wpList_append_own_at _ rfl (.tmp 45) (.tmp 50) 68 rfl w3.heap.size 87 i0 (.agg #[.int .i64 0, .int .u8 0, .slice none 0 0, .slice none 0 0, .string ByteArray.empty, .int .u64 0, .int .u64 0, .int .u32 0, .int .i64 0, .int .i64 0, .bool false, .int .u64 0, .int .u64 0, .int .i64 0, .int .i64 0, .slice none 0 0, .slice none 0 0, .slice none 0 0]) 18 232 Tryz.underlying68 hi hz0 hz1 hz2 rfl (by decide) _ T.length (stoFlat T) rfl (ownBelow hrow.out HbA.out) ⟨wr.heap.size, 0, none⟩ 1 1 (stoCells f x) rfl rfl (World.news_of_block (MapKept.heap_alloc _ _).1) (five_one HSI.out) (by unfold maxLen; omega) (by omega) ?hbase1 ?go1; (case hbase1 => have h1 := hbw.out.size; simp; omega); intro v5 w5 hown5 hg5 _ hat5; obtain ⟨a6, c6, rfl⟩ := ownShape hown5; have Hown5 := Lib.hid hown5; have Hg5 := Lib.hid hg5; have Hat5 := Lib.hid hat5; clear hown5 hg5 hat5)
              | fail)
            have HW5 : Hid (Below w3.heap.size wr w5) := Lib.hid ((HbA.out.mono hbw.out.size).grown Hg5.out (Nat.le_trans hbw.out.size HbA.out.size) (fun j hj => ownAbove hrow.out j hj))
            have HB5 : Hid (Below w3.heap.size w3 w5) := Lib.hid (hbw.out.trans HW5.out)
            have HAT5 := Lib.hid (HAT.out.below HW5.out HBL.out)
            have z13 := HAT5.out 13 _ rfl
            have z9 := HAT5.out 9 _ rfl
            have HR2 := Lib.hid (ownBut2 (ownBelow hrw2.out HbA.out) (butRow Hg5.out) (fun j hj e => hdis.out j e.symm hj))
            have HD5 : Hid (∀ j, (Value.slice a6 (T.length + 1) c6).ownBlock = some j → ¬ (Value.slice a11 L.length c11).ownBlock = some j) := Lib.hid (fun j h1 h2 => by
              rcases Hat5.out with h | h
              · exact hdis.out j (h ▸ h1) h2
              · rw [h] at h1
                have := ownLt hrw2.out j h2
                have hs := HbA.out.size
                injection h1 with e1
                omega)
            have HT5 : Hid ((T ++ [(f, x)]).map (·.2) = (idxS cs lost (k + 1)).map (tolA cs lost)) := Lib.hid (by rw [HIx2.out, List.map_append, List.map_append, hmap.out]; simp [HX.out])
            have HS5 : Hid (∀ y ∈ T ++ [(f, x)], StoIs w3 y.1 y.2) := Lib.hid (fun y hy => by
              rcases List.mem_append.1 hy with hy | hy
              · exact hsi.out y hy
              · rw [List.mem_singleton.1 hy]; exact HSI.out)
            have HO5 : Hid (w5.ownsRow w3.heap.size 87 18 (.slice a6 (T ++ [(f, x)]).length c6) (T ++ [(f, x)]).length (stoFlat (T ++ [(f, x)]))) := Lib.hid (by rw [List.length_append, stoFlat_append]; exact Hown5.out)
            clear y13 y9
            by_cases hc2 : 0 < x.til
            · have hc2I : (0 : Int) < x.til := hc2
              have HAx2 : Hid (atS cs lost (k + 1) = L ++ [k]) := Lib.hid (by rw [HAx.out, if_pos ⟨hcI, hc2⟩])
              clear hc2 HAx
              go_wp2_with (first
                | (at_builtin; refine wpList_append_own_at _ rfl (.tmp 66) (.tmp 68) 74 rfl w3.heap.size 3 j0 (.int .i64 0) 1 8 Tryz.underlying74 hji hj0 hj1 hj2 rfl (by decide) _ L.length (L.map (fun j : Nat => Value.int .i64 j)) rfl (ownBelow HR2.out ((Below.refl _ _).alloc (Nat.le_refl _) _)) ⟨w5.heap.size, 0, none⟩ 1 1 [.int .i64 k] rfl rfl (World.news_of_block (MapKept.heap_alloc _ _).1) (by intro u hu; rcases List.mem_singleton.1 hu with rfl; rfl) (by unfold maxLen; omega) (by omega) ?hbase2 ?go2; (case hbase2 => have h1 := HB5.out.size; simp; omega); intro v7 w7 hown7 hg7 _ hat7; obtain ⟨a8, c8, rfl⟩ := ownShape hown7; have Hown7 := Lib.hid hown7; have Hg7 := Lib.hid hg7; have Hat7 := Lib.hid hat7; clear hown7 hg7 hat7)
                | fail)
              have HB7 : Hid (Below w3.heap.size w3 w7) := Lib.hid ((HB5.out.alloc HB5.out.size _).grown Hg7.out (HB5.out.alloc HB5.out.size _).size (fun j hj => ownAbove HR2.out j hj))
              have HbA7 : Hid (Below w5.heap.size w5 (w5.alloc (.cells #[.int .i64 k] 3))) := Lib.hid ((Below.refl _ _).alloc (Nat.le_refl _) _)
              have HR7 := Lib.hid (ownBut2 (ownBelow HO5.out HbA7.out) (butRow Hg7.out) (fun j hj e => HD5.out j (by rw [List.length_append] at hj; exact hj) e.symm))
              have HD7 : Hid (∀ j, (Value.slice a6 (T ++ [(f, x)]).length c6).ownBlock = some j → ¬ (Value.slice a8 (L.length + 1) c8).ownBlock = some j) := Lib.hid (fun j h1 h2 => by
                rw [List.length_append] at h1
                rcases Hat7.out with h | h
                · exact HD5.out j h1 (h ▸ h2)
                · rw [h] at h2
                  have := ownLt Hown5.out j h1
                  have hs := HbA7.out.size
                  injection h2 with e1
                  omega)
              go_roundw
              case rel =>
                refine ⟨k + 1, T ++ [(f, x)], a6, a8, c6, c8, by omega, by rw [List.length_append]; rfl, by rw [HAx2.out, List.length_append]; rfl, by go_num, HT5, HS5, HR7, Lib.hid ?_, Lib.hid ?_, HB7⟩
                · rw [HAx2.out, List.length_append, List.map_append]; exact Hown7.out
                · rw [HAx2.out]; intro j h1 h2; exact HD7.out j h1 (by rw [List.length_append] at h2; exact h2)
              case measure => simp [intOf]; omega
            · have hc2I : ¬ (0 : Int) < x.til := hc2
              have HAx2 : Hid (atS cs lost (k + 1) = L) := Lib.hid (by rw [HAx.out, if_neg (fun h => hc2 h.2)])
              clear hc2 HAx
              go_wp2_with fail
              go_roundw
              case rel =>
                refine ⟨k + 1, T ++ [(f, x)], a6, a11, c6, c11, by omega, by rw [List.length_append]; rfl, by rw [HAx2.out], by go_num, HT5, HS5, HO5, Lib.hid ?_, Lib.hid ?_, HB5⟩
                · rw [HAx2.out]; exact HR2.out
                · rw [HAx2.out, List.length_append]; exact HD5.out
              case measure => simp [intOf]; omega
          · have hcI : ¬ (0 : Int) < x.com := hc
            have HIx2 : Hid (idxS cs lost (k + 1) = idxS cs lost k) := Lib.hid (by rw [HIx.out, if_neg hc])
            have HAx2 : Hid (atS cs lost (k + 1) = L) := Lib.hid (by rw [HAx.out, if_neg (fun h => hc h.1)])
            clear hc HAx HIx
            go_wp2_with fail
            go_roundw
            case rel =>
              refine ⟨k + 1, T, a10, a11, c10, c11, by omega, rfl, by rw [HAx2.out], by go_num, Lib.hid ?_, hsi, hrow, Lib.hid ?_, Lib.hid ?_, hbw⟩
              · rw [HIx2.out]; exact hmap.out
              · rw [HAx2.out]; exact hrw2.out
              · rw [HAx2.out]; exact hdis.out
            case measure => simp [intOf]; omega
        · have hge : ¬ (k : Int) < (n : Int) := by omega
          obtain rfl : k = n := by omega
          have HB3r : Hid (Below w.heap.size w wr) := Lib.hid (HB3.out.trans (hbw.out.mono HB3.out.size))
          have HSo : Hid (IsStos wr (.slice a10 T.length c10) ((idxS cs lost k).map (tolA cs lost))) := Lib.hid (by
            rw [← hmap.out]
            exact IsStos.own hrow.out (fun x hx => (hsi.out x hx).below hbw.out (Nat.le_refl _)))
          have HSl : Hid (IsStos wr (.slice aT k cT) ((List.range k).map (tolA cs lost))) := Lib.hid (HS3.out.below hbw.out (Nat.le_refl _))
          have hil : (idxS cs lost k).length ≤ 20 := Nat.le_trans (by unfold idxS; exact Nat.le_trans (List.length_filter_le _ _) (by simp)) h20
          have him : ∀ i ∈ idxS cs lost k, i < k := fun i hi => List.mem_range.1 (List.mem_filter.1 hi).1
          have HC4 := Lib.hid (HCk.out (idxS cs lost k) _ wr him hil HSo.out HB3r.out)
          have HRow2 := Lib.hid hrw2.out
          have HBw := Lib.hid hbw.out
          clear hrow hmap hsi hdis hrw2 hbw
          go_wp2_with fail
          refine HC4.out.mono ?_
          rintro e w4 ⟨rfl, hb4⟩
          have HB4 : Hid (Below w.heap.size w w4) := Lib.hid (HB3r.out.trans (hb4.mono HB3r.out.size))
          have HRo := Lib.hid (HRw.out (idxS cs lost k) _ w4 him hil (HSo.out.below hb4 (Nat.le_refl _)) HB4.out)
          have HSl4 := Lib.hid (HSl.out.below hb4 (Nat.le_refl _))
          have HRow4 := Lib.hid (ownBelow HRow2.out hb4)
          have HBw4 : Hid (Below w3.heap.size w3 w4) := Lib.hid (HBw.out.trans (hb4.mono HBw.out.size))
          rw [show checkT ((idxS cs lost k).map (tolA cs lost)) = ⟨true, 0, 0⟩ from HR2.out.1]
          unfold vdVal
          clear hb4 HC4 HSl HRow2 HSo him hil HBw
          go_wp2_with fail
          refine HRo.out.mono ?_
          rintro e w5 ⟨v5, rfl, hr5, hb5⟩
          have HB5 : Hid (Below w.heap.size w w5) := Lib.hid (HB4.out.trans (hb5.mono HB4.out.size))
          have HSl5 := Lib.hid (HSl4.out.below hb5 (Nat.le_refl _))
          have HRow5 := Lib.hid (ownBelow HRow4.out hb5)
          have HBw5 : Hid (Below w3.heap.size w3 w5) := Lib.hid (HBw4.out.trans (hb5.mono HBw4.out.size))
          rw [show rowsS ((idxS cs lost k).map (tolA cs lost)) = rowsL (tolM cs k) from HR2.out.2] at hr5
          have HR5 := Lib.hid hr5
          have HRl := Lib.hid (HRw.out (List.range k) _ w5 (fun i hi => List.mem_range.1 hi) (by simpa using h20) HSl5.out HB5.out)
          clear hb5 hr5 HRo HSl4 HRow4 HBw4
          go_wp2_with fail
          refine HRl.out.mono ?_
          rintro e w6 ⟨v6, rfl, hr6, hb6⟩
          have HB6 : Hid (Below w.heap.size w w6) := Lib.hid (HB5.out.trans (hb6.mono HB5.out.size))
          have HSl6 := Lib.hid (HSl5.out.below hb6 (Nat.le_refl _))
          have HRow6 := Lib.hid (ownBelow HRow5.out hb6)
          have HBw6 : Hid (Below w3.heap.size w3 w6) := Lib.hid (HBw5.out.trans (hb6.mono HBw5.out.size))
          rw [HR1.out.2] at hr6
          have hgM := tolM_good cs k
          have HSm := Lib.hid (ref18_same (rowsL (tolM cs k)) v5 v6 w6 (HR5.out.below hb6 (Nat.le_refl _)) hr6 (by rw [rows_length hgM.1.canon]; have := edN_mono cs (show k ≤ cs.length by rw [← HN.out]; exact Nat.le_refl _); have := HE.out; omega) (fun i hi => by have := may_len ((Good.okR hgM.1).at hi).1.2.1; omega))
          clear hb6 hr6 hgM HRl HSl5 HRow5 HBw5 HR5
          go_wp2_with fail
          refine HSm.out.mono ?_
          rintro e w7 ⟨rfl, hb7⟩
          have HB7 : Hid (Below w.heap.size w w7) := Lib.hid (HB6.out.trans (hb7.mono HB6.out.size))
          have HSl7 := Lib.hid (HSl6.out.below hb7 (Nat.le_refl _))
          have HRow7 := Lib.hid (ownBelow HRow6.out hb7)
          have HAtM : Hid (∀ i ∈ atS cs lost k, i < k ∧ 0 < (tolA cs lost i).com ∧ 0 < (tolA cs lost i).til) := Lib.hid (fun i hi => atS_mem hi)
          obtain ⟨L, hL⟩ : ∃ L, atS cs lost k = L := ⟨_, rfl⟩
          rw [hL] at HRow7 HAtM ⊢
          have hLl : L.length ≤ 20 := by rw [← hL]; unfold atS; exact Nat.le_trans (List.length_filter_le _ _) (by simpa using h20)
          have hm7 := HAl.out w7 HB7.out
          have HA7 := Lib.hid hm7
          clear hb7 HSm HSl6 HRow6 HBw6 hL hm7
          by_cases h2 : L.length < 2
          · have h2I : (L.length : Int) < 2 := by omega
            clear h2
            go_wp2_with fail
            refine HA7.out.mono ?_
            rintro e w8 ⟨rfl, hb8⟩
            have hb := HB7.out.trans (hb8.mono HB7.out.size)
            clear hb8
            go_wp2_with fail
            go_ret
            exact ⟨rfl, hb⟩
          · have h2I : ¬ (L.length : Int) < 2 := by omega
            have h2 : 2 ≤ L.length := by omega
            obtain ⟨ga, rfl, hcel⟩ : ∃ ga, a11 = some ⟨ga, 0, none⟩ ∧ ∀ p, p < L.length → w7.cell? ⟨ga, p, none⟩ = some (.int .i64 (L.getD p 0 : Nat)) := by
              have hown := HRow7.out
              obtain ⟨g, cp, e, _, hg⟩ := World.ownsRow.form hown (by omega)
              injection e with e1 e2 e3
              subst e1
              refine ⟨g, rfl, fun p hp => ?_⟩
              rw [World.ownsRow.cellAt hown p (by rw [Nat.mul_one]; exact hp), List.getElem?_map, List.getD_eq_getElem?_getD, List.getElem?_eq_getElem hp]; rfl
            obtain ⟨p1, hp1⟩ : ∃ p, xa % L.length = p := ⟨_, rfl⟩
            obtain ⟨p2, hp2⟩ : ∃ p, xb % L.length = p := ⟨_, rfl⟩
            have hl1 : p1 < L.length := by rw [← hp1]; exact Nat.mod_lt _ (by omega)
            have hl2 : p2 < L.length := by rw [← hp2]; exact Nat.mod_lt _ (by omega)
            have hq1 : (xa : Int) % (L.length : Int) = (p1 : Int) := by rw [← hp1]; rfl
            have hq2 : (xb : Int) % (L.length : Int) = (p2 : Int) := by rw [← hp2]; rfl
            have hl1I : (p1 : Int) < (L.length : Int) := by omega
            have hl2I : (p2 : Int) < (L.length : Int) := by omega
            have e1 := hcel p1 hl1
            have e2 := hcel p2 hl2
            have hx1 := HAtM.out (L.getD p1 0) (by rw [List.getD_eq_getElem?_getD, List.getElem?_eq_getElem hl1]; exact List.getElem_mem hl1)
            have hx2 := HAtM.out (L.getD p2 0) (by rw [List.getD_eq_getElem?_getD, List.getElem?_eq_getElem hl2]; exact List.getElem_mem hl2)
            obtain ⟨x, hx⟩ : ∃ x, L.getD p1 0 = x := ⟨_, rfl⟩
            obtain ⟨y, hy⟩ : ∃ y, L.getD p2 0 = y := ⟨_, rfl⟩
            rw [hx] at e1 hx1
            rw [hy] at e2 hx2
            have HX1 := Lib.hid hx1; have HX2 := Lib.hid hx2
            have hxk : x < k := hx1.1
            have hyk : y < k := hx2.1
            have hLp : (0 : Int) < (L.length : Int) := by omega
            clear hx hy hcel hp1 hp2 HAtM hx1 hx2 h2 h2I
            go_upto_region 21 with fail
            go_quiet (fail)
            clear e1 e2
            have HB8 : Hid (Below w7.heap.size w7 (w7.drewN nq)) := Lib.hid (below_dn (Below.refl _ _) _)
            generalize w7.drewN nq = w8 at HB8 ⊢
            have HS8 := Lib.hid (HSl7.out.below HB8.out (Nat.le_refl _))
            have HBW8 : Hid (Below w.heap.size w w8) := Lib.hid (HB7.out.trans (HB8.out.mono HB7.out.size))
            have HA8 := Lib.hid (HAl.out w8 HBW8.out)
            by_cases hxy : x = y
            · have hxyI : (x : Int) = (y : Int) := by omega
              have hxyb : ((x : Int) == (y : Int)) = true := by simp [hxy]
              have HXY := Lib.hid hxy
              clear hxy
              go_wp2_with fail
              refine HA8.out.mono ?_
              rintro e w9 ⟨rfl, hb9⟩
              have hb := HBW8.out.trans (hb9.mono HBW8.out.size)
              clear hb9
              go_wp2_with fail
              go_ret
              exact ⟨rfl, hb⟩
            · have hxyI : ¬ (x : Int) = (y : Int) := by omega
              have hxyb : ((x : Int) == (y : Int)) = false := by simp; omega
              have hxyJ : ((y : Int) == (x : Int)) = false := by simp; omega
              clear hxyI
              have hbA : Below w8.heap.size w8 (w8.alloc (.cells #[] 87)) := (Below.refl _ _).alloc (Nat.le_refl _) _
              obtain ⟨F, hF, hFi, hsrc⟩ := stos_src (show IsStos (w8.alloc (.cells #[] 87)) (.slice aT ((List.range k).map (tolA cs lost)).length cT) ((List.range k).map (tolA cs lost)) by rw [List.length_map, List.length_range]; exact HS8.out.below hbA (Nat.le_refl _))
              have hFl : F.length = k := by have := congrArg List.length hF; simpa using this
              rw [List.length_map, List.length_range, ← hz1] at hsrc
              have HSrc := Lib.hid hsrc; have HFi := Lib.hid hFi; have HF := Lib.hid hF; have HBA := Lib.hid hbA
              have HFl := Lib.hid hFl
              clear hsrc hFi hF hbA hFl
              go_upto_region 25 with (first
                | (refine wpl_build_sto0 rfl rfl ?_)
                | (refine wpl_copy rfl (.tmp 106) (.tmp 107) 68 87 rfl i0 _ 18 232 Tryz.underlying68 hi hz0 hz1 hz2 (by decide) w8.heap.size rfl k (by omega) _ _ rfl HSrc.out ?_; intro v9 w9 hcp; have HCp := Lib.hid hcp; clear hcp)
                | fail)
              obtain ⟨cm, hvm, hcm, hmr, hb9⟩ := stos_cpy (by rw [HFl.out]; exact HCp.out) (by rw [HFl.out]; omega)
              subst hvm
              have HB9 : Hid (Below w8.heap.size w8 w9) := Lib.hid (HBA.out.trans (hb9.mono HBA.out.size))
              rw [HFl.out] at hcm ⊢
              obtain ⟨gm, hgm⟩ : ∃ gm, (w8.alloc (.cells #[] 87)).heap.size = gm := ⟨_, rfl⟩
              rw [hgm] at hmr ⊢
              have HGm : Hid (w8.heap.size ≤ gm ∧ gm < w9.heap.size) := Lib.hid ⟨by rw [← hgm]; exact HBA.out.size, hmr.lt⟩
              have HI9 : Hid (∀ z ∈ F, ∀ W, Below gm w9 W → StoIs W z.1 z.2) := Lib.hid (fun z hz W hW => (HFi.out z hz).below ((hgm ▸ hb9).trans hW) (by rw [hgm]; exact Nat.le_refl _))
              have HMR := Lib.hid hmr
              have HFx : Hid ((F.getD x dFS).2 = tolA cs lost x ∧ (F.getD y dFS).2 = tolA cs lost y) := Lib.hid (by
                have hg : ∀ z, z < k → (F.getD z dFS).2 = tolA cs lost z := fun z hz => by
                  have h1 : (F.map (·.2)).getD z dS = (F.getD z dFS).2 := by
                    rw [List.getD_eq_getElem?_getD, List.getD_eq_getElem?_getD, List.getElem?_map, List.getElem?_eq_getElem (by rw [HFl.out]; exact hz)]; rfl
                  rw [← h1, HF.out]; simp [List.getD_eq_getElem?_getD, hz]
                exact ⟨hg x hxk, hg y hyk⟩)
              have HFI9 : Hid (∀ z ∈ F, StoIs w9 z.1 z.2) := Lib.hid (fun z hz => (HFi.out z hz).below hb9 (Nat.le_refl _))
              have hmx : F.getD x dFS ∈ F := by rw [List.getD_eq_getElem?_getD, List.getElem?_eq_getElem (by rw [HFl.out]; exact hxk)]; exact List.getElem_mem _
              have hmy : F.getD y dFS ∈ F := by rw [List.getD_eq_getElem?_getD, List.getElem?_eq_getElem (by rw [HFl.out]; exact hyk)]; exact List.getElem_mem _
              have HAx := Lib.hid (hmr.at (i := x) (by rw [HFl.out]; exact hxk))
              have HAy := Lib.hid (hmr.at (i := y) (by rw [HFl.out]; exact hyk))
              have HIx := Lib.hid (HFI9.out _ hmx); have HIy := Lib.hid (HFI9.out _ hmy)
              obtain ⟨qx, hqx⟩ : ∃ q, F.getD x dFS = q := ⟨_, rfl⟩
              obtain ⟨qy, hqy⟩ : ∃ q, F.getD y dFS = q := ⟨_, rfl⟩
              have HMx : Hid (F.getD x dFS ∈ F) := Lib.hid hmx
              have HMy : Hid (F.getD y dFS ∈ F) := Lib.hid hmy
              rw [hqx] at HAx HIx HFx HMx; rw [hqy] at HAy HIy HFx HMy
              obtain ⟨fx, sx⟩ := qx
              obtain ⟨fy, sy⟩ := qy
              dsimp only at HAx HIx HAy HIy HFx
              have hxkI : (x : Int) < (k : Int) := by omega
              have hykI : (y : Int) < (k : Int) := by omega
              clear hmr hb9 hgm hmx hmy hqx hqy HCp HSrc HBA
              go_upto_region 26 with (first
                | (refine wpl_load_sto rfl (.tmp 111) rfl rfl HAx.out ?_)
                | (refine wpl_store_stN rfl (.tmp 16) (.tmp 112) rfl w9.heap.size rfl rfl (f := fx) (s := sx) rfl rfl (five_one HIx.out) ?_)
                | fail)
              refine wp_abs (F := fun W => BoxS w9.heap.size fx sx W ∧ Below w9.heap.size w9 W) ⟨BoxS.new HIx.out, (Below.refl _ _).alloc (Nat.le_refl _) _⟩ ?_
              rintro W1 ⟨hX1, hb1⟩
              obtain ⟨n1, hn1⟩ : ∃ n1, w9.heap.size = n1 := ⟨_, rfl⟩
              rw [hn1] at hX1 ⊢
              have HX1b := Lib.hid hX1; have HN1 := Lib.hid hn1; have Hb1 := Lib.hid hb1
              have HAy1 := Lib.hid (HAy.out.below hb1 HMR.out.lt)
              have HIy1 := Lib.hid (HIy.out.below hb1 (Nat.le_refl _))
              clear hX1 hn1 hb1 HAy HAx HIx
              go_upto_region 27 with (first
                | (refine wpl_load_sto rfl (.tmp 115) rfl rfl HAy1.out ?_)
                | (refine wpl_store_stN rfl (.tmp 17) (.tmp 116) rfl W1.heap.size rfl rfl (f := fy) (s := sy) rfl rfl (five_one HIy1.out) ?_)
                | fail)
              refine wp_abs (F := fun W => BoxS W1.heap.size fy sy W ∧ Below W1.heap.size W1 W) ⟨BoxS.new HIy1.out, (Below.refl _ _).alloc (Nat.le_refl _) _⟩ ?_
              rintro W2 ⟨hX2, hb2⟩
              obtain ⟨n2, hn2⟩ : ∃ n2, W1.heap.size = n2 := ⟨_, rfl⟩
              rw [hn2] at hX2 ⊢
              have HX2b := Lib.hid hX2; have Hb2 : Hid (Below w9.heap.size w9 W2) := Lib.hid (Hb1.out.trans (hb2.mono Hb1.out.size))
              have HX1c := Lib.hid (HX1b.out.step hb2)
              have hn12 : n1 ≠ n2 := by have := HX1b.out.o.lt; omega
              have hn21 : n2 ≠ n1 := fun e => hn12 e.symm
              have HNs : Hid (w9.heap.size = n1 ∧ w9.heap.size ≤ n2) := Lib.hid ⟨HN1.out, by rw [← hn2]; exact Hb1.out.size⟩
              have d1 := HX1c.out.o.c 13; have d2 := HX2b.out.o.c 13
              have g1 := HX1c.out.o.f 13; have g2 := HX2b.out.o.f 13
              simp [stoCells] at d1 d2
              clear hX2 hb2 hn2 HX1b HAy1 HIy1 Hb1
              go_upto_region 30 with fail
              clear d1 d2 g1 g2
              have hbs : Below w9.heap.size w9 ((W2.setCell ⟨n1, 13, none⟩ (.int .i64 sy.com)).setCell ⟨n2, 13, none⟩ (.int .i64 sx.com)) := (Hb2.out.setCell (by show w9.heap.size ≤ n1; have := HNs.out.1; omega) _).setCell (by show w9.heap.size ≤ n2; exact HNs.out.2) _
              have hI9 : ∀ z ∈ F, ∀ W, Below gm w9 W → StoIs W z.1 z.2 := HI9.out
              have hgl : gm ≤ w9.heap.size := by have := HGm.out.2; omega
              have hzx : (fx, sx) ∈ F := HMx.out
              have hzy : (fy, sy) ∈ F := HMy.out
              refine wp_abs (F := fun W => BoxS n1 fx { sx with com := sy.com } W ∧ BoxS n2 fy { sy with com := sx.com } W ∧ Below w9.heap.size w9 W) ⟨?_, ?_, hbs⟩ ?_
              · have h1 := HX1c.out.com sy.com (hI9 _ hzx _ ((Hb2.out.setCell (by show w9.heap.size ≤ n1; have := HNs.out.1; omega) _).mono hgl))
                have hi := hI9 _ hzx _ (hbs.mono hgl)
                exact ⟨One.far h1.o (p := ⟨n2, 13, none⟩) hn21 _, ⟨hi.c, hi.g, hi.n, hi.m⟩⟩
              · have h1 : BoxS n2 fy sy (W2.setCell ⟨n1, 13, none⟩ (.int .i64 sy.com)) := ⟨One.far HX2b.out.o (p := ⟨n1, 13, none⟩) hn12 _, hI9 _ hzy _ ((Hb2.out.setCell (by show w9.heap.size ≤ n1; have := HNs.out.1; omega) _).mono hgl)⟩
                exact h1.com sx.com (hI9 _ hzy _ (hbs.mono hgl))
              rintro W3 ⟨hX3, hX4, hb3⟩
              obtain ⟨sx', hsx⟩ : ∃ s, ({ sx with com := sy.com } : Sto) = s := ⟨_, rfl⟩
              obtain ⟨sy', hsy⟩ : ∃ s, ({ sy with com := sx.com } : Sto) = s := ⟨_, rfl⟩
              rw [hsx] at hX3; rw [hsy] at hX4
              have HSX := Lib.hid hsx; have HSY := Lib.hid hsy
              have HX3b := Lib.hid hX3; have HX4b := Lib.hid hX4; have Hb3 := Lib.hid hb3
              have HM3 := Lib.hid (HMR.out.step hb3)
              have HNm : Hid (n1 ≠ gm ∧ n2 ≠ gm) := Lib.hid (by have := HMR.out.lt; have := HNs.out; constructor <;> omega)
              have HLx : Hid (x < F.length ∧ y < F.length) := Lib.hid (by rw [HFl.out]; exact ⟨hxk, hyk⟩)
              have HI9y : Hid (∀ W, Below gm w9 W → StoIs W fy sy') := Lib.hid (fun W hW => by have hi := hI9 _ hzy W hW; rw [← hsy]; exact ⟨hi.c, hi.g, hi.n, hi.m⟩)
              have HI9x : Hid (∀ W, Below gm w9 W → StoIs W fx sx') := Lib.hid (fun W hW => by have hi := hI9 _ hzx W hW; rw [← hsx]; exact ⟨hi.c, hi.g, hi.n, hi.m⟩)
              have Hgl := Lib.hid hgl
              clear hX3 hX4 hb3 hbs HX1c HX2b Hb2 hsx hsy hI9 hzx hzy hgl
              go_upto_region 31 with (first
                | (refine wpl_load_sto rfl (.tmp 16) rfl rfl HX3b.out.at ?_)
                | (refine wpl_store_mrow rfl (.tmp 127) (.tmp 126) rfl HM3.out HLx.out.1 rfl rfl (five_one HX3b.out.i) ?_)
                | fail)
              have hbg : Below gm w9 (W3.setCells gm (x * 18) (stoCells fx sx')) := (Hb3.out.mono Hgl.out).trans (Below.sets (Nat.le_refl _) _ _ _)
              refine wp_abs (F := fun W => MRow W gm (F.set x (fx, sx')) ∧ BoxS n2 fy sy' W ∧ Below gm w9 W) ⟨HM3.out.set HLx.out.1 fx sx', ⟨one_but HX4b.out.o (ButS.sets (S := fun j => j = gm) (b := gm) rfl (stoCells fx sx') (x * 18) W3) HNm.out.2, HI9y.out _ hbg⟩, hbg⟩ ?_
              rintro W4 ⟨hM4, hX5, hb4⟩
              have HM4 := Lib.hid hM4; have HX5 := Lib.hid hX5; have Hb4 := Lib.hid hb4
              have HLy : Hid (y < (F.set x (fx, sx')).length) := Lib.hid (by rw [List.length_set]; exact HLx.out.2)
              clear hM4 hX5 hb4 hbg HX3b HX4b HM3
              go_upto_region 32 with (first
                | (refine wpl_load_sto rfl (.tmp 17) rfl rfl HX5.out.at ?_)
                | (refine wpl_store_mrow rfl (.tmp 131) (.tmp 130) rfl HM4.out HLy.out rfl rfl (five_one HX5.out.i) ?_)
                | fail)
              refine wp_abs (F := fun W => MRow W gm ((F.set x (fx, sx')).set y (fy, sy')) ∧ Below gm w9 W) ⟨HM4.out.set HLy.out fy sy', Hb4.out.trans (Below.sets (Nat.le_refl _) _ _ _)⟩ ?_
              rintro W5 ⟨hM5, hB5⟩
              have hlF : ((F.set x (fx, sx')).set y (fy, sy')).length = k := by rw [List.length_set, List.length_set, HFl.out]
              have hmap : ((F.set x (fx, sx')).set y (fy, sy')).map (·.2) = swapS (tolL cs lost k) x y := by
                unfold swapS
                rw [List.map_set, List.map_set, HF.out, tolL_at hxk, tolL_at hyk, ← HFx.out.1, ← HFx.out.2, HSX.out, HSY.out]; rfl
              have hIS : IsStos W5 (.slice (some ⟨gm, 0, none⟩) k cm) (swapS (tolL cs lost k) x y) := by
                rw [← hmap]
                have := hM5.stos (cap := cm) (by rw [hlF]; exact hcm) (fun z hz => by
                  rcases List.mem_or_eq_of_mem_set hz with hz | rfl
                  · rcases List.mem_or_eq_of_mem_set hz with hz | rfl
                    · exact HI9.out _ hz _ hB5
                    · exact HI9x.out _ hB5
                  · exact HI9y.out _ hB5)
                rwa [hlF] at this
              have hsl : (swapS (tolL cs lost k) x y).length = k := by simp [swapS, tolL_length]
              have hBW : Below w.heap.size w W5 := (HBW8.out.trans (HB9.out.mono HBW8.out.size)).trans (hB5.mono (Nat.le_trans HBW8.out.size HGm.out.1))
              have HC9 := Lib.hid (model_check _ _ _ hIS (by rw [hsl]; omega) (Nat.le_trans (idxO_le _ _) (by rw [hsl]; exact h20)) (swap_sz (fun i hi => by rw [tolL_length] at hi; rw [tolL_at hi]; exact HSz.out i hi) (by rw [tolL_length]; exact hxk) (by rw [tolL_length]; exact hyk)) (HM.out.below hBW (Nat.le_refl _)))
              have HWr := Lib.hid (swap_wrong (cs := cs) (lost := lost) hxk hyk hxy HX1.out.2.1 HX2.out.2.1 HX1.out.2.2 HX2.out.2.2)
              have HBW := Lib.hid hBW
              obtain ⟨⟨vr, vs, vw⟩, hvd⟩ : ∃ q, checkT (swapS (tolL cs lost k) x y) = q := ⟨_, rfl⟩
              unfold CheckG at HC9
              rw [hvd] at HC9 HWr
              obtain rfl : vr = false := HWr.out
              unfold vdVal at HC9
              clear hvd hBW hsl hIS hmap hlF hB5 hM5
              go_wp2_with fail
              refine HC9.out.mono ?_
              rintro e wa ⟨rfl, hba⟩
              have HBa : Hid (Below w.heap.size w wa) := Lib.hid (HBW.out.trans (hba.mono HBW.out.size))
              have HAa := Lib.hid (HAl.out wa HBa.out)
              clear hba
              go_wp2_with fail
              refine HAa.out.mono ?_
              rintro e wb ⟨rfl, hbb⟩
              have hb := HBa.out.trans (hbb.mono HBa.out.size)
              clear hbb
              go_wp2_with fail
              go_ret
              exact ⟨rfl, hb⟩
  · have h20i : (20 : Int) < (cs.length : Int) := by omega
    go_wp2_with fail
    refine (HAl.out _ (Below.refl _ _)).mono ?_
    rintro e w3 ⟨rfl, hb3⟩
    go_wp2_with fail
    go_ret
    exact ⟨rfl, hb3⟩
end Go.Proofs.YtfbgnpfhjbiikaaGreatDoor

namespace Go.Proofs.YtfbgnpfhjbiikaaGreatDoor.bulks
theorem one_le {H : Type} (d : DataW H) : 1 ≤ Rows.uptoBulk d := by
  cases d with
  | lit l => cases l <;> simp [Rows.uptoBulk]
  | nil => simp [Rows.uptoBulk]
  | ptr d => simp [Rows.uptoBulk]
  | slice elems spare => simp [Rows.uptoBulk]
  | agg parts => simp [Rows.uptoBulk]
  | iface t d => simp [Rows.uptoBulk]
  | map entries => simp [Rows.uptoBulk]
  | held h => simp [Rows.uptoBulk]

theorem part_le {H : Type} {d : DataW H} {l : List (DataW H)} (h : d ∈ l) : Rows.uptoBulk d ≤ Rows.uptoBulkAll l := by
  induction l with
  | nil => cases h
  | cons x r ih =>
    simp only [Rows.uptoBulkAll]
    cases List.mem_cons.1 h with
    | inl e => subst e; omega
    | inr e => have := ih e; omega

theorem append {H : Type} (l r : List (DataW H)) : Rows.uptoBulkAll (l ++ r) = Rows.uptoBulkAll l + Rows.uptoBulkAll r := by
  induction l with
  | nil => simp [Rows.uptoBulkAll]
  | cons x l ih => simp only [List.cons_append, Rows.uptoBulkAll, ih]; omega

theorem length_le {H : Type} (l : List (DataW H)) : l.length ≤ Rows.uptoBulkAll l := by
  induction l with
  | nil => simp [Rows.uptoBulkAll]
  | cons x r ih => have := one_le x; simp only [Rows.uptoBulkAll, List.length_cons]; omega

theorem slice_elems {H : Type} (elems spare : List (DataW H)) : Rows.uptoBulkAll elems + 1 ≤ Rows.uptoBulk (.slice elems spare) := by
  simp only [Rows.uptoBulk]
  omega

theorem bound {H : Type} {l : List (DataW H)} (hk : Rows.uptoSmall H l = true) : Rows.uptoBulkAll l ≤ 1048576 := by
  simpa [Rows.uptoSmall] using hk

end Go.Proofs.YtfbgnpfhjbiikaaGreatDoor.bulks

namespace Go.Proofs.YtfbgnpfhjbiikaaGreatDoor
open Go Go.ChangeShapes Go.WideShapes Go.ChangeAt Go.RowKit
theorem edt_bulk {H : Type} (e : Edt) : e.path.size ≤ Rows.uptoBulk (edtData (H := H) e) ∧ e.text.size ≤ Rows.uptoBulk (edtData (H := H) e) := by
  have h3 : Rows.uptoBulk (edtData (H := H) e) = e.path.data.toList.length + e.text.data.toList.length + 7 := by
    simp [edtData, Rows.uptoBulk, Rows.uptoBulkAll]; omega
  have h4 : e.path.data.toList.length = e.path.size := by rw [Array.length_toList]; rfl
  have h5 : e.text.data.toList.length = e.text.size := by rw [Array.length_toList]; rfl
  omega
section
variable {H : Type} {enc : TypeId × Value → H} {w : World} {base : Nat} {sp : Nat → Bool} {held : Bool}
end
end Go.Proofs.YtfbgnpfhjbiikaaGreatDoor
