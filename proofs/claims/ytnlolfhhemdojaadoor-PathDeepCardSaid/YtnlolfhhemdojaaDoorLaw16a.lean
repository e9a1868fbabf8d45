/- Contracts for scriniumlaw16: same, heavy, works. -/
import Derived.Test.YtnlolfhhemdojaaDoorPath3
import Derived.Test.YtnlolfhhemdojaaDoorRef16d
namespace Go.Proofs.YtnlolfhhemdojaaDoor
open Go Go.RowKit Pth

theorem below_dr {B : Nat} {a w : World} (h : Below B a w) (q : Nat) : Below B a (w.drewN q) := ⟨h.os, h.tape, h.output, h.size, h.block⟩
def sameB (a b : List ByteArray) : Bool := a.map (·.data.toList) == b.map (·.data.toList)
theorem same_len {a b : List ByteArray} (h : a.length ≠ b.length) : sameB a b = false := by
  unfold sameB; rw [beq_eq_false_iff_ne]; intro e; have := congrArg List.length e; simp at this; exact h this
theorem same_all {a b : List ByteArray} (h : a.length = b.length) (h2 : Agree a b a.length) : sameB a b = true := by
  unfold sameB; rw [beq_iff_eq]; congr 1
  refine List.ext_getElem h fun i h1 h3 => ?_
  have := h2 i h1
  rw [List.getD_eq_getElem?_getD, List.getD_eq_getElem?_getD, List.getElem?_eq_getElem h1, List.getElem?_eq_getElem h3] at this
  exact this
theorem same_no {a b : List ByteArray} {k : Nat} (hk : k < a.length) (h : a.length = b.length) (h2 : a.getD k ByteArray.empty ≠ b.getD k ByteArray.empty) : sameB a b = false := by
  unfold sameB; rw [beq_eq_false_iff_ne]; intro e
  apply h2
  have := congrArg (fun l : List (List UInt8) => l[k]?) e
  simp only [List.getElem?_map, List.getElem?_eq_getElem hk, List.getElem?_eq_getElem (show k < b.length by omega), Option.map_some, Option.some.injEq] at this
  rw [List.getD_eq_getElem?_getD, List.getD_eq_getElem?_getD, List.getElem?_eq_getElem hk, List.getElem?_eq_getElem (show k < b.length by omega)]
  exact ba_ext this

set_option maxHeartbeats 1000000 in
theorem law16_same (v1 v2 : Value) (m1 m2 : List ByteArray) (w : World) (h1 : IsStrs w v1 m1) (h2 : IsStrs w v2 m2) (hl : m1.length ≤ 9223372036854775807) :
    Calls Tryd.prog 13 #[v1, v2] w fun e w' => e = .returned (.bool (sameB m1 m2)) ∧ Below w.heap.size w w' := by
  obtain ⟨a1, cap1, rfl, hc1⟩ := h1
  obtain ⟨a2, cap2, rfl, hc2⟩ := h2
  have Hc1 := Lib.hid hc1; have Hc2 := Lib.hid hc2; clear hc1 hc2
  by_cases hle : m1.length = m2.length
  · have hL1 : m1.length ≤ m2.length := by omega
    have hL2 : m2.length ≤ m1.length := by omega
    have hLB : ((m1.length : Int) != (m2.length : Int)) = false := by rw [hle]; simp
    have Hle := Lib.hid hle; clear hle
    go_enter Tryd.func13, Tryd.ntmps13
    go_wp2
    go_loopw [5] (fun i wr => ∃ k : Nat, k ≤ m1.length ∧ i = .int .i64 k ∧ Hid (Agree m1 m2 k) ∧ Below w.heap.size w wr) (fun i _ => m1.length - (intOf i).toNat)
    case atStart => exact ⟨0, Nat.zero_le _, rfl, Lib.hid (fun i hi => by omega), Below.refl _ _⟩
    case round =>
      obtain ⟨k, hk, rfl, hag, hbw⟩ := hrel
      by_cases hlt : k < m1.length
      · rcases Hc1.out with hn | ⟨b1, o1, rfl, hl1, hcc1⟩
        · subst hn; simp at hlt
        rcases Hc2.out with hn | ⟨b2, o2, rfl, hl2, hcc2⟩
        · subst hn; simp at hL1; subst hL1; simp at hlt
        have hcell1 := (hbw.cell (p := ⟨b1, o1 + k, none⟩) hl1).trans (hcc1 k hlt)
        have hcell2 := (hbw.cell (p := ⟨b2, o2 + k, none⟩) hl2).trans (hcc2 k (by omega))
        have hlt2 : k < m2.length := by omega
        clear hcc1 hcc2
        have Hbw := Lib.hid hbw; clear hbw
        obtain ⟨x, hx⟩ : ∃ x, x = m1.getD k ByteArray.empty := ⟨_, rfl⟩
        obtain ⟨y, hy⟩ : ∃ y, y = m2.getD k ByteArray.empty := ⟨_, rfl⟩
        rw [← hx] at hcell1
        rw [← hy] at hcell2
        have Hx := Lib.hid hx; have Hy := Lib.hid hy; clear hx hy
        by_cases hxy : x = y
        · have hB : (x.toList == y.toList) = true := by rw [hxy]; simp
          have Hxy := Lib.hid hxy; clear hxy
          go_wp2
          go_quiet (fail)
          go_wp2
          go_roundw
          case rel => exact ⟨k + 1, by omega, by go_num, Lib.hid (hag.out.snoc (by rw [← Hx.out, ← Hy.out]; exact Hxy.out)), below_dr Hbw.out _⟩
          case measure => simp [intOf]; omega
        · have hB : (x.toList == y.toList) = false := by
            rw [beq_eq_false_iff_ne, ByteArray.toList_eq, ByteArray.toList_eq]; exact fun h => hxy (ba_ext h)
          have Hxy := Lib.hid hxy; clear hxy
          go_wp2
          go_quiet (fail)
          go_wp2
          go_ret
          exact ⟨ret_bool (same_no hlt Hle.out (by rw [← Hx.out, ← Hy.out]; exact Hxy.out)).symm, below_dr Hbw.out _⟩
      · have Hk : Hid (k = m1.length) := Lib.hid (by omega)
        have hge : (m1.length : Int) ≤ (k : Int) := by omega
        have Hbw := Lib.hid hbw; clear hbw
        go_wp2
        go_ret
        exact ⟨ret_bool (same_all Hle.out (by have := hag.out; rw [Hk.out] at this; exact this)).symm, Hbw.out⟩
  · have H := Lib.hid (same_len hle)
    have hLB : ((m1.length : Int) != (m2.length : Int)) = true := by rw [bne_iff_ne]; omega
    clear hle
    go_enter Tryd.func13, Tryd.ntmps13
    go_wp2
    go_ret
    exact ⟨ret_bool H.out.symm, Below.refl _ _⟩

def sumLen : List ByteArray → Nat
  | [] => 0
  | s :: t => s.size + sumLen t
theorem sumLen_snoc (l : List ByteArray) (s : ByteArray) : sumLen (l ++ [s]) = sumLen l + s.size := by
  induction l with
  | nil => simp [sumLen]
  | cons a t ih => simp [sumLen, ih]; omega
theorem sumLen_take {l : List ByteArray} {k : Nat} (hk : k < l.length) : sumLen (l.take (k + 1)) = sumLen (l.take k) + (l.getD k ByteArray.empty).size := by
  rw [List.take_succ_eq_append_getElem hk, sumLen_snoc, List.getD_eq_getElem?_getD, List.getElem?_eq_getElem hk]; rfl
theorem sumLen_mem {l : List ByteArray} {s : ByteArray} (h : s ∈ l) : s.size ≤ sumLen l := by
  induction l with
  | nil => simp at h
  | cons a t ih =>
    rcases List.mem_cons.1 h with rfl | h
    · simp [sumLen]
    · have := ih h; simp [sumLen]; omega
def heavyB (l : List ByteArray) : Bool := decide (100 < l.length) || decide (4096 < sumLen (l.take 200))

set_option maxRecDepth 100000 in
set_option maxHeartbeats 1000000 in
theorem law16_heavy (v : Value) (l : List ByteArray) (w : World) (hv : IsStrs w v l) (hl : l.length ≤ 9223372036854775807) (hls : ∀ i, i < l.length → (l.getD i ByteArray.empty).size ≤ 140737488351232) :
    Calls Tryd.prog 7 #[v] w fun e w' => e = .returned (.bool (heavyB l)) ∧ w = w' := by
  obtain ⟨a, cap, rfl, hc⟩ := hv
  have HC := Lib.hid hc; clear hc
  have Hls := Lib.hid hls; clear hls
  go_enter Tryd.func7, Tryd.ntmps7
  go_wp2
  go_loop [3, 4] (fun n i => ∃ k N : Nat, k ≤ l.length ∧ k ≤ 200 ∧ i = .int .i64 k ∧ n = .int .i64 N ∧ Hid (N ≤ k * 140737488351232) ∧ Hid (N = sumLen (l.take k))) (fun _ i => l.length - (intOf i).toNat)
  case atStart => exact ⟨0, 0, Nat.zero_le _, by omega, rfl, rfl, Lib.hid (by omega), Lib.hid rfl⟩
  case round =>
    obtain ⟨k, N, hk, hk2, rfl, rfl, hN, hS⟩ := hrel
    have hNb : N ≤ 9223372036854775807 := by have := hN.out; omega
    by_cases hlt : k < l.length
    · by_cases h200 : k < 200
      · rcases HC.out with hn | ⟨b, off, rfl, hblt, hcc⟩
        · subst hn; simp at hlt
        have hcell := hcc k hlt
        have hsz := Hls.out k hlt
        obtain ⟨x, hx⟩ : ∃ x, x = l.getD k ByteArray.empty := ⟨_, rfl⟩
        rw [← hx] at hcell hsz
        have hNx : N + x.size ≤ 9223372036854775807 := by have := hN.out; omega
        have Hx := Lib.hid hx; clear hx hcc
        have Hsz := Lib.hid hsz; clear hsz
        go_wp2
        go_round
        case rel => exact ⟨k + 1, N + x.size, by omega, by omega, by go_num, by go_num, Lib.hid (by have := hN.out; have := Hsz.out; omega), Lib.hid (by rw [sumLen_take hlt, ← hS.out, ← Hx.out])⟩
        case measure => simp [intOf]; omega
      · have hk3 : (200 : Int) ≤ (k : Int) := by omega
        have h100 : (100 : Int) < (l.length : Int) := by omega
        have H : Hid (heavyB l = true) := Lib.hid (by unfold heavyB; simp; left; omega)
        go_wp2
        go_ret
        refine ⟨ret_bool ?_, rfl⟩
        rw [H.out]; try simp
    · have hk3 : (l.length : Int) ≤ (k : Int) := by omega
      have H : Hid (heavyB l = (decide (100 < l.length) || decide (4096 < N))) := Lib.hid (by
        unfold heavyB; rw [hS.out, List.take_of_length_le (by omega), List.take_of_length_le (by omega)])
      by_cases h100 : 100 < l.length
      · go_wp2
        go_ret
        refine ⟨ret_bool ?_, rfl⟩
        rw [H.out]; simp [h100]
      · go_wp2
        all_goals
          go_ret
          refine ⟨ret_bool ?_, rfl⟩
          rw [H.out]
          have h2 : decide (100 < l.length) = false := by simpa using h100
          have h3 : decide ((100 : Int) < (l.length : Int)) = false := by rw [decide_eq_false_iff_not]; omega
          have h4 : decide ((4096 : Int) < (N : Int)) = decide (4096 < N) := by rw [decide_eq_decide]; omega
          first
            | (rw [h2, h3, h4])
            | (rw [h2]; simp only [Bool.false_or, h4])
            | (rw [h2]; simp; omega)
end Go.Proofs.YtnlolfhhemdojaaDoor
