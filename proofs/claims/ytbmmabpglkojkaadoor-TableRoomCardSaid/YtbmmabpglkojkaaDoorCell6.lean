/- Contracts: cell.find$1, slices.IndexFunc over versions. -/
import Derived.Test.YtbmmabpglkojkaaDoorCell5
namespace Go.Proofs.YtbmmabpglkojkaaDoor
open Go Go.RowKit

theorem eqNat (a b : Nat) : ((a : Int) == (b : Int)) = decide (a = b) := by
  by_cases h : a = b
  · subst h; simp
  · have : ¬ (a : Int) = b := by omega
    simp [h]; exact this

set_option maxRecDepth 100000 in
set_option maxHeartbeats 2000000 in
theorem cell_find1 (x : Ver) (n b : Nat) (w : World) (hb : w.cell? ⟨b, 0, none⟩ = some (.int .u64 n)) :
    Calls Tryd.prog 58 #[verVal x, .pointer (some ⟨b, 0, none⟩)] w fun e w' => e = .returned (.bool (decide (x.n = n))) ∧ Below w.heap.size w w' := by
  have hlt := cell_lt hb
  unfold verVal
  go_enter Tryd.func58, Tryd.ntmps58
  go_wp2
  go_ret
  refine ⟨ret_bool ?_, (Below.refl _ _).alloc (Nat.le_refl _) _⟩
  exact eqNat _ _

/-- Where the version n is, or -1. -/
def idxV (l : List Ver) (n : Nat) : Int := if l.findIdx (fun v => decide (v.n = n)) < l.length then (l.findIdx (fun v => decide (v.n = n)) : Nat) else -1
theorem idxV_hit {l : List Ver} {n k : Nat} (hk : k < l.length) (hm : ∀ j, j < k → (l.getD j dV).n ≠ n) (hn : (l.getD k dV).n = n) : idxV l n = k := by
  have : l.findIdx (fun v => decide (v.n = n)) = k := by
    rw [List.findIdx_eq hk]
    refine ⟨?_, fun j hj => ?_⟩
    · rw [List.getD_eq_getElem?_getD, List.getElem?_eq_getElem hk] at hn
      simpa using hn
    · have := hm j hj
      rw [List.getD_eq_getElem?_getD, List.getElem?_eq_getElem (by omega)] at this
      simpa using this
  unfold idxV; rw [this, if_pos hk]
theorem idxV_miss {l : List Ver} {n : Nat} (hm : ∀ j, j < l.length → (l.getD j dV).n ≠ n) : idxV l n = -1 := by
  have : l.findIdx (fun v => decide (v.n = n)) = l.length := by
    rw [List.findIdx_eq_length]
    intro x hx
    obtain ⟨j, hj, rfl⟩ := List.getElem_of_mem hx
    have := hm j hj
    rw [List.getD_eq_getElem?_getD, List.getElem?_eq_getElem hj] at this
    simpa using this
  unfold idxV; rw [this, if_neg (Nat.lt_irrefl _)]

set_option maxRecDepth 100000 in
set_option maxHeartbeats 2000000 in
theorem indexFunc_find (L : List Ver) (v : Value) (n q : Nat) (w : World) (hv : IsVers w v L) (hl : L.length ≤ 9223372036854775807) (hb : w.cell? ⟨q, 0, none⟩ = some (.int .u64 n)) :
    Calls Tryd.prog 57 #[v, .func (.func 58) #[] #[.pointer (some ⟨q, 0, none⟩)]] w fun e w' => e = .returned (.int .i64 (idxV L n)) ∧ Below w.heap.size w w' := by
  obtain ⟨a, cap, rfl, hc⟩ := hv
  have HC := Lib.hid hc; clear hc
  have Hb := Lib.hid hb; clear hb
  go_enter Tryd.func57, Tryd.ntmps57
  go_wp2
  go_loopw [8] (fun i wr => ∃ k : Nat, k ≤ L.length ∧ i = .int .i64 k ∧ Hid (∀ j, j < k → (L.getD j dV).n ≠ n) ∧ Hid (Below w.heap.size w wr)) (fun i _ => L.length - (intOf i).toNat)
  case atStart => exact ⟨0, Nat.zero_le _, rfl, Lib.hid (fun j hj => absurd hj (Nat.not_lt_zero _)), Lib.hid (Below.refl _ _)⟩
  case round =>
    obtain ⟨k, hk, rfl, hm, hbw⟩ := hrel
    by_cases hlt : k < L.length
    · rcases HC.out with hn | ⟨b, off, rfl, hblt, hcc⟩
      · subst hn; simp at hlt
      obtain ⟨h1, h2, h3⟩ := hcc k hlt
      have g1 := (hbw.out.cell (p := ⟨b, off + k * 3, none⟩) hblt).trans h1
      have g2 := (hbw.out.cell (p := ⟨b, off + k * 3 + 1, none⟩) hblt).trans h2
      have g3 := (hbw.out.cell (p := ⟨b, off + k * 3 + 2, none⟩) hblt).trans h3
      clear h1 h2 h3 hcc
      obtain ⟨x, hx⟩ : ∃ x, x = L.getD k dV := ⟨_, rfl⟩
      rw [← hx] at g1 g2 g3
      have Hx := Lib.hid hx; clear hx
      have C := Lib.hid (fun wr hh => cell_find1 x n q wr hh)
      unfold verVal at C
      have hq : wr.cell? ⟨q, 0, none⟩ = some (.int .u64 n) := (hbw.out.cell (p := ⟨q, 0, none⟩) (cell_lt Hb.out)).trans Hb.out
      have Hq := Lib.hid hq; clear hq
      have Hcall := Lib.hid (C.out wr Hq.out)
      by_cases hn : x.n = n
      · have hd : Hid (decide (x.n = n) = true) := Lib.hid (by simp [hn])
        have Hn := Lib.hid hn; clear hn
        rw [hd.out] at Hcall
        go_wp2_with (go_at_call 58; refine (Hcall.out).mono ?_; rintro e w1 ⟨rfl, hb1⟩; have Hb1 := Lib.hid hb1; clear hb1)
        go_ret
        refine ⟨ret_int (idxV_hit hlt hm.out (by rw [← Hx.out]; exact Hn.out)).symm, hbw.out.trans (Hb1.out.mono hbw.out.size)⟩
      · have hd : Hid (decide (x.n = n) = false) := Lib.hid (by simp [hn])
        have Hn := Lib.hid hn; clear hn
        rw [hd.out] at Hcall
        go_wp2_with (go_at_call 58; refine (Hcall.out).mono ?_; rintro e w1 ⟨rfl, hb1⟩; have Hb1 := Lib.hid hb1; clear hb1)
        go_roundw
        case rel =>
          refine ⟨k + 1, by omega, by go_num, Lib.hid (fun j hj => ?_), Lib.hid (hbw.out.trans (Hb1.out.mono hbw.out.size))⟩
          by_cases e : j = k
          · subst e; rw [← Hx.out]; exact Hn.out
          · exact hm.out j (by omega)
        case measure => simp [intOf]; omega
    · have hge : (L.length : Int) ≤ (k : Int) := by omega
      have hm2 : Hid (∀ j, j < L.length → (L.getD j dV).n ≠ n) := Lib.hid (fun j hj => hm.out j (by omega))
      go_wp2
      go_ret
      exact ⟨ret_int (idxV_miss hm2.out).symm, hbw.out⟩
end Go.Proofs.YtbmmabpglkojkaaDoor
