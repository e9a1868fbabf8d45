/- Contracts for package cell: Now, Clone of versions, kept. -/
import Derived.Test.YtbmmabpglkojkaaDoorCell1
import Derived.Laws.AppendOwnNone
namespace Go.Proofs.YtbmmabpglkojkaaDoor
open Go Go.RowKit

theorem run_zeroVer (w : World) : (zeroValue 53).run Tryd.prog w = .ok (.agg #[.int .u64 0, .int .u8 0, .string ByteArray.empty]) w := by kernel_rfl

set_option maxRecDepth 100000 in
set_option maxHeartbeats 1000000 in
theorem cell_now1 (L : List Ver) (b : Nat) (v : Value) (w : World) (hb1 : w.cell? ⟨b, 1, none⟩ = some v) (hv : IsVers w v L) (hl : L.length ≤ 9223372036854775807) :
    Calls Tryd.prog 44 #[.pointer (some ⟨b, 0, none⟩)] w fun e w' => e = .returned (verVal (lastV L)) ∧ Below w.heap.size w w' := by
  obtain ⟨a, cap, rfl, hc⟩ := hv
  have HC := Lib.hid hc; clear hc
  have hbw := cell_lt hb1
  by_cases h0 : 0 < L.length
  · rcases HC.out with hn | ⟨b2, off, rfl, hblt, hcc⟩
    · subst hn; simp at h0
    obtain ⟨g1, g2, g3⟩ := hcc (L.length - 1) (by omega)
    clear hcc
    obtain ⟨x, hx⟩ : ∃ x, x = lastV L := ⟨_, rfl⟩
    rw [show L.getD (L.length - 1) dV = x from hx.symm] at g1 g2 g3
    rw [← hx]
    clear hx
    go_enter Tryd.func44, Tryd.ntmps44
    go_wp2
    exact bodyPost_ret (v := verVal x) (by simp [results, Tryd.results44, go_sem, verVal]) rfl ⟨rfl, (Below.refl _ _).alloc (Nat.le_refl _) _⟩
  · obtain rfl : L = [] := List.length_eq_zero_iff.1 (by omega)
    have H : Hid (lastV [] = dV) := Lib.hid rfl
    rw [H.out]
    go_enter Tryd.func44, Tryd.ntmps44
    go_wp2
    exact bodyPost_ret (v := verVal dV) (by simp [results, Tryd.results44, go_sem, verVal, dV]; rfl) rfl ⟨rfl, (Below.refl _ _).alloc (Nat.le_refl _) _⟩

set_option maxRecDepth 100000 in
set_option maxHeartbeats 1000000 in
theorem cell_now (c : Cel) (v : Value) (w : World) (hv : IsVers w v c.l) (hl : c.l.length ≤ 9223372036854775807) :
    Calls Tryd.prog 34 #[.agg #[.int .u64 c.last, v]] w fun e w' => e = .returned (.int .u64 (nowC c)) ∧ Below w.heap.size w w' := by
  obtain ⟨cl, L⟩ := c
  simp only at hv hl ⊢
  have hv2 := hv
  obtain ⟨a, cap, rfl, hc⟩ := hv2
  clear hc
  have Hv := Lib.hid hv; clear hv
  have C := Lib.hid (cell_now1 L w.heap.size (.slice a L.length cap) (w.alloc (.cells #[.int .u64 cl, .slice a L.length cap] 62)) (World.cell?_alloc_mark _ _ _ _ _) (Hv.out.below ((Below.refl _ _).alloc (Nat.le_refl _) _) (Nat.le_refl _)) hl)
  obtain ⟨x, hx⟩ : ∃ x, x = lastV L := ⟨_, rfl⟩
  rw [← hx] at C
  have hn : Hid (nowC ⟨cl, L⟩ = if x.st = 1 then x.n else 0) := Lib.hid (by rw [hx]; rfl)
  clear hx
  unfold verVal at C
  by_cases hs : x.st = 1
  · have hB : ((x.st : Int) == 1) = true := by simp [hs]
    have hs1 : 1 ≤ x.st ∧ x.st ≤ 1 := by omega
    have Hs := Lib.hid hs; clear hs
    go_enter Tryd.func34, Tryd.ntmps34
    go_wp2_with (go_at_call 44; refine (C.out).mono ?_; rintro e w1 ⟨rfl, hb⟩; have Hb := Lib.hid (((Below.refl _ _).alloc (Nat.le_refl _) _).trans (hb.mono (by simp))); clear hb)
    go_ret
    refine ⟨ret_int ?_, Hb.out.alloc Hb.out.size _⟩
    rw [hn.out, if_pos Hs.out]
  · have hB : ((x.st : Int) == 1) = false := by rw [beq_eq_false_iff_ne]; omega
    have hN : ¬ (x.st : Int) = 1 := by omega
    have Hs := Lib.hid hs; clear hs
    go_enter Tryd.func34, Tryd.ntmps34
    go_wp2_with (go_at_call 44; refine (C.out).mono ?_; rintro e w1 ⟨rfl, hb⟩; have Hb := Lib.hid (((Below.refl _ _).alloc (Nat.le_refl _) _).trans (hb.mono (by simp))); clear hb)
    go_ret
    refine ⟨ret_int ?_, Hb.out.alloc Hb.out.size _⟩
    rw [hn.out, if_neg Hs.out]; rfl
end Go.Proofs.YtbmmabpglkojkaaDoor
