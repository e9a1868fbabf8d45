/- Contracts for the library's sort at uint32: siftDown, heapSort. -/
import Derived.Test.YthcmcjoenepkbaaSrt32a
namespace Go.Proofs.Ythcmcjoenepkbaa
open Go Go.RowKit Go.Sort

set_option maxHeartbeats 8000000 in
set_option maxRecDepth 1000000 in
theorem uint32_siftDown {S : Nat → Prop} {blk off N cap lo hi first : Nat} {d : Array Int} {w0 w : World} (hS : S blk) (h : SR .u32 S w0 blk off d w) (hd : d.size = N) (hlo : lo ≤ hi) (hb : first + hi ≤ N) (hN : N < 4611686018427387904) :
    Calls Try.prog 68 #[.slice (some ⟨blk, off, none⟩) N cap, .int .i64 lo, .int .i64 hi, .int .i64 first] w fun e w' => e = .returned (.tuple #[]) ∧ SR .u32 S w0 blk off (siftDown ltInt hi first lo d) w' := by
  have H := Lib.hid h; have HS := Lib.hid hS; have Hd := Lib.hid hd; clear h hS hd
  go_enter Try.func68, Try.ntmps68
  go_wp2
  go_loopg [8] (hi - lo) (fun k s8 wr => ∃ (root : Nat) (dk : Array Int), s8 = .int .i64 root ∧ root ≤ hi ∧ hi - root ≤ k ∧ Hid (dk.size = N) ∧ Hid (SR .u32 S w0 blk off dk wr) ∧ Hid (siftDown ltInt hi first root dk = siftDown ltInt hi first lo d))
  case atStart => exact ⟨lo, d, rfl, hlo, Nat.le_refl _, Hd, H, Lib.hid rfl⟩
  case round =>
    obtain ⟨root, dk, rfl, hr, hk, Hs, HR, HE⟩ := hrel
    by_cases h0 : hi ≤ 2 * root + 1
    · have h0z : (hi : Int) ≤ 2 * (root : Int) + 1 := by omega
      go_wp2
      go_end0
      refine ⟨rfl, ?_⟩
      rw [← HE.out, sift_end h0]; exact HR.out
    · have h0z : ¬ ((hi : Int) ≤ 2 * (root : Int) + 1) := by omega
      obtain ⟨G, hG, hcw, hfw⟩ := HR.out.cells
      rw [Hs.out] at hcw hfw
      have HG := Lib.hid hG; clear hG
      by_cases h1 : 2 * root + 2 < hi
      case' pos => have h1z : 2 * (root : Int) + 1 + 1 < (hi : Int) := by omega
      case' neg => have h1z : decide (2 * (root : Int) + 1 + 1 < (hi : Int)) = false := decide_eq_false (by omega)
      all_goals go_wp2_with fail
      all_goals go_big_quiet (first | (go_at_call 53; refine Calls.quiet_of_same (uint32_less _ _ _)))
      all_goals go_wp2_with fail
      all_goals first
        | (have hL : ltInt (G (first + 2 * root + 1)) (G (first + 2 * root + 2)) = true := by assumption
           obtain ⟨c, hc, HC⟩ : ∃ c : Nat, 2 * (root : Int) + 1 + 1 = (c : Int) ∧ Hid (Child ltInt hi first root dk c) := ⟨2 * root + 2, by omega, Lib.hid (child_right h1 (by rw [← HG.out, ← HG.out]; exact hL))⟩
           rw [hc]
           clear hL)
        | (have hL : ltInt (G (first + 2 * root + 1)) (G (first + 2 * root + 2)) = false := by assumption
           obtain ⟨c, hc, HC⟩ : ∃ c : Nat, 2 * (root : Int) + 1 = (c : Int) ∧ Hid (Child ltInt hi first root dk c) := ⟨2 * root + 1, by omega, Lib.hid (child_left (by omega) (fun _ => by rw [← HG.out, ← HG.out]; exact hL))⟩
           rw [hc]
           clear hL)
        | (obtain ⟨c, hc, HC⟩ : ∃ c : Nat, 2 * (root : Int) + 1 = (c : Int) ∧ Hid (Child ltInt hi first root dk c) := ⟨2 * root + 1, by omega, Lib.hid (child_left (by omega) (fun h => absurd h h1))⟩
           rw [hc])
      all_goals
        revert nq; intro nq1
        have hcw2 : ∀ t, t < N → (wr.drewN nq1).cell? ⟨blk, off + t, none⟩ = some (.int .u32 (G t)) := hcw
        have hfw2 : ∀ t, t < N → (wr.drewN nq1).frozen? ⟨blk, off + t, none⟩ = false := hfw
        have HR2 := Lib.hid (HR.out.drewN nq1)
        have hcl := HC.out.1
        have hcr := HC.out.2.1
        clear hcw hfw HR h1z h0z
        generalize wr.drewN nq1 = wr2 at hcw2 hfw2 HR2 ⊢
        go_big_quiet (first | (go_at_call 53; refine Calls.quiet_of_same (uint32_less _ _ _)))
        go_wp2_with fail
        · have hX : (!ltInt (G (first + root)) (G (first + c))) = true := by assumption
          (try simp only [Exit.inBlock, Exit.then]); refine bodyPost_ret (results_none rfl _ _ _) rfl ?_
          refine ⟨rfl, ?_⟩
          rw [HG.out, HG.out] at hX
          rw [← HE.out, HC.out.2.2, if_neg (by simpa using hX)]
          exact HR2.out.drewN nq
        · have hX : (!ltInt (G (first + root)) (G (first + c))) = false := by assumption
          have HX := Lib.hid hX
          clear hX
          go_region
          go_wp2
          go_roundg (hi - c)
          case measure => omega
          case rel =>
            refine ⟨c, swp dk (first + root) (first + c), by simp <;> omega, by omega, Nat.le_refl _, Lib.hid (by rw [size_swp]; exact Hs.out), Lib.hid ?_, Lib.hid ?_⟩
            · exact (HR2.out.swap HS.out HG.out (i := first + root) (j := first + c) (by rw [Hs.out]; omega) (by rw [Hs.out]; omega)).drewN _
            · have hX := HX.out
              rw [HG.out, HG.out] at hX
              rw [← HE.out, HC.out.2.2, if_pos (by simpa using hX)]

theorem size_sift {hi F : Nat} {root : Nat} {d : Array Int} : (siftDown ltInt hi F root d).size = d.size := by
  generalize hn : hi - root = n
  induction n using Nat.strongRecOn generalizing root d with
  | ind n ih =>
    rw [siftDown]
    split
    · rfl
    · split
      · split
        · rfl
        · split
          · rw [ih _ (by omega) rfl, size_swp]
          · rfl
      · split
        · rfl
        · rw [ih _ (by omega) rfl, size_swp]

set_option maxHeartbeats 8000000 in
set_option maxRecDepth 1000000 in
theorem uint32_heapSort {S : Nat → Prop} {blk off N cap a b : Nat} {d : Array Int} {w0 w : World} (hS : S blk) (h : SR .u32 S w0 blk off d w) (hd : d.size = N) (hab : a < b) (hb : b ≤ N) (hN : N < 4611686018427387904) :
    Calls Try.prog 48 #[.slice (some ⟨blk, off, none⟩) N cap, .int .i64 a, .int .i64 b] w fun e w' => e = .returned (.tuple #[]) ∧ SR .u32 S w0 blk off (heapSort ltInt d a b) w' := by
  have H := Lib.hid h; have HS := Lib.hid hS; have Hd := Lib.hid hd; clear h hS hd
  have ecast : ((b - a : Nat) : Int) = (b : Int) - (a : Int) := by omega
  go_enter Try.func48, Try.ntmps48
  go_wp2
  go_loopg [9] ((b - a - 1) / 2 + 1) (fun k s9 wr => s9 = .int .i64 ((k : Int) - 1) ∧ k ≤ (b - a - 1) / 2 + 1 ∧ ∃ (dk : Array Int), Hid (dk.size = N) ∧ Hid (SR .u32 S w0 blk off dk wr) ∧
    Hid (heapBuild ltInt (b - a) a k dk = heapBuild ltInt (b - a) a ((b - a - 1) / 2 + 1) d))
  case atStart => exact ⟨by congr 1; omega, Nat.le_refl _, d, Hd, H, Lib.hid rfl⟩
  case round =>
    obtain ⟨rfl, hkk, dk, Hs, HR, HE⟩ := hrel
    cases gk with
    | zero =>
      clear hkk
      go_wp2
      go_loopg [10] (b - a) (fun k s10 wr2 => s10 = .int .i64 ((k : Int) - 1) ∧ k ≤ b - a ∧ ∃ (dj : Array Int), Hid (dj.size = N) ∧ Hid (SR .u32 S w0 blk off dj wr2) ∧ Hid (heapPop ltInt a k dj = heapPop ltInt a (b - a) dk))
      case atStart => exact ⟨by rw [ecast], Nat.le_refl _, dk, Hs, HR, Lib.hid rfl⟩
      case round =>
        obtain ⟨rfl, hkk, dj, Hj, HJ, HE2⟩ := hrel
        cases gk with
        | zero =>
          go_wp2
          go_end0
          refine ⟨rfl, ?_⟩
          have e1 := HE.out; have e2 := HE2.out
          rw [heapBuild] at e1
          rw [heapPop] at e2
          rw [heapSort, ← e1, ← e2]
          exact HJ.out
        | succ k =>
          obtain ⟨G, hG, hcw, hfw⟩ := HJ.out.cells
          rw [Hj.out] at hcw hfw
          have HG := Lib.hid hG; clear hG
          obtain ⟨v3, hy3⟩ := cell?_setCell_some (w := wr) (p := ⟨blk, off + a, none⟩) (x := .int .u32 (G (a + k))) (q := ⟨blk, off + (a + k), none⟩) (hcw (a + k) (by omega))
          have HJ2 := fun q : Nat => (HJ.out.swap HS.out HG.out (i := a) (j := a + k) (by rw [Hj.out]; omega) (by rw [Hj.out]; omega)).drewN q
          have HJ2 := Lib.hid HJ2
          go_wp2_with fail
          go_region
          go_wp2_with fail
          refine (uint32_siftDown (lo := 0) (hi := k) (first := a) HS.out (HJ2.out 1) (by rw [size_swp]; exact Hj.out) (Nat.zero_le _) (by omega) hN).mono ?_
          rintro e w1 ⟨rfl, h1⟩
          have H1 := Lib.hid h1; clear h1
          go_wp2
          go_roundg k
          case measure => omega
          case rel => exact ⟨by simp, by omega, _, Lib.hid (by rw [size_sift, size_swp]; exact Hj.out), H1, Lib.hid HE2.out⟩
    | succ k =>
      have hcall := uint32_siftDown (cap := cap) (lo := k) (hi := b - a) (first := a) HS.out HR.out Hs.out (by omega) (by omega) hN
      rw [ecast] at hcall
      have Hcall := Lib.hid hcall; clear hcall
      go_wp2_with (go_at_call 68; refine Hcall.out.mono ?_; rintro e w1 ⟨rfl, h1⟩; have H1 := Lib.hid h1; clear h1)
      go_roundg k
      case measure => omega
      case rel => exact ⟨by simp, by omega, _, Lib.hid (by rw [size_sift]; exact Hs.out), H1, Lib.hid HE.out⟩
end Go.Proofs.Ythcmcjoenepkbaa
