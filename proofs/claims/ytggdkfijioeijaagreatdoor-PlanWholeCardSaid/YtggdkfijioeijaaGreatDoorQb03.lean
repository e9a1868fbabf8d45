/- Contracts for the library's sort at uint32: Less, insertionSort, reverseRange. Contracts for the library's sort at uint32: siftDown, heapSort. Contracts for the library's sort at uint32: partition, partitionEqual. Contracts for the library's sort at uint32: partialInsertionSort. Contracts for the library's sort at uint32: breakPatterns; choosePivot. Contracts for the library's sort at uint32: order2, median, medianAdjacent, choosePivot. Contracts for the library's sort at uint32: pdqsort, Sort. Contracts at uint32: slices.Sort; slices.AppendSeq, Collect, Sorted of what an iterator gives. -/
import Derived.Test.YtggdkfijioeijaaGreatDoorQb01
import Derived.CellFam
import Derived.BigQuiet
import Derived.BigCall
import Derived.BigGuard
import Derived.Deep.QuietTactic
import Derived.Deep.LoopGhost
import Derived.Deep.DeepCutAuto
import Derived.Deep.CutBlock
import Derived.RangeFuncNested
import Derived.RangeFuncBound
import Derived.RangeFuncCalls
import Derived.RangeFuncLeaves
import Derived.Shelf.Abstract
import Derived.Shelf.RegionOpen
import Derived.WalkKit
import Derived.OwnWalkIn
import Derived.TacticsInMore
import Derived.LoopNIn
import Derived.LoopIn
import Derived.Maps.AppendAt
namespace Go.Proofs.YtggdkfijioeijaaGreatDoor
open Go Go.RowKit Go.Sort
set_option maxHeartbeats 1000000 in
theorem uint32_isNaN (x : Int) (w : World) : Calls Tryz.prog 134 #[.int .u32 x] w fun e w' => e = .returned (.bool false) ∧ w' = w := by
 go_enter Tryz.func134, Tryz.ntmps134
 go_wp2
 go_ret
 exact ⟨by simp, rfl⟩
set_option maxHeartbeats 1000000 in
theorem uint32_less (x y : Int) (w : World) : Calls Tryz.prog 110 #[.int .u32 x, .int .u32 y] w fun e w' => e = .returned (.bool (ltInt x y)) ∧ w' = w := by
 go_enter Tryz.func110, Tryz.ntmps110
 go_wp2_with (go_at_call 134; refine (uint32_isNaN _ _).mono ?_; rintro e w' ⟨rfl, rfl⟩)
 go_ret
 exact ⟨rfl, rfl⟩
set_option maxHeartbeats 8000000 in
set_option maxRecDepth 1000000 in
theorem uint32_insertionSort {S : Nat → Prop} {blk off N cap a b : Nat} {d : Array Int} {w0 w : World} (hS : S blk) (h : SR .u32 S w0 blk off d w) (hd : d.size = N) (hab : a ≤ b) (hb : b ≤ N) (hN : N < 4611686018427387904) :
  Calls Tryz.prog 104 #[.slice (some ⟨blk, off, none⟩) N cap, .int .i64 a, .int .i64 b] w fun e w' => e = .returned (.tuple #[]) ∧ SR .u32 S w0 blk off (insertionSort ltInt d a b) w' := by
 have H := Lib.hid h; have HS := Lib.hid hS; clear h hS
 go_enter Tryz.func104, Tryz.ntmps104
 go_wp2
 go_loopw [6] (fun vi wr => ∃ (i : Nat) (dk : Array Int), vi = .int .i64 i ∧ a < i ∧ i ≤ b + 1 ∧ Hid (dk.size = N) ∧ Hid (SR .u32 S w0 blk off dk wr) ∧
   Hid (insOuter ltInt a b i dk = insOuter ltInt a b (a + 1) d)) (fun vi _ => b + 1 - (intOf vi).toNat)
 case atStart => exact ⟨a + 1, d, by go_num, by omega, by omega, Lib.hid hd, H, Lib.hid rfl⟩
 case round =>
  obtain ⟨i, dk, rfl, hai, hib, Hsk, HR, HO⟩ := hrel
  go_wp2
  ·have hlt : i < b := by assumption
   go_loopw [7] (fun vj wr2 => ∃ (j : Nat) (dj : Array Int), vj = .int .i64 j ∧ a ≤ j ∧ j ≤ i ∧ Hid (dj.size = N) ∧ Hid (SR .u32 S w0 blk off dj wr2) ∧
     Hid (insInner ltInt a j dj = insInner ltInt a i dk)) (fun vj _ => (intOf vj).toNat)
   case atStart => exact ⟨i, dk, rfl, by omega, Nat.le_refl _, Hsk, HR, Lib.hid rfl⟩
   case round =>
    obtain ⟨j, dj, rfl, haj, hji, Hsj, HJ, HI⟩ := hrel
    obtain ⟨G, hG, hcw, hfw⟩ := HJ.out.cells
    rw [Hsj.out] at hcw hfw
    have HG := Lib.hid hG; clear hG
    have out : (j ≤ a ∨ ltInt dj[j]! dj[j - 1]! = false) → ∀ q, ∃ i' dk', Value.int .i64 ((i : Int) + 1) = .int .i64 (i' : Nat) ∧ a < i' ∧ i' ≤ b + 1 ∧ Hid (dk'.size = N) ∧
      Hid (SR .u32 S w0 blk off dk' (wr.drewN q)) ∧ Hid (insOuter ltInt a b i' dk' = insOuter ltInt a b (a + 1) d) := fun hs q =>
     ⟨i + 1, dj, by go_num, by omega, by omega, Hsj, Lib.hid (HJ.out.drewN q), Lib.hid (by rw [← HO.out, insOut_go hlt, ← HI.out, ins_stop hs])⟩
    have OUT := Lib.hid out
    clear out
    go_wp2
    by_cases hja : a < j
    ·go_big_quiet (first | (go_at_call 110; refine Calls.quiet_of_same (uint32_less _ _ _)))
     go_wp2
     ·have hl : ltInt (G j) (G (j - 1)) = true := by assumption
      have HL := Lib.hid hl
      go_region
      all_goals go_wp2
      go_roundw
      case rel =>
       refine ⟨j - 1, swp dj j (j - 1), by congr 1; omega, by omega, by omega, Lib.hid (by rw [size_swp]; exact Hsj.out), Lib.hid ?_, Lib.hid ?_⟩
       ·exact ((HJ.out.swap HS.out HG.out (i := j) (j := j - 1) (by rw [Hsj.out]; omega) (by rw [Hsj.out]; omega)).drewN (nq + 1))
       ·rw [← HI.out]; exact (ins_go hja (by rw [← HG.out, ← HG.out]; exact HL.out)).symm
      case measure => simp [intOf]; omega
     ·have hl : ltInt (G j) (G (j - 1)) = false := by assumption
      go_roundw
      case rel => exact OUT.out (Or.inr (by rw [← HG.out, ← HG.out]; exact hl)) nq
      case measure => simp [intOf]; omega
    ·go_big_quiet (first | (go_at_call 110; refine Calls.quiet_of_same (uint32_less _ _ _)))
     go_wp2
     go_roundw
     case rel => exact OUT.out (Or.inl (by omega)) nq
     case measure => simp [intOf]; omega
  ·have hge : ¬ i < b := by assumption
   go_end0
   refine ⟨rfl, ?_⟩
   have e := HO.out
   rw [insOut_stop hge] at e
   unfold insertionSort
   rw [← e]; exact HR.out
set_option maxHeartbeats 8000000 in
set_option maxRecDepth 1000000 in
theorem uint32_reverseRange {S : Nat → Prop} {blk off N cap a b : Nat} {d : Array Int} {w0 w : World} (hS : S blk) (h : SR .u32 S w0 blk off d w) (hd : d.size = N) (hab : a < b) (hb : b ≤ N) (hN : N < 4611686018427387904) :
  Calls Tryz.prog 108 #[.slice (some ⟨blk, off, none⟩) N cap, .int .i64 a, .int .i64 b] w fun e w' => e = .returned (.tuple #[]) ∧ ∃ d', d'.size = N ∧ PermIn a b d d' ∧ SR .u32 S w0 blk off d' w' := by
 have H := Lib.hid h; have HS := Lib.hid hS; have Hd := Lib.hid hd; clear h hS hd
 go_enter Tryz.func108, Tryz.ntmps108
 go_wp2
 go_loopw [6, 7] (fun vi vj wr => ∃ (i j : Nat) (dk : Array Int), vi = .int .i64 i ∧ vj = .int .i64 (j : Nat) ∧ a ≤ i ∧ i ≤ j + 2 ∧ j < b ∧ Hid (dk.size = N) ∧ Hid (SR .u32 S w0 blk off dk wr) ∧ Hid (PermIn a b d dk)) (fun vi vj _ => (intOf vj).toNat + 2 - (intOf vi).toNat)
 case atStart => exact ⟨a, b - 1, d, rfl, by congr 1; omega, by omega, by omega, by omega, Hd, H, Lib.hid (permIn_refl _ _ _)⟩
 case round =>
  obtain ⟨i, j, dk, rfl, rfl, hai, hij, hjb, Hsk, HR, HP⟩ := hrel
  obtain ⟨G, hG, hcw, hfw⟩ := HR.out.cells
  rw [Hsk.out] at hcw hfw
  have HG := Lib.hid hG; clear hG
  go_wp2
  ·have hlt : i < j := by assumption
   go_region
   all_goals go_wp2
   go_roundw
   case rel =>
    refine ⟨i + 1, j - 1, swp dk i j, by go_num, by congr 1; omega, by omega, by omega, by omega, Lib.hid (by rw [size_swp]; exact Hsk.out), Lib.hid ?_, Lib.hid ?_⟩
    ·exact ((HR.out.swap HS.out HG.out (i := i) (j := j) (by rw [Hsk.out]; omega) (by rw [Hsk.out]; omega)).drewN 1)
    ·exact permIn_trans _ _ _ _ _ HP.out (swp_permIn _ _ _ _ _ hai (by omega) (by omega) hjb (by rw [Hsk.out]; omega))
   case measure => simp [intOf]; omega
  ·go_end0
   exact ⟨rfl, dk, Hsk.out, HP.out, HR.out⟩
end Go.Proofs.YtggdkfijioeijaaGreatDoor
namespace Go.Proofs.YtggdkfijioeijaaGreatDoor
open Go Go.RowKit Go.Sort
set_option maxHeartbeats 8000000 in
set_option maxRecDepth 1000000 in
theorem uint32_siftDown {S : Nat → Prop} {blk off N cap lo hi first : Nat} {d : Array Int} {w0 w : World} (hS : S blk) (h : SR .u32 S w0 blk off d w) (hd : d.size = N) (hlo : lo ≤ hi) (hb : first + hi ≤ N) (hN : N < 4611686018427387904) :
    Calls Tryz.prog 129 #[.slice (some ⟨blk, off, none⟩) N cap, .int .i64 lo, .int .i64 hi, .int .i64 first] w fun e w' => e = .returned (.tuple #[]) ∧ SR .u32 S w0 blk off (siftDown ltInt hi first lo d) w' := by
  have H := Lib.hid h; have HS := Lib.hid hS; have Hd := Lib.hid hd; clear h hS hd
  go_enter Tryz.func129, Tryz.ntmps129
  go_wp2
  go_loopg [8] (hi - lo) (fun k s8 wr => ∃ (root : Nat) (dk : Array Int), s8 = .int .i64 root ∧ root ≤ hi ∧ hi - root ≤ k ∧ Hid (dk.size = N) ∧ Hid (SR .u32 S w0 blk off dk wr) ∧ Hid (siftDown ltInt hi first root dk = siftDown ltInt hi first lo d))
  case atStart => exact ⟨lo, d, rfl, hlo, Nat.le_refl _, Hd, H, Lib.hid rfl⟩
  case round =>
    obtain ⟨root, dk, rfl, hr, hk, Hs, HR, HE⟩ := hrel
    by_cases h0 : hi ≤ 2 * root + 1
    · have h0z : (hi : Int) ≤ 2 * (root : Int) + 1 := by omega
      go_wp2
      go_end0
      refine ⟨rfl, ?_⟩
      rw [← HE.out, sift_end h0]; exact HR.out
    · have h0z : ¬ ((hi : Int) ≤ 2 * (root : Int) + 1) := by omega
      obtain ⟨G, hG, hcw, hfw⟩ := HR.out.cells
      rw [Hs.out] at hcw hfw
      have HG := Lib.hid hG; clear hG
      by_cases h1 : 2 * root + 2 < hi
      case' pos => have h1z : 2 * (root : Int) + 1 + 1 < (hi : Int) := by omega
      case' neg => have h1z : decide (2 * (root : Int) + 1 + 1 < (hi : Int)) = false := decide_eq_false (by omega)
      all_goals go_wp2_with fail
      all_goals go_big_quiet (first | (go_at_call 110; refine Calls.quiet_of_same (uint32_less _ _ _)))
      all_goals go_wp2_with fail
      all_goals first
        | (have hL : ltInt (G (first + 2 * root + 1)) (G (first + 2 * root + 2)) = true := by assumption
           obtain ⟨c, hc, HC⟩ : ∃ c : Nat, 2 * (root : Int) + 1 + 1 = (c : Int) ∧ Hid (Child ltInt hi first root dk c) := ⟨2 * root + 2, by omega, Lib.hid (child_right h1 (by rw [← HG.out, ← HG.out]; exact hL))⟩
           rw [hc]
           clear hL)
        | (have hL : ltInt (G (first + 2 * root + 1)) (G (first + 2 * root + 2)) = false := by assumption
           obtain ⟨c, hc, HC⟩ : ∃ c : Nat, 2 * (root : Int) + 1 = (c : Int) ∧ Hid (Child ltInt hi first root dk c) := ⟨2 * root + 1, by omega, Lib.hid (child_left (by omega) (fun _ => by rw [← HG.out, ← HG.out]; exact hL))⟩
           rw [hc]
           clear hL)
        | (obtain ⟨c, hc, HC⟩ : ∃ c : Nat, 2 * (root : Int) + 1 = (c : Int) ∧ Hid (Child ltInt hi first root dk c) := ⟨2 * root + 1, by omega, Lib.hid (child_left (by omega) (fun h => absurd h h1))⟩
           rw [hc])
      all_goals
        revert nq; intro nq1
        have hcw2 : ∀ t, t < N → (wr.drewN nq1).cell? ⟨blk, off + t, none⟩ = some (.int .u32 (G t)) := hcw
        have hfw2 : ∀ t, t < N → (wr.drewN nq1).frozen? ⟨blk, off + t, none⟩ = false := hfw
        have HR2 := Lib.hid (HR.out.drewN nq1)
        have hcl := HC.out.1
        have hcr := HC.out.2.1
        clear hcw hfw HR h1z h0z
        generalize wr.drewN nq1 = wr2 at hcw2 hfw2 HR2 ⊢
        go_big_quiet (first | (go_at_call 110; refine Calls.quiet_of_same (uint32_less _ _ _)))
        go_wp2_with fail
        · have hX : (!ltInt (G (first + root)) (G (first + c))) = true := by assumption
          (try simp only [Exit.inBlock, Exit.then]); refine bodyPost_ret (results_none rfl _ _ _) rfl ?_
          refine ⟨rfl, ?_⟩
          rw [HG.out, HG.out] at hX
          rw [← HE.out, HC.out.2.2, if_neg (by simpa using hX)]
          exact HR2.out.drewN nq
        · have hX : (!ltInt (G (first + root)) (G (first + c))) = false := by assumption
          have HX := Lib.hid hX
          clear hX
          go_region
          go_wp2
          go_roundg (hi - c)
          case measure => omega
          case rel =>
            refine ⟨c, swp dk (first + root) (first + c), by simp <;> omega, by omega, Nat.le_refl _, Lib.hid (by rw [size_swp]; exact Hs.out), Lib.hid ?_, Lib.hid ?_⟩
            · exact (HR2.out.swap HS.out HG.out (i := first + root) (j := first + c) (by rw [Hs.out]; omega) (by rw [Hs.out]; omega)).drewN _
            · have hX := HX.out
              rw [HG.out, HG.out] at hX
              rw [← HE.out, HC.out.2.2, if_pos (by simpa using hX)]
theorem size_sift {hi F : Nat} {root : Nat} {d : Array Int} : (siftDown ltInt hi F root d).size = d.size := by
 generalize hn : hi - root = n
 induction n using Nat.strongRecOn generalizing root d with
 | ind n ih =>
  rw [siftDown]
  split
  ·rfl
  ·split
   ·split
    ·rfl
    ·split
     ·rw [ih _ (by omega) rfl, size_swp]
     ·rfl
   ·split
    ·rfl
    ·rw [ih _ (by omega) rfl, size_swp]
set_option maxHeartbeats 8000000 in
set_option maxRecDepth 1000000 in
theorem uint32_heapSort {S : Nat → Prop} {blk off N cap a b : Nat} {d : Array Int} {w0 w : World} (hS : S blk) (h : SR .u32 S w0 blk off d w) (hd : d.size = N) (hab : a < b) (hb : b ≤ N) (hN : N < 4611686018427387904) :
  Calls Tryz.prog 105 #[.slice (some ⟨blk, off, none⟩) N cap, .int .i64 a, .int .i64 b] w fun e w' => e = .returned (.tuple #[]) ∧ SR .u32 S w0 blk off (heapSort ltInt d a b) w' := by
 have H := Lib.hid h; have HS := Lib.hid hS; have Hd := Lib.hid hd; clear h hS hd
 have ecast : ((b - a : Nat) : Int) = (b : Int) - (a : Int) := by omega
 go_enter Tryz.func105, Tryz.ntmps105
 go_wp2
 go_loopg [9] ((b - a - 1) / 2 + 1) (fun k s9 wr => s9 = .int .i64 ((k : Int) - 1) ∧ k ≤ (b - a - 1) / 2 + 1 ∧ ∃ (dk : Array Int), Hid (dk.size = N) ∧ Hid (SR .u32 S w0 blk off dk wr) ∧
  Hid (heapBuild ltInt (b - a) a k dk = heapBuild ltInt (b - a) a ((b - a - 1) / 2 + 1) d))
 case atStart => exact ⟨by congr 1; omega, Nat.le_refl _, d, Hd, H, Lib.hid rfl⟩
 case round =>
  obtain ⟨rfl, hkk, dk, Hs, HR, HE⟩ := hrel
  cases gk with
  | zero =>
   clear hkk
   go_wp2
   go_loopg [10] (b - a) (fun k s10 wr2 => s10 = .int .i64 ((k : Int) - 1) ∧ k ≤ b - a ∧ ∃ (dj : Array Int), Hid (dj.size = N) ∧ Hid (SR .u32 S w0 blk off dj wr2) ∧ Hid (heapPop ltInt a k dj = heapPop ltInt a (b - a) dk))
   case atStart => exact ⟨by rw [ecast], Nat.le_refl _, dk, Hs, HR, Lib.hid rfl⟩
   case round =>
    obtain ⟨rfl, hkk, dj, Hj, HJ, HE2⟩ := hrel
    cases gk with
    | zero =>
     go_wp2
     go_end0
     refine ⟨rfl, ?_⟩
     have e1 := HE.out; have e2 := HE2.out
     rw [heapBuild] at e1
     rw [heapPop] at e2
     rw [heapSort, ← e1, ← e2]
     exact HJ.out
    | succ k =>
     obtain ⟨G, hG, hcw, hfw⟩ := HJ.out.cells
     rw [Hj.out] at hcw hfw
     have HG := Lib.hid hG; clear hG
     obtain ⟨v3, hy3⟩ := cell?_setCell_some (w := wr) (p := ⟨blk, off + a, none⟩) (x := .int .u32 (G (a + k))) (q := ⟨blk, off + (a + k), none⟩) (hcw (a + k) (by omega))
     have HJ2 := fun q : Nat => (HJ.out.swap HS.out HG.out (i := a) (j := a + k) (by rw [Hj.out]; omega) (by rw [Hj.out]; omega)).drewN q
     have HJ2 := Lib.hid HJ2
     go_wp2_with fail
     go_region
     go_wp2_with fail
     refine (uint32_siftDown (lo := 0) (hi := k) (first := a) HS.out (HJ2.out 1) (by rw [size_swp]; exact Hj.out) (Nat.zero_le _) (by omega) hN).mono ?_
     rintro e w1 ⟨rfl, h1⟩
     have H1 := Lib.hid h1; clear h1
     go_wp2
     go_roundg k
     case measure => omega
     case rel => exact ⟨by simp, by omega, _, Lib.hid (by rw [size_sift, size_swp]; exact Hj.out), H1, Lib.hid HE2.out⟩
  | succ k =>
   have hcall := uint32_siftDown (cap := cap) (lo := k) (hi := b - a) (first := a) HS.out HR.out Hs.out (by omega) (by omega) hN
   rw [ecast] at hcall
   have Hcall := Lib.hid hcall; clear hcall
   go_wp2_with (go_at_call 129; refine Hcall.out.mono ?_; rintro e w1 ⟨rfl, h1⟩; have H1 := Lib.hid h1; clear h1)
   go_roundg k
   case measure => omega
   case rel => exact ⟨by simp, by omega, _, Lib.hid (by rw [size_sift]; exact Hs.out), H1, Lib.hid HE.out⟩
end Go.Proofs.YtggdkfijioeijaaGreatDoor
namespace Go.Proofs.YtggdkfijioeijaaGreatDoor
open Go Go.RowKit Go.Sort
set_option maxHeartbeats 16000000 in
set_option maxRecDepth 1000000 in
theorem uint32_partitionEqual {S : Nat → Prop} {blk off N cap a b pivot : Nat} {d : Array Int} {w0 w : World} (hS : S blk) (h : SR .u32 S w0 blk off d w) (hd : d.size = N) (hap : a ≤ pivot) (hpb : pivot < b) (hb : b ≤ N) (hN : N < 4611686018427387904) :
  Calls Tryz.prog 111 #[.slice (some ⟨blk, off, none⟩) N cap, .int .i64 a, .int .i64 b, .int .i64 pivot] w fun e w' => ∃ (mid : Nat) (d' : Array Int), e = .returned (.int .i64 mid) ∧ partitionEqual ltInt d a b pivot = (mid, d') ∧ SR .u32 S w0 blk off d' w' := by
 obtain ⟨G, hG, hcw, hfw⟩ := h.cells
 rw [hd] at hcw hfw
 obtain ⟨v3, hy3⟩ := cell?_setCell_some (w := w) (p := ⟨blk, off + a, none⟩) (x := .int .u32 (G pivot)) (q := ⟨blk, off + pivot, none⟩) (hcw pivot (by omega))
 have H1 := Lib.hid (h.swap hS hG (i := a) (j := pivot) (by omega) (by omega)).drew
 have HS := Lib.hid hS; have Hd := Lib.hid hd
 clear h hS hd hG
 go_enter Tryz.func111, Tryz.ntmps111
 go_wp2
 go_region
 clear hcw hfw hy3
 go_upto_block 0 with fail
 refine wp_abs (F := fun wx => SR .u32 S w0 blk off (swp d a pivot) wx) H1.out ?_
 intro W HW
 have HR := Lib.hid HW; clear HW
 have Hs0 : Hid ((swp d a pivot).size = N) := Lib.hid (by rw [size_swp]; exact Hd.out)
 obtain ⟨Pm, Pd, hP⟩ : ∃ Pm Pd, partEqLoop ltInt a (a + 1) (b - 1) (swp d a pivot) = (Pm, Pd) := ⟨_, _, rfl⟩
 have HP0 := Lib.hid hP; clear hP
 go_wp2_with fail
 go_loopg [9, 10] (b + 1) (fun k s9 s10 wr => ∃ (i j : Nat) (dk : Array Int), s9 = .int .i64 i ∧ s10 = .int .i64 j ∧ a < i ∧ i ≤ b ∧ j < b ∧ j + 1 - i < k ∧ Hid (dk.size = N) ∧ Hid (SR .u32 S w0 blk off dk wr) ∧ Hid (partEqLoop ltInt a i j dk = (Pm, Pd)))
 case atStart => exact ⟨a + 1, b - 1, swp d a pivot, by go_num, by go_num, by omega, by omega, by omega, by omega, Hs0, HR, HP0⟩
 case round =>
  clear HR Hs0
  obtain ⟨i, j, dk, rfl, rfl, hai, hib, hjb, hk, Hs, HR, HP⟩ := hrel
  obtain ⟨I, hI⟩ : ∃ I : Nat, scanUp (fun x => !ltInt dk[a]! x) dk j i = I := ⟨_, rfl⟩
  have HI := Lib.hid hI; clear hI
  go_upto_block 2 with fail
  go_cut [9] (fun s wx => s = .int .i64 (I : Nat) ∧ i ≤ I ∧ I ≤ b ∧ Hid (SR .u32 S w0 blk off dk wx))
  case first =>
   go_wp2_with fail
   go_loopg [9] (j + 1 - i) (fun k s wx => ∃ x : Nat, s = .int .i64 x ∧ i ≤ x ∧ x ≤ b ∧ j + 1 - x ≤ k ∧ Hid (scanUp (fun x => !ltInt dk[a]! x) dk j x = I) ∧ Hid (SR .u32 S w0 blk off dk wx))
   case atStart => exact ⟨i, rfl, by omega, by omega, by omega, HI, HR⟩
   case round =>
    obtain ⟨x, rfl, hx1, hx2, hx3, HX, HY⟩ := hrel
    obtain ⟨G, hG, hcw, hfw⟩ := HY.out.cells
    rw [Hs.out] at hcw hfw
    have HG := Lib.hid hG; clear hG
    by_cases hle : x ≤ j
    ·go_wp2_with fail
     go_big_quiet (first | (go_at_call 110; refine Calls.quiet_of_same (uint32_less _ _ _)))
     go_wp2
     ·have ht : (!ltInt (G a) (G x)) = true := by assumption
      go_roundg (j + 1 - (x + 1))
      case measure => omega
      case rel => exact ⟨x + 1, by go_num, by omega, by omega, Nat.le_refl _, Lib.hid ((up_go (p := fun x => !ltInt dk[a]! x) (d := dk) hle (by rw [← HG.out a, ← HG.out x]; exact ht)).symm.trans HX.out), Lib.hid (HY.out.drewN nq)⟩
     ·have ht : (!ltInt (G a) (G x)) = false := by assumption
      have e := HX.out
      rw [up_end (Or.inr (by show _ = _; rw [← HG.out a, ← HG.out x]; exact ht))] at e
      subst e
      go_meet
      exact ⟨rfl, hx1, hx2, Lib.hid (HY.out.drewN nq)⟩
    ·go_wp2_with fail
     go_big_quiet (first | (go_at_call 110; refine Calls.quiet_of_same (uint32_less _ _ _)))
     have e := HX.out
     rw [up_end (Or.inl hle)] at e
     subst e
     go_wp2
     go_meet
     exact ⟨rfl, hx1, hx2, Lib.hid (HY.out.drewN nq)⟩
  case rest =>
   obtain ⟨rfl, hiI, hIb, HR1⟩ := hcut
   clear HR
   obtain ⟨J, hJ⟩ : ∃ J : Nat, scanDown (fun x => ltInt dk[a]! x) dk I j = J := ⟨_, rfl⟩
   have HJ := Lib.hid hJ; clear hJ
   go_upto_block 4 with fail
   go_cut [10] (fun s wx => s = .int .i64 (J : Nat) ∧ J ≤ j ∧ Hid (SR .u32 S w0 blk off dk wx))
   case first =>
    go_wp2_with fail
    go_loopg [10] (j) (fun k s wx => ∃ x : Nat, s = .int .i64 x ∧ x ≤ j ∧ x ≤ k ∧ Hid (scanDown (fun x => ltInt dk[a]! x) dk I x = J) ∧ Hid (SR .u32 S w0 blk off dk wx))
    case atStart => exact ⟨j, rfl, by omega, by omega, HJ, HR1⟩
    case round =>
     obtain ⟨x, rfl, hx1, hx2, HX, HY⟩ := hrel
     obtain ⟨G, hG, hcw, hfw⟩ := HY.out.cells
     rw [Hs.out] at hcw hfw
     have HG := Lib.hid hG; clear hG
     by_cases hle : I ≤ x
     ·go_wp2_with fail
      go_big_quiet (first | (go_at_call 110; refine Calls.quiet_of_same (uint32_less _ _ _)))
      go_wp2
      ·have ht : ltInt (G a) (G x) = true := by assumption
       go_roundg (x - 1)
       case measure => omega
       case rel => exact ⟨x - 1, by go_num, by omega, Nat.le_refl _, Lib.hid ((down_go (p := fun x => ltInt dk[a]! x) (d := dk) hle (by omega) (by rw [← HG.out a, ← HG.out x]; exact ht)).symm.trans HX.out), Lib.hid (HY.out.drewN nq)⟩
      ·have ht : ltInt (G a) (G x) = false := by assumption
       have e := HX.out
       rw [down_end (Or.inr (by show _ = _; rw [← HG.out a, ← HG.out x]; exact ht))] at e
       subst e
       go_meet
       exact ⟨rfl, hx1, Lib.hid (HY.out.drewN nq)⟩
     ·go_wp2_with fail
      go_big_quiet (first | (go_at_call 110; refine Calls.quiet_of_same (uint32_less _ _ _)))
      have e := HX.out
      rw [down_end (Or.inl hle)] at e
      subst e
      go_wp2
      go_meet
      exact ⟨rfl, hx1, Lib.hid (HY.out.drewN nq)⟩
   case rest =>
    obtain ⟨rfl, hJj, HR2⟩ := hcut
    clear HR1
    by_cases hst : J < I
    ·go_wp2
     go_ret
     have e := HP.out
     rw [partE_stop HI.out HJ.out hst] at e
     cases e
     exact ⟨_, _, rfl, HP0.out, HR2.out⟩
    ·obtain ⟨G, hG, hcw, hfw⟩ := HR2.out.cells
     rw [Hs.out] at hcw hfw
     have HG := Lib.hid hG; clear hG
     obtain ⟨v3, hy3⟩ := cell?_setCell_some (w := wc) (p := ⟨blk, off + I, none⟩) (x := .int .u32 (G J)) (q := ⟨blk, off + J, none⟩) (hcw J (by omega))
     go_wp2
     go_region
     all_goals go_wp2
     go_roundg (J - 1 + 1 - (I + 1) + 1)
     case measure => omega
     case rel =>
      refine ⟨I + 1, J - 1, swp dk I J, by go_num, by go_num, by omega, by omega, by omega, by omega, Lib.hid (by rw [size_swp]; exact Hs.out), Lib.hid ?_, Lib.hid ?_⟩
      ·exact (HR2.out.swap HS.out HG.out (i := I) (j := J) (by rw [Hs.out]; omega) (by rw [Hs.out]; omega)).drewN 1
      ·rw [← HP.out]; exact (partE_go HI.out HJ.out hst).symm
set_option maxHeartbeats 16000000 in
set_option maxRecDepth 1000000 in
theorem uint32_partition {S : Nat → Prop} {blk off N cap a b pivot : Nat} {d : Array Int} {w0 w : World} (hS : S blk) (h : SR .u32 S w0 blk off d w) (hd : d.size = N) (hap : a ≤ pivot) (hpb : pivot < b) (hb : b ≤ N) (hN : N < 4611686018427387904) :
  Calls Tryz.prog 112 #[.slice (some ⟨blk, off, none⟩) N cap, .int .i64 a, .int .i64 b, .int .i64 pivot] w fun e w' => ∃ (mid : Nat) (ap ap' : Bool) (d' : Array Int), e = .returned (.tuple #[.int .i64 mid, .bool ap]) ∧ partition ltInt d a b pivot = (mid, ap', d') ∧ SR .u32 S w0 blk off d' w' := by
 obtain ⟨G, hG, hcw, hfw⟩ := h.cells
 rw [hd] at hcw hfw
 obtain ⟨v3, hy3⟩ := cell?_setCell_some (w := w) (p := ⟨blk, off + a, none⟩) (x := .int .u32 (G pivot)) (q := ⟨blk, off + pivot, none⟩) (hcw pivot (by omega))
 have H1 := Lib.hid (h.swap hS hG (i := a) (j := pivot) (by omega) (by omega)).drew
 have HS := Lib.hid hS; have Hd := Lib.hid hd
 clear h hS hd hG
 obtain ⟨jj, hjj, hjb⟩ : ∃ jj : Nat, (b : Int) - 1 = (jj : Int) ∧ b - 1 = jj := ⟨b - 1, by omega, rfl⟩
 go_enter Tryz.func112, Tryz.ntmps112
 go_wp2
 go_region
 clear hcw hfw hy3
 go_upto_block 0 with fail
 refine wp_abs (F := fun wx => SR .u32 S w0 blk off (swp d a pivot) wx) H1.out ?_
 intro W HW
 have HR := Lib.hid HW; clear HW
 have Hs0 : Hid ((swp d a pivot).size = N) := Lib.hid (by rw [size_swp]; exact Hd.out)
 obtain ⟨Pm, Pd, hP⟩ : ∃ Pm Pd, partLoop ltInt a (a + 1) (b - 1) (swp d a pivot) = (Pm, Pd) := ⟨_, _, rfl⟩
 have hfin : partition ltInt d a b pivot = (Pm, (partition ltInt d a b pivot).2.1, swp Pd Pm a) := by
  have e1 := partition_fst ltInt d a b pivot; have e2 := partition_arr ltInt d a b pivot
  rw [hP] at e1 e2
  refine Prod.ext e1 (Prod.ext rfl e2)
 have HF := Lib.hid hfin
 have HP := Lib.hid hP; clear hP hfin
 obtain ⟨dk, hdk⟩ : ∃ dk, swp d a pivot = dk := ⟨_, rfl⟩
 rw [hdk] at HR HP Hs0
 rw [hjb] at HP
 have Hs := Hs0
 clear hdk Hs0
 have hjb2 : jj + 1 = b := by omega
 clear hjj hjb
 obtain ⟨I, hI⟩ : ∃ I : Nat, scanUp (fun x => ltInt x dk[a]!) dk jj (a + 1) = I := ⟨_, rfl⟩
 have HI := Lib.hid hI; clear hI
 go_upto_block 0 with fail
 go_cut [10] (fun s wx => s = .int .i64 (I : Nat) ∧ (a + 1) ≤ I ∧ I ≤ b ∧ Hid (SR .u32 S w0 blk off dk wx))
 case first =>
  go_wp2_with fail
  go_loopg [10] (jj + 1 - (a + 1)) (fun k s wx => ∃ x : Nat, s = .int .i64 x ∧ (a + 1) ≤ x ∧ x ≤ b ∧ jj + 1 - x ≤ k ∧ Hid (scanUp (fun x => ltInt x dk[a]!) dk jj x = I) ∧ Hid (SR .u32 S w0 blk off dk wx))
  case atStart => exact ⟨(a + 1), rfl, by omega, by omega, by omega, HI, HR⟩
  case round =>
   obtain ⟨x, rfl, hx1, hx2, hx3, HX, HY⟩ := hrel
   obtain ⟨G, hG, hcw, hfw⟩ := HY.out.cells
   rw [Hs.out] at hcw hfw
   have HG := Lib.hid hG; clear hG
   by_cases hle : x ≤ jj
   ·go_wp2_with fail
    go_big_quiet (first | (go_at_call 110; refine Calls.quiet_of_same (uint32_less _ _ _)))
    go_wp2
    ·have ht : ltInt (G x) (G a) = true := by assumption
     go_roundg (jj + 1 - (x + 1))
     case measure => omega
     case rel => exact ⟨x + 1, by go_num, by omega, by omega, Nat.le_refl _, Lib.hid ((up_go (p := fun x => ltInt x dk[a]!) (d := dk) hle (by rw [← HG.out x, ← HG.out a]; exact ht)).symm.trans HX.out), Lib.hid (HY.out.drewN nq)⟩
    ·have ht : ltInt (G x) (G a) = false := by assumption
     have e := HX.out
     rw [up_end (Or.inr (by show _ = _; rw [← HG.out x, ← HG.out a]; exact ht))] at e
     subst e
     go_meet
     exact ⟨rfl, hx1, hx2, Lib.hid (HY.out.drewN nq)⟩
   ·go_wp2_with fail
    go_big_quiet (first | (go_at_call 110; refine Calls.quiet_of_same (uint32_less _ _ _)))
    have e := HX.out
    rw [up_end (Or.inl hle)] at e
    subst e
    go_wp2
    go_meet
    exact ⟨rfl, hx1, hx2, Lib.hid (HY.out.drewN nq)⟩
 case rest =>
  obtain ⟨rfl, hiI, hIb, HR1⟩ := hcut
  clear HR
  obtain ⟨J, hJ⟩ : ∃ J : Nat, scanDown (fun x => !ltInt x dk[a]!) dk I jj = J := ⟨_, rfl⟩
  have HJ := Lib.hid hJ; clear hJ
  go_upto_block 2 with fail
  go_cut [11] (fun s wx => s = .int .i64 (J : Nat) ∧ J ≤ jj ∧ Hid (SR .u32 S w0 blk off dk wx))
  case first =>
   go_wp2_with fail
   go_loopg [11] (jj) (fun k s wx => ∃ x : Nat, s = .int .i64 x ∧ x ≤ jj ∧ x ≤ k ∧ Hid (scanDown (fun x => !ltInt x dk[a]!) dk I x = J) ∧ Hid (SR .u32 S w0 blk off dk wx))
   case atStart => exact ⟨jj, rfl, by omega, by omega, HJ, HR1⟩
   case round =>
    obtain ⟨x, rfl, hx1, hx2, HX, HY⟩ := hrel
    obtain ⟨G, hG, hcw, hfw⟩ := HY.out.cells
    rw [Hs.out] at hcw hfw
    have HG := Lib.hid hG; clear hG
    by_cases hle : I ≤ x
    ·go_wp2_with fail
     go_big_quiet (first | (go_at_call 110; refine Calls.quiet_of_same (uint32_less _ _ _)))
     go_wp2
     ·have ht : (!ltInt (G x) (G a)) = true := by assumption
      go_roundg (x - 1)
      case measure => omega
      case rel => exact ⟨x - 1, by go_num, by omega, Nat.le_refl _, Lib.hid ((down_go (p := fun x => !ltInt x dk[a]!) (d := dk) hle (by omega) (by rw [← HG.out x, ← HG.out a]; exact ht)).symm.trans HX.out), Lib.hid (HY.out.drewN nq)⟩
     ·have ht : (!ltInt (G x) (G a)) = false := by assumption
      have e := HX.out
      rw [down_end (Or.inr (by show _ = _; rw [← HG.out x, ← HG.out a]; exact ht))] at e
      subst e
      go_meet
      exact ⟨rfl, hx1, Lib.hid (HY.out.drewN nq)⟩
    ·go_wp2_with fail
     go_big_quiet (first | (go_at_call 110; refine Calls.quiet_of_same (uint32_less _ _ _)))
     have e := HX.out
     rw [down_end (Or.inl hle)] at e
     subst e
     go_wp2
     go_meet
     exact ⟨rfl, hx1, Lib.hid (HY.out.drewN nq)⟩
  case rest =>
   obtain ⟨rfl, hJj, HR2⟩ := hcut
   clear HR1
   by_cases hst : J < I
   ·skip
    obtain ⟨G, hG, hcw, hfw⟩ := HR2.out.cells
    rw [Hs.out] at hcw hfw
    have HG := Lib.hid hG; clear hG
    obtain ⟨v3, hy3⟩ := cell?_setCell_some (w := wc) (p := ⟨blk, off + J, none⟩) (x := .int .u32 (G a)) (q := ⟨blk, off + a, none⟩) (hcw a (by omega))
    go_wp2
    go_region
    all_goals go_wp2
    go_ret2
    have e := HP.out
    rw [partL_stop HI.out HJ.out hst] at e
    cases e
    exact ⟨_, _, _, _, rfl, HF.out, (HR2.out.swap HS.out HG.out (i := Pm) (j := a) (by rw [Hs.out]; omega) (by rw [Hs.out]; omega)).drew⟩
   ·obtain ⟨G, hG, hcw, hfw⟩ := HR2.out.cells
    rw [Hs.out] at hcw hfw
    have HG := Lib.hid hG; clear hG
    obtain ⟨v3, hy3⟩ := cell?_setCell_some (w := wc) (p := ⟨blk, off + I, none⟩) (x := .int .u32 (G J)) (q := ⟨blk, off + J, none⟩) (hcw J (by omega))
    have HN := Lib.hid (HR2.out.swap HS.out HG.out (i := I) (j := J) (by rw [Hs.out]; omega) (by rw [Hs.out]; omega)).drew
    have HPN := Lib.hid ((partL_go HI.out HJ.out hst).symm.trans HP.out)
    have hsN : Hid ((swp dk I J).size = N) := Lib.hid (by rw [size_swp]; exact Hs.out)
    go_wp2
    go_region
    go_upto_block 4 with fail
    clear hy3 hcw hfw HG HR2 HP
    go_wp2_with fail
    go_loopg [10, 11] (b + 1) (fun k s10 s11 wr => ∃ (i j : Nat) (dk : Array Int), s10 = .int .i64 i ∧ s11 = .int .i64 j ∧ a < i ∧ i ≤ b ∧ j < b ∧ j + 1 - i < k ∧ Hid (dk.size = N) ∧ Hid (SR .u32 S w0 blk off dk wr) ∧ Hid (partLoop ltInt a i j dk = (Pm, Pd)))
    case atStart => exact ⟨I + 1, J - 1, swp dk I J, by go_num, by go_num, by omega, by omega, by omega, by omega, hsN, HN, HPN⟩
    case round =>
     clear HI HJ HN HPN hsN Hs
     obtain ⟨i, j, dk, rfl, rfl, hai, hib, hjb, hk, Hs, HR, HP⟩ := hrel
     obtain ⟨I, hI⟩ : ∃ I : Nat, scanUp (fun x => ltInt x dk[a]!) dk j i = I := ⟨_, rfl⟩
     have HI := Lib.hid hI; clear hI
     go_upto_block 6 with fail
     go_cut [10] (fun s wx => s = .int .i64 (I : Nat) ∧ i ≤ I ∧ I ≤ b ∧ Hid (SR .u32 S w0 blk off dk wx))
     case first =>
      go_wp2_with fail
      go_loopg [10] (j + 1 - i) (fun k s wx => ∃ x : Nat, s = .int .i64 x ∧ i ≤ x ∧ x ≤ b ∧ j + 1 - x ≤ k ∧ Hid (scanUp (fun x => ltInt x dk[a]!) dk j x = I) ∧ Hid (SR .u32 S w0 blk off dk wx))
      case atStart => exact ⟨i, rfl, by omega, by omega, by omega, HI, HR⟩
      case round =>
       obtain ⟨x, rfl, hx1, hx2, hx3, HX, HY⟩ := hrel
       obtain ⟨G, hG, hcw, hfw⟩ := HY.out.cells
       rw [Hs.out] at hcw hfw
       have HG := Lib.hid hG; clear hG
       by_cases hle : x ≤ j
       ·go_wp2_with fail
        go_big_quiet (first | (go_at_call 110; refine Calls.quiet_of_same (uint32_less _ _ _)))
        go_wp2
        ·have ht : ltInt (G x) (G a) = true := by assumption
         go_roundg (j + 1 - (x + 1))
         case measure => omega
         case rel => exact ⟨x + 1, by go_num, by omega, by omega, Nat.le_refl _, Lib.hid ((up_go (p := fun x => ltInt x dk[a]!) (d := dk) hle (by rw [← HG.out x, ← HG.out a]; exact ht)).symm.trans HX.out), Lib.hid (HY.out.drewN nq)⟩
        ·have ht : ltInt (G x) (G a) = false := by assumption
         have e := HX.out
         rw [up_end (Or.inr (by show _ = _; rw [← HG.out x, ← HG.out a]; exact ht))] at e
         subst e
         go_meet
         exact ⟨rfl, hx1, hx2, Lib.hid (HY.out.drewN nq)⟩
       ·go_wp2_with fail
        go_big_quiet (first | (go_at_call 110; refine Calls.quiet_of_same (uint32_less _ _ _)))
        have e := HX.out
        rw [up_end (Or.inl hle)] at e
        subst e
        go_wp2
        go_meet
        exact ⟨rfl, hx1, hx2, Lib.hid (HY.out.drewN nq)⟩
     case rest =>
      obtain ⟨rfl, hiI, hIb, HR1⟩ := hcut
      clear HR
      obtain ⟨J, hJ⟩ : ∃ J : Nat, scanDown (fun x => !ltInt x dk[a]!) dk I j = J := ⟨_, rfl⟩
      have HJ := Lib.hid hJ; clear hJ
      go_upto_block 8 with fail
      go_cut [11] (fun s wx => s = .int .i64 (J : Nat) ∧ J ≤ j ∧ Hid (SR .u32 S w0 blk off dk wx))
      case first =>
       go_wp2_with fail
       go_loopg [11] (j) (fun k s wx => ∃ x : Nat, s = .int .i64 x ∧ x ≤ j ∧ x ≤ k ∧ Hid (scanDown (fun x => !ltInt x dk[a]!) dk I x = J) ∧ Hid (SR .u32 S w0 blk off dk wx))
       case atStart => exact ⟨j, rfl, by omega, by omega, HJ, HR1⟩
       case round =>
        obtain ⟨x, rfl, hx1, hx2, HX, HY⟩ := hrel
        obtain ⟨G, hG, hcw, hfw⟩ := HY.out.cells
        rw [Hs.out] at hcw hfw
        have HG := Lib.hid hG; clear hG
        by_cases hle : I ≤ x
        ·go_wp2_with fail
         go_big_quiet (first | (go_at_call 110; refine Calls.quiet_of_same (uint32_less _ _ _)))
         go_wp2
         ·have ht : (!ltInt (G x) (G a)) = true := by assumption
          go_roundg (x - 1)
          case measure => omega
          case rel => exact ⟨x - 1, by go_num, by omega, Nat.le_refl _, Lib.hid ((down_go (p := fun x => !ltInt x dk[a]!) (d := dk) hle (by omega) (by rw [← HG.out x, ← HG.out a]; exact ht)).symm.trans HX.out), Lib.hid (HY.out.drewN nq)⟩
         ·have ht : (!ltInt (G x) (G a)) = false := by assumption
          have e := HX.out
          rw [down_end (Or.inr (by show _ = _; rw [← HG.out x, ← HG.out a]; exact ht))] at e
          subst e
          go_meet
          exact ⟨rfl, hx1, Lib.hid (HY.out.drewN nq)⟩
        ·go_wp2_with fail
         go_big_quiet (first | (go_at_call 110; refine Calls.quiet_of_same (uint32_less _ _ _)))
         have e := HX.out
         rw [down_end (Or.inl hle)] at e
         subst e
         go_wp2
         go_meet
         exact ⟨rfl, hx1, Lib.hid (HY.out.drewN nq)⟩
      case rest =>
       obtain ⟨rfl, hJj, HR2⟩ := hcut
       clear HR1
       by_cases hst : J < I
       ·skip
        obtain ⟨G, hG, hcw, hfw⟩ := HR2.out.cells
        rw [Hs.out] at hcw hfw
        have HG := Lib.hid hG; clear hG
        obtain ⟨v3, hy3⟩ := cell?_setCell_some (w := wc) (p := ⟨blk, off + J, none⟩) (x := .int .u32 (G a)) (q := ⟨blk, off + a, none⟩) (hcw a (by omega))
        go_wp2
        go_region
        all_goals go_wp2
        go_ret2
        have e := HP.out
        rw [partL_stop HI.out HJ.out hst] at e
        cases e
        exact ⟨_, _, _, _, rfl, HF.out, (HR2.out.swap HS.out HG.out (i := Pm) (j := a) (by rw [Hs.out]; omega) (by rw [Hs.out]; omega)).drew⟩
       ·obtain ⟨G, hG, hcw, hfw⟩ := HR2.out.cells
        rw [Hs.out] at hcw hfw
        have HG := Lib.hid hG; clear hG
        obtain ⟨v3, hy3⟩ := cell?_setCell_some (w := wc) (p := ⟨blk, off + I, none⟩) (x := .int .u32 (G J)) (q := ⟨blk, off + J, none⟩) (hcw J (by omega))
        go_wp2
        go_region
        all_goals go_wp2
        go_roundg (J - 1 + 1 - (I + 1) + 1)
        case measure => omega
        case rel =>
         refine ⟨I + 1, J - 1, swp dk I J, by go_num, by go_num, by omega, by omega, by omega, by omega, Lib.hid (by rw [size_swp]; exact Hs.out), Lib.hid ?_, Lib.hid ?_⟩
         ·exact (HR2.out.swap HS.out HG.out (i := I) (j := J) (by rw [Hs.out]; omega) (by rw [Hs.out]; omega)).drewN 1
         ·rw [← HP.out]; exact (partL_go HI.out HJ.out hst).symm
end Go.Proofs.YtggdkfijioeijaaGreatDoor
namespace Go.Proofs.YtggdkfijioeijaaGreatDoor
open Go Go.RowKit Go.Sort
set_option maxHeartbeats 16000000 in
set_option maxRecDepth 1000000 in
theorem uint32_partialInsertionSort {S : Nat → Prop} {blk off N cap a b : Nat} {d : Array Int} {w0 w : World} (hS : S blk) (h : SR .u32 S w0 blk off d w) (hd : d.size = N) (hab : a < b) (hb : b ≤ N) (hN : N < 4611686018427387904) :
  Calls Tryz.prog 109 #[.slice (some ⟨blk, off, none⟩) N cap, .int .i64 a, .int .i64 b] w fun e w' => ∃ (d' : Array Int) (r : Bool), e = .returned (.bool r) ∧ partialInsertionSort ltInt d a b = (d', r) ∧ SR .u32 S w0 blk off d' w' := by
 have H := Lib.hid h; have HS := Lib.hid hS; have Hd := Lib.hid hd
 clear h hS hd
 obtain ⟨Pd, Pb, hP⟩ : ∃ Pd Pb, partialIns ltInt a b 5 (a + 1) d = (Pd, Pb) := ⟨_, _, rfl⟩
 have HP0 := Lib.hid hP; clear hP
 go_enter Tryz.func109, Tryz.ntmps109
 go_wp2_with fail
 go_loopg [7, 8] 6 (fun k s7 s8 wr => ∃ (i s : Nat) (dk : Array Int), s7 = .int .i64 i ∧ s8 = .int .i64 s ∧ s ≤ 5 ∧ 6 - s ≤ k ∧ a < i ∧ i ≤ b ∧ Hid (dk.size = N) ∧ Hid (SR .u32 S w0 blk off dk wr) ∧ Hid (partialIns ltInt a b (5 - s) i dk = (Pd, Pb)))
 case atStart => exact ⟨a + 1, 0, d, by go_num, rfl, by omega, by omega, by omega, by omega, Hd, H, HP0⟩
 case round =>
  clear H Hd
  obtain ⟨i, s, dk, rfl, rfl, hs5, hk, hai, hib, Hs, HR, HP⟩ := hrel
  by_cases h5 : s < 5
  ·have hgs : 5 - s = (4 - s) + 1 := by omega
   have hps := HP.out
   rw [hgs, partialIns_succ] at hps
   obtain ⟨I, hI⟩ : ∃ I : Nat, scanSorted ltInt dk b i = I := ⟨_, rfl⟩
   rw [hI] at hps
   have HI := Lib.hid hI; have HP2 := Lib.hid hps
   clear hI hps HP hgs
   go_upto_block 2 with fail
   go_cut [7] (fun s wx => s = .int .i64 (I : Nat) ∧ i ≤ I ∧ I ≤ b ∧ Hid (SR .u32 S w0 blk off dk wx))
   case first =>
    go_wp2_with fail
    go_loopg [7] (b - i) (fun k s wr => ∃ x : Nat, s = .int .i64 x ∧ i ≤ x ∧ x ≤ b ∧ b - x ≤ k ∧ Hid (scanSorted ltInt dk b x = I) ∧ Hid (SR .u32 S w0 blk off dk wr))
    case atStart => exact ⟨i, rfl, by omega, by omega, by omega, HI, HR⟩
    case round =>
     obtain ⟨x, rfl, hx1, hx2, hx3, HX, HY⟩ := hrel
     obtain ⟨G, hG, hcw, hfw⟩ := HY.out.cells
     rw [Hs.out] at hcw hfw
     have HG := Lib.hid hG; clear hG
     by_cases hle : x < b
     ·go_wp2_with fail
      go_big_quiet (first | (go_at_call 110; refine Calls.quiet_of_same (uint32_less _ _ _)))
      go_wp2
      ·have ht : (!ltInt (G x) (G (x - 1))) = true := by assumption
       go_roundg (b - (x + 1))
       case measure => omega
       case rel => exact ⟨x + 1, by go_num, by omega, by omega, Nat.le_refl _, Lib.hid ((sorted_go hle (by rw [← HG.out x, ← HG.out (x - 1)]; simpa using ht)).symm.trans HX.out), Lib.hid (HY.out.drewN nq)⟩
      ·have ht : (!ltInt (G x) (G (x - 1))) = false := by assumption
       have e := HX.out
       rw [sorted_end (Or.inr (by rw [← HG.out x, ← HG.out (x - 1)]; simpa using ht))] at e
       subst e
       go_meet
       exact ⟨rfl, hx1, hx2, Lib.hid (HY.out.drewN nq)⟩
     ·go_wp2_with fail
      go_big_quiet (first | (go_at_call 110; refine Calls.quiet_of_same (uint32_less _ _ _)))
      have e := HX.out
      rw [sorted_end (Or.inl hle)] at e
      subst e
      go_wp2
      go_meet
      exact ⟨rfl, hx1, hx2, Lib.hid (HY.out.drewN nq)⟩
   case rest =>
    obtain ⟨rfl, hiI, hIb, HR1⟩ := hcut
    clear HR
    by_cases hIe : I = b
    ·have hIz : (I : Int) = (b : Int) := by omega
     have hp := HP2.out
     rw [if_pos hIe] at hp
     cases hp
     go_wp2
     go_ret
     exact ⟨_, _, rfl, HP0.out, HR1.out⟩
    ·have hp := HP2.out
     rw [if_neg hIe] at hp
     by_cases h50 : b - a < 50
     ·rw [if_pos h50] at hp
      cases hp
      go_wp2
      go_ret
      exact ⟨_, _, rfl, HP0.out, HR1.out⟩
     ·rw [if_neg h50] at hp
      have hIe2 : ¬ ((I : Int) = (b : Int)) := by omega
      obtain ⟨G, hG, hcw, hfw⟩ := HR1.out.cells
      rw [Hs.out] at hcw hfw
      have HG := Lib.hid hG; clear hG
      have HN := Lib.hid (HR1.out.swap HS.out HG.out (i := I) (j := I - 1) (by rw [Hs.out]; omega) (by rw [Hs.out]; omega)).drew
      have hs1 : Hid ((swp dk I (I - 1)).size = N) := Lib.hid (by rw [size_swp]; exact Hs.out)
      obtain ⟨d1, hd1⟩ : ∃ d1, swp dk I (I - 1) = d1 := ⟨_, rfl⟩
      rw [hd1] at hp HN hs1
      obtain ⟨d2, hd2⟩ : ∃ d2, fixDown ltInt a I d1 = d2 := ⟨_, rfl⟩
      rw [hd2] at hp
      obtain ⟨d3, hd3⟩ : ∃ d3, fixUp ltInt b I d2 = d3 := ⟨_, rfl⟩
      rw [hd3] at hp
      have HP3 := Lib.hid hp; have HD2 := Lib.hid hd2; have HD3 := Lib.hid hd3
      clear hp hd1 hd2 hd3
      go_wp2_with fail
      go_region
      clear hcw hfw HG
      go_upto_if 61 with fail
      go_cut [] (fun wx => Hid (SR .u32 S w0 blk off d2 wx) ∧ Hid (d2.size = N))
      case first =>
       by_cases h2 : I - a ≥ 2
       ·have hd2 := HD2.out; unfold fixDown at hd2
        rw [if_pos h2] at hd2
        have HD := Lib.hid hd2; clear hd2
        go_wp2_with fail
        go_loopg [9] (I - 1) (fun k s wr => ∃ (x : Nat) (dj : Array Int), s = .int .i64 x ∧ x ≤ k ∧ x < I ∧ Hid (dj.size = N) ∧ Hid (shiftDown ltInt x dj = d2) ∧ Hid (SR .u32 S w0 blk off dj wr))
        case atStart => exact ⟨I - 1, d1, by go_num, by omega, by omega, hs1, HD, HN⟩
        case round =>
         obtain ⟨x, dj, rfl, hx1, hx2, Hj, HX, HY⟩ := hrel
         by_cases hx0 : 1 ≤ x
         ·obtain ⟨G, hG, hcw, hfw⟩ := HY.out.cells
          rw [Hj.out] at hcw hfw
          have HG := Lib.hid hG; clear hG
          go_wp2_with fail
          go_big_quiet (first | (go_at_call 110; refine Calls.quiet_of_same (uint32_less _ _ _)))
          go_wp2_with fail
          ·have ht : (!ltInt (G x) (G (x - 1))) = true := by assumption
           have e := HX.out
           rw [shd_stop (Or.inr (by rw [← HG.out x, ← HG.out (x - 1)]; simpa using ht))] at e
           subst e
           go_meet
           exact ⟨Lib.hid (HY.out.drewN nq), Hj⟩
          ·have ht : (!ltInt (G x) (G (x - 1))) = false := by assumption
           have HT := Lib.hid ht; clear ht
           go_region
           all_goals go_wp2
           go_roundg (x - 1)
           case measure => omega
           case rel =>
            refine ⟨x - 1, swp dj x (x - 1), by go_num, Nat.le_refl _, by omega, Lib.hid (by rw [size_swp]; exact Hj.out), Lib.hid ?_, Lib.hid ?_⟩
            ·rw [← HX.out]; exact (shd_go hx0 (by have := HT.out; rw [HG.out, HG.out] at this; simpa using this)).symm
            ·exact (HY.out.swap HS.out HG.out (i := x) (j := x - 1) (by rw [Hj.out]; omega) (by rw [Hj.out]; omega)).drewN (nq + 1)
         ·have hx0z : ¬ ((1 : Int) ≤ (x : Int)) := by omega
          have e := HX.out
          rw [shd_stop (Or.inl (by omega))] at e
          subst e
          go_wp2_with fail
          go_meet
          exact ⟨HY, Hj⟩
       ·have hd2 := HD2.out; unfold fixDown at hd2
        rw [if_neg h2] at hd2
        subst hd2
        go_wp2_with fail
        go_meet
        exact ⟨HN, hs1⟩
      case rest =>
       obtain ⟨HR2, Hs2⟩ := hcut
       clear HN hs1 HR1
       go_upto_if 98 with fail
       by_cases h2 : b - I ≥ 2
       ·have hd2 := HD3.out; unfold fixUp at hd2
        rw [if_pos h2] at hd2
        have HD := Lib.hid hd2; clear hd2
        go_wp2_with fail
        go_loopg [10] (b - (I + 1)) (fun k s wr => ∃ (x : Nat) (dj : Array Int), s = .int .i64 x ∧ I + 1 ≤ x ∧ x ≤ b ∧ b - x ≤ k ∧ Hid (dj.size = N) ∧ Hid (shiftUp ltInt b x dj = d3) ∧ Hid (SR .u32 S w0 blk off dj wr))
        case atStart => exact ⟨I + 1, d2, by go_num, by omega, by omega, by omega, Hs2, HD, HR2⟩
        case round =>
         obtain ⟨x, dj, rfl, hx1, hx2, hx3, Hj, HX, HY⟩ := hrel
         by_cases hx0 : x < b
         ·obtain ⟨G, hG, hcw, hfw⟩ := HY.out.cells
          rw [Hj.out] at hcw hfw
          have HG := Lib.hid hG; clear hG
          go_wp2_with fail
          go_big_quiet (first | (go_at_call 110; refine Calls.quiet_of_same (uint32_less _ _ _)))
          go_wp2_with fail
          ·have ht : (!ltInt (G x) (G (x - 1))) = true := by assumption
           have e := HX.out
           rw [shu_stop (Or.inr (by rw [← HG.out x, ← HG.out (x - 1)]; simpa using ht))] at e
           subst e
           go_wp2_with fail
           go_roundg (6 - (s + 1))
           case measure => omega
           case rel => exact ⟨I, s + 1, _, rfl, by go_num, by omega, Nat.le_refl _, by omega, by omega, Hj, Lib.hid (HY.out.drewN nq), Lib.hid (by rw [show 5 - (s + 1) = 4 - s by omega]; exact HP3.out)⟩
          ·have ht : (!ltInt (G x) (G (x - 1))) = false := by assumption
           have HT := Lib.hid ht; clear ht
           go_region
           all_goals go_wp2
           go_roundg (b - (x + 1))
           case measure => omega
           case rel =>
            refine ⟨x + 1, swp dj x (x - 1), by go_num, by omega, by omega, Nat.le_refl _, Lib.hid (by rw [size_swp]; exact Hj.out), Lib.hid ?_, Lib.hid ?_⟩
            ·rw [← HX.out]; exact (shu_go hx0 (by have := HT.out; rw [HG.out, HG.out] at this; simpa using this)).symm
            ·exact (HY.out.swap HS.out HG.out (i := x) (j := x - 1) (by rw [Hj.out]; omega) (by rw [Hj.out]; omega)).drewN (nq + 1)
         ·have e := HX.out
          rw [shu_stop (Or.inl hx0)] at e
          subst e
          go_wp2_with fail
          go_roundg (6 - (s + 1))
          case measure => omega
          case rel => exact ⟨I, s + 1, _, rfl, by go_num, by omega, Nat.le_refl _, by omega, by omega, Hj, HY, Lib.hid (by rw [show 5 - (s + 1) = 4 - s by omega]; exact HP3.out)⟩
       ·have hd2 := HD3.out; unfold fixUp at hd2
        rw [if_neg h2] at hd2
        subst hd2
        go_wp2_with fail
        go_roundg (6 - (s + 1))
        case measure => omega
        case rel => exact ⟨I, s + 1, _, rfl, by go_num, by omega, Nat.le_refl _, by omega, by omega, Hs2, HR2, Lib.hid (by rw [show 5 - (s + 1) = 4 - s by omega]; exact HP3.out)⟩
  ·have hp := HP.out
   rw [show 5 - s = 0 by omega] at hp
   cases hp
   go_wp2
   go_ret
   exact ⟨_, _, rfl, HP0.out, HR.out⟩
end Go.Proofs.YtggdkfijioeijaaGreatDoor
namespace Go.Proofs.YtggdkfijioeijaaGreatDoor
open Go Go.RowKit Go.Sort
set_option maxHeartbeats 4000000 in
set_option maxRecDepth 1000000 in
theorem uint32_breakPatterns {S : Nat → Prop} {blk off N cap a b : Nat} {d : Array Int} {w0 w : World} (hS : S blk) (h : SR .u32 S w0 blk off d w) (hlt : blk < w.heap.size) (hd : d.size = N) (hab : a + 8 ≤ b) (hb : b ≤ N) (hN : N < 4611686018427387904) :
  Calls Tryz.prog 106 #[.slice (some ⟨blk, off, none⟩) N cap, .int .i64 a, .int .i64 b] w fun e w' => e = .returned (.tuple #[]) ∧ ∃ d', PermIn a b d d' ∧ SR .u32 S w0 blk off d' w' := by
 obtain ⟨L, rfl⟩ : ∃ L, b = a + L := ⟨b - a, by omega⟩
 have h8 : 8 ≤ L := by omega
 obtain ⟨M, hM⟩ : ∃ M : Nat, M = 1 <<< bitsLen L := ⟨_, rfl⟩
 have hM1 : 1 ≤ M := by rw [hM, Nat.one_shiftLeft]; exact Nat.two_pow_pos _
 have hM2 : M ≤ 2 * L := by rw [hM, Nat.one_shiftLeft]; exact two_pow_bitsLen_le (by omega)
 have hNP : Hid (∀ w, Calls Tryz.prog 130 #[.int .i64 (L : Int)] w fun e w' => e = .returned (.int .u64 (M : Int)) ∧ w' = w) := by rw [hM]; exact Lib.hid (fun w => slices_nextPowerOfTwo L (by omega) w)
 clear hM hab
 have H : Hid (SR .u32 (fun k => S k ∨ k = w.heap.size) w0 blk off d (w.alloc (.cells #[.int .u64 (L : Int)] 206))) := Lib.hid (h.alloc hlt _)
 have Hone : Hid (One w.heap.size #[.int .u64 (L : Int)] (w.alloc (.cells #[.int .u64 (L : Int)] 206))) := Lib.hid (One.of w _ _)
 have HS := Lib.hid hS; have Hd := Lib.hid hd; have Hlt := Lib.hid hlt
 have Hw : Hid (w0.heap.size ≤ w.heap.size) := Lib.hid h.but.size
 clear h hS hd
 go_enter Tryz.func106, Tryz.ntmps106
 go_wp2_with (first | (go_at_call 130; rw [show ((a : Int) + (L : Int) - (a : Int)) = (L : Int) by omega]; refine (hNP.out _).mono ?_; rintro e w' ⟨rfl, rfl⟩))
 go_loopg [9] 4 (fun kk vi wr => ∃ (t ix r : Nat) (dk : Array Int), vi = .int .i64 ix ∧ a + L / 4 * 2 - 1 + t = ix ∧ t ≤ 3 ∧ 3 - t < kk ∧ r < 18446744073709551616 ∧ Hid (dk.size = N) ∧
   Hid (SR .u32 (fun k => S k ∨ k = w.heap.size) w0 blk off dk wr) ∧ Hid (One w.heap.size #[.int .u64 (r : Int)] wr) ∧ Hid (PermIn a (a + L) d dk))
 case atStart => exact ⟨0, a + L / 4 * 2 - 1, L, d, by congr 1; omega, by omega, by omega, by omega, by omega, Hd, H, Hone, Lib.hid (permIn_refl _ _ _)⟩
 case round =>
  obtain ⟨t, ix, r, dk, rfl, hix, ht, hkk, hr, Hsk, HR, HO, HP⟩ := hrel
  have hcB : wr.cell? ⟨w.heap.size, 0, none⟩ = some (.int .u64 (r : Int)) := by rw [HO.out.c]; rfl
  have hfB := HO.out.f 0
  have hne : w.heap.size ≠ blk := by have := Hlt.out; omega
  have hnext : Calls Tryz.prog 131 #[.pointer (some ⟨w.heap.size, 0, none⟩)] wr fun e w' => ∃ r : Nat, r < 18446744073709551616 ∧ e = .returned (.int .u64 r) ∧ SR .u32 (fun k => S k ∨ k = w.heap.size) w0 blk off dk w' ∧ One w.heap.size #[.int .u64 (r : Int)] w' := by
   refine (rnd_next w.heap.size r hr wr hcB hfB).mono ?_
   rintro e w' ⟨r', hr', rfl, rfl⟩
   exact ⟨r', hr', rfl, (HR.out.set (p := ⟨w.heap.size, 0, none⟩) (Or.inr rfl) hne _).drewN 3, (HO.out.set (i := 0) (by simp) _).drewN 3⟩
  have HNext := Lib.hid hnext
  clear hnext hcB hfB hne HO
  by_cases ht3 : t < 3
  ·go_wp2_with fail
   refine HNext.out.mono ?_
   rintro e w1 ⟨r', hr', rfl, h1, h2⟩
   obtain ⟨G, hG, hcw, hfw⟩ := h1.cells
   rw [Hsk.out] at hcw hfw
   have HG := Lib.hid hG; have H1 := Lib.hid h1; have H2 := Lib.hid h2; clear hG h1 h2 HNext
   obtain ⟨O, hO⟩ : ∃ O : Nat, O = r' &&& (M - 1) := ⟨_, rfl⟩
   have lO : O ≤ M - 1 := by rw [hO]; exact Nat.and_le_right
   have eAnd : bits .and .u64 (r' : Int) ((M : Int) - 1) = (O : Int) := by
    rw [show ((M : Int) - 1) = ((M - 1 : Nat) : Int) by omega, u64_and_nat _ _ hr' (by omega), hO]
   clear hO
   go_upto_if 43 with fail
   go_cut [10] (fun s wx => ∃ o : Nat, s = .int .i64 o ∧ o < L ∧ w1 = wx)
   case first =>
    by_cases hLO : L ≤ O
    ·go_wp2_with fail
     go_meet
     exact ⟨O - L, by congr 1; omega, by omega, rfl⟩
    ·go_wp2_with fail
     go_meet
     exact ⟨O, rfl, by omega, rfl⟩
   case rest =>
    obtain ⟨o, rfl, ho, rfl⟩ := hcut
    have hix2 : ix < a + L ∧ a ≤ ix := ⟨by omega, by omega⟩
    obtain ⟨v3, hy3⟩ := cell?_setCell_some (w := w1) (p := ⟨blk, off + ix, none⟩) (x := .int .u32 (G (a + o))) (q := ⟨blk, off + (a + o), none⟩) (hcw (a + o) (by omega))
    have HN := Lib.hid (H1.out.swap (Or.inl HS.out) HG.out (i := ix) (j := a + o) (by rw [Hsk.out]; omega) (by rw [Hsk.out]; omega)).drew
    have HO2 := Lib.hid (((H2.out.far (p := ⟨blk, off + ix, none⟩) (by have := Hlt.out; show blk ≠ _; omega) (.int .u32 (G (a + o)))).far (p := ⟨blk, off + (a + o), none⟩) (by have := Hlt.out; show blk ≠ _; omega) (.int .u32 (G ix))).drewN 1)
    go_wp2_with fail
    go_region
    all_goals go_wp2
    go_roundg (3 - t)
    case measure => omega
    case rel =>
     exact ⟨t + 1, ix + 1, r', swp dk ix (a + o), by go_num, by omega, by omega, by omega, hr', Lib.hid (by rw [size_swp]; exact Hsk.out), HN, HO2, Lib.hid (permIn_trans _ _ _ _ _ HP.out (swp_permIn _ _ _ _ _ (by omega) (by omega) (by omega) (by omega) (by rw [Hsk.out]; omega)))⟩
  ·obtain rfl : t = 3 := by omega
   go_wp2_with fail
   go_end0
   exact ⟨rfl, dk, HP.out, HR.out.drop Hw.out⟩
end Go.Proofs.YtggdkfijioeijaaGreatDoor
namespace Go.Proofs.YtggdkfijioeijaaGreatDoor
open Go Go.RowKit Go.Sort
set_option maxHeartbeats 4000000 in
set_option maxRecDepth 1000000 in
theorem uint32_order2 {S : Nat → Prop} {blk off N cap x y sb : Nat} {d : Array Int} {w0 w : World} (hsb : S sb) (hne : sb ≠ blk) (h : SR .u32 S w0 blk off d w) (h1 : ∃ s : Int, One sb #[.int .i64 s] w) (hd : d.size = N) (hx : x < N) (hy : y < N) :
  Calls Tryz.prog 165 #[.slice (some ⟨blk, off, none⟩) N cap, .int .i64 x, .int .i64 y, .pointer (some ⟨sb, 0, none⟩)] w fun e w' => ∃ p q : Nat, e = .returned (.tuple #[.int .i64 p, .int .i64 q]) ∧ ((p = x ∧ q = y) ∨ (p = y ∧ q = x)) ∧ SR .u32 S w0 blk off d w' ∧ ∃ s : Int, One sb #[.int .i64 s] w' := by
 obtain ⟨G, hG, hcw, hfw⟩ := h.cells
 rw [hd] at hcw hfw
 obtain ⟨s, h1⟩ := h1
 have cs : w.cell? ⟨sb, 0, none⟩ = some (.int .i64 s) := by rw [h1.c]; rfl
 have fs := h1.f 0
 have H := Lib.hid h; have H1 := Lib.hid h1; have Hsb := Lib.hid hsb; have Hne := Lib.hid hne
 clear h h1 hsb hne hG
 go_enter Tryz.func165, Tryz.ntmps165
 go_wp2
 go_big_quiet (first | (go_at_call 110; refine Calls.quiet_of_same (uint32_less _ _ _)))
 go_wp2
 ·go_ret2
  have h2 := fun u => (H1.out.drewN nq).set (i := 0) (by simp) u
  exact ⟨y, x, rfl, Or.inr ⟨rfl, rfl⟩, (H.out.drewN nq).set (p := ⟨sb, 0, none⟩) Hsb.out Hne.out _, ⟨_, h2 (.int .i64 _)⟩⟩
 ·go_ret2
  exact ⟨x, y, rfl, Or.inl ⟨rfl, rfl⟩, H.out.drewN nq, ⟨s, H1.out.drewN nq⟩⟩
set_option maxHeartbeats 4000000 in
set_option maxRecDepth 1000000 in
theorem uint32_median {S : Nat → Prop} {blk off N cap x y z sb : Nat} {d : Array Int} {w0 w : World} (hsb : S sb) (hne : sb ≠ blk) (h : SR .u32 S w0 blk off d w) (h1 : ∃ s : Int, One sb #[.int .i64 s] w) (hd : d.size = N) (hx : x < N) (hy : y < N) (hz : z < N) :
  Calls Tryz.prog 133 #[.slice (some ⟨blk, off, none⟩) N cap, .int .i64 x, .int .i64 y, .int .i64 z, .pointer (some ⟨sb, 0, none⟩)] w fun e w' => ∃ p : Nat, e = .returned (.int .i64 p) ∧ (p = x ∨ p = y ∨ p = z) ∧ SR .u32 S w0 blk off d w' ∧ ∃ s : Int, One sb #[.int .i64 s] w' := by
 have H := Lib.hid h; have H1 := Lib.hid h1; have Hsb := Lib.hid hsb; have Hne := Lib.hid hne; have Hd := Lib.hid hd
 clear h h1 hsb hne hd
 go_enter Tryz.func133, Tryz.ntmps133
 go_wp2_with fail
 refine (uint32_order2 Hsb.out Hne.out H.out H1.out Hd.out hx hy).mono ?_
 rintro e w1 ⟨p1, q1, rfl, hpq1, h, h1⟩
 clear H H1
 have H := Lib.hid h; have H1 := Lib.hid h1; clear h h1
 go_wp2_with fail
 refine (uint32_order2 Hsb.out Hne.out H.out H1.out Hd.out (by omega) hz).mono ?_
 rintro e w2 ⟨p2, q2, rfl, hpq2, h, h1⟩
 clear H H1
 have H := Lib.hid h; have H1 := Lib.hid h1; clear h h1
 go_wp2_with fail
 refine (uint32_order2 Hsb.out Hne.out H.out H1.out Hd.out (by omega) (by omega)).mono ?_
 rintro e w3 ⟨p3, q3, rfl, hpq3, h, h1⟩
 clear H H1
 have H := Lib.hid h; have H1 := Lib.hid h1; clear h h1
 go_wp2_with fail
 go_ret
 exact ⟨q3, rfl, by omega, H.out, H1.out⟩
set_option maxHeartbeats 4000000 in
set_option maxRecDepth 1000000 in
theorem uint32_medianAdjacent {S : Nat → Prop} {blk off N cap x sb : Nat} {d : Array Int} {w0 w : World} (hsb : S sb) (hne : sb ≠ blk) (h : SR .u32 S w0 blk off d w) (h1 : ∃ s : Int, One sb #[.int .i64 s] w) (hd : d.size = N) (hx : 1 ≤ x) (hy : x + 1 < N) (hN : N < 4611686018427387904) :
  Calls Tryz.prog 132 #[.slice (some ⟨blk, off, none⟩) N cap, .int .i64 x, .pointer (some ⟨sb, 0, none⟩)] w fun e w' => ∃ p : Nat, e = .returned (.int .i64 p) ∧ x - 1 ≤ p ∧ p ≤ x + 1 ∧ SR .u32 S w0 blk off d w' ∧ ∃ s : Int, One sb #[.int .i64 s] w' := by
 have H := Lib.hid h; have H1 := Lib.hid h1; have Hsb := Lib.hid hsb; have Hne := Lib.hid hne; have Hd := Lib.hid hd
 clear h h1 hsb hne hd
 have hm := uint32_median (cap := cap) (x := x - 1) (y := x) (z := x + 1) Hsb.out Hne.out H.out H1.out Hd.out (by omega) (by omega) hy
 rw [show ((x - 1 : Nat) : Int) = (x : Int) - 1 by omega, show ((x + 1 : Nat) : Int) = (x : Int) + 1 by omega] at hm
 have HM := Lib.hid hm; clear hm
 go_enter Tryz.func132, Tryz.ntmps132
 go_wp2_with fail
 refine HM.out.mono ?_
 rintro e w1 ⟨p, rfl, hp, h, h1⟩
 have H := Lib.hid h; have H1 := Lib.hid h1; clear h h1
 go_wp2_with fail
 go_ret
 exact ⟨p, rfl, by omega, by omega, H.out, H1.out⟩
set_option maxHeartbeats 8000000 in
set_option maxRecDepth 1000000 in
theorem uint32_choosePivot {S : Nat → Prop} {blk off N cap a b : Nat} {d : Array Int} {w0 w : World} (h : SR .u32 S w0 blk off d w) (hlt : blk < w.heap.size) (hd : d.size = N) (hab : a + 12 < b) (hb : b ≤ N) (hN : N < 4611686018427387904) :
  Calls Tryz.prog 107 #[.slice (some ⟨blk, off, none⟩) N cap, .int .i64 a, .int .i64 b] w fun e w' => ∃ (p : Nat) (c : Int), e = .returned (.tuple #[.int .i64 p, .int .i64 c]) ∧ a ≤ p ∧ p < b ∧ SR .u32 S w0 blk off d w' := by
 have H : Hid (SR .u32 (fun k => S k ∨ k = w.heap.size) w0 blk off d (w.alloc (.cells #[.int .i64 0] 3))) := Lib.hid (h.alloc hlt _)
 have H1 : Hid (∃ s : Int, One w.heap.size #[.int .i64 s] (w.alloc (.cells #[.int .i64 0] 3))) := Lib.hid ⟨0, One.of w _ _⟩
 have Hd := Lib.hid hd
 have Hw : Hid (w0.heap.size ≤ w.heap.size) := Lib.hid h.but.size
 have Hne : Hid (w.heap.size ≠ blk) := Lib.hid (by omega)
 clear h hd hlt
 obtain ⟨I, hI⟩ : ∃ I : Nat, a + (b - a) / 4 = I := ⟨_, rfl⟩
 obtain ⟨J, hJ⟩ : ∃ J : Nat, a + (b - a) / 4 * 2 = J := ⟨_, rfl⟩
 obtain ⟨K, hK⟩ : ∃ K : Nat, a + (b - a) / 4 * 3 = K := ⟨_, rfl⟩
 have eI : ((a : Int) + ((b : Int) - (a : Int)) / 4) = (I : Int) := by omega
 have eJ : ((a : Int) + ((b : Int) - (a : Int)) / 4 * 2) = (J : Int) := by omega
 have eK : ((a : Int) + ((b : Int) - (a : Int)) / 4 * 3) = (K : Int) := by omega
 have fI : Hid (a ≤ I ∧ I < b) := Lib.hid (by omega)
 have fJ : Hid (a ≤ J ∧ J < b) := Lib.hid (by omega)
 have fK : Hid (a ≤ K ∧ K < b) := Lib.hid (by omega)
 have f50 : Hid (¬ b - a < 50 → (a < I ∧ I + 1 < b) ∧ (a < J ∧ J + 1 < b) ∧ (a < K ∧ K + 1 < b)) := Lib.hid (fun _ => by omega)
 clear hI hJ hK
 go_enter Tryz.func107, Tryz.ntmps107
 go_upto_if 34 with fail
 clear eI eJ eK
 go_cut [10, 11, 12] (fun s10 s11 s12 wx => ∃ i j k : Nat, s10 = .int .i64 i ∧ s11 = .int .i64 j ∧ s12 = .int .i64 k ∧ (a ≤ i ∧ i < b) ∧ (a ≤ j ∧ j < b) ∧ (a ≤ k ∧ k < b) ∧ Hid (SR .u32 (fun k => S k ∨ k = w.heap.size) w0 blk off d wx) ∧ Hid (∃ s : Int, One w.heap.size #[.int .i64 s] wx))
 case first =>
  by_cases h50 : b - a < 50
  ·have h50z : ¬ ((50 : Int) ≤ (b : Int) - (a : Int)) := by omega
   go_wp2_with fail
   go_meet
   exact ⟨I, J, K, rfl, rfl, rfl, fI.out, fJ.out, fK.out, H, H1⟩
  ·have h50z : (50 : Int) ≤ (b : Int) - (a : Int) := by omega
   obtain ⟨g1, g2, g3⟩ := f50.out h50
   have G1 := Lib.hid g1; have G2 := Lib.hid g2; have G3 := Lib.hid g3
   clear g1 g2 g3 f50 fI fJ fK
   go_wp2_with fail
   refine (uint32_medianAdjacent (Or.inr rfl) Hne.out H.out H1.out Hd.out (by have := G1.out; omega) (by have := G1.out; omega) hN).mono ?_
   rintro e w1 ⟨i, rfl, hi1, hi2, h, h1⟩
   clear H H1
   have Hi1 := Lib.hid hi1; have Hi2 := Lib.hid hi2; clear hi1 hi2
   have H := Lib.hid h; have H1 := Lib.hid h1; clear h h1
   go_wp2_with fail
   refine (uint32_medianAdjacent (Or.inr rfl) Hne.out H.out H1.out Hd.out (by have := G2.out; omega) (by have := G2.out; omega) hN).mono ?_
   rintro e w2 ⟨j, rfl, hj1, hj2, h, h1⟩
   clear H H1
   have Hj1 := Lib.hid hj1; have Hj2 := Lib.hid hj2; clear hj1 hj2
   have H := Lib.hid h; have H1 := Lib.hid h1; clear h h1
   go_wp2_with fail
   refine (uint32_medianAdjacent (Or.inr rfl) Hne.out H.out H1.out Hd.out (by have := G3.out; omega) (by have := G3.out; omega) hN).mono ?_
   rintro e w3 ⟨k, rfl, hk1, hk2, h, h1⟩
   clear H H1
   have H := Lib.hid h; have H1 := Lib.hid h1; clear h h1
   go_wp2_with fail
   go_meet
   have := G1.out; have := G2.out; have := G3.out; have := Hi1.out; have := Hi2.out; have := Hj1.out; have := Hj2.out
   exact ⟨i, j, k, rfl, rfl, rfl, ⟨by omega, by omega⟩, ⟨by omega, by omega⟩, ⟨by omega, by omega⟩, H, H1⟩
 case rest =>
  obtain ⟨i, j, k, rfl, rfl, rfl, hi, hj, hk, HR, HO⟩ := hcut
  clear H H1 fI fJ fK f50
  have Hi := Lib.hid hi; have Hj := Lib.hid hj; have Hk := Lib.hid hk
  clear hi hj hk
  go_wp2_with fail
  refine (uint32_median (Or.inr rfl) Hne.out HR.out HO.out Hd.out (by have := Hi.out; omega) (by have := Hj.out; omega) (by have := Hk.out; omega)).mono ?_
  rintro e w1 ⟨p, rfl, hp, h, h1⟩
  have hp2 : a ≤ p ∧ p < b := by have := Hi.out; have := Hj.out; have := Hk.out; omega
  have HP := Lib.hid hp2; have HF := Lib.hid (h.drop Hw.out)
  obtain ⟨s, h1⟩ := h1
  have cs : w1.cell? ⟨w.heap.size, 0, none⟩ = some (.int .i64 s) := by rw [h1.c]; rfl
  clear hp hp2 h h1 HR HO Hi Hj Hk
  go_wp2_with fail
  all_goals go_ret2
  all_goals exact ⟨p, _, rfl, HP.out.1, HP.out.2, HF.out⟩
end Go.Proofs.YtggdkfijioeijaaGreatDoor
namespace Go.Proofs.YtggdkfijioeijaaGreatDoor
open Go Go.RowKit Go.Sort
set_option maxHeartbeats 16000000 in
set_option maxRecDepth 1000000 in
theorem uint32_pdqsort {S : Nat → Prop} {blk off N cap : Nat} {w0 : World} (hS : S blk) (hblk : blk < w0.heap.size) (hN : N < 4611686018427387904) : ∀ (n a b lim : Nat) (d : Array Int) (w : World), b - a ≤ n → SR .u32 S w0 blk off d w → d.size = N → a ≤ b → b ≤ N → lim < 4611686018427387904 → Below ltInt a b d →
  Calls Tryz.prog 76 #[.slice (some ⟨blk, off, none⟩) N cap, .int .i64 a, .int .i64 b, .int .i64 lim] w fun e w' => e = .returned (.tuple #[]) ∧ ∃ d', PermIn a b d d' ∧ SortedIn ltInt a b d' ∧ SR .u32 S w0 blk off d' w' := by
 intro n
 induction n using Nat.strongRecOn with
 | ind n ih =>
 intro a b lim d w hn h hd hab hb hlim hB
 have IH := Lib.hid ih; have H := Lib.hid h; have HS := Lib.hid hS; have Hd := Lib.hid hd; have HB := Lib.hid hB; have Hblk := Lib.hid hblk; have Hn := Lib.hid hn
 clear ih h hS hd hB hblk hn
 go_enter Tryz.func76, Tryz.ntmps76
 go_wp2_with fail
 go_loopg [1, 2, 3, 8, 9] (b - a) (fun k s1 s2 s3 s8 s9 wr => ∃ (a' b' l : Nat) (wb wp : Bool) (dk : Array Int), s1 = .int .i64 a' ∧ s2 = .int .i64 b' ∧ s3 = .int .i64 l ∧ s8 = .bool wb ∧ s9 = .bool wp ∧
  a' ≤ b' ∧ b' ≤ N ∧ b' - a' ≤ k ∧ l < 4611686018427387904 ∧ Hid (b' - a' ≤ b - a) ∧ Hid (dk.size = N) ∧ Hid (SR .u32 S w0 blk off dk wr) ∧ Hid (Below ltInt a' b' dk) ∧
  Hid (∀ R, PermIn a' b' dk R → SortedIn ltInt a' b' R → PermIn a b d R ∧ SortedIn ltInt a b R))
 case atStart => exact ⟨a, b, lim, true, true, d, rfl, rfl, rfl, rfl, rfl, hab, hb, Nat.le_refl _, hlim, Lib.hid (Nat.le_refl _), Hd, H, HB, Lib.hid (fun R h1 h2 => ⟨h1, h2⟩)⟩
 case round =>
  clear H Hd HB hlim hab hb
  obtain ⟨a', b', l, wb, wp, dk, rfl, rfl, rfl, rfl, rfl, hab, hb, hk, hl, Hsub, Hs, HR, HB, HG⟩ := hrel
  by_cases h12 : b' - a' ≤ 12
  ·have h12z : (b' : Int) - (a' : Int) ≤ 12 := by omega
   go_wp2_with fail
   refine (uint32_insertionSort HS.out HR.out Hs.out hab hb hN).mono ?_
   rintro e w1 ⟨rfl, h1⟩
   have H1 := Lib.hid h1; clear h1
   go_wp2_with fail
   (try simp only [Exit.inBlock, Exit.then]); refine bodyPost_ret (results_none rfl _ _ _) rfl ?_
   have hi := insertionSort_holds swo_ltInt dk a' b' hab (by rw [Hs.out]; exact hb)
   have hg := HG.out _ hi.1 hi.2
   exact ⟨rfl, _, hg.1, hg.2, H1.out⟩
  ·have h12z : ¬ ((b' : Int) - (a' : Int) ≤ 12) := by omega
   by_cases hl0 : l = 0
   ·subst hl0
    go_wp2_with fail
    refine (uint32_heapSort HS.out HR.out Hs.out (by omega) hb hN).mono ?_
    rintro e w1 ⟨rfl, h1⟩
    have H1 := Lib.hid h1; clear h1
    go_wp2_with fail
    (try simp only [Exit.inBlock, Exit.then]); refine bodyPost_ret (results_none rfl _ _ _) rfl ?_
    have hi := heapSort_holds swo_ltInt dk a' b' hab (by rw [Hs.out]; exact hb)
    have hg := HG.out _ hi.1 hi.2
    exact ⟨rfl, _, hg.1, hg.2, H1.out⟩
   ·have hl0z : ¬ ((l : Int) = 0) := by omega
    go_upto_if 35 with fail
    go_cut [3] (fun s3 wx => ∃ (l1 : Nat) (d1 : Array Int), s3 = .int .i64 l1 ∧ l1 ≤ l ∧ Hid (PermIn a' b' dk d1) ∧ Hid (SR .u32 S w0 blk off d1 wx))
    case first =>
     cases wb with
     | true =>
      go_wp2_with fail
      go_meet
      exact ⟨l, dk, rfl, Nat.le_refl _, Lib.hid (permIn_refl _ _ _), HR⟩
     | false =>
      go_wp2_with fail
      refine (uint32_breakPatterns HS.out HR.out (Nat.lt_of_lt_of_le Hblk.out HR.out.but.size) Hs.out (by omega) hb hN).mono ?_
      rintro e w1 ⟨rfl, d1, h1, h2⟩
      have H1 := Lib.hid h1; have H2 := Lib.hid h2; clear h1 h2
      go_wp2_with fail
      go_meet
      exact ⟨l - 1, d1, by congr 1; omega, by omega, H1, H2⟩
    case rest =>
     obtain ⟨l1, d1, rfl, hl1, HP1, HR1⟩ := hcut
     have Hs1 : Hid (d1.size = N) := Lib.hid (HP1.out.1.trans Hs.out)
     clear HR
     go_wp2_with fail
     refine (uint32_choosePivot HR1.out (Nat.lt_of_lt_of_le Hblk.out HR1.out.but.size) Hs1.out (by omega) hb hN).mono ?_
     rintro e w1 ⟨p, c, rfl, hp1, hp2, h1⟩
     have H1 := Lib.hid h1; clear h1 HR1
     go_upto_if 50 with fail
     go_cut [11, 12] (fun s11 s12 wx => ∃ (p2 : Nat) (c2 : Int) (d2 : Array Int), s11 = .int .i64 p2 ∧ s12 = .int .i64 c2 ∧ a' ≤ p2 ∧ p2 < b' ∧ Hid (PermIn a' b' d1 d2) ∧ Hid (SR .u32 S w0 blk off d2 wx))
     case first =>
      by_cases hc : c = 2
      ·subst hc
       go_wp2_with fail
       refine (uint32_reverseRange HS.out H1.out Hs1.out (by omega) hb hN).mono ?_
       rintro e w2 ⟨rfl, d2, _, h1, h2⟩
       have H2 := Lib.hid h1; have H3 := Lib.hid h2; clear h1 h2
       go_wp2_with fail
       go_meet
       exact ⟨(b' - 1) - (p - a'), 1, d2, by congr 1; omega, rfl, by omega, by omega, H2, H3⟩
      ·have hcb : (c == 2) = false := by simpa using hc
       go_wp2_with fail
       go_meet
       exact ⟨p, c, d1, rfl, rfl, hp1, hp2, Lib.hid (permIn_refl _ _ _), H1⟩
     case rest =>
      obtain ⟨p2, c2, d2, rfl, rfl, hq1, hq2, HP2, HR2⟩ := hcut
      have Hs2 : Hid (d2.size = N) := Lib.hid (HP2.out.1.trans Hs1.out)
      clear H1 hp1 hp2
      go_upto_region 15 with fail
      go_cut [68] (fun s wx => ∃ q : Bool, s = .bool q ∧ wc = wx)
      case first =>
       cases wb <;> cases wp <;> (go_wp2_with fail; go_meet; exact ⟨_, rfl, rfl⟩)
      case rest =>
       obtain ⟨q, rfl, rfl⟩ := hcut
       go_upto_if 68 with fail
       go_cut [] (fun wx => ∃ d3 : Array Int, Hid (PermIn a' b' d2 d3) ∧ Hid (SR .u32 S w0 blk off d3 wx))
       case first =>
        cases q with
        | false =>
         go_wp2_with fail
         go_meet
         exact ⟨d2, Lib.hid (permIn_refl _ _ _), HR2⟩
        | true =>
         go_wp2_with fail
         refine (uint32_partialInsertionSort HS.out HR2.out Hs2.out (by omega) hb hN).mono ?_
         rintro e w2 ⟨d3, r, rfl, h1, h2⟩
         have hpi := partialInsertionSort_holds swo_ltInt d2 a' b' (by omega) (by rw [Hs2.out]; exact hb) ((HB.out.perm (by rw [Hs.out]; exact hb) HP1.out).perm (by rw [Hs1.out]; exact hb) HP2.out)
         rw [h1] at hpi
         have HPI := Lib.hid hpi; have H2 := Lib.hid h2; clear h1 h2 hpi
         cases r with
         | true =>
          go_wp2_with fail
          (try simp only [Exit.inBlock, Exit.then]); refine bodyPost_ret (results_none rfl _ _ _) rfl ?_
          have hg := HG.out d3 (permIn_trans _ _ _ _ _ (permIn_trans _ _ _ _ _ HP1.out HP2.out) HPI.out.1) (HPI.out.2 (by simp))
          exact ⟨rfl, _, hg.1, hg.2, H2.out⟩
         | false =>
          go_wp2_with fail
          go_meet
          exact ⟨d3, Lib.hid HPI.out.1, H2⟩
       case rest =>
        obtain ⟨d3, HP3, HR3⟩ := hcut
        have Hs3 : Hid (d3.size = N) := Lib.hid (HP3.out.1.trans Hs2.out)
        have HPk : Hid (PermIn a' b' dk d3) := Lib.hid (permIn_trans _ _ _ _ _ (permIn_trans _ _ _ _ _ HP1.out HP2.out) HP3.out)
        have HB3 : Hid (Below ltInt a' b' d3) := Lib.hid (HB.out.perm (by rw [Hs.out]; exact hb) HPk.out)
        have HG3 : Hid (∀ R, PermIn a' b' d3 R → SortedIn ltInt a' b' R → PermIn a b d R ∧ SortedIn ltInt a b R) := Lib.hid (fun R h1 h2 => HG.out R (permIn_trans _ _ _ _ _ HPk.out h1) h2)
        clear HR2 HP1 HP2 HP3 HB HG HPk Hs Hs1 Hs2
        go_upto_region 17 with fail
        go_cut [87] (fun s wx => ∃ q : Bool, s = .bool q ∧ Hid (q = true → 0 < a' ∧ ltInt d3[a' - 1]! d3[p2]! = false) ∧ Hid (SR .u32 S w0 blk off d3 wx))
        case first =>
         obtain ⟨G, hG, hcw, hfw⟩ := HR3.out.cells
         rw [Hs3.out] at hcw hfw
         have HGG := Lib.hid hG; clear hG
         by_cases ha0 : 0 < a'
         ·go_wp2_with fail
          go_big_quiet (first | (go_at_call 110; refine Calls.quiet_of_same (uint32_less _ _ _)))
          go_wp2_with fail
          go_meet
          exact ⟨_, rfl, Lib.hid (fun h => ⟨ha0, by rw [← HGG.out, ← HGG.out]; simpa using h⟩), Lib.hid (HR3.out.drewN nq)⟩
         ·have ha0z : decide ((0 : Int) < (a' : Int)) = false := decide_eq_false (by omega)
          go_wp2_with fail
          go_big_quiet (first | (go_at_call 110; refine Calls.quiet_of_same (uint32_less _ _ _)))
          go_wp2_with fail
          go_meet
          exact ⟨false, rfl, Lib.hid (fun h => by cases h), Lib.hid (HR3.out.drewN nq)⟩
        case rest =>
         obtain ⟨q, rfl, HQ, HR4⟩ := hcut
         clear HR3
         cases q with
         | true =>
          go_wp2_with fail
          refine (uint32_partitionEqual HS.out HR4.out Hs3.out hq1 hq2 hb hN).mono ?_
          rintro e w2 ⟨mid, d4, rfl, h1, h2⟩
          obtain ⟨g1, g2, g3, g4, g5⟩ := round_eq swo_ltInt (partitionEqual_holds _) (HQ.out (by simp)).1 hq1 hq2 (by rw [Hs3.out]; exact hb) HB3.out (HQ.out (by simp)).2 h1
          have H2 := Lib.hid h2; have G3 := Lib.hid (g3.trans Hs3.out); have G4 := Lib.hid g4; have G5 := Lib.hid g5
          clear h1 h2 g3 g4 g5
          go_wp2_with fail
          go_roundg (b' - mid)
          case measure => omega
          case rel => exact ⟨mid, b', l1, wb, wp, d4, rfl, rfl, rfl, rfl, rfl, g2, hb, Nat.le_refl _, by omega, Lib.hid (by have := Hsub.out; omega), G3, H2, G4, Lib.hid (fun R h1 h2 => (fun h3 => HG3.out R h3.1 h3.2) (G5.out R h1 h2))⟩
         | false =>
          go_wp2_with fail
          refine (uint32_partition HS.out HR4.out Hs3.out hq1 hq2 hb hN).mono ?_
          rintro e w2 ⟨mid, ap, ap', d4, rfl, h1, h2⟩
          obtain ⟨g1, g2, g3, g4, g5, g6, g7⟩ := round_part swo_ltInt (partition_holds _) hq1 hq2 (by rw [Hs3.out]; exact hb) HB3.out h1
          have H2 := Lib.hid h2; have G3 := Lib.hid (g3.trans Hs3.out); have G4 := Lib.hid g4; have G5 := Lib.hid g5; have G6 := Lib.hid g6; have G7 := Lib.hid g7
          clear h1 h2 g3 g4 g5 g6 g7
          by_cases hlr : mid - a' < b' - mid
          ·have hlrz : (mid : Int) - (a' : Int) < (b' : Int) - (mid : Int) := by omega
           go_wp2_with fail
           refine (IH.out (mid - a') (by have := Hsub.out; have := Hn.out; omega) a' mid l1 d4 w2 (Nat.le_refl _) H2.out G3.out g1 (by omega) (by omega) G4.out).mono ?_
           rintro e w3 ⟨rfl, L, h1, h2, h3⟩
           have hL := G6.out L h1 h2
           have Hs5 : Hid (L.size = N) := Lib.hid (h1.1.trans G3.out)
           have HL := Lib.hid hL; have H3 := Lib.hid h3
           clear h1 h2 h3 hL
           go_wp2_with fail
           go_roundg (b' - (mid + 1))
           case measure => omega
           case rel => exact ⟨mid + 1, b', l1, _, ap, L, by go_num, rfl, rfl, rfl, rfl, by omega, hb, Nat.le_refl _, by omega, Lib.hid (by have := Hsub.out; omega), Hs5, H3, Lib.hid HL.out.1, Lib.hid (fun R h1 h2 => (fun h3 => HG3.out R h3.1 h3.2) (HL.out.2 R h1 h2))⟩
          ·have hlrz : ¬ ((mid : Int) - (a' : Int) < (b' : Int) - (mid : Int)) := by omega
           have hih := IH.out (b' - (mid + 1)) (by have := Hsub.out; have := Hn.out; omega) (mid + 1) b' l1 d4 w2 (Nat.le_refl _) H2.out G3.out (by omega) hb (by omega) G5.out
           rw [show ((mid + 1 : Nat) : Int) = (mid : Int) + 1 by omega] at hih
           have HIH := Lib.hid hih; clear hih
           go_wp2_with fail
           refine HIH.out.mono ?_
           rintro e w3 ⟨rfl, L, h1, h2, h3⟩
           have hL := G7.out L h1 h2
           have Hs5 : Hid (L.size = N) := Lib.hid (h1.1.trans G3.out)
           have HL := Lib.hid hL; have H3 := Lib.hid h3
           clear h1 h2 h3 hL HIH
           go_wp2_with fail
           go_roundg (mid - a')
           case measure => omega
           case rel => exact ⟨a', mid, l1, _, ap, L, rfl, rfl, rfl, rfl, rfl, g1, by omega, Nat.le_refl _, by omega, Lib.hid (by have := Hsub.out; omega), Hs5, H3, Lib.hid HL.out.1, Lib.hid (fun R h1 h2 => (fun h3 => HG3.out R h3.1 h3.2) (HL.out.2 R h1 h2))⟩
end Go.Proofs.YtggdkfijioeijaaGreatDoor
namespace Go.Proofs.YtggdkfijioeijaaGreatDoor
open Go Go.RowKit Go.Sort Go.Shelf
attribute [local go_sem] Oper.semAt_some
set_option maxRecDepth 100000 in
theorem uint32_Sort {S : Nat → Prop} {blk off N cap : Nat} {d : Array Int} {w0 w : World} (hS : S blk) (hblk : blk < w0.heap.size) (h : SR .u32 S w0 blk off d w) (hd : d.size = N) (hN : N < 4611686018427387904) :
  Calls Tryz.prog 44 #[.slice (some ⟨blk, off, none⟩) N cap] w fun e w' => e = .returned (.tuple #[]) ∧ ∃ d' : Array Int, d'.size = N ∧ d'.toList.Perm d.toList ∧ d'.toList.Pairwise (· ≤ ·) ∧ SR .u32 S w0 blk off d' w' := by
 have hb : bitsLen N ≤ 62 := (bitsLen_le_iff N 62).2 (by omega)
 have hc := uint32_pdqsort (cap := cap) (w0 := w0) hS hblk hN N 0 N (bitsLen N) d w (by omega) h hd (Nat.zero_le _) (Nat.le_refl _) (by omega) (Or.inl rfl)
 have HC := Lib.hid hc; have Hd := Lib.hid hd
 clear hc h hS hblk hd
 go_enter Tryz.func44, Tryz.ntmps44
 go_wp2_with fail
 refine (bits_len N hN _).mono ?_
 rintro e w1 ⟨rfl, rfl⟩
 go_wp2_with fail
 refine HC.out.mono ?_
 rintro e w1 ⟨rfl, d', h1, h2, h3⟩
 go_wp2_with fail
 go_end0
 have := sorted_list Hd.out h1 h2
 exact ⟨rfl, d', h1.1.trans Hd.out, this.1, this.2, h3⟩
theorem uint32_info : (Tryz.prog.info? 28).map (fun i => (i.zero, i.size, i.bytes)) = some (some (.int .u32 0), 1, 4) := by kernel_rfl
set_option maxRecDepth 100000 in
set_option maxHeartbeats 2000000 in
theorem uint32_appendSeq {g : Nat} {lb : Array Value} (eg : ∀ args w, (callFunc g args).run Tryz.prog w = .ok (.enter g args) w) {Kp : World → World → Prop} {S Sp : List Int → Prop} {N : Nat} {w : World}
  (hseq : SeqStopsK Fence.wide 9 Tryz.prog g lb (fun x : Int => #[Value.int .u32 x]) Kp S Sp N w) (hKt : ∀ {A B C : World}, Kp A B → Kp B C → Kp A C)
  (hKb : ∀ (W : World) (l : Nat) (o o' : Obj), w.heap.size ≤ l → W.heap[l]? = some o → o.isCells = false → o.isWalk = false → Kp W (W.putObj l o')) (hKp : ∀ W W', KeepsOthers W W' → Below w.heap.size W W' → Kp W W') (hN : N ≤ 1000000) :
  Calls Tryz.prog 118 #[.slice none 0 0, .func (.func g) #[] lb] w fun e W' => ∃ v xs, e = .returned v ∧ S xs ∧ W'.ownsRow w.heap.size 28 1 v xs.length (xs.map (Value.int .u32)) ∧ (v = .slice none 0 0 ↔ xs = []) ∧ Below w.heap.size w W' := by
 refine (callsIn_wide (n := 10)).1 ?_
 obtain ⟨i0, hi, hz0, hz1, hz2⟩ := info_parts uint32_info
 refine callsIn_of_wp_marks Tryz.func118 rfl trivial ?_ rfl
 simp only [Tryz.ntmps118, List.size_toArray, List.length_cons, List.length_nil, Nat.reduceAdd, Nat.reduceSub, Array.replicate_succ, Array.replicate_zero, List.push_toArray, List.append_toArray, List.nil_append, List.cons_append]
 gi_wp2
 have bO := Boxed.new w 64 (.slice none 0 0)
 have hB0 : Below w.heap.size w (w.alloc (.cells #[.slice none 0 0] 64)) := (Below.refl _ w).alloc (Nat.le_refl _) _
 refine wpIn_rangeFunc_ownG rfl (by decide) (gf := g) (lb := lb) rfl trivial eg
  hseq hKt (fun W l o o' hl => hKb W l o o' (by have := hl; simp at this; omega)) hB0 (fun _ => rfl)
  (fun pre W => (∃ v, Boxed W w.heap.size 64 v ∧ W.ownsRow w.heap.size 28 1 v pre.length (pre.map (Value.int .u32)) ∧ (v = .slice none 0 0 ↔ pre = [])) ∧ Below w.heap.size w W)
  (fun _ _ _ => False)
  (OwnFrom.and (Own.from (holdsRow_own w.heap.size w.heap.size 64 28 1 (fun pre : List Int => pre.length) (fun pre => pre.map (Value.int .u32)) (fun pre v => v = .slice none 0 0 ↔ pre = [])) _) (ownFrom_below (Nat.le_refl _) (by simp)))
  (fun _ _ _ _ _ hs _ _ => hs)
  ⟨⟨_, bO, World.ownsRow_nil _ _ _ _, by simp⟩, hB0⟩
  (fun x => { tmps := #[.slice none 0 0, .func (.func g) #[] lb, .pointer (some ⟨w.heap.size, 0, none⟩), undef, .slice none 0 0, .int .u32 x, .func (.func g) #[] lb, .int .u32 x, undef, undef, undef, undef, undef], defers := [] }) ?assign ?body ?done ?stop
 case assign =>
  intro l x W K hK
  gi_wp2
  exact hK
 case body =>
  rintro l pre x W ⟨⟨v, hv, hrow, hnil⟩, hB⟩ hlt
  have hc := hv.cell
  gi_wp2_with (gi_at_builtin; refine wpListIn_append_own _ rfl _ _ 64 rfl w.heap.size 28 i0 (.int .u32 0) 1 4 Tryz.underlying64 hi hz0 hz1 hz2 rfl (by decide) _ _ _ rfl (hrow.alloc _) ⟨W.heap.size, 0, none⟩ 1 1 [.int .u32 x] rfl rfl (cell_one_new _ _ _) (by simp [Value.oneCell']) (by unfold maxLen; omega) (by omega) (by have := hB.size; simp; omega) ?_; intro v' w1 hown' hgrow _; obtain ⟨g', cap', rfl⟩ := ownsRow_succ hown'; obtain ⟨hv1, hv2, hr2, hk2, hb2⟩ := hv.appended (by decide) hrow hB.size (Nat.le_refl _) hown' hgrow; have hc1 := hv1.cell; have hf1 := hv1.frozen)
  exact ⟨hk2.from _, hKp _ _ hk2 hb2, ⟨_, hv2, by simpa using hr2, by simp⟩, hB.trans hb2⟩
 case done =>
  rintro D ys W hD hS ⟨⟨v, hv, hrow, hnil⟩, hB⟩ hK
  have hc := hv.cell
  gi_wp2
  refine ⟨by simp, .inl ⟨_, _, rfl, run_takeDeferred hK, ?_⟩⟩
  exact ⟨_, results_tmp rfl _ _ _, v, ys, rfl, hS, ownsRow_putObj hrow _ hK rfl, hnil, hB.trans (belowK_b (w := w) (Nat.le_refl _) W D _ _ (by simp at hD; omega) hK rfl rfl)⟩
 case stop =>
  rintro D c pre W _ _ h _
  exact h.elim
set_option maxRecDepth 100000 in
set_option maxHeartbeats 1000000 in
theorem uint32_sorted {g : Nat} {lb : Array Value} (eg : ∀ args w, (callFunc g args).run Tryz.prog w = .ok (.enter g args) w) {Kp : World → World → Prop} {S Sp : List Int → Prop} {N : Nat} {w : World}
  (hseq : SeqStopsK Fence.wide 9 Tryz.prog g lb (fun x : Int => #[Value.int .u32 x]) Kp S Sp N w) (hKt : ∀ {A B C : World}, Kp A B → Kp B C → Kp A C)
  (hKb : ∀ (W : World) (l : Nat) (o o' : Obj), w.heap.size ≤ l → W.heap[l]? = some o → o.isCells = false → o.isWalk = false → Kp W (W.putObj l o')) (hKp : ∀ W W', KeepsOthers W W' → Below w.heap.size W W' → Kp W W') (hN : N ≤ 1000000) (hSN : ∀ xs, S xs → xs ≠ [] ∧ xs.length ≤ 1000000) :
  Calls Tryz.prog 56 #[.func (.func g) #[] lb] w fun e W' => ∃ b cap xs ys, e = .returned (.slice (some ⟨b, 0, none⟩) ys.length cap) ∧ S xs ∧ ys.Perm xs ∧ ys.Pairwise (· ≤ ·) ∧ w.heap.size ≤ b ∧ IsInts .u32 W' (.slice (some ⟨b, 0, none⟩) ys.length cap) ys ∧ Below w.heap.size w W' := by
 have HA := Lib.hid (uint32_appendSeq eg hseq hKt hKb hKp hN)
 have HSN := Lib.hid hSN
 clear hseq hKt hKb hKp hSN eg
 have hcol : Calls Tryz.prog 83 #[.func (.func g) #[] lb] w fun e W' => ∃ v xs, e = .returned v ∧ S xs ∧ W'.ownsRow w.heap.size 28 1 v xs.length (xs.map (Value.int .u32)) ∧ (v = .slice none 0 0 ↔ xs = []) ∧ Below w.heap.size w W' := by
  go_enter Tryz.func83, Tryz.ntmps83
  go_wp2_with fail
  refine HA.out.mono ?_
  rintro e W' ⟨v, xs, rfl, h1, h2, h3, h4⟩
  have H1 := Lib.hid h1; have H2 := Lib.hid h2; have H3 := Lib.hid h3; have H4 := Lib.hid h4
  clear h1 h2 h3 h4
  go_wp2_with fail
  go_ret
  exact ⟨v, xs, rfl, H1.out, H2.out, H3.out, H4.out⟩
 have HC := Lib.hid hcol; clear hcol HA
 go_enter Tryz.func56, Tryz.ntmps56
 go_wp2_with fail
 refine HC.out.mono ?_
 rintro e W1 ⟨v, xs, rfl, h1, h2, h3, h4⟩
 obtain ⟨hne, hlen⟩ := HSN.out xs h1
 have hpos : xs.length = (xs.length - 1) + 1 := by have := List.length_pos_iff.2 hne; omega
 obtain ⟨b, cap, rfl, hB⟩ : ∃ b cap, v = .slice (some ⟨b, 0, none⟩) xs.length cap ∧ w.heap.size ≤ b := by
  rcases h2.2 with ⟨hv, hl⟩ | ⟨g, cap, cur, hv, hB, _⟩
  ·exact absurd (h3.1 hv) hne
  ·exact ⟨g, cap, hv, hB⟩
 have hsr := own_SR h2
 have hblk : b < W1.heap.size := by
  rcases h2.2 with ⟨hv, hl⟩ | ⟨g, cap, cur, hv, hB, hg, _⟩
  ·cases hv
  ·cases hv; exact lt_of_block hg
 have HS := Lib.hid (uint32_Sort (S := fun k => k = b) (cap := cap) (N := xs.length) rfl hblk hsr (by simp) (by omega))
 have H1 := Lib.hid h1; have H4 := Lib.hid h4; have HB := Lib.hid hB; have Hblk := Lib.hid hblk
 clear h1 h2 h3 h4 hB hsr hblk hpos hne HC
 go_wp2_with fail
 refine HS.out.mono ?_
 rintro e W2 ⟨rfl, d', g1, g2, g3, g4⟩
 have G1 := Lib.hid g1; have G2 := Lib.hid g2; have G3 := Lib.hid g3; have G4 := Lib.hid g4
 clear g1 g2 g3 g4
 go_wp2_with fail
 go_ret
 refine ⟨b, cap, xs, d'.toList, ?_, H1.out, by simpa using G2.out, G3.out, HB.out, ?_, H4.out.trans (G4.out.but.below (fun k hk => by rw [hk]; exact HB.out) H4.out.size)⟩
 ·show Ending.returned (.slice (some ⟨b, 0, none⟩) xs.length cap) = _
  have e : d'.toList.length = xs.length := by simpa using G1.out
  rw [e]
 ·rw [show d'.toList.length = d'.size by simp]
  exact G4.out.ints cap (Nat.lt_of_lt_of_le Hblk.out G4.out.but.size)
end Go.Proofs.YtggdkfijioeijaaGreatDoor
