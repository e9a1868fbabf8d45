/- Contracts at uint32: slices.Sort; slices.AppendSeq, Collect, Sorted of what an iterator gives. -/
import Derived.Test.YthcmcjoenepkbaaSrt32g
import Derived.Test.YthcmcjoenepkbaaRnd
import Derived.Test.YthcmcjoenepkbaaInts
import Derived.RangeFuncNested
import Derived.RangeFuncBound
import Derived.RangeFuncCalls
import Derived.RangeFuncLeaves
import Derived.Shelf.Abstract
import Derived.Shelf.RegionOpen
import Derived.WalkKit
import Derived.OwnWalkIn
import Derived.TacticsInMore
import Derived.LoopNIn
import Derived.LoopIn
import Derived.Maps.AppendAt
namespace Go.Proofs.Ythcmcjoenepkbaa
open Go Go.RowKit Go.Sort Go.Shelf
attribute [local go_sem] Oper.semAt_some

set_option maxRecDepth 100000 in
theorem uint32_Sort {S : Nat → Prop} {blk off N cap : Nat} {d : Array Int} {w0 w : World} (hS : S blk) (hblk : blk < w0.heap.size) (h : SR .u32 S w0 blk off d w) (hd : d.size = N) (hN : N < 4611686018427387904) :
    Calls Try.prog 26 #[.slice (some ⟨blk, off, none⟩) N cap] w fun e w' => e = .returned (.tuple #[]) ∧ ∃ d' : Array Int, d'.size = N ∧ d'.toList.Perm d.toList ∧ d'.toList.Pairwise (· ≤ ·) ∧ SR .u32 S w0 blk off d' w' := by
  have hb : bitsLen N ≤ 62 := (bitsLen_le_iff N 62).2 (by omega)
  have hc := uint32_pdqsort (cap := cap) (w0 := w0) hS hblk hN N 0 N (bitsLen N) d w (by omega) h hd (Nat.zero_le _) (Nat.le_refl _) (by omega) (Or.inl rfl)
  have HC := Lib.hid hc; have Hd := Lib.hid hd
  clear hc h hS hblk hd
  go_enter Try.func26, Try.ntmps26
  go_wp2_with fail
  refine (bits_len N hN _).mono ?_
  rintro e w1 ⟨rfl, rfl⟩
  go_wp2_with fail
  refine HC.out.mono ?_
  rintro e w1 ⟨rfl, d', h1, h2, h3⟩
  go_wp2_with fail
  go_end0
  have := sorted_list Hd.out h1 h2
  exact ⟨rfl, d', h1.1.trans Hd.out, this.1, this.2, h3⟩

theorem uint32_info : (Try.prog.info? 27).map (fun i => (i.zero, i.size, i.bytes)) = some (some (.int .u32 0), 1, 4) := by kernel_rfl

set_option maxRecDepth 100000 in
set_option maxHeartbeats 2000000 in
/-- What an iterator gives, in a slice of one's own. -/
theorem uint32_appendSeq {g : Nat} {lb : Array Value} (eg : ∀ args w, (callFunc g args).run Try.prog w = .ok (.enter g args) w) {Kp : World → World → Prop} {S Sp : List Int → Prop} {N : Nat} {w : World}
    (hseq : SeqStopsK Fence.wide 9 Try.prog g lb (fun x : Int => #[Value.int .u32 x]) Kp S Sp N w) (hKt : ∀ {A B C : World}, Kp A B → Kp B C → Kp A C)
    (hKb : ∀ (W : World) (l : Nat) (o o' : Obj), w.heap.size ≤ l → W.heap[l]? = some o → o.isCells = false → o.isWalk = false → Kp W (W.putObj l o')) (hKp : ∀ W W', KeepsOthers W W' → Below w.heap.size W W' → Kp W W') (hN : N ≤ 1000000) :
    Calls Try.prog 37 #[.slice none 0 0, .func (.func g) #[] lb] w fun e W' => ∃ v xs, e = .returned v ∧ S xs ∧ W'.ownsRow w.heap.size 27 1 v xs.length (xs.map (Value.int .u32)) ∧ (v = .slice none 0 0 ↔ xs = []) ∧ Below w.heap.size w W' := by
  refine (callsIn_wide (n := 10)).1 ?_
  obtain ⟨i0, hi, hz0, hz1, hz2⟩ := info_parts uint32_info
  refine callsIn_of_wp_marks Try.func37 rfl trivial ?_ rfl
  simp only [Try.ntmps37, List.size_toArray, List.length_cons, List.length_nil, Nat.reduceAdd, Nat.reduceSub, Array.replicate_succ, Array.replicate_zero, List.push_toArray, List.append_toArray, List.nil_append, List.cons_append]
  gi_wp2
  have bO := Boxed.new w 25 (.slice none 0 0)
  have hB0 : Below w.heap.size w (w.alloc (.cells #[.slice none 0 0] 25)) := (Below.refl _ w).alloc (Nat.le_refl _) _
  refine wpIn_rangeFunc_ownG rfl (by decide) (gf := g) (lb := lb) rfl trivial eg
    hseq hKt (fun W l o o' hl => hKb W l o o' (by have := hl; simp at this; omega)) hB0 (fun _ => rfl)
    (fun pre W => (∃ v, Boxed W w.heap.size 25 v ∧ W.ownsRow w.heap.size 27 1 v pre.length (pre.map (Value.int .u32)) ∧ (v = .slice none 0 0 ↔ pre = [])) ∧ Below w.heap.size w W)
    (fun _ _ _ => False)
    (OwnFrom.and (Own.from (holdsRow_own w.heap.size w.heap.size 25 27 1 (fun pre : List Int => pre.length) (fun pre => pre.map (Value.int .u32)) (fun pre v => v = .slice none 0 0 ↔ pre = [])) _) (ownFrom_below (Nat.le_refl _) (by simp)))
    (fun _ _ _ _ _ hs _ _ => hs)
    ⟨⟨_, bO, World.ownsRow_nil _ _ _ _, by simp⟩, hB0⟩
    (fun x => { tmps := #[.slice none 0 0, .func (.func g) #[] lb, .pointer (some ⟨w.heap.size, 0, none⟩), undef, .slice none 0 0, .int .u32 x, .func (.func g) #[] lb, .int .u32 x, undef, undef, undef, undef, undef], defers := [] }) ?assign ?body ?done ?stop
  case assign =>
    intro l x W K hK
    gi_wp2
    exact hK
  case body =>
    rintro l pre x W ⟨⟨v, hv, hrow, hnil⟩, hB⟩ hlt
    have hc := hv.cell
    gi_wp2_with (gi_at_builtin; refine wpListIn_append_own _ rfl _ _ 25 rfl w.heap.size 27 i0 (.int .u32 0) 1 4 Try.underlying25 hi hz0 hz1 hz2 rfl (by decide) _ _ _ rfl (hrow.alloc _) ⟨W.heap.size, 0, none⟩ 1 1 [.int .u32 x] rfl rfl (cell_one_new _ _ _) (by simp [Value.oneCell']) (by unfold maxLen; omega) (by omega) (by have := hB.size; simp; omega) ?_; intro v' w1 hown' hgrow _; obtain ⟨g', cap', rfl⟩ := ownsRow_succ hown'; obtain ⟨hv1, hv2, hr2, hk2, hb2⟩ := hv.appended (by decide) hrow hB.size (Nat.le_refl _) hown' hgrow; have hc1 := hv1.cell; have hf1 := hv1.frozen)
    exact ⟨hk2.from _, hKp _ _ hk2 hb2, ⟨_, hv2, by simpa using hr2, by simp⟩, hB.trans hb2⟩
  case done =>
    rintro D ys W hD hS ⟨⟨v, hv, hrow, hnil⟩, hB⟩ hK
    have hc := hv.cell
    gi_wp2
    refine ⟨by simp, .inl ⟨_, _, rfl, run_takeDeferred hK, ?_⟩⟩
    exact ⟨_, results_tmp rfl _ _ _, v, ys, rfl, hS, ownsRow_putObj hrow _ hK rfl, hnil, hB.trans (belowK_b (w := w) (Nat.le_refl _) W D _ _ (by simp at hD; omega) hK rfl rfl)⟩
  case stop =>
    rintro D c pre W _ _ h _
    exact h.elim

set_option maxRecDepth 100000 in
set_option maxHeartbeats 1000000 in
theorem uint32_sorted {g : Nat} {lb : Array Value} (eg : ∀ args w, (callFunc g args).run Try.prog w = .ok (.enter g args) w) {Kp : World → World → Prop} {S Sp : List Int → Prop} {N : Nat} {w : World}
    (hseq : SeqStopsK Fence.wide 9 Try.prog g lb (fun x : Int => #[Value.int .u32 x]) Kp S Sp N w) (hKt : ∀ {A B C : World}, Kp A B → Kp B C → Kp A C)
    (hKb : ∀ (W : World) (l : Nat) (o o' : Obj), w.heap.size ≤ l → W.heap[l]? = some o → o.isCells = false → o.isWalk = false → Kp W (W.putObj l o')) (hKp : ∀ W W', KeepsOthers W W' → Below w.heap.size W W' → Kp W W') (hN : N ≤ 1000000) (hSN : ∀ xs, S xs → xs ≠ [] ∧ xs.length ≤ 1000000) :
    Calls Try.prog 14 #[.func (.func g) #[] lb] w fun e W' => ∃ b cap xs ys, e = .returned (.slice (some ⟨b, 0, none⟩) ys.length cap) ∧ S xs ∧ ys.Perm xs ∧ ys.Pairwise (· ≤ ·) ∧ w.heap.size ≤ b ∧ IsInts .u32 W' (.slice (some ⟨b, 0, none⟩) ys.length cap) ys ∧ Below w.heap.size w W' := by
  have HA := Lib.hid (uint32_appendSeq eg hseq hKt hKb hKp hN)
  have HSN := Lib.hid hSN
  clear hseq hKt hKb hKp hSN eg
  have hcol : Calls Try.prog 25 #[.func (.func g) #[] lb] w fun e W' => ∃ v xs, e = .returned v ∧ S xs ∧ W'.ownsRow w.heap.size 27 1 v xs.length (xs.map (Value.int .u32)) ∧ (v = .slice none 0 0 ↔ xs = []) ∧ Below w.heap.size w W' := by
    go_enter Try.func25, Try.ntmps25
    go_wp2_with fail
    refine HA.out.mono ?_
    rintro e W' ⟨v, xs, rfl, h1, h2, h3, h4⟩
    have H1 := Lib.hid h1; have H2 := Lib.hid h2; have H3 := Lib.hid h3; have H4 := Lib.hid h4
    clear h1 h2 h3 h4
    go_wp2_with fail
    go_ret
    exact ⟨v, xs, rfl, H1.out, H2.out, H3.out, H4.out⟩
  have HC := Lib.hid hcol; clear hcol HA
  go_enter Try.func14, Try.ntmps14
  go_wp2_with fail
  refine HC.out.mono ?_
  rintro e W1 ⟨v, xs, rfl, h1, h2, h3, h4⟩
  obtain ⟨hne, hlen⟩ := HSN.out xs h1
  have hpos : xs.length = (xs.length - 1) + 1 := by have := List.length_pos_iff.2 hne; omega
  obtain ⟨b, cap, rfl, hB⟩ : ∃ b cap, v = .slice (some ⟨b, 0, none⟩) xs.length cap ∧ w.heap.size ≤ b := by
    rcases h2.2 with ⟨hv, hl⟩ | ⟨g, cap, cur, hv, hB, _⟩
    · exact absurd (h3.1 hv) hne
    · exact ⟨g, cap, hv, hB⟩
  have hsr := own_SR h2
  have hblk : b < W1.heap.size := by
    rcases h2.2 with ⟨hv, hl⟩ | ⟨g, cap, cur, hv, hB, hg, _⟩
    · cases hv
    · cases hv; exact lt_of_block hg
  have HS := Lib.hid (uint32_Sort (S := fun k => k = b) (cap := cap) (N := xs.length) rfl hblk hsr (by simp) (by omega))
  have H1 := Lib.hid h1; have H4 := Lib.hid h4; have HB := Lib.hid hB; have Hblk := Lib.hid hblk
  clear h1 h2 h3 h4 hB hsr hblk hpos hne HC
  go_wp2_with fail
  refine HS.out.mono ?_
  rintro e W2 ⟨rfl, d', g1, g2, g3, g4⟩
  have G1 := Lib.hid g1; have G2 := Lib.hid g2; have G3 := Lib.hid g3; have G4 := Lib.hid g4
  clear g1 g2 g3 g4
  go_wp2_with fail
  go_ret
  refine ⟨b, cap, xs, d'.toList, ?_, H1.out, by simpa using G2.out, G3.out, HB.out, ?_, H4.out.trans (G4.out.but.below (fun k hk => by rw [hk]; exact HB.out) H4.out.size)⟩
  · show Ending.returned (.slice (some ⟨b, 0, none⟩) xs.length cap) = _
    have e : d'.toList.length = xs.length := by simpa using G1.out
    rw [e]
  · rw [show d'.toList.length = d'.size by simp]
    exact G4.out.ints cap (Nat.lt_of_lt_of_le Hblk.out G4.out.but.size)
end Go.Proofs.Ythcmcjoenepkbaa
