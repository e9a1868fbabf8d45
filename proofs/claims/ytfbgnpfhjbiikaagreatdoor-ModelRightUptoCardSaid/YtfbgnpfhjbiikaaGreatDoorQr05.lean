/- Contracts: slices.Equal over what reads have, over numbers, over texts; model.same. Contract: scriniumlaw18.Heavy: where it answers false, there is not much. Contract: scriniumref18.Same, where both are one. Edits that came in, opened. Apply, told in one; what stays of lists while a table turns. append onto a list of numbers: that its block bears numbers alone. Rows that came in, opened. Contract: Table.Load: what is there behind it, whatever it answers. Plain facts: the document's rows beside what a table's map holds. No walk. Contracts: scriniumref17 May, Now, Size, at. -/
import Derived.Test.YtfbgnpfhjbiikaaGreatDoorQr00
import Derived.Test.YtfbgnpfhjbiikaaGreatDoorQr01
import Derived.Test.YtfbgnpfhjbiikaaGreatDoorQr04
import Derived.Lib.SmallJoins
import Derived.Deep.AppendLies
import Derived.Deep.RegionWith
namespace Go.Proofs.YtfbgnpfhjbiikaaGreatDoor
open Go Go.RowKit
def EqG {α : Type} (a b : List α) (w : World) (e : Ending) (w' : World) : Prop := ∃ r : Bool, e = .returned (.bool r) ∧ (r = true ↔ a = b) ∧ ∃ q, w' = w.drewN q
theorem eq_of_getD {α : Type} {a b : List α} (d : α) (hl : a.length = b.length) (h : ∀ j, j < a.length → a.getD j d = b.getD j d) : a = b := by
  apply List.ext_getElem hl
  intro i h1 h2
  have := h i h1
  rwa [List.getD_eq_getElem?_getD, List.getD_eq_getElem?_getD, List.getElem?_eq_getElem h1, List.getElem?_eq_getElem h2] at this
set_option maxRecDepth 100000 in
set_option maxHeartbeats 4000000 in
theorem eq_nums (a b : List Nat) (va vb : Value) (w : World) (ha : IsNums w va a) (hb : IsNums w vb b) (hla : a.length ≤ 140737488355328) (_hlb : b.length ≤ 140737488355328) :
    Calls Tryz.prog 96 #[va, vb] w (EqG a b w) := by
  obtain ⟨a1, c1, rfl, hca⟩ := ha
  obtain ⟨a2, c2, rfl, hcb⟩ := hb
  have HA := Lib.hid hca; have HB := Lib.hid hcb
  clear hca hcb
  by_cases hl : a.length = b.length
  · have hle : ((a.length : Int) != (b.length : Int)) = false := by simp [hl]
    have HL := Lib.hid hl; clear hl
    go_enter Tryz.func96, Tryz.ntmps96
    go_wp2
    go_loopw [13] (fun s13 wr => ∃ k : Nat, k ≤ a.length ∧ s13 = .int .i64 k ∧ Hid (∀ j, j < k → a.getD j 0 = b.getD j 0) ∧ ∃ q, wr = w.drewN q) (fun i _ => a.length - (intOf i).toNat)
    case atStart => exact ⟨0, Nat.zero_le _, rfl, Lib.hid (fun j hj => by omega), 0, rfl⟩
    case round =>
      obtain ⟨k, hk, rfl, heq, q, rfl⟩ := hrel
      by_cases hlt : k < a.length
      · have hltI : (k : Int) < (a.length : Int) := by omega
        have hlt2 : k < b.length := by have := HL.out; omega
        have hlt2I : (k : Int) < (b.length : Int) := by omega
        rcases HA.out with h0 | ⟨b1, o1, rfl, hb1, hc1⟩
        · rw [h0] at hlt; simp at hlt
        rcases HB.out with h0 | ⟨b2, o2, rfl, hb2, hc2⟩
        · rw [h0] at hlt2; simp at hlt2
        obtain g0 := hc1 k hlt
        obtain h0 := hc2 k hlt2
        obtain ⟨x, hx⟩ : ∃ x, a.getD k 0 = x := ⟨_, rfl⟩
        obtain ⟨y, hy⟩ : ∃ y, b.getD k 0 = y := ⟨_, rfl⟩
        rw [hx] at g0
        rw [hy] at h0
        have p0 : (w.drewN q).cell? ⟨b1, o1 + k, none⟩ = some (.int .u64 x) := g0
        have q0 : (w.drewN q).cell? ⟨b2, o2 + k, none⟩ = some (.int .u64 y) := h0
        have Hx := Lib.hid hx; have Hy := Lib.hid hy
        clear hx hy hc1 hc2 g0 h0
        generalize hW : w.drewN q = W at p0 q0 ⊢
        have HW := Lib.hid hW; clear hW
        by_cases he : x = y
        · have he2 := Lib.hid he
          have hn : ((x : Int) != (y : Int)) = false := by simp [he]
          clear he
          go_wp2_with fail
          go_quiet (fail)
          go_wp2_with fail
          go_roundw
          case rel =>
            refine ⟨k + 1, by omega, by go_num, Lib.hid (fun j hj => ?_), ?_⟩
            · by_cases e : j = k
              · subst e; rw [Hx.out, Hy.out]; exact he2.out
              · exact heq.out j (by omega)
            · rw [← HW.out]; exact ⟨q + nq, by first | rfl | rw [World.drewN_drewN]⟩
          case measure => simp [intOf]; omega
        · have he2 := Lib.hid he
          have hn : ((x : Int) != (y : Int)) = true := by simp; omega
          clear he
          go_wp2_with fail
          go_quiet (fail)
          go_wp2_with fail
          go_ret
          refine ⟨false, rfl, ⟨(fun h => (by cases h)), (fun h => absurd (by rw [← Hx.out, ← Hy.out, h]) he2.out)⟩, ?_⟩
          rw [← HW.out]; exact ⟨q + nq, by first | rfl | rw [World.drewN_drewN]⟩
      · have hge : ¬ (k : Int) < (a.length : Int) := by omega
        have heq2 := Lib.hid (eq_of_getD 0 HL.out (fun j hj => heq.out j (by omega)))
        go_wp2_with fail
        go_ret
        exact ⟨true, rfl, ⟨fun _ => heq2.out, fun _ => rfl⟩, q, rfl⟩
  · have hle : ((a.length : Int) != (b.length : Int)) = true := by simp; omega
    have HL := Lib.hid hl; clear hl
    go_enter Tryz.func96, Tryz.ntmps96
    go_wp2
    go_ret
    exact ⟨false, rfl, ⟨(fun h => (by cases h)), (fun h => absurd (by rw [h]) HL.out)⟩, 0, rfl⟩

set_option maxRecDepth 100000 in
set_option maxHeartbeats 4000000 in
theorem eq_strs (a b : List ByteArray) (va vb : Value) (w : World) (ha : IsStrs w va a) (hb : IsStrs w vb b) (hla : a.length ≤ 140737488355328) (_hlb : b.length ≤ 140737488355328) :
    Calls Tryz.prog 97 #[va, vb] w (EqG a b w) := by
  obtain ⟨a1, c1, rfl, hca⟩ := ha
  obtain ⟨a2, c2, rfl, hcb⟩ := hb
  have HA := Lib.hid hca; have HB := Lib.hid hcb
  clear hca hcb
  by_cases hl : a.length = b.length
  · have hle : ((a.length : Int) != (b.length : Int)) = false := by simp [hl]
    have HL := Lib.hid hl; clear hl
    go_enter Tryz.func97, Tryz.ntmps97
    go_wp2
    go_loopw [13] (fun s13 wr => ∃ k : Nat, k ≤ a.length ∧ s13 = .int .i64 k ∧ Hid (∀ j, j < k → a.getD j ByteArray.empty = b.getD j ByteArray.empty) ∧ ∃ q, wr = w.drewN q) (fun i _ => a.length - (intOf i).toNat)
    case atStart => exact ⟨0, Nat.zero_le _, rfl, Lib.hid (fun j hj => by omega), 0, rfl⟩
    case round =>
      obtain ⟨k, hk, rfl, heq, q, rfl⟩ := hrel
      by_cases hlt : k < a.length
      · have hltI : (k : Int) < (a.length : Int) := by omega
        have hlt2 : k < b.length := by have := HL.out; omega
        have hlt2I : (k : Int) < (b.length : Int) := by omega
        rcases HA.out with h0 | ⟨b1, o1, rfl, hb1, hc1⟩
        · rw [h0] at hlt; simp at hlt
        rcases HB.out with h0 | ⟨b2, o2, rfl, hb2, hc2⟩
        · rw [h0] at hlt2; simp at hlt2
        obtain g0 := hc1 k hlt
        obtain h0 := hc2 k hlt2
        obtain ⟨x, hx⟩ : ∃ x, a.getD k ByteArray.empty = x := ⟨_, rfl⟩
        obtain ⟨y, hy⟩ : ∃ y, b.getD k ByteArray.empty = y := ⟨_, rfl⟩
        rw [hx] at g0
        rw [hy] at h0
        have p0 : (w.drewN q).cell? ⟨b1, o1 + k, none⟩ = some (.string x) := g0
        have q0 : (w.drewN q).cell? ⟨b2, o2 + k, none⟩ = some (.string y) := h0
        have Hx := Lib.hid hx; have Hy := Lib.hid hy
        clear hx hy hc1 hc2 g0 h0
        generalize hW : w.drewN q = W at p0 q0 ⊢
        have HW := Lib.hid hW; clear hW
        by_cases he : x = y
        · have he2 := Lib.hid he
          have hn : (x.toList == y.toList) = true := by simp [he]
          clear he
          go_wp2_with fail
          go_quiet (fail)
          go_wp2_with fail
          go_roundw
          case rel =>
            refine ⟨k + 1, by omega, by go_num, Lib.hid (fun j hj => ?_), ?_⟩
            · by_cases e : j = k
              · subst e; rw [Hx.out, Hy.out]; exact he2.out
              · exact heq.out j (by omega)
            · rw [← HW.out]; exact ⟨q + nq, by first | rfl | rw [World.drewN_drewN]⟩
          case measure => simp [intOf]; omega
        · have he2 := Lib.hid he
          have hn : (x.toList == y.toList) = false := by
            rw [beq_eq_false_iff_ne, ByteArray.toList_eq, ByteArray.toList_eq]
            exact fun h => he (ba_ext h)
          clear he
          go_wp2_with fail
          go_quiet (fail)
          go_wp2_with fail
          go_ret
          refine ⟨false, rfl, ⟨(fun h => (by cases h)), (fun h => absurd (by rw [← Hx.out, ← Hy.out, h]) he2.out)⟩, ?_⟩
          rw [← HW.out]; exact ⟨q + nq, by first | rfl | rw [World.drewN_drewN]⟩
      · have hge : ¬ (k : Int) < (a.length : Int) := by omega
        have heq2 := Lib.hid (eq_of_getD ByteArray.empty HL.out (fun j hj => heq.out j (by omega)))
        go_wp2_with fail
        go_ret
        exact ⟨true, rfl, ⟨fun _ => heq2.out, fun _ => rfl⟩, q, rfl⟩
  · have hle : ((a.length : Int) != (b.length : Int)) = true := by simp; omega
    have HL := Lib.hid hl; clear hl
    go_enter Tryz.func97, Tryz.ntmps97
    go_wp2
    go_ret
    exact ⟨false, rfl, ⟨(fun h => (by cases h)), (fun h => absurd (by rw [h]) HL.out)⟩, 0, rfl⟩

set_option maxRecDepth 100000 in
set_option maxHeartbeats 4000000 in
theorem eq_gots (a b : List GotR) (va vb : Value) (w : World) (ha : IsGots w va a) (hb : IsGots w vb b) (hla : a.length ≤ 140737488355328) (_hlb : b.length ≤ 140737488355328) :
    Calls Tryz.prog 95 #[va, vb] w (EqG a b w) := by
  obtain ⟨a1, c1, rfl, hca⟩ := ha
  obtain ⟨a2, c2, rfl, hcb⟩ := hb
  have HA := Lib.hid hca; have HB := Lib.hid hcb
  clear hca hcb
  by_cases hl : a.length = b.length
  · have hle : ((a.length : Int) != (b.length : Int)) = false := by simp [hl]
    have HL := Lib.hid hl; clear hl
    go_enter Tryz.func95, Tryz.ntmps95
    go_wp2
    go_loopw [13] (fun s13 wr => ∃ k : Nat, k ≤ a.length ∧ s13 = .int .i64 k ∧ Hid (∀ j, j < k → a.getD j dG = b.getD j dG) ∧ ∃ q, wr = w.drewN q) (fun i _ => a.length - (intOf i).toNat)
    case atStart => exact ⟨0, Nat.zero_le _, rfl, Lib.hid (fun j hj => by omega), 0, rfl⟩
    case round =>
      obtain ⟨k, hk, rfl, heq, q, rfl⟩ := hrel
      by_cases hlt : k < a.length
      · have hltI : (k : Int) < (a.length : Int) := by omega
        have hlt2 : k < b.length := by have := HL.out; omega
        have hlt2I : (k : Int) < (b.length : Int) := by omega
        rcases HA.out with h0 | ⟨b1, o1, rfl, hb1, hc1⟩
        · rw [h0] at hlt; simp at hlt
        rcases HB.out with h0 | ⟨b2, o2, rfl, hb2, hc2⟩
        · rw [h0] at hlt2; simp at hlt2
        obtain ⟨g0, g1, g2, g3⟩ := hc1 k hlt
        obtain ⟨h0, h1, h2, h3⟩ := hc2 k hlt2
        obtain ⟨x, hx⟩ : ∃ x, a.getD k dG = x := ⟨_, rfl⟩
        obtain ⟨y, hy⟩ : ∃ y, b.getD k dG = y := ⟨_, rfl⟩
        rw [hx] at g0 g1 g2 g3
        rw [hy] at h0 h1 h2 h3
        have p0 : (w.drewN q).cell? ⟨b1, o1 + k * 4, none⟩ = some (.int .u64 x.ver.n) := g0
        have q0 : (w.drewN q).cell? ⟨b2, o2 + k * 4, none⟩ = some (.int .u64 y.ver.n) := h0
        have p1 : (w.drewN q).cell? ⟨b1, o1 + k * 4 + 1, none⟩ = some (.int .u8 x.ver.st) := g1
        have q1 : (w.drewN q).cell? ⟨b2, o2 + k * 4 + 1, none⟩ = some (.int .u8 y.ver.st) := h1
        have p2 : (w.drewN q).cell? ⟨b1, o1 + k * 4 + 2, none⟩ = some (.string x.ver.tx) := g2
        have q2 : (w.drewN q).cell? ⟨b2, o2 + k * 4 + 2, none⟩ = some (.string y.ver.tx) := h2
        have p3 : (w.drewN q).cell? ⟨b1, o1 + k * 4 + 3, none⟩ = some (.int .i64 x.err) := g3
        have q3 : (w.drewN q).cell? ⟨b2, o2 + k * 4 + 3, none⟩ = some (.int .i64 y.err) := h3
        have Hx := Lib.hid hx; have Hy := Lib.hid hy
        clear hx hy hc1 hc2 g0 h0 g1 h1 g2 h2 g3 h3
        generalize hW : w.drewN q = W at p0 q0 p1 q1 p2 q2 p3 q3 ⊢
        have HW := Lib.hid hW; clear hW
        obtain ⟨⟨xn, xs, xt⟩, xe⟩ := x
        obtain ⟨⟨yn, ys, yt⟩, ye⟩ := y
        dsimp only at p0 p1 p2 p3 q0 q1 q2 q3
        by_cases c0 : xn = yn
        · have t0 : ((xn : Int) == (yn : Int)) = true := by simp [c0]
          by_cases c1 : xs = ys
          · have t1 : ((xs : Int) == (ys : Int)) = true := by simp [c1]
            by_cases c2 : xt = yt
            · have t2 : (xt.toList == yt.toList) = true := by simp [c2]
              by_cases c3 : xe = ye
              · have t3 : ((xe : Int) == ye) = true := by simp [c3]
                have he2 : Hid ((⟨⟨xn, xs, xt⟩, xe⟩ : GotR) = ⟨⟨yn, ys, yt⟩, ye⟩) := Lib.hid (by rw [c0, c1, c2, c3])
                clear c0 c1 c2 c3
                go_wp2_with fail
                go_quiet (fail)
                go_wp2_with fail
                go_roundw
                case rel =>
                  refine ⟨k + 1, by omega, by go_num, Lib.hid (fun j hj => ?_), ?_⟩
                  · by_cases e : j = k
                    · subst e; rw [Hx.out, Hy.out]; exact he2.out
                    · exact heq.out j (by omega)
                  · rw [← HW.out]; exact ⟨q + nq, by first | rfl | rw [World.drewN_drewN]⟩
                case measure => simp [intOf]; omega
              · have t3 : ((xe : Int) == ye) = false := by simp [c3]
                have he2 : Hid (¬ (⟨⟨xn, xs, xt⟩, xe⟩ : GotR) = ⟨⟨yn, ys, yt⟩, ye⟩) := Lib.hid (fun h => c3 (congrArg (fun g : GotR => g.err) h))
                clear c0 c1 c2 c3
                go_wp2_with fail
                go_quiet (fail)
                go_wp2_with fail
                go_ret
                refine ⟨false, rfl, ⟨(fun h => (by cases h)), (fun h => absurd (by rw [← Hx.out, ← Hy.out, h]) he2.out)⟩, ?_⟩
                rw [← HW.out]; exact ⟨q + nq, by first | rfl | rw [World.drewN_drewN]⟩
            · have t2 : (xt.toList == yt.toList) = false := by rw [beq_eq_false_iff_ne, ByteArray.toList_eq, ByteArray.toList_eq]; exact fun h => c2 (ba_ext h)
              have he2 : Hid (¬ (⟨⟨xn, xs, xt⟩, xe⟩ : GotR) = ⟨⟨yn, ys, yt⟩, ye⟩) := Lib.hid (fun h => c2 (congrArg (fun g : GotR => g.ver.tx) h))
              clear c0 c1 c2
              go_wp2_with fail
              go_quiet (fail)
              go_wp2_with fail
              go_ret
              refine ⟨false, rfl, ⟨(fun h => (by cases h)), (fun h => absurd (by rw [← Hx.out, ← Hy.out, h]) he2.out)⟩, ?_⟩
              rw [← HW.out]; exact ⟨q + nq, by first | rfl | rw [World.drewN_drewN]⟩
          · have t1 : ((xs : Int) == (ys : Int)) = false := by simp; omega
            have he2 : Hid (¬ (⟨⟨xn, xs, xt⟩, xe⟩ : GotR) = ⟨⟨yn, ys, yt⟩, ye⟩) := Lib.hid (fun h => c1 (congrArg (fun g : GotR => g.ver.st) h))
            clear c0 c1
            go_wp2_with fail
            go_quiet (fail)
            go_wp2_with fail
            go_ret
            refine ⟨false, rfl, ⟨(fun h => (by cases h)), (fun h => absurd (by rw [← Hx.out, ← Hy.out, h]) he2.out)⟩, ?_⟩
            rw [← HW.out]; exact ⟨q + nq, by first | rfl | rw [World.drewN_drewN]⟩
        · have t0 : ((xn : Int) == (yn : Int)) = false := by simp; omega
          have he2 : Hid (¬ (⟨⟨xn, xs, xt⟩, xe⟩ : GotR) = ⟨⟨yn, ys, yt⟩, ye⟩) := Lib.hid (fun h => c0 (congrArg (fun g : GotR => g.ver.n) h))
          clear c0
          go_wp2_with fail
          go_quiet (fail)
          go_wp2_with fail
          go_ret
          refine ⟨false, rfl, ⟨(fun h => (by cases h)), (fun h => absurd (by rw [← Hx.out, ← Hy.out, h]) he2.out)⟩, ?_⟩
          rw [← HW.out]; exact ⟨q + nq, by first | rfl | rw [World.drewN_drewN]⟩
      · have hge : ¬ (k : Int) < (a.length : Int) := by omega
        have heq2 := Lib.hid (eq_of_getD dG HL.out (fun j hj => heq.out j (by omega)))
        go_wp2_with fail
        go_ret
        exact ⟨true, rfl, ⟨fun _ => heq2.out, fun _ => rfl⟩, q, rfl⟩
  · have hle : ((a.length : Int) != (b.length : Int)) = true := by simp; omega
    have HL := Lib.hid hl; clear hl
    go_enter Tryz.func95, Tryz.ntmps95
    go_wp2
    go_ret
    exact ⟨false, rfl, ⟨(fun h => (by cases h)), (fun h => absurd (by rw [h]) HL.out)⟩, 0, rfl⟩

def same3 (a b : List GotR) (c d : List Nat) (e f : List ByteArray) : Prop := a = b ∧ c = d ∧ e = f

set_option maxRecDepth 100000 in
set_option maxHeartbeats 4000000 in
theorem model_same (g1 g2 : List GotR) (n1 n2 : List Nat) (m1 m2 : List ByteArray) (vg1 vg2 vn1 vn2 vm1 vm2 : Value) (w : World) (hg1 : IsGots w vg1 g1) (hg2 : IsGots w vg2 g2) (hn1 : IsNums w vn1 n1) (hn2 : IsNums w vn2 n2) (hm1 : IsStrs w vm1 m1) (hm2 : IsStrs w vm2 m2)
    (lg1 : g1.length ≤ 140737488355328) (lg2 : g2.length ≤ 140737488355328) (ln1 : n1.length ≤ 140737488355328) (ln2 : n2.length ≤ 140737488355328) (lm1 : m1.length ≤ 140737488355328) (lm2 : m2.length ≤ 140737488355328) :
    Calls Tryz.prog 68 #[.agg #[vg1, vn1, vm1], .agg #[vg2, vn2, vm2]] w fun e w' => ∃ r : Bool, e = .returned (.bool r) ∧ (r = true ↔ same3 g1 g2 n1 n2 m1 m2) ∧ Below w.heap.size w w' := by
  have HG := Lib.hid (fun W (hb : Below w.heap.size w W) => eq_gots g1 g2 vg1 vg2 W (hg1.below hb (Nat.le_refl _)) (hg2.below hb (Nat.le_refl _)) lg1 lg2)
  have HN := Lib.hid (fun W (hb : Below w.heap.size w W) => eq_nums n1 n2 vn1 vn2 W (hn1.below hb (Nat.le_refl _)) (hn2.below hb (Nat.le_refl _)) ln1 ln2)
  have HM := Lib.hid (fun W (hb : Below w.heap.size w W) => eq_strs m1 m2 vm1 vm2 W (hm1.below hb (Nat.le_refl _)) (hm2.below hb (Nat.le_refl _)) lm1 lm2)
  have o1 : vg1.oneCell' = true ∧ vn1.oneCell' = true ∧ vm1.oneCell' = true := by
    obtain ⟨a, c, rfl, _⟩ := hg1; obtain ⟨a2, c2, rfl, _⟩ := hn1; obtain ⟨a3, c3, rfl, _⟩ := hm1; exact ⟨rfl, rfl, rfl⟩
  clear hg1 hg2 hn1 hn2 hm1 hm2 lg1 lg2 ln1 ln2 lm1 lm2
  go_enter Tryz.func68, Tryz.ntmps68
  go_upto_region 1 with fail
  refine wp_abs (F := fun W => One w.heap.size #[vg1, vn1, vm1] W ∧ One (w.heap.size + 1) #[vg2, vn2, vm2] W ∧ Below w.heap.size w W) ⟨(One.of w _ 85).step ((Below.refl _ _).alloc (Nat.le_refl _) _), by simpa using One.of (w.alloc (.cells #[vg1, vn1, vm1] 85)) #[vg2, vn2, vm2] 85, ((Below.refl _ _).alloc (Nat.le_refl _) _).alloc (by simp) _⟩ ?_
  rintro W ⟨hO1, hO2, hb⟩
  have a0 := hO1.c 0; have a1 := hO1.c 1; have a2 := hO1.c 2
  have b0 := hO2.c 0; have b1 := hO2.c 1; have b2 := hO2.c 2
  simp at a0 a1 a2 b0 b1 b2
  have Hb := Lib.hid hb
  clear hO1 hO2 hb
  go_wp2_with fail
  refine (HG.out _ Hb.out).mono ?_
  rintro e w1 ⟨r1, rfl, hr1, q1, rfl⟩
  have R1 := Lib.hid hr1; clear hr1
  cases r1 with
  | false =>
    go_wp2_with fail
    go_ret
    exact ⟨false, rfl, ⟨(fun h => (by cases h)), (fun h => (by have := R1.out.2 h.1; cases this))⟩, below_dn Hb.out _⟩
  | true =>
    go_wp2_with fail
    refine (HN.out _ (below_dn Hb.out _)).mono ?_
    rintro e w2 ⟨r2, rfl, hr2, q2, rfl⟩
    have R2 := Lib.hid hr2; clear hr2
    cases r2 with
    | false =>
      go_wp2_with fail
      go_ret
      exact ⟨false, rfl, ⟨(fun h => (by cases h)), (fun h => (by have := R2.out.2 h.2.1; cases this))⟩, by first | exact below_dn Hb.out _ | exact below_dn (below_dn Hb.out _) _⟩
    | true =>
      go_wp2_with fail
      refine (HM.out _ (by first | exact below_dn Hb.out _ | exact below_dn (below_dn Hb.out _) _)).mono ?_
      rintro e w3 ⟨r3, rfl, hr3, q3, rfl⟩
      have R3 := Lib.hid hr3; clear hr3
      go_wp2_with fail
      go_ret
      exact ⟨r3, rfl, ⟨(fun h => ⟨R1.out.1 (by trivial), R2.out.1 (by trivial), R3.out.1 h⟩), (fun h => R3.out.2 h.2.2)⟩, by first | exact below_dn Hb.out _ | exact below_dn (below_dn Hb.out _) _ | exact below_dn (below_dn (below_dn Hb.out _) _) _⟩

end Go.Proofs.YtfbgnpfhjbiikaaGreatDoor

namespace Go.Proofs.YtfbgnpfhjbiikaaGreatDoor
open Go Go.RowKit
structure Actm where
  es : List Edt
  rs : List (ByteArray × Cel)
  ps : Nat
def dA : Actm := ⟨[], [], 0⟩
def IsAct (w : World) (b off : Nat) (a : Actm) : Prop :=
  ∃ ve vr pa pc, w.cell? ⟨b, off + 1, none⟩ = some ve ∧ IsEdts w ve a.es ∧ w.cell? ⟨b, off + 2, none⟩ = some vr ∧ IsRows w vr a.rs ∧ w.cell? ⟨b, off + 3, none⟩ = some (.slice pa a.ps pc)
theorem IsAct.below {w w' : World} {b off : Nat} {a : Actm} (h : IsAct w b off a) (hb : Below w.heap.size w w') (hlt : b < w.heap.size) : IsAct w' b off a := by
  obtain ⟨ve, vr, pa, pc, h1, h2, h3, h4, h5⟩ := h
  exact ⟨ve, vr, pa, pc, (hb.cell hlt).trans h1, h2.below hb (Nat.le_refl _), (hb.cell hlt).trans h3, h4.below hb (Nat.le_refl _), (hb.cell hlt).trans h5⟩
def Light (S : Nat) (a : Actm) : Prop := a.es.length ≤ S ∧ a.rs.length ≤ S ∧ a.ps ≤ S ∧ (∀ i, i < a.es.length → (a.es.getD i dE).path.size ≤ S ∧ (a.es.getD i dE).text.size ≤ S) ∧
  (∀ i, i < a.rs.length → (a.rs.getD i dR).2.l.length ≤ S ∧ ∀ j, j < (a.rs.getD i dR).2.l.length → ((a.rs.getD i dR).2.l.getD j dV).tx.size ≤ S)
def totW : List Actm → Nat
  | [] => 0
  | a :: t => 8 * (a.es.length + a.rs.length + a.ps) + totW t
end Go.Proofs.YtfbgnpfhjbiikaaGreatDoor

namespace Go.Proofs.YtfbgnpfhjbiikaaGreatDoor
open Go Go.RowKit
set_option maxRecDepth 100000 in
set_option maxHeartbeats 2000000 in
theorem ref18_same (m : List (ByteArray × Cel)) (v1 v2 : Value) (w : World) (h1 : IsRows w v1 m) (h2 : IsRows w v2 m) (hl : m.length ≤ 1099511627776) (hc : ∀ i, i < m.length → (m.getD i dR).2.l.length ≤ 65536) :
    Calls Tryz.prog 15 #[v1, v2] w fun e w' => e = .returned (.bool true) ∧ Below w.heap.size w w' := by
  obtain ⟨a1, cap1, rfl, hc1⟩ := h1
  obtain ⟨a2, cap2, rfl, hc2⟩ := h2
  have Hc1 := Lib.hid hc1; have Hc2 := Lib.hid hc2; have Hcl := Lib.hid hc; clear hc1 hc2 hc
  have hLB : ((m.length : Int) != (m.length : Int)) = false := by simp
  go_enter Tryz.func15, Tryz.ntmps15
  go_wp2_with fail
  go_loopw [5] (fun i wr => ∃ k : Nat, k ≤ m.length ∧ i = .int .i64 k ∧ Hid (Below w.heap.size w wr)) (fun i _ => m.length - (intOf i).toNat)
  case atStart => exact ⟨0, Nat.zero_le _, rfl, Lib.hid (Below.refl _ _)⟩
  case round =>
    obtain ⟨k, hk, rfl, Hbw⟩ := hrel
    by_cases hlt : k < m.length
    · rcases Hc1.out with hn | ⟨b1, o1, rfl, hl1, hcc1⟩
      · subst hn; simp at hlt
      rcases Hc2.out with hn | ⟨b2, o2, rfl, hl2, hcc2⟩
      · subst hn; simp at hlt
      have hlt2 : (k : Int) < (m.length : Int) := by omega
      obtain ⟨g1, g2, s1, g3, hs1⟩ := hcc1 k hlt
      obtain ⟨g4, g5, s2, g6, hs2⟩ := hcc2 k hlt
      have hcl := Hcl.out k hlt
      obtain ⟨x, hx⟩ : ∃ x, x = m.getD k dR := ⟨_, rfl⟩
      rw [← hx] at g1 g2 hs1 g4 g5 hs2 hcl
      clear hx hcc1 hcc2
      have HS1 := Lib.hid hs1; have HS2 := Lib.hid hs2
      obtain ⟨va, vc, rfl, _⟩ := hs1
      obtain ⟨ua, uc, rfl, _⟩ := hs2
      have HS : Hid (∀ w', Below wr.heap.size wr w' → Calls Tryz.prog 50 #[.agg #[.int .u64 x.2.last, .slice va x.2.l.length vc], .agg #[.int .u64 x.2.last, .slice ua x.2.l.length uc]] w' fun e w'' => e = .returned (.bool true) ∧ Below w'.heap.size w' w'') :=
        Lib.hid (fun w' hb => ref17_same x.2 _ _ w' (HS1.out.below (Hbw.out.trans (hb.mono Hbw.out.size)) (Nat.le_refl _)) (HS2.out.below (Hbw.out.trans (hb.mono Hbw.out.size)) (Nat.le_refl _)) hcl)
      have keepS : Hid (∀ w', Below wr.heap.size wr w' → w'.cell? ⟨b1, o1 + k * 3, none⟩ = some (.string x.1) ∧ w'.cell? ⟨b1, o1 + k * 3 + 1, none⟩ = some (.int .u64 x.2.last) ∧ w'.cell? ⟨b1, o1 + k * 3 + 2, none⟩ = some (.slice va x.2.l.length vc) ∧ w'.cell? ⟨b2, o2 + k * 3, none⟩ = some (.string x.1) ∧ w'.cell? ⟨b2, o2 + k * 3 + 1, none⟩ = some (.int .u64 x.2.last) ∧ w'.cell? ⟨b2, o2 + k * 3 + 2, none⟩ = some (.slice ua x.2.l.length uc) ∧ Hid (Below wr.heap.size wr w')) := Lib.hid (fun w' h => by
        have hb := Hbw.out.trans (h.mono Hbw.out.size)
        exact ⟨(hb.cell hl1).trans g1, (hb.cell hl1).trans g2, (hb.cell hl1).trans g3, (hb.cell hl2).trans g4, (hb.cell hl2).trans g5, (hb.cell hl2).trans g6, Lib.hid h⟩)
      have keepB : Hid (∀ w' : World, (w'.cell? ⟨b1, o1 + k * 3, none⟩ = some (.string x.1) ∧ w'.cell? ⟨b1, o1 + k * 3 + 1, none⟩ = some (.int .u64 x.2.last) ∧ w'.cell? ⟨b1, o1 + k * 3 + 2, none⟩ = some (.slice va x.2.l.length vc) ∧ w'.cell? ⟨b2, o2 + k * 3, none⟩ = some (.string x.1) ∧ w'.cell? ⟨b2, o2 + k * 3 + 1, none⟩ = some (.int .u64 x.2.last) ∧ w'.cell? ⟨b2, o2 + k * 3 + 2, none⟩ = some (.slice ua x.2.l.length uc) ∧ Hid (Below wr.heap.size wr w')) → Below wr.heap.size wr w') := Lib.hid (fun w' h => h.2.2.2.2.2.2.out)
      have hB : (x.1.toList == x.1.toList) = true := by simp
      clear g1 g2 g3 g4 g5 g6
      go_wp2_with fail
      refine wp_region_quiet (C := fun w' => w'.cell? ⟨b1, o1 + k * 3, none⟩ = some (.string x.1) ∧ w'.cell? ⟨b1, o1 + k * 3 + 1, none⟩ = some (.int .u64 x.2.last) ∧ w'.cell? ⟨b1, o1 + k * 3 + 2, none⟩ = some (.slice va x.2.l.length vc) ∧ w'.cell? ⟨b2, o2 + k * 3, none⟩ = some (.string x.1) ∧ w'.cell? ⟨b2, o2 + k * 3 + 1, none⟩ = some (.int .u64 x.2.last) ∧ w'.cell? ⟨b2, o2 + k * 3 + 2, none⟩ = some (.slice ua x.2.l.length uc) ∧ Hid (Below wr.heap.size wr w')) (by kernel_rfl) (by kernel_rfl) (keepS.out _ (Below.drew (Below.refl _ _))) ?_
      refine quiet_plain rfl (Value.slice (some ⟨b1, o1, none⟩) m.length cap1) (fun w' hw' => ?_) ?_
      · obtain ⟨f1, f2, f3, f4, f5, f6, f7⟩ := hw'
        go_simp
      go_frame
      refine quiet_plain rfl (Value.int .i64 k) (fun w' hw' => ?_) ?_
      · obtain ⟨f1, f2, f3, f4, f5, f6, f7⟩ := hw'
        go_simp
      go_frame
      refine quiet_plain rfl (Value.pointer (some ⟨b1, o1 + k * 3, none⟩)) (fun w' hw' => ?_) ?_
      · obtain ⟨f1, f2, f3, f4, f5, f6, f7⟩ := hw'
        go_simp
      go_frame
      refine quiet_plain rfl (Value.pointer (some ⟨b1, o1 + k * 3, none⟩)) (fun w' hw' => ?_) ?_
      · obtain ⟨f1, f2, f3, f4, f5, f6, f7⟩ := hw'
        go_simp
      go_frame
      refine quiet_plain rfl (Value.string x.1) (fun w' hw' => ?_) ?_
      · obtain ⟨f1, f2, f3, f4, f5, f6, f7⟩ := hw'
        go_simp
      go_frame
      refine quiet_plain rfl (Value.slice (some ⟨b2, o2, none⟩) m.length cap2) (fun w' hw' => ?_) ?_
      · obtain ⟨f1, f2, f3, f4, f5, f6, f7⟩ := hw'
        go_simp
      go_frame
      refine quiet_plain rfl (Value.int .i64 k) (fun w' hw' => ?_) ?_
      · obtain ⟨f1, f2, f3, f4, f5, f6, f7⟩ := hw'
        go_simp
      go_frame
      refine quiet_plain rfl (Value.pointer (some ⟨b2, o2 + k * 3, none⟩)) (fun w' hw' => ?_) ?_
      · obtain ⟨f1, f2, f3, f4, f5, f6, f7⟩ := hw'
        go_simp
      go_frame
      refine quiet_plain rfl (Value.pointer (some ⟨b2, o2 + k * 3, none⟩)) (fun w' hw' => ?_) ?_
      · obtain ⟨f1, f2, f3, f4, f5, f6, f7⟩ := hw'
        go_simp
      go_frame
      refine quiet_plain rfl (Value.string x.1) (fun w' hw' => ?_) ?_
      · obtain ⟨f1, f2, f3, f4, f5, f6, f7⟩ := hw'
        go_simp
      go_frame
      refine quiet_plain rfl (Value.bool false) (fun w' hw' => ?_) ?_
      · obtain ⟨f1, f2, f3, f4, f5, f6, f7⟩ := hw'
        go_simp
      go_frame
      refine quiet_plain rfl (Value.bool false) (fun w' hw' => ?_) ?_
      · obtain ⟨f1, f2, f3, f4, f5, f6, f7⟩ := hw'
        go_simp
      go_frame
      refine quiet_plain' (by rfl) (Value.slice (some ⟨b1, o1, none⟩) m.length cap1) (fun w' hw' => ?_) ?_
      · obtain ⟨f1, f2, f3, f4, f5, f6, f7⟩ := hw'
        go_simp
      go_frame
      refine quiet_plain' (by rfl) (Value.int .i64 k) (fun w' hw' => ?_) ?_
      · obtain ⟨f1, f2, f3, f4, f5, f6, f7⟩ := hw'
        go_simp
      go_frame
      refine quiet_plain' (by rfl) (Value.pointer (some ⟨b1, o1 + k * 3, none⟩)) (fun w' hw' => ?_) ?_
      · obtain ⟨f1, f2, f3, f4, f5, f6, f7⟩ := hw'
        go_simp
      go_frame
      refine quiet_plain' (by rfl) (Value.pointer (some ⟨b1, o1 + k * 3 + 1, none⟩)) (fun w' hw' => ?_) ?_
      · obtain ⟨f1, f2, f3, f4, f5, f6, f7⟩ := hw'
        go_simp
      go_frame
      refine quiet_plain' (by rfl) (Value.agg #[.int .u64 x.2.last, .slice va x.2.l.length vc]) (fun w' hw' => ?_) ?_
      · obtain ⟨f1, f2, f3, f4, f5, f6, f7⟩ := hw'
        go_simp
      go_frame
      refine quiet_plain' (by rfl) (Value.slice (some ⟨b2, o2, none⟩) m.length cap2) (fun w' hw' => ?_) ?_
      · obtain ⟨f1, f2, f3, f4, f5, f6, f7⟩ := hw'
        go_simp
      go_frame
      refine quiet_plain' (by rfl) (Value.int .i64 k) (fun w' hw' => ?_) ?_
      · obtain ⟨f1, f2, f3, f4, f5, f6, f7⟩ := hw'
        go_simp
      go_frame
      refine quiet_plain' (by rfl) (Value.pointer (some ⟨b2, o2 + k * 3, none⟩)) (fun w' hw' => ?_) ?_
      · obtain ⟨f1, f2, f3, f4, f5, f6, f7⟩ := hw'
        go_simp
      go_frame
      refine quiet_plain' (by rfl) (Value.pointer (some ⟨b2, o2 + k * 3 + 1, none⟩)) (fun w' hw' => ?_) ?_
      · obtain ⟨f1, f2, f3, f4, f5, f6, f7⟩ := hw'
        go_simp
      go_frame
      refine quiet_plain' (by rfl) (Value.agg #[.int .u64 x.2.last, .slice ua x.2.l.length uc]) (fun w' hw' => ?_) ?_
      · obtain ⟨f1, f2, f3, f4, f5, f6, f7⟩ := hw'
        go_simp
      go_frame
      refine quiet_call' (by rfl) (Value.bool true) 50 #[Value.agg #[.int .u64 x.2.last, .slice va x.2.l.length vc], Value.agg #[.int .u64 x.2.last, .slice ua x.2.l.length uc]] (fun w' hw' => ⟨?_, ?_⟩) ?_
      · obtain ⟨f1, f2, f3, f4, f5, f6, f7⟩ := hw'
        go_simp
      · exact (HS.out w' (keepB.out _ hw')).mono (fun e w6 ⟨he, hb⟩ => ⟨he, keepS.out _ ((keepB.out _ hw').trans (hb.mono (keepB.out _ hw').size))⟩)
      go_frame
      refine quiet_plain' (by rfl) (Value.bool false) (fun w' hw' => ?_) ?_
      · obtain ⟨f1, f2, f3, f4, f5, f6, f7⟩ := hw'
        go_simp
      go_frame
      refine quiet_plain rfl (Value.bool false) (fun w' hw' => ?_) ?_
      · obtain ⟨f1, f2, f3, f4, f5, f6, f7⟩ := hw'
        go_simp
      go_frame
      refine wpQuiet_nil ?_
      intro w' hw'
      have hbx := Lib.hid (keepB.out _ hw')
      clear hw'
      go_wp2_with fail
      go_roundw
      case rel => exact ⟨k + 1, by omega, by go_num, Lib.hid (Hbw.out.trans (hbx.out.mono Hbw.out.size))⟩
      case measure => simp [intOf]; omega
    · have hge : (m.length : Int) ≤ (k : Int) := by omega
      go_wp2_with fail
      go_ret
      exact ⟨rfl, Hbw.out⟩
end Go.Proofs.YtfbgnpfhjbiikaaGreatDoor

namespace Go.Proofs.YtfbgnpfhjbiikaaGreatDoor
open Go Go.ChangeShapes Go.WideShapes Go.ChangeAt Go.RowKit
theorem list6 {α : Type} {l : List α} (h : l.length = 6) : ∃ c0 c1 c2 c3 c4 c5, l = [c0, c1, c2, c3, c4, c5] := by
  match l, h with
  | [c0, c1, c2, c3, c4, c5], _ => exact ⟨c0, c1, c2, c3, c4, c5, rfl⟩
def edtData {H : Type} (e : Edt) : DataW H := .agg [.lit (.int .u8 e.kind), .lit (.string e.path.data.toList), .lit (.bool e.any), .lit (.int .u64 e.want), .lit (.int .u64 e.n), .lit (.string e.text.data.toList)]
def edtCells (e : Edt) : List Value := [.int .u8 e.kind, .string e.path, .bool e.any, .int .u64 e.want, .int .u64 e.n, .string e.text]
theorem cU8 : Tryz.prog.cellsOf 5 = 1 := by kernel_rfl
theorem cStr : Tryz.prog.cellsOf 9 = 1 := by kernel_rfl
theorem cBool : Tryz.prog.cellsOf 4 = 1 := by kernel_rfl
theorem cU64 : Tryz.prog.cellsOf 43 = 1 := by kernel_rfl
theorem cEdt : Tryz.prog.cellsOf 55 = 6 := by kernel_rfl
theorem wfNat8 {z : Int} (h : (Lit.int .u8 z).wf = true) : ∃ n : Nat, z = n := by
  refine ⟨z.toNat, ?_⟩
  simp only [Lit.wf, Bool.and_eq_true, decide_eq_true_eq] at h
  have h1 := h.1
  rw [show IntKind.min .u8 = 0 from rfl] at h1
  omega
theorem wfNat64 {z : Int} (h : (Lit.int .u64 z).wf = true) : ∃ n : Nat, z = n := by
  refine ⟨z.toNat, ?_⟩
  simp only [Lit.wf, Bool.and_eq_true, decide_eq_true_eq] at h
  have h1 := h.1
  rw [show IntKind.min .u64 = 0 from rfl] at h1
  omega
section
variable {H : Type} {enc : TypeId × Value → H} {w : World} {base : Nat} {sp : Nat → Bool} {held : Bool}
theorem trod_edt {fuel : Nat} {cs : List Value} {x : DataW H × List MemPlace} (h : DataW.trod enc Tryz.prog w base sp held fuel 55 cs = some x) : ∃ e : Edt, cs = edtCells e ∧ x = (edtData e, []) := by
  obtain ⟨xs, n, _, rfl, hl, hlen, hf⟩ := DataW.trod_struct Tryz.underlying55 h
  rw [cEdt] at hl
  obtain ⟨c0, c1, c2, c3, c4, c5, rfl⟩ := list6 hl
  obtain ⟨y0, y1, y2, y3, y4, y5, rfl⟩ := list6 hlen
  have h0 : DataW.trod enc Tryz.prog w base sp held n 5 [c0] = some y0 := by simpa [cU8] using hf 0 _ rfl
  have h1 : DataW.trod enc Tryz.prog w base sp held n 9 [c1] = some y1 := by simpa [cStr] using hf 1 _ rfl
  have h2 : DataW.trod enc Tryz.prog w base sp held n 4 [c2] = some y2 := by simpa [cBool] using hf 2 _ rfl
  have h3 : DataW.trod enc Tryz.prog w base sp held n 43 [c3] = some y3 := by simpa [cU64] using hf 3 _ rfl
  have h4 : DataW.trod enc Tryz.prog w base sp held n 43 [c4] = some y4 := by simpa [cU64] using hf 4 _ rfl
  have h5 : DataW.trod enc Tryz.prog w base sp held n 9 [c5] = some y5 := by simpa [cStr] using hf 5 _ rfl
  obtain ⟨z0, e0, rfl, w0⟩ := DataW.trod_int Tryz.underlying5 h0
  obtain ⟨s1, e1, rfl, _⟩ := DataW.trod_string Tryz.underlying9 h1
  obtain ⟨b2, e2, rfl⟩ := DataW.trod_bool Tryz.underlying4 h2
  obtain ⟨z3, e3, rfl, w3⟩ := DataW.trod_int Tryz.underlying43 h3
  obtain ⟨z4, e4, rfl, w4⟩ := DataW.trod_int Tryz.underlying43 h4
  obtain ⟨s5, e5, rfl, _⟩ := DataW.trod_string Tryz.underlying9 h5
  obtain ⟨n0, rfl⟩ := wfNat8 w0
  obtain ⟨n3, rfl⟩ := wfNat64 w3
  obtain ⟨n4, rfl⟩ := wfNat64 w4
  refine ⟨⟨n0, s1, b2, n3, n4, s5⟩, ?_, ?_⟩
  · simp only [List.cons.injEq, and_true] at e0 e1 e2 e3 e4 e5
    rw [e0, e1, e2, e3, e4, e5]; rfl
  · first | rfl | simp [edtData]
end
section
variable {H : Type} {enc : TypeId × Value → H} {w : World} {base : Nat} {sp : Nat → Bool} {held : Bool}
end
end Go.Proofs.YtfbgnpfhjbiikaaGreatDoor

namespace Go.Proofs.YtfbgnpfhjbiikaaGreatDoor
open Go Go.RowKit
open Go.Maps (has size Canon CanonK Tidy IsMap KeysOf Keyed Merged)
def Bare (w : World) (k : Nat) : Prop := ∀ o v, w.cell? ⟨k, o, none⟩ = some v → (∀ n, v ≠ .int .u64 n) ∧ ∀ s, v ≠ .string s
theorem Bare.noVers {w : World} {k : Nat} (h : Bare w k) : NoVers w k := fun o n _s h1 _ => (h o _ h1).1 n rfl
theorem CelMap.bare {w : World} {b : Nat} {M : DataW Cel} (h : CelMap w b M) : Bare w b := by
  obtain ⟨D, ho, _⟩ := h
  intro o v h1
  rw [ownsMap_none ho] at h1; cases h1
theorem TabAt.bare {w : World} {t b : Nat} {q1 q2 B : Int} {M : DataW Cel} (h : TabAt w t b q1 q2 M B) : Bare w t := by
  intro o v h1
  rcases (show o = 0 ∨ o = 1 ∨ o = 2 ∨ o = 3 ∨ ∃ j, o = j + 4 from by rcases o with _ | _ | _ | _ | j <;> simp) with rfl | rfl | rfl | rfl | ⟨j, rfl⟩
  · rw [h.c0] at h1; cases h1; exact ⟨fun n => (by simp), fun s => (by simp)⟩
  · rw [h.c1] at h1; cases h1; exact ⟨fun n => (by simp), fun s => (by simp)⟩
  · rw [h.c2] at h1; cases h1; exact ⟨fun n => (by simp), fun s => (by simp)⟩
  · rw [h.c3] at h1; cases h1; exact ⟨fun n => (by simp), fun s => (by simp)⟩
  · rw [h.c4] at h1; cases h1
theorem IsRows.but {S : Nat → Prop} {w w' : World} {v : Value} {l : List (ByteArray × Cel)} (h : IsRows w v l) (hb : ButS S w w') (hS : ∀ k, S k → Bare w k) : IsRows w' v l := by
  obtain ⟨a, cap, hv, h⟩ := h
  refine ⟨a, cap, hv, ?_⟩
  rcases h with h | ⟨b2, off, ha, hlt, hc⟩
  · exact Or.inl h
  · by_cases hl : l = []
    · exact Or.inl hl
    have hn : ¬ S b2 := by
      intro hs
      obtain ⟨h1, _⟩ := hc 0 (List.length_pos_iff.2 hl)
      exact (hS b2 hs _ _ h1).2 _ rfl
    refine Or.inr ⟨b2, off, ha, by have := hb.size; omega, fun i hi => ?_⟩
    obtain ⟨h1, h2, s, h3, hs⟩ := hc i hi
    exact ⟨(hb.cell hlt hn).trans h1, (hb.cell hlt hn).trans h2, s, (hb.cell hlt hn).trans h3, hs.but hb (fun k hk => (hS k hk).noVers)⟩
theorem IsNums.but {S : Nat → Prop} {w w' : World} {v : Value} {l : List Nat} (h : IsNums w v l) (hb : ButS S w w') (hS : ∀ k, S k → Bare w k) : IsNums w' v l := by
  obtain ⟨a, cap, hv, h⟩ := h
  refine ⟨a, cap, hv, ?_⟩
  rcases h with h | ⟨b2, off, ha, hlt, hc⟩
  · exact Or.inl h
  · by_cases hl : l = []
    · exact Or.inl hl
    have hn : ¬ S b2 := by
      intro hs
      exact (hS b2 hs _ _ (hc 0 (List.length_pos_iff.2 hl))).1 _ rfl
    exact Or.inr ⟨b2, off, ha, by have := hb.size; omega, fun i hi => (hb.cell hlt hn).trans (hc i hi)⟩

def nextM (r : (Nat × Nat) × DataW Cel × List Nat × Int) (M : DataW Cel) : DataW Cel := if r.1.2 = 0 then r.2.1 else M
def nextB (r : (Nat × Nat) × DataW Cel × List Nat × Int) (B : Int) : Int := if r.1.2 = 0 then r.2.2.2 else B
def nextV (r : (Nat × Nat) × DataW Cel × List Nat × Int) : List Nat := if r.1.2 = 0 then r.2.2.1 else []
def AppGives (r : (Nat × Nat) × DataW Cel × List Nat × Int) (M : DataW Cel) (B : Int) (t b : Nat) (q1 q2 : Int) (w : World) (e : Ending) (w' : World) : Prop :=
  ∃ v, e = .returned (.tuple #[v, .int .i64 r.1.1, .int .i64 r.1.2]) ∧ w'.ownsRow w.heap.size 43 1 v (nextV r).length ((nextV r).map (fun n : Nat => Value.int .u64 n)) ∧ TabAt w' t b q1 q2 (nextM r M) (nextB r B) ∧ ButS (fun k => k = t ∨ k = b) w w'
theorem tab_app (w : World) {t b : Nat} {q1 q2 B : Int} {M : DataW Cel} (h : TabAt w t b q1 q2 M B) (hg : Good Tryz.prog 9 M) (hm : MX w) (v : Value) (l : List Edt) (hv : IsEdts w v l) (hl : l.length ≤ 1048576)
    (hsM : size M ≤ 1073741824) (hB0 : -1125899906842624 ≤ B) (hB1 : B ≤ 1125899906842624) (hp : ∀ i, i < l.length → (l.getD i dE).path.size ≤ 140737488351232 ∧ (l.getD i dE).text.size ≤ 9223372036854775807) :
    Calls Tryz.prog 16 #[.pointer (some ⟨t, 0, none⟩), v] w (AppGives (triedT M B q1 q2 l) M B t b q1 q2 w) := by
  refine (tab_apply w h hg hm v l hv hl hsM hB0 hB1 hp).mono fun e w' hh => ?_
  rcases hh with ⟨h0, rfl, hb⟩ | ⟨h0, v1, rfl, hown, hT, hb⟩
  · refine ⟨.slice none 0 0, rfl, ?_, ?_, ButS.of hb⟩
    · unfold nextV; rw [if_neg h0]; exact World.ownsRow_nil _ _ _ _
    · unfold nextM nextB; rw [if_neg h0, if_neg h0]; exact h.below hb
  · refine ⟨v1, ?_, ?_, ?_, hb⟩
    · rw [tried_zero h0]; rfl
    · unfold nextV; rw [if_pos h0]; exact hown
    · unfold nextM nextB; rw [if_pos h0, if_pos h0]; exact hT

theorem next_good {M : DataW Cel} {B q1 q2 : Int} {l : List Edt} (hg : Good Tryz.prog 9 M) : Good Tryz.prog 9 (nextM (triedT M B q1 q2 l) M) ∧ size (nextM (triedT M B q1 q2 l) M) ≤ size M + l.length ∧
    B - l.length * 33000 ≤ nextB (triedT M B q1 q2 l) B ∧ nextB (triedT M B q1 q2 l) B ≤ B + l.length * 33000 := by
  obtain ⟨a1, a2, a3, a4⟩ := runT_facts Tryz.underlying9 l (vs := []) (B := B) (i := 0) hg
  rw [← tried_eq (q1 := q1) (q2 := q2)] at a1 a2 a3 a4
  unfold nextM nextB
  split
  · exact ⟨a1, a2, a3, a4⟩
  · refine ⟨hg, by omega, ?_, ?_⟩ <;> omega
end Go.Proofs.YtfbgnpfhjbiikaaGreatDoor

namespace Go.Proofs.YtfbgnpfhjbiikaaGreatDoor
open Go Go.RowKit
def AllU (w : World) (o : Option Nat) : Prop := ∀ g, o = some g → ∀ j u, w.cell? ⟨g, j, none⟩ = some u → ∃ n : Int, u = .int .u64 n
theorem AllU.noVers {w : World} {o : Option Nat} (h : AllU w o) : ∀ k, some k = o → NoVers w k := by
  intro k hk o' n s _ h2
  obtain ⟨m, hm⟩ := h k hk.symm _ _ h2
  cases hm
theorem zeroCells_mem {c : Value} : ∀ {n : Nat} {u : Value}, u ∈ Builtin.zeroCells #[c] n → u = c := by
  intro n u hu
  unfold Builtin.zeroCells at hu
  simp at hu
  obtain ⟨k, _, h⟩ := hu
  rw [Nat.mod_one] at h
  simpa using h.symm
def NoStr (w : World) (k : Nat) : Prop := ∀ o s, w.cell? ⟨k, o, none⟩ ≠ some (.string s)
theorem Bare.noStr {w : World} {k : Nat} (h : Bare w k) : NoStr w k := fun o s e => (h o _ e).2 s rfl
theorem AllU.noStr {w : World} {o : Option Nat} (h : AllU w o) : ∀ k, some k = o → NoStr w k := by
  intro k hk o' s e
  obtain ⟨m, hm⟩ := h k hk.symm _ _ e
  cases hm
theorem IsRows.but2 {S : Nat → Prop} {w w' : World} {v : Value} {l : List (ByteArray × Cel)} (h : IsRows w v l) (hb : ButS S w w') (hS : ∀ k, S k → NoStr w k ∧ NoVers w k) : IsRows w' v l := by
  obtain ⟨a, cap, hv, h⟩ := h
  refine ⟨a, cap, hv, ?_⟩
  rcases h with h | ⟨b2, off, ha, hlt, hc⟩
  · exact Or.inl h
  · by_cases hl : l = []
    · exact Or.inl hl
    have hn : ¬ S b2 := by
      intro hs
      obtain ⟨h1, _⟩ := hc 0 (List.length_pos_iff.2 hl)
      exact (hS b2 hs).1 _ _ h1
    refine Or.inr ⟨b2, off, ha, by have := hb.size; omega, fun i hi => ?_⟩
    obtain ⟨h1, h2, s, h3, hs⟩ := hc i hi
    exact ⟨(hb.cell hlt hn).trans h1, (hb.cell hlt hn).trans h2, s, (hb.cell hlt hn).trans h3, hs.but hb (fun k hk => (hS k hk).2)⟩
theorem IsNums.but2 {S : Nat → Prop} {w w' : World} {v : Value} {l : List Nat} (h : IsNums w v l) (hb : ButS S w w') (hS : ∀ k, S k → v.ownBlock ≠ some k) : IsNums w' v l := by
  obtain ⟨a, cap, hv, h⟩ := h
  refine ⟨a, cap, hv, ?_⟩
  rcases h with h | ⟨b2, off, ha, hlt, hc⟩
  · exact Or.inl h
  · have hn : ¬ S b2 := fun hs => hS b2 hs (by rw [hv, ha]; rfl)
    exact Or.inr ⟨b2, off, ha, by have := hb.size; omega, fun i hi => (hb.cell hlt hn).trans (hc i hi)⟩
theorem AllU.but {S : Nat → Prop} {w w' : World} {o : Option Nat} (h : AllU w o) (hb : ButS S w w') (hS : ∀ g, o = some g → ¬ S g ∧ g < w.heap.size) : AllU w' o := by
  intro g hg j u hu
  obtain ⟨h1, h2⟩ := hS g hg
  exact h g hg j u ((hb.cell (p := ⟨g, j, none⟩) h2 h1).symm.trans hu)
theorem butRow {w w' : World} {o : Option Nat} (hg : w.grownBy w' o) : ButS (fun k => some k = o) w w' := ⟨hg.os, hg.tape, hg.output, hg.size, fun k hk hn => hg.block k hk hn⟩
section
variable {P : Program} {w : World}
theorem append_allU {t ty e : TypeId} {i : TypeInfo} (ht : P.underlying t = some (.slice e)) (hi : P.info? e = some i) (hz : i.zero = some (.int .u64 0)) (hsize : i.size = 1) (hby : i.bytes = 8)
    {base n : Nat} {v : Value} {xs : List Value} (hown : w.ownsRow base e 1 v n xs) (hall : AllU w v.ownBlock) {a : Addr} {c : Nat} {x : Int} (hnews : w.cell? (a.add 0) = some (.int .u64 x)) (hn : n ≤ 1099511627776)
    {v' : Value} {w' : World} (hrun : (Builtin.append_ #[t, t] ty #[v, .slice (some a) 1 c]).run P w = .ok v' w') : AllU w' v'.ownBlock := by
  have hnw : ∀ j u, [Value.int .u64 x][j]? = some u → w.cell? (a.add j) = some u := by
    intro j u hu
    cases j with
    | zero => simp at hu; subst hu; exact hnews
    | succ j => simp at hu
  have hmem : ∀ {L : List Value} {k : Nat} {t' : TypeId} {W : World} {g : Nat}, (∀ u ∈ L, ∃ n : Int, u = .int .u64 n) → W.heap[g]? = some (.cells (L.toArray ++ Builtin.zeroCells #[.int .u64 0] k) t' (0, 0)) → AllU W (some g) := by
    intro L k t' W g hL hh g' hg' j u hu
    cases hg'
    unfold World.cell? at hu
    rw [hh] at hu
    have hm : u ∈ L.toArray ++ Builtin.zeroCells #[.int .u64 0] k := Array.mem_of_getElem? hu
    rcases Array.mem_append.1 hm with hm | hm
    · exact hL u (by simpa using hm)
    · exact ⟨0, zeroCells_mem hm⟩
  rcases hown.2 with ⟨rfl, rfl⟩ | ⟨g, cap, cur, rfl, hbg, hg, hnc, hcm, hcs, htake⟩
  · have hr := run_append_nil (P := P) w t ty e i _ ht hi hz a 1 c [.int .u64 x] (by simp [hsize]) hnw (by decide) (by decide) (by rw [hby]; decide)
    rw [hrun] at hr
    injection hr with h1 h2
    subst h1; subst h2
    exact hmem (L := [.int .u64 x]) (by simp) (by rw [← show w.drew.heap.size = w.heap.size from rfl]; exact (MapKept.heap_alloc w.drew _).1)
  · have hcur : ∀ u ∈ cur.toList, ∃ n : Int, u = .int .u64 n := by
      intro u hu
      obtain ⟨j, hj⟩ := List.getElem?_of_mem hu
      refine hall g rfl j u ?_
      unfold World.cell?
      rw [hg]
      simpa using hj
    by_cases hroom : n + 1 ≤ cap
    · have hr := run_append_room (P := P) w t ty e i ht hi g n cap cur hg a 1 c [.int .u64 x] (by simp [hsize]) hnw (by intro u hu; rcases List.mem_singleton.1 hu with rfl; rfl) hroom (by rw [hsize, hcs]; simp; omega)
      rw [hrun] at hr
      injection hr with h1 h2
      subst h1; subst h2
      intro g' hg' j u hu
      cases hg'
      unfold World.cell? at hu
      rw [setRow_heap w g cur _ e _ hg] at hu
      have hm := Array.mem_of_getElem? hu
      simp only [List.mem_toArray, List.mem_append] at hm
      rcases hm with (hm | hm) | hm
      · exact hcur u (List.mem_of_mem_take hm)
      · rcases List.mem_singleton.1 hm with rfl; exact ⟨x, rfl⟩
      · exact hcur u (List.mem_of_mem_drop hm)
    · have holds : ∀ j u, xs[j]? = some u → w.cell? ((⟨g, 0, none⟩ : Addr).add j) = some u := hown.cells (g := g) rfl
      have hr := run_append_grow (P := P) w t ty e i _ ht hi hz ⟨g, 0, none⟩ n cap xs (by rw [hsize]; exact hown.1) holds a 1 c [.int .u64 x] (by simp [hsize]) hnw (by omega) (by omega) (growslice_fits (by omega) (by rw [hby]; omega))
      rw [hrun] at hr
      injection hr with h1 h2
      subst h1; subst h2
      refine hmem (L := xs ++ [.int .u64 x]) ?_ (k := (grownCap w (n + 1) cap e - (n + 1))) (t' := e) ?_
      · intro u hu
        rcases List.mem_append.1 hu with hu | hu
        · exact hcur u (by rw [← htake] at hu; exact List.mem_of_mem_take hu)
        · rcases List.mem_singleton.1 hu with rfl; exact ⟨x, rfl⟩
      · have := (MapKept.heap_alloc w.drew (.cells (xs.toArray ++ [Value.int .u64 x].toArray ++ Builtin.zeroCells (Value.int .u64 0).cells (grownCap w (n + 1) cap e - (n + 1))) e)).1
        simpa [Value.cells] using this
end
theorem wpList_append_u {P : Program} (w : World) {ops : Array Oper} {rest : List Oper} {o : Oper} {a : Act} {Q : Exit → Act → World → Prop} (hgd : o.guard = none) (s x : Operand) (t : TypeId)
    (ho : o.op = .call { callee := .builtin .append, args := #[s, x], argTypes := #[t, t] })
    (base : Nat) (e : TypeId) (i : TypeInfo) (ht : P.underlying t = some (.slice e)) (hi : P.info? e = some i) (hz : i.zero = some (.int .u64 0))
    (hsize : i.size = 1) (hby : i.bytes = 8)
    (v : Value) (n : Nat) (xs : List Value) (hs : a.eval s = v) (hown : w.ownsRow base e 1 v n xs) (hall : AllU w v.ownBlock)
    (ad : Addr) (c : Nat) (z : Int) (hx : a.eval x = .slice (some ad) 1 c) (hnews : w.cell? (ad.add 0) = some (.int .u64 z))
    (hn : n ≤ 1099511627776) (hbase : base ≤ w.heap.size)
    (h : ∀ g cap w', w'.ownsRow base e 1 (.slice (some ⟨g, 0, none⟩) (n + 1) cap) (n + 1) (xs ++ [.int .u64 z]) → w.grownBy w' v.ownBlock → (v.ownBlock = some g ∨ g = w.heap.size) → g < w'.heap.size → AllU w' (some g) → wpList P ops Q rest (a.put o.dst (.slice (some ⟨g, 0, none⟩) (n + 1) cap)) w') : wpList P ops Q (o :: rest) a w := by
  refine wpList_plain hgd fun K hK => ?_
  have hnw : ∀ j u, [Value.int .u64 z][j]? = some u → w.cell? (ad.add j) = some u := by
    intro j u hu
    cases j with
    | zero => simp at hu; subst hu; exact hnews
    | succ j => simp at hu
  obtain ⟨g, cap, w', hr, h2, h3, h4, h5⟩ := run_append_lies (P := P) w t o.type base e i (.int .u64 0) 1 8 ht hi hz hsize hby rfl (by decide) v n xs hown ad 1 c [.int .u64 z] rfl hnw (by intro u hu; rcases List.mem_singleton.1 hu with rfl; rfl) (by decide) (by unfold maxLen; omega) (by omega) hbase w.heap.size rfl
  have hU := append_allU ht hi hz hsize hby hown hall hnews hn hr
  unfold Oper.wp execOp
  simp only [ho, resolve, invoke, builtin, Sem.run_bind, Sem.run_pure, Result.andThen_ok, List.map_toArray, List.map_cons, List.map_nil, hs, hx, hr]
  exact hK _ _ (h g cap w' h2 h3 h4 h5 hU)
end Go.Proofs.YtfbgnpfhjbiikaaGreatDoor

namespace Go.Proofs.YtfbgnpfhjbiikaaGreatDoor
open Go Go.ChangeShapes Go.WideShapes Go.ChangeAt Go.RowKit
theorem addrThree {a : Addr} (h : a = ⟨a.block, a.off, none⟩) (i j : Nat) : (a.add i).add j = ⟨a.block, a.off + i + j, none⟩ := by
  rw [h, addrAdd, addrAdd]
section
variable {H : Type} {enc : TypeId × Value → H} {w : World} {base : Nat} {sp : Nat → Bool} {held : Bool}
def RowsWf (l : List (ByteArray × Cel)) : Prop := ∀ i, i < l.length → (l.getD i dR).2.last < 18446744073709551616
end
end Go.Proofs.YtfbgnpfhjbiikaaGreatDoor

namespace Go.Proofs.YtfbgnpfhjbiikaaGreatDoor
open Go Go.RowKit
open Pth
open Go.Maps (has size Canon CanonK Tidy IsMap KeysOf Keyed Merged)
def OkRow (r : ByteArray × Cel) : Prop := mayP r.1 = true ∧ mayC r.2 = true ∧ r.2.l ≠ []
theorem Good.putRow {M : DataW Cel} (h : Good Tryz.prog 9 M) {r : ByteArray × Cel} (hr : OkRow r) (hl : r.2.last < 18446744073709551616) : Good Tryz.prog 9 (M.put (kS r.1) (.held r.2)) := by
  obtain ⟨d, a, b⟩ := hr
  have hK : KeysOf Tryz.prog 9 (kS r.1) := ⟨_, keyS Tryz.underlying9 (by have := mayP_size d; unfold maxLen; omega)⟩
  refine ⟨Maps.canonK_put strKeyed.one hK _ h.canon, fun k hk' => ?_⟩
  by_cases e : k = kS r.1
  · subst e
    exact ⟨_, _, rfl, Maps.atKey_put_same (canonK_isMap h.canon) (kS_key _) _ _, a, b, hl, d⟩
  · rw [Maps.has_put_other e] at hk'
    rw [Maps.atKey_put_other e]; exact h.cells k hk'
end Go.Proofs.YtfbgnpfhjbiikaaGreatDoor

namespace Go.Proofs.YtfbgnpfhjbiikaaGreatDoor
open Go Go.RowKit
open Pth
open Go.Maps (has size Canon CanonK Tidy IsMap KeysOf Keyed Merged)
abbrev Rw := ByteArray × Cel
def pL (x : Rw) : List UInt8 := x.1.data.toList
theorem pL_inj {x y : ByteArray} (h : x.data.toList = y.data.toList) : x = y := ba_ext h
def Up (l : List Rw) : Prop := l.Pairwise (fun x y => pL x < pL y)
theorem up_ext : ∀ (a b : List Rw), Up a → Up b → (∀ x, x ∈ a ↔ x ∈ b) → a = b
  | [], [], _, _, _ => rfl
  | [], y :: t, _, _, h => by have := (h y).2 (by simp); simp at this
  | x :: t, [], _, _, h => by have := (h x).1 (by simp); simp at this
  | x :: s, y :: t, ha, hb, h => by
    unfold Up at ha hb
    rw [List.pairwise_cons] at ha hb
    have hxy : x = y := by
      rcases List.mem_cons.1 ((h x).1 (by simp)) with e | h1
      · exact e
      · rcases List.mem_cons.1 ((h y).2 (by simp)) with e | h2
        · exact e.symm
        · exact absurd (List.lt_trans (ha.1 y h2) (hb.1 x h1)) (List.lt_irrefl _)
    subst hxy
    congr 1
    refine up_ext s t ha.2 hb.2 fun z => ?_
    constructor
    · intro hz
      rcases List.mem_cons.1 ((h z).1 (List.mem_cons_of_mem _ hz)) with e | h1
      · subst e; exact absurd (ha.1 z hz) (List.lt_irrefl _)
      · exact h1
    · intro hz
      rcases List.mem_cons.1 ((h z).2 (List.mem_cons_of_mem _ hz)) with e | h1
      · subst e; exact absurd (hb.1 z hz) (List.lt_irrefl _)
      · exact h1

def wStep (r : Rw) (s : List Rw × Bool) (x : Rw) : List Rw × Bool :=
  let a : List Rw × Bool := if s.2 = false ∧ ¬ pL x < pL r then (s.1 ++ [r], true) else s
  (if x.1 ≠ r.1 then a.1 ++ [x] else a.1, a.2)
def withS (r : Rw) (l : List Rw) : List Rw × Bool := l.foldl (wStep r) ([], false)
def withR (l : List Rw) (r : Rw) : List Rw := if (withS r l).2 then (withS r l).1 else (withS r l).1 ++ [r]
theorem withS_snoc (r : Rw) (l : List Rw) (x : Rw) : withS r (l ++ [x]) = wStep r (withS r l) x := by
  unfold withS; rw [List.foldl_append]; rfl
theorem withS_take {r : Rw} {l : List Rw} {k : Nat} (h : k < l.length) : withS r (l.take (k + 1)) = wStep r (withS r (l.take k)) (l.getD k dR) := by
  rw [List.take_succ_eq_append_getElem h, withS_snoc, List.getD_eq_getElem?_getD, List.getElem?_eq_getElem h]; rfl
theorem wStep_done (r : Rw) (l : List Rw) : ∀ m : List Rw, l.foldl (wStep r) (m, true) = (m ++ l.filter (fun x => decide (x.1 ≠ r.1)), true) := by
  induction l with
  | nil => intro m; simp
  | cons x t ih =>
    intro m
    rw [List.foldl_cons]
    by_cases h : x.1 = r.1
    · have : wStep r (m, true) x = (m, true) := by unfold wStep; simp [h]
      rw [this, ih]; simp [h]
    · have : wStep r (m, true) x = (m ++ [x], true) := by unfold wStep; simp [h]
      rw [this, ih]; simp [h]
theorem lt_tri (a b : List UInt8) : a < b ∨ a = b ∨ b < a := by
  by_cases h1 : a < b
  · exact Or.inl h1
  by_cases h2 : b < a
  · exact Or.inr (Or.inr h2)
  · exact Or.inr (Or.inl (List.le_antisymm (List.not_lt.1 h2) (List.not_lt.1 h1)))
theorem lt_ne {x y : Rw} (h : pL x < pL y) : x.1 ≠ y.1 := by
  intro e
  unfold pL at h
  rw [e] at h; exact List.lt_irrefl _ h
theorem filter_none {l : List Rw} {p : Rw → Bool} (h : ∀ x ∈ l, p x = false) : l.filter p = [] := by
  rw [List.filter_eq_nil_iff]; intro a ha; rw [h a ha]; simp
theorem filter_all {l : List Rw} {p : Rw → Bool} (h : ∀ x ∈ l, p x = true) : l.filter p = l := by
  rw [List.filter_eq_self]; exact h
theorem wStep_go (r : Rw) (l : List Rw) : ∀ m : List Rw, Up l → l.foldl (wStep r) (m, false) = if l.all (fun x => decide (pL x < pL r)) then (m ++ l, false)
    else (m ++ l.filter (fun x => decide (pL x < pL r)) ++ r :: l.filter (fun x => decide (pL r < pL x)), true) := by
  induction l with
  | nil => intro m _; simp
  | cons x t ih =>
    intro m hu
    unfold Up at hu
    rw [List.pairwise_cons] at hu
    rw [List.foldl_cons]
    by_cases h : pL x < pL r
    · have hne := lt_ne h
      have e1 : wStep r (m, false) x = (m ++ [x], false) := by unfold wStep; simp [h, hne]
      have h2 : ¬ pL r < pL x := fun h' => List.lt_irrefl _ (List.lt_trans h h')
      rw [e1, ih _ hu.2]
      simp only [List.all_cons, h, decide_true, Bool.true_and, List.filter_cons, h2, decide_false, if_true, Bool.false_eq_true, if_false]
      split <;> simp
    · have hgt : ∀ y ∈ t, pL r < pL y := by
        intro y hy
        rcases lt_tri (pL x) (pL r) with h1 | h1 | h1
        · exact absurd h1 h
        · rw [← h1]; exact hu.1 y hy
        · exact List.lt_trans h1 (hu.1 y hy)
      have f1 : t.filter (fun x => decide (pL x < pL r)) = [] := filter_none fun y hy => by
        have := hgt y hy
        simp only [decide_eq_false_iff_not]
        intro h'; exact List.lt_irrefl _ (List.lt_trans this h')
      have f2 : t.filter (fun x => decide (pL r < pL x)) = t := filter_all fun y hy => by simp [hgt y hy]
      have f3 : t.filter (fun x => decide (x.1 ≠ r.1)) = t := filter_all fun y hy => by
        have := (lt_ne (hgt y hy)).symm
        simpa using this
      simp only [List.all_cons, h, decide_false, Bool.false_and, Bool.false_eq_true, if_false, List.filter_cons, f1, f2]
      by_cases he : x.1 = r.1
      · have e1 : wStep r (m, false) x = (m ++ [r], true) := by unfold wStep; simp [h, he]
        have h2 : ¬ pL r < pL x := by unfold pL; rw [he]; exact List.lt_irrefl _
        rw [e1, wStep_done, f3]
        simp [h2]
      · have e1 : wStep r (m, false) x = (m ++ [r] ++ [x], true) := by unfold wStep; simp [h, he]
        have h2 : pL r < pL x := by
          rcases lt_tri (pL x) (pL r) with h1 | h1 | h1
          · exact absurd h1 h
          · exact absurd (pL_inj h1) he
          · exact h1
        rw [e1, wStep_done, f3]
        simp [h2]
theorem with_eq {l : List Rw} (h : Up l) (r : Rw) : withR l r = l.filter (fun x => decide (pL x < pL r)) ++ r :: l.filter (fun x => decide (pL r < pL x)) := by
  unfold withR withS
  rw [wStep_go r l [] h]
  by_cases ha : l.all (fun x => decide (pL x < pL r)) = true
  · rw [if_pos ha]
    have h1 : ∀ x ∈ l, pL x < pL r := fun x hx => by simpa using List.all_eq_true.1 ha x hx
    rw [filter_all (p := fun x => decide (pL x < pL r)) (fun x hx => by simp [h1 x hx]), filter_none (p := fun x => decide (pL r < pL x)) (fun x hx => by
      have := h1 x hx
      simp only [decide_eq_false_iff_not]
      intro h'; exact List.lt_irrefl _ (List.lt_trans this h'))]
    simp
  · rw [if_neg ha]; simp
theorem with_mem {l : List Rw} (h : Up l) (r x : Rw) : x ∈ withR l r ↔ x = r ∨ (x ∈ l ∧ x.1 ≠ r.1) := by
  rw [with_eq h]
  simp only [List.mem_append, List.mem_cons, List.mem_filter, decide_eq_true_eq]
  constructor
  · rintro (⟨h1, h2⟩ | h1 | ⟨h1, h2⟩)
    · exact Or.inr ⟨h1, lt_ne h2⟩
    · exact Or.inl h1
    · exact Or.inr ⟨h1, (lt_ne h2).symm⟩
  · rintro (h1 | ⟨h1, h2⟩)
    · exact Or.inr (Or.inl h1)
    · rcases lt_tri (pL x) (pL r) with h3 | h3 | h3
      · exact Or.inl ⟨h1, h3⟩
      · exact absurd (pL_inj h3) h2
      · exact Or.inr (Or.inr ⟨h1, h3⟩)
theorem with_up {l : List Rw} (h : Up l) (r : Rw) : Up (withR l r) := by
  rw [with_eq h]
  unfold Up
  rw [List.pairwise_append, List.pairwise_cons]
  refine ⟨h.filter _, ⟨fun y hy => ?_, h.filter _⟩, fun x hx y hy => ?_⟩
  · simpa using (List.mem_filter.1 hy).2
  · have h1 : pL x < pL r := by simpa using (List.mem_filter.1 hx).2
    rcases List.mem_cons.1 hy with rfl | hy
    · exact h1
    · have h2 : pL r < pL y := by simpa using (List.mem_filter.1 hy).2
      exact List.lt_trans h1 h2

def AtG (l : List Rw) (p : ByteArray) (z : Int) : Prop := (∃ k : Nat, k < l.length ∧ z = k ∧ (l.getD k dR).1 = p ∧ ∀ j, j < k → (l.getD j dR).1 ≠ p) ∨ (z = -1 ∧ ∀ x ∈ l, x.1 ≠ p)
def cellR (l : List Rw) (p : ByteArray) : Cel := match l.find? (fun x => decide (x.1 = p)) with | some x => x.2 | none => ⟨0, []⟩
theorem up_inj {l : List Rw} (h : Up l) {x y : Rw} (hx : x ∈ l) (hy : y ∈ l) (e : x.1 = y.1) : x = y := by
  induction l with
  | nil => cases hx
  | cons a t ih =>
    unfold Up at h
    rw [List.pairwise_cons] at h
    rcases List.mem_cons.1 hx with e1 | hx
    · rcases List.mem_cons.1 hy with e2 | hy
      · rw [e1, e2]
      · rw [e1] at e; exact absurd e (lt_ne (h.1 y hy))
    · rcases List.mem_cons.1 hy with e2 | hy
      · rw [e2] at e; exact absurd e.symm (lt_ne (h.1 x hx))
      · exact ih h.2 hx hy
theorem cellR_of {l : List Rw} (h : Up l) {x : Rw} (hx : x ∈ l) : cellR l x.1 = x.2 := by
  unfold cellR
  cases hf : l.find? (fun y => decide (y.1 = x.1)) with
  | none =>
    have := List.find?_eq_none.1 hf x hx
    simp at this
  | some y =>
    have h1 := List.mem_of_find?_eq_some hf
    have h2 : y.1 = x.1 := by simpa using List.find?_some hf
    rw [up_inj h h1 hx h2]
theorem cellR_none {l : List Rw} {p : ByteArray} (h : ∀ x ∈ l, x.1 ≠ p) : cellR l p = ⟨0, []⟩ := by
  unfold cellR
  rw [List.find?_eq_none.2 (fun x hx => by simpa using h x hx)]
theorem rows_up {M : DataW Cel} (c : CanonK (KeysOf Tryz.prog 9) M) : Up (rowsL M) := by
  obtain ⟨es, rfl, hp, hk⟩ := canon_strs c
  have h1 := List.pairwise_mergeSort (le := fun x y : List UInt8 => decide (x ≤ y)) (fun a b c h1 h2 => by simp only [decide_eq_true_eq] at *; exact List.le_trans h1 h2) (fun a b => by simp only [Bool.or_eq_true, decide_eq_true_eq]; exact List.le_total a b) (strKeys (.map es : DataW Cel))
  have h2 : ((strKeys (.map es : DataW Cel)).mergeSort (fun x y => decide (x ≤ y))).Nodup := (List.mergeSort_perm _ _).nodup_iff.2 (strKeys_nodup hp hk)
  unfold Up rowsL
  refine List.pairwise_map.2 ?_
  refine (h1.and h2).imp ?_
  rintro a b ⟨h3, h4⟩
  show a < b
  have h5 : a ≤ b := by simpa using h3
  rcases lt_tri a b with h | h | h
  · exact h
  · exact absurd h h4
  · exact absurd (List.le_antisymm h5 (List.le_of_lt h)) h4
theorem bs_of_toList (p : ByteArray) : bs p.data.toList = p := ba_ext rfl
theorem rows_mem {M : DataW Cel} (c : CanonK (KeysOf Tryz.prog 9) M) (x : Rw) : x ∈ rowsL M ↔ has M (kS x.1) = true ∧ cellAt M x.1 = x.2 := by
  unfold rowsL
  rw [List.mem_map]
  constructor
  · rintro ⟨k, hk, rfl⟩
    exact ⟨keysL_mem c hk, rfl⟩
  · rintro ⟨h1, h2⟩
    refine ⟨x.1.data.toList, ?_, ?_⟩
    · obtain ⟨es, rfl, hp, hk⟩ := canon_strs c
      unfold keysL
      exact (List.mergeSort_perm _ _).mem_iff.2 ((mem_strKeys' hk _).2 h1)
    · unfold rowAt
      rw [bs_of_toList, h2]
theorem rows_length {M : DataW Cel} (c : CanonK (KeysOf Tryz.prog 9) M) : (rowsL M).length = size M := by
  unfold rowsL; rw [List.length_map]; exact keysL_length c
theorem cellR_rows {M : DataW Cel} (c : CanonK (KeysOf Tryz.prog 9) M) (p : ByteArray) : cellR (rowsL M) p = cellAt M p := by
  cases h : has M (kS p) with
  | true =>
    exact cellR_of (x := (p, cellAt M p)) (rows_up c) ((rows_mem c _).2 ⟨h, rfl⟩)
  | false =>
    rw [cellR_none, cellAt_none h]
    intro x hx e
    have := ((rows_mem c x).1 hx).1
    rw [e, h] at this; cases this
theorem cellAt_put_same {M : DataW Cel} (c : CanonK (KeysOf Tryz.prog 9) M) (p : ByteArray) (d : Cel) : cellAt (M.put (kS p) (.held d)) p = d := by
  unfold cellAt
  rw [Maps.atKey_put_same (canonK_isMap c) (kS_key _)]
theorem cellAt_put_other {M : DataW Cel} {p q : ByteArray} (h : q ≠ p) (d : Cel) : cellAt (M.put (kS p) (.held d)) q = cellAt M q := by
  unfold cellAt
  rw [Maps.atKey_put_other (kS_ne h)]
theorem keysOf_path {p : ByteArray} (h : mayP p = true) : KeysOf Tryz.prog 9 (kS p) := ⟨_, keyS Tryz.underlying9 (by have := mayP_size h; unfold maxLen; omega)⟩
theorem rows_put {M : DataW Cel} (c : CanonK (KeysOf Tryz.prog 9) M) {p : ByteArray} (hp : KeysOf Tryz.prog 9 (kS p)) (d : Cel) : rowsL (M.put (kS p) (.held d)) = withR (rowsL M) (p, d) := by
  have c2 := Maps.canonK_put strKeyed.one hp (.held d) c
  refine up_ext _ _ (rows_up c2) (with_up (rows_up c) _) fun x => ?_
  rw [rows_mem c2, with_mem (rows_up c), rows_mem c]
  by_cases e : x.1 = p
  · rw [e, Maps.has_put_same (canonK_isMap c) (kS_key _), cellAt_put_same c]
    constructor
    · rintro ⟨_, h⟩; left; exact Prod.ext e h.symm
    · rintro (h | ⟨_, h⟩)
      · exact ⟨rfl, by rw [h]⟩
      · exact absurd rfl h
  · rw [Maps.has_put_other (kS_ne e), cellAt_put_other e]
    constructor
    · intro h; exact Or.inr ⟨h, e⟩
    · rintro (h | ⟨h, _⟩)
      · exact absurd (congrArg Prod.fst h) e
      · exact h
def bytesR : List Rw → Nat
  | [] => 0
  | x :: t => x.1.size + sizeL x.2.l + bytesR t
theorem bytesR_append (a b : List Rw) : bytesR (a ++ b) = bytesR a + bytesR b := by
  induction a with
  | nil => simp [bytesR]
  | cons x t ih => simp only [List.cons_append, bytesR, ih]; omega
theorem bytesR_take {l : List Rw} {k : Nat} (h : k < l.length) : bytesR (l.take (k + 1)) = bytesR (l.take k) + ((l.getD k dR).1.size + sizeL (l.getD k dR).2.l) := by
  rw [List.take_succ_eq_append_getElem h, bytesR_append, List.getD_eq_getElem?_getD, List.getElem?_eq_getElem h]; simp [bytesR]
theorem bytesR_three (l : List Rw) (p : ByteArray) : bytesR l = bytesR (l.filter (fun x => decide (pL x < p.data.toList))) + bytesR (l.filter (fun x => decide (x.1 = p))) + bytesR (l.filter (fun x => decide (p.data.toList < pL x))) := by
  induction l with
  | nil => rfl
  | cons x t ih =>
    simp only [List.filter_cons, bytesR]
    rcases lt_tri (pL x) p.data.toList with h | h | h
    · have h1 : ¬ p.data.toList < pL x := fun h' => List.lt_irrefl _ (List.lt_trans h h')
      have h2 : x.1 ≠ p := by intro e; unfold pL at h; rw [e] at h; exact List.lt_irrefl _ h
      simp only [h, h1, h2, decide_true, decide_false, if_true, Bool.false_eq_true, if_false, bytesR]; omega
    · have h1 : ¬ p.data.toList < pL x := by rw [h]; exact List.lt_irrefl _
      have h3 : ¬ pL x < p.data.toList := by rw [h]; exact List.lt_irrefl _
      have h2 : x.1 = p := pL_inj h
      simp only [h1, h2, h3, decide_true, decide_false, if_true, Bool.false_eq_true, if_false, bytesR]; omega
    · have h1 : ¬ pL x < p.data.toList := fun h' => List.lt_irrefl _ (List.lt_trans h h')
      have h2 : x.1 ≠ p := by intro e; unfold pL at h; rw [e] at h; exact List.lt_irrefl _ h
      simp only [h, h1, h2, decide_true, decide_false, if_true, Bool.false_eq_true, if_false, bytesR]; omega
theorem up_eqs {l : List Rw} (h : Up l) (p : ByteArray) : l.filter (fun x => decide (x.1 = p)) = if ∃ x ∈ l, x.1 = p then [(p, cellR l p)] else [] := by
  split
  · rename_i hx
    obtain ⟨x, hx, rfl⟩ := hx
    refine up_ext _ _ (h.filter _) (List.pairwise_singleton _ _) fun y => ?_
    rw [List.mem_filter, List.mem_singleton, cellR_of h hx]
    constructor
    · rintro ⟨h1, h2⟩
      exact up_inj h h1 hx (by simpa using h2)
    · rintro rfl; exact ⟨hx, by simp⟩
  · rename_i hx
    exact filter_none fun x h' => by simpa using fun e => hx ⟨x, h', e⟩
theorem rows_eqs {M : DataW Cel} (c : CanonK (KeysOf Tryz.prog 9) M) (p : ByteArray) : bytesR ((rowsL M).filter (fun x => decide (x.1 = p))) = if has M (kS p) = true then p.size + sizeL (cellAt M p).l else 0 := by
  rw [up_eqs (rows_up c)]
  cases h : has M (kS p) with
  | true =>
    rw [if_pos ⟨(p, cellAt M p), (rows_mem c _).2 ⟨h, rfl⟩, rfl⟩, if_pos rfl, cellR_rows c]
    simp [bytesR]
  | false =>
    rw [if_neg, if_neg (by simp)]
    · rfl
    · rintro ⟨x, hx, rfl⟩
      have := ((rows_mem c x).1 hx).1
      rw [h] at this; cases this
theorem weight_has {M : DataW Cel} (h : Good Tryz.prog 9 M) (p : ByteArray) : (if has M (kS p) = true then p.size + sizeL (cellAt M p).l else 0) = weightE p (cellAt M p) := by
  cases hh : has M (kS p) with
  | true =>
    obtain ⟨p', c, e, hc, _, h2, _⟩ := h.cells _ hh
    have : cellAt M p = c := cellAt_of hc
    rw [if_pos rfl, this]
    unfold weightE
    rw [if_neg (by simpa using h2)]
  | false =>
    rw [if_neg (by simp), cellAt_none hh]; rfl
theorem bytes_with {l : List Rw} (h : Up l) (r : Rw) : bytesR (withR l r) + bytesR (l.filter (fun x => decide (x.1 = r.1))) = bytesR l + (r.1.size + sizeL r.2.l) := by
  rw [with_eq h, bytesR_append, bytesR_three l r.1]
  show _ + (r.1.size + sizeL r.2.l + _) + _ = _
  unfold pL; omega
theorem bytes_put {M : DataW Cel} (h : Good Tryz.prog 9 M) {p : ByteArray} (hp : KeysOf Tryz.prog 9 (kS p)) {d : Cel} (hd : d.l ≠ []) : (bytesR (rowsL (M.put (kS p) (.held d))) : Int) = bytesR (rowsL M) + ((weightE p d : Int) - (weightE p (cellAt M p) : Int)) := by
  have h1 := bytes_with (rows_up h.canon) (p, d)
  rw [rows_eqs h.canon, weight_has h] at h1
  rw [rows_put h.canon hp]
  have h2 : weightE p d = p.size + sizeL d.l := by unfold weightE; rw [if_neg (by simpa using hd)]
  rw [h2]
  simp only at h1 ⊢
  omega
def editR (l : List Rw) (x : Edt) : Cel × Nat := if x.kind < 1 ∨ 3 < x.kind ∨ mayP x.path = false then (cellR l x.path, 2) else outcomeE (cellR l x.path) x
def runR (l : List Rw) (vs : List Nat) (i : Nat) : List Edt → (Nat × Nat) × List Rw × List Nat
  | [] => ((0, 0), l, vs)
  | x :: t => if (editR l x).2 ≠ 0 then ((i, (editR l x).2), l, vs) else runR (withR l (x.path, (editR l x).1)) (vs ++ [(editR l x).1.last]) (i + 1) t
theorem editR_rows {M : DataW Cel} (c : CanonK (KeysOf Tryz.prog 9) M) (x : Edt) : editR (rowsL M) x = editE M x := by
  unfold editR editE; rw [cellR_rows c]
theorem run_rows (l : List Edt) : ∀ {M : DataW Cel} {vs : List Nat} {B : Int} {i : Nat}, Good Tryz.prog 9 M → B = bytesR (rowsL M) →
    runR (rowsL M) vs i l = ((runT M vs B i l).1, rowsL (runT M vs B i l).2.1, (runT M vs B i l).2.2.1) ∧ (runT M vs B i l).2.2.2 = bytesR (rowsL (runT M vs B i l).2.1) := by
  induction l with
  | nil => intro M vs B i _ hB; exact ⟨rfl, hB⟩
  | cons x t ih =>
    intro M vs B i hg hB
    by_cases he : (editE M x).2 = 0
    · rw [runT_go he, runR, editR_rows hg.canon, if_neg (by simp [he])]
      obtain ⟨a, b, c, d⟩ := edit_ok hg he
      have hK := keysOf_path d
      have h1 := ih (M := stepM M x) (vs := vs ++ [(editE M x).1.last]) (B := B + ((weightE x.path (editE M x).1 : Int) - (weightE x.path (cellAt M x.path) : Int))) (i := i + 1) (hg.step Tryz.underlying9 he) (by
        unfold stepM
        rw [bytes_put hg hK b, hB])
      have e1 : rowsL (stepM M x) = withR (rowsL M) (x.path, (editE M x).1) := by unfold stepM; exact rows_put hg.canon hK _
      rw [e1] at h1
      exact h1
    · rw [runT_stop he, runR, editR_rows hg.canon, if_pos he]
      exact ⟨rfl, hB⟩
end Go.Proofs.YtfbgnpfhjbiikaaGreatDoor

namespace Go.Proofs.YtfbgnpfhjbiikaaGreatDoor
open Go Go.RowKit
theorem may_many {c : Cel} {L : List Ver} (hL : c.l = L) (h : 8 < L.length) : mayC c = false := by
  cases e : mayC c with
  | false => rfl
  | true => have := may_len e; rw [hL] at this; omega

set_option maxRecDepth 100000 in
set_option maxHeartbeats 4000000 in
theorem ref17_may (c : Cel) (v : Value) (w : World) (hv : IsVers w v c.l) (hl : c.l.length ≤ 9223372036854775807) :
    Calls Tryz.prog 73 #[.agg #[.int .u64 c.last, v]] w fun e w' => e = .returned (.bool (mayC c)) ∧ Below w.heap.size w w' := by
  obtain ⟨cl, L⟩ := c
  obtain ⟨a, cap, rfl, hc⟩ := hv
  simp only at hc hl ⊢
  have HC := Lib.hid hc; clear hc
  have HB1 := Lib.hid ((Below.refl w.heap.size w).alloc (Nat.le_refl _) (.cells #[.int .u64 cl, .slice a L.length cap] 46))
  by_cases h8 : 8 < L.length
  · have H := Lib.hid (may_many (c := ⟨cl, L⟩) rfl h8)
    have h8i : (8 : Int) < (L.length : Int) := by omega
    go_enter Tryz.func73, Tryz.ntmps73
    go_wp2_with fail
    go_ret
    exact ⟨ret_bool H.out.symm, HB1.out⟩
  have h8i : ¬ (8 : Int) < (L.length : Int) := by omega
  have H8 : Hid (L.length ≤ 8) := Lib.hid (by omega)
  clear h8
  go_enter Tryz.func73, Tryz.ntmps73
  go_wp2_with fail
  go_loopw [3, 4] (fun x i wr => ∃ k y : Nat, k ≤ L.length ∧ i = .int .i64 k ∧ x = .int .u64 y ∧ Hid (okFrom 0 (L.take k) = some y) ∧ Hid (Below (w.heap.size + 1) (w.alloc (.cells #[.int .u64 cl, .slice a L.length cap] 46)) wr)) (fun _ i _ => L.length - (intOf i).toNat)
  case atStart => exact ⟨0, 0, Nat.zero_le _, rfl, rfl, Lib.hid rfl, Lib.hid (Below.refl _ _)⟩
  case round =>
    obtain ⟨k, y, hk, rfl, rfl, hok, hbw⟩ := hrel
    have hsz := hbw.out.size
    have hsz1 : w.heap.size + 1 ≤ wr.heap.size := by simpa using hsz
    clear hsz
    have hbx0 : wr.cell? ⟨w.heap.size, 0, none⟩ = some (.int .u64 cl) := (hbw.out.cell (p := ⟨w.heap.size, 0, none⟩) (by show w.heap.size < w.heap.size + 1; omega)).trans (World.cell?_alloc_mark _ _ _ _ _)
    have hbx1 : wr.cell? ⟨w.heap.size, 1, none⟩ = some (.slice a L.length cap) := (hbw.out.cell (p := ⟨w.heap.size, 1, none⟩) (by show w.heap.size < w.heap.size + 1; omega)).trans (World.cell?_alloc_mark _ _ _ _ _)
    have HB0 := Lib.hid (HB1.out.trans (hbw.out.mono (Nat.le_succ _)))
    by_cases hlt : k < L.length
    · rcases HC.out with hn | ⟨b, off, rfl, hblt, hcc⟩
      · subst hn; simp at hlt
      obtain ⟨h1, h2, h3⟩ := hcc k hlt
      have g1 := (HB0.out.cell (p := ⟨b, off + k * 3, none⟩) hblt).trans h1
      have g2 := (HB0.out.cell (p := ⟨b, off + k * 3 + 1, none⟩) hblt).trans h2
      have g3 := (HB0.out.cell (p := ⟨b, off + k * 3 + 2, none⟩) hblt).trans h3
      clear h1 h2 h3 hcc
      obtain ⟨x, hx⟩ : ∃ x, x = L.getD k dV := ⟨_, rfl⟩
      rw [← hx] at g1 g2 g3
      have Hx := Lib.hid hx; clear hx
      have hltI : (k : Int) < (L.length : Int) := by omega
      rcases ver_cases y x with ⟨ho, hx⟩ | ⟨ho, hx⟩ | ⟨ho, hx⟩ | ⟨ho, hx⟩ | ⟨ho, hx⟩ | ⟨ho, hx⟩ | ⟨ho, hx⟩
      iterate 5
        · have Ho := Lib.hid ho; clear ho
          have hbn : ((x.st : Int) != 1) = !((x.st : Int) == 1) := rfl
          try rw [hx.2.2.1] at hbn
          try simp only [Bool.not_true, Bool.not_false] at hbn
          go_wp2
          go_ret
          refine ⟨ret_bool (may_bad rfl hlt hok.out (by rw [← Hx.out]; exact Ho.out)).symm, ?_⟩
          exact HB0.out.alloc (by omega) _
      iterate 2
        · have Ho := Lib.hid ho; clear ho
          have hbn : ((x.st : Int) != 1) = !((x.st : Int) == 1) := rfl
          try rw [hx.2.2.1] at hbn
          try simp only [Bool.not_true, Bool.not_false] at hbn
          go_wp2
          go_roundw
          case rel => exact ⟨k + 1, x.n, by omega, by go_num, rfl, Lib.hid (by rw [okFrom_snoc hlt hok.out, ← Hx.out, Ho.out]; rfl), Lib.hid (hbw.out.alloc (by simpa using hsz1) _)⟩
          case measure => simp [intOf]; omega
    · have hge : (L.length : Int) ≤ (k : Int) := by omega
      have H := Lib.hid (may_end (c := ⟨cl, L⟩) rfl hlt hok.out)
      have hbb : ((cl : Int) == (y : Int)) = decide (cl = y) := by
        by_cases e : cl = y
        · simp [e]
        · have : ¬ (cl : Int) = (y : Int) := by omega
          simp [e, this]
      go_wp2
      go_ret
      refine ⟨ret_bool ?_, HB0.out⟩
      rw [H.out]; simp [H8.out]

set_option maxRecDepth 100000 in
set_option maxHeartbeats 2000000 in
theorem ref17_now (c : Cel) (v : Value) (w : World) (hv : IsVers w v c.l) (hl : c.l.length ≤ 9223372036854775807) :
    Calls Tryz.prog 59 #[.agg #[.int .u64 c.last, v]] w fun e w' => e = .returned (.int .u64 (nowC c)) ∧ Below w.heap.size w w' := by
  obtain ⟨cl, L⟩ := c
  obtain ⟨a, cap, rfl, hc⟩ := hv
  simp only at hc hl ⊢
  have HC := Lib.hid hc; clear hc
  have HB1 := Lib.hid ((Below.refl w.heap.size w).alloc (Nat.le_refl _) (.cells #[.int .u64 cl, .slice a L.length cap] 46))
  by_cases h0 : L.length = 0
  · have hz : Hid (nowC ⟨cl, L⟩ = 0) := Lib.hid (by rw [List.length_eq_zero_iff.1 h0]; rfl)
    have hB : ((L.length : Int) == 0) = true := by simp [h0]
    clear h0
    go_enter Tryz.func59, Tryz.ntmps59
    go_wp2_with fail
    go_ret
    exact ⟨ret_int (by rw [hz.out]; rfl), HB1.out⟩
  · have hB : ((L.length : Int) == 0) = false := by rw [beq_eq_false_iff_ne]; omega
    obtain ⟨k, hk⟩ : ∃ k, k = L.length - 1 := ⟨_, rfl⟩
    have hlt : k < L.length := by omega
    rcases HC.out with hn | ⟨b, off, rfl, hblt, hcc⟩
    · subst hn; simp at h0
    obtain ⟨h1, h2, h3⟩ := hcc k hlt
    have g1 := (HB1.out.cell (p := ⟨b, off + k * 3, none⟩) hblt).trans h1
    have g2 := (HB1.out.cell (p := ⟨b, off + k * 3 + 1, none⟩) hblt).trans h2
    obtain ⟨x, hx⟩ : ∃ x, x = L.getD k dV := ⟨_, rfl⟩
    rw [← hx] at g1 g2
    have hz : Hid (nowC ⟨cl, L⟩ = if x.st = 1 then x.n else 0) := Lib.hid (by rw [hx, hk]; rfl)
    have hsub : (L.length : Int) - 1 = (k : Int) := by omega
    have hwk : IntKind.i64.wrap (k : Int) = (k : Int) := by rw [IntKind.wrap_i64]; omega
    have hki : (k : Int) < (L.length : Int) := by omega
    clear h1 h2 h3 hcc hx hk h0
    by_cases hs : x.st = 1
    · have hS : ((x.st : Int) != 1) = false := by simp [hs]
      have Hs := Lib.hid hs; clear hs
      go_enter Tryz.func59, Tryz.ntmps59
      go_wp2_with fail
      go_ret
      exact ⟨ret_int (by rw [hz.out, if_pos Hs.out]), HB1.out⟩
    · have hS : ((x.st : Int) != 1) = true := by simp; omega
      have Hs := Lib.hid hs; clear hs
      go_enter Tryz.func59, Tryz.ntmps59
      go_wp2_with fail
      go_ret
      exact ⟨ret_int (by rw [hz.out, if_neg Hs.out]; rfl), HB1.out⟩

set_option maxRecDepth 100000 in
set_option maxHeartbeats 1000000 in
theorem ref17_size (c : Cel) (v : Value) (w : World) (hv : IsVers w v c.l) (hl : c.l.length ≤ 65536) (hs : ∀ i, i < c.l.length → (c.l.getD i dV).tx.size ≤ 140737488351232) :
    Calls Tryz.prog 82 #[.agg #[.int .u64 c.last, v]] w fun e w' => e = .returned (.int .i64 (sizeL c.l)) ∧ Below w.heap.size w w' := by
  obtain ⟨cl, L⟩ := c
  obtain ⟨a, cap, rfl, hc⟩ := hv
  simp only at hc hl hs ⊢
  have HC := Lib.hid hc; have Hs := Lib.hid hs; clear hc hs
  have HB1 := Lib.hid ((Below.refl w.heap.size w).alloc (Nat.le_refl _) (.cells #[.int .u64 cl, .slice a L.length cap] 46))
  go_enter Tryz.func82, Tryz.ntmps82
  go_wp2_with fail
  go_loopw [3, 4] (fun n i wr => ∃ k N : Nat, k ≤ L.length ∧ i = .int .i64 k ∧ n = .int .i64 N ∧ Hid (N = sizeL (L.take k)) ∧ Hid (N ≤ k * 140737488351232) ∧ wr = w.alloc (.cells #[.int .u64 cl, .slice a L.length cap] 46)) (fun _ i _ => L.length - (intOf i).toNat)
  case atStart => exact ⟨0, 0, Nat.zero_le _, rfl, rfl, Lib.hid rfl, Lib.hid (by omega), rfl⟩
  case round =>
    obtain ⟨k, N, hk, rfl, rfl, hN, hNb, rfl⟩ := hrel
    have hNs : N ≤ 9223372036854775807 := by have := hNb.out; omega
    by_cases hlt : k < L.length
    · rcases HC.out with hn | ⟨b, off, rfl, hblt, hcc⟩
      · subst hn; simp at hlt
      obtain ⟨h1, h2, h3⟩ := hcc k hlt
      have g3 := (HB1.out.cell (p := ⟨b, off + k * 3 + 2, none⟩) hblt).trans h3
      have hx0 := Hs.out k hlt
      clear h1 h2 h3 hcc
      obtain ⟨x, hx⟩ : ∃ x, x = L.getD k dV := ⟨_, rfl⟩
      rw [← hx] at g3 hx0
      have Hx := Lib.hid hx; clear hx
      have hNx : N + x.tx.size ≤ 9223372036854775807 := by have := hNb.out; omega
      have Hx0 := Lib.hid hx0; clear hx0
      have hltI : (k : Int) < (L.length : Int) := by omega
      go_wp2_with fail
      go_roundw
      case rel => exact ⟨k + 1, N + x.tx.size, by omega, by go_num, by go_num, Lib.hid (by rw [sizeL_snoc hlt, ← hN.out, ← Hx.out]), Lib.hid (by have := hNb.out; have := Hx0.out; omega), trivial⟩
      case measure => simp [intOf]; omega
    · have hge : (L.length : Int) ≤ (k : Int) := by omega
      have H : Hid (N = sizeL L) := Lib.hid (by have := hN.out; rw [List.take_of_length_le (by omega)] at this; exact this)
      go_wp2_with fail
      go_ret
      exact ⟨ret_int (by rw [H.out]), HB1.out⟩

set_option maxRecDepth 100000 in
set_option maxHeartbeats 1000000 in
theorem ref17_at (c : Cel) (v : Value) (n : Nat) (w : World) (hv : IsVers w v c.l) (hl : c.l.length ≤ 65536) :
    Calls Tryz.prog 86 #[.agg #[.int .u64 c.last, v], .int .u64 n] w fun e w' => e = .returned (.int .i64 (idxV c.l n)) ∧ Below w.heap.size w w' := by
  obtain ⟨cl, L⟩ := c
  obtain ⟨a, cap, rfl, hc⟩ := hv
  simp only at hc hl ⊢
  have HC := Lib.hid hc; clear hc
  have HB1 := Lib.hid ((Below.refl w.heap.size w).alloc (Nat.le_refl _) (.cells #[.int .u64 cl, .slice a L.length cap] 46))
  go_enter Tryz.func86, Tryz.ntmps86
  go_wp2_with fail
  go_loopw [5] (fun i wr => ∃ k : Nat, k ≤ L.length ∧ i = .int .i64 k ∧ Hid (∀ j, j < k → (L.getD j dV).n ≠ n) ∧ wr = w.alloc (.cells #[.int .u64 cl, .slice a L.length cap] 46)) (fun i _ => L.length - (intOf i).toNat)
  case atStart => exact ⟨0, Nat.zero_le _, rfl, Lib.hid (fun j hj => absurd hj (Nat.not_lt_zero _)), rfl⟩
  case round =>
    obtain ⟨k, hk, rfl, hm, rfl⟩ := hrel
    by_cases hlt : k < L.length
    · rcases HC.out with hn | ⟨b, off, rfl, hblt, hcc⟩
      · subst hn; simp at hlt
      obtain ⟨h1, h2, h3⟩ := hcc k hlt
      have g1 := (HB1.out.cell (p := ⟨b, off + k * 3, none⟩) hblt).trans h1
      clear h1 h2 h3 hcc
      obtain ⟨x, hx⟩ : ∃ x, x = L.getD k dV := ⟨_, rfl⟩
      rw [← hx] at g1
      have Hx := Lib.hid hx; clear hx
      have hltI : (k : Int) < (L.length : Int) := by omega
      by_cases he : x.n = n
      · have hB : ((x.n : Int) == (n : Int)) = true := by simp [he]
        have H := Lib.hid (idxV_hit hlt hm.out (by rw [← Hx.out]; exact he))
        clear he
        go_wp2_with fail
        go_ret
        exact ⟨ret_int H.out.symm, HB1.out⟩
      · have hB : ((x.n : Int) == (n : Int)) = false := by rw [beq_eq_false_iff_ne]; omega
        have He := Lib.hid he; clear he
        go_wp2_with fail
        go_roundw
        case rel => exact ⟨k + 1, by omega, by go_num, Lib.hid (fun j hj => by
          rcases Nat.lt_or_ge j k with h | h
          · exact hm.out j h
          · obtain rfl : j = k := by omega
            rw [← Hx.out]; exact He.out), trivial⟩
        case measure => simp [intOf]; omega
    · have hge : (L.length : Int) ≤ (k : Int) := by omega
      have H := Lib.hid (idxV_miss (l := L) (n := n) (fun j hj => hm.out j (by omega)))
      go_wp2_with fail
      go_ret
      exact ⟨ret_int H.out.symm, HB1.out⟩
end Go.Proofs.YtfbgnpfhjbiikaaGreatDoor
