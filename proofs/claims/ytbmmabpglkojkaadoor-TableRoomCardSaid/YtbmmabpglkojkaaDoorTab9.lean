/- Contract: scriniumlaw18.works. -/
import Derived.Test.YtbmmabpglkojkaaDoorTab8
namespace Go.Proofs.YtbmmabpglkojkaaDoor
open Go Go.RowKit
open Pth
open Go.Maps (has size Canon CanonK Tidy IsMap KeysOf Keyed Merged)

def tA : ByteArray := ⟨#[97]⟩
def tB : ByteArray := ⟨#[98]⟩
def tC : ByteArray := ⟨#[99]⟩
def tX : ByteArray := ⟨#[120]⟩
def exE : List Edt := [⟨1, tA, false, 0, 0, tX⟩, ⟨2, tA, false, 1, 0, ByteArray.empty⟩, ⟨1, tB, true, 0, 0, ByteArray.empty⟩]
def exT : List Edt := [⟨1, tB, true, 0, 0, ByteArray.empty⟩, ⟨1, tC, true, 0, 0, ByteArray.empty⟩]
def exN : DataW Cel := .map [(kS tA, .held ⟨2, [⟨1, 1, tX⟩, ⟨2, 2, ByteArray.empty⟩]⟩), (kS tB, .held ⟨1, [⟨1, 1, ByteArray.empty⟩]⟩)]
theorem exN_eq : triedT (.map []) 0 2 100 exE = ((0, 0), exN, [1, 2, 1], 3) := by kernel_rfl
theorem exT_eq : (triedT exN 3 2 100 exT).1 = (2, 180) := by kernel_rfl
theorem exN_size : size exN = 2 := rfl
theorem exN_live (s : ByteArray) : (has exN (kS s) = true ∧ 0 < nowC (cellAt exN s)) ↔ s = tB := by
  constructor
  · rintro ⟨h, h2⟩
    unfold exN at h h2
    rw [Maps.has_eq] at h
    simp only [List.any_cons, List.any_nil, Bool.or_false, Bool.or_eq_true, sameKey_kS, decide_eq_true_eq] at h
    rcases h with e | e
    · subst e
      have : nowC (cellAt exN tA) = 0 := by kernel_rfl
      unfold exN at this
      omega
    · exact e.symm
  · rintro rfl
    exact ⟨by kernel_rfl, by have : nowC (cellAt exN tB) = 1 := by kernel_rfl
                             omega⟩
theorem nub_const (x : List UInt8) (l : List (List UInt8)) (h : ∀ y ∈ l, y = x) (hne : l ≠ []) : nub l = [x] := by
  induction l with
  | nil => exact absurd rfl hne
  | cons a t ih =>
    have ha := h a (by simp)
    subst ha
    by_cases ht : t = []
    · subst ht; simp [nub]
    · have := ih (fun y hy => h y (by simp [hy])) ht
      simp [nub, this]
theorem ex_names (L : List ByteArray) (h : ∀ s, s ∈ L ↔ (has exN (kS s) = true ∧ 0 < nowC (cellAt exN s))) : (namesL [] (L.map (·.data.toList))).map bs = [tB] := by
  have h1 : ∀ s, s ∈ L ↔ s = tB := fun s => (h s).trans (exN_live s)
  have hk : ∀ y ∈ kidsL [] (L.map (·.data.toList)), y = [98] := by
    intro y hy
    unfold kidsL at hy
    obtain ⟨z, hz, rfl⟩ := List.mem_map.1 hy
    obtain ⟨s, hs, rfl⟩ := List.mem_map.1 (List.mem_filter.1 hz).1
    rw [(h1 s).1 hs]; decide
  have hne : kidsL [] (L.map (·.data.toList)) ≠ [] := by
    intro e
    have hm : ([98] : List UInt8) ∈ kidsL [] (L.map (·.data.toList)) := by
      unfold kidsL
      refine List.mem_map.2 ⟨[98], List.mem_filter.2 ⟨List.mem_map.2 ⟨tB, (h1 tB).2 rfl, rfl⟩, by decide⟩, by decide⟩
    rw [e] at hm; cases hm
  unfold namesL
  rw [nub_const _ _ hk hne, List.mergeSort_singleton]
  rfl

theorem good_none (P : Program) (ks : TypeId) : Good P ks (.map []) := ⟨canonK_nil _, fun k hk => by cases hk⟩
def flatE : List Edt → List Value
  | [] => []
  | x :: t => .int .u8 x.kind :: .string x.path :: .bool x.any :: .int .u64 x.want :: .int .u64 x.n :: .string x.text :: flatE t
theorem flatE_at : ∀ (l : List Edt) (i : Nat), i < l.length → (flatE l)[i * 6]? = some (.int .u8 (l.getD i dE).kind) ∧ (flatE l)[i * 6 + 1]? = some (.string (l.getD i dE).path) ∧ (flatE l)[i * 6 + 2]? = some (.bool (l.getD i dE).any) ∧
    (flatE l)[i * 6 + 3]? = some (.int .u64 (l.getD i dE).want) ∧ (flatE l)[i * 6 + 4]? = some (.int .u64 (l.getD i dE).n) ∧ (flatE l)[i * 6 + 5]? = some (.string (l.getD i dE).text)
  | [], i, h => by simp at h
  | v :: t, 0, _ => ⟨rfl, rfl, rfl, rfl, rfl, rfl⟩
  | v :: t, i + 1, h => by
    have := flatE_at t i (by simpa using h)
    rw [show (i + 1) * 6 = i * 6 + 6 by omega]
    exact this
theorem IsEdts.new (w : World) (l : List Edt) (cap : Nat) (e : TypeId) (x : Nat × Nat) (C : Array Value) (hC : C = (flatE l).toArray) : IsEdts (w.alloc (.cells C e x)) (.slice (some ⟨w.heap.size, 0, none⟩) l.length cap) l := by
  subst hC
  refine ⟨_, _, rfl, Or.inr ⟨w.heap.size, 0, rfl, by simp, fun i hi => ?_⟩⟩
  obtain ⟨h0, h1, h2, h3, h4, h5⟩ := flatE_at l i hi
  simp only [Nat.zero_add, World.cell?_alloc_mark, List.getElem?_toArray]
  exact ⟨h0, h1, h2, h3, h4, h5⟩
theorem exE_small : ∀ i, i < exE.length → (exE.getD i dE).path.size ≤ 140737488351232 ∧ (exE.getD i dE).text.size ≤ 9223372036854775807 := by
  intro i hi
  have : exE.length = 3 := rfl
  rcases (show i = 0 ∨ i = 1 ∨ i = 2 by omega) with rfl | rfl | rfl <;> decide
theorem exT_small : ∀ i, i < exT.length → (exT.getD i dE).path.size ≤ 140737488351232 ∧ (exT.getD i dE).text.size ≤ 9223372036854775807 := by
  intro i hi
  have : exT.length = 2 := rfl
  rcases (show i = 0 ∨ i = 1 by omega) with rfl | rfl <;> decide
theorem exN_good : Good Tryd.prog 9 exN := by
  have h := (runT_facts Tryd.underlying9 exE (vs := []) (B := 0) (i := 0) (good_none Tryd.prog 9)).1
  rw [← tried_eq (q1 := 2) (q2 := 100), exN_eq] at h
  exact h

set_option maxRecDepth 100000 in
set_option maxHeartbeats 2000000 in
theorem law_works (w : World) (hm : MX w) : Calls Tryd.prog 7 #[] w fun e w' => e = .returned (.bool true) ∧ Below w.heap.size w w' := by
  have Hm := Lib.hid hm; clear hm
  have Hnew := Lib.hid (tab_new 2 100 w)
  go_enter Tryd.func7, Tryd.ntmps7
  go_wp2_with fail
  refine Hnew.out.mono ?_
  rintro e w1 ⟨t, b, rfl, ht, hbb, hT, hb1⟩
  have Hap := Lib.hid (fun (W : World) (v : Value) (hW : Below w1.heap.size w1 W) (hv : IsEdts W v exE) => tab_apply W (hT.below hW) (good_none _ _) (Hm.out.below (hb1.trans (hW.mono hb1.size)) (Nat.le_refl _)) v exE hv (by decide) (by decide) (by decide) (by decide) exE_small)
  rw [exN_eq] at Hap
  have Hb1 := Lib.hid hb1; have HT := Lib.hid hT; clear hb1 hT
  go_wp2_with fail
  refine (Hap.out _ _ ?_ ?_).mono ?_
  · exact (Below.refl _ _).alloc (Nat.le_refl _) _
  · exact IsEdts.new w1 exE 3 _ _ _ rfl
  rintro e w2 (⟨h, _⟩ | ⟨_, v2, rfl, hown, hT2, hbut⟩)
  · exact absurd rfl h
  simp only at hown hT2
  have hnums := IsNums.own hown
  obtain ⟨a2, c2, rfl⟩ := ownShape hown
  have hA : Below w.heap.size w (w1.alloc (.cells (flatE exE).toArray 40)) := Hb1.out.alloc Hb1.out.size _
  have hW2 : Below w.heap.size w w2 := hA.trans (hbut.below (by rintro k (rfl | rfl) <;> assumption) hA.size)
  have Htry := Lib.hid (fun (W : World) (v : Value) (hW : Below w2.heap.size w2 W) (hv : IsEdts W v exT) => tab_try W (hT2.below hW) exN_good (Hm.out.below (hW2.trans (hW.mono hW2.size)) (Nat.le_refl _)) v exT hv (by decide) (by decide) (by decide) (by decide) exT_small)
  rw [exT_eq] at Htry
  have Hsize := Lib.hid (fun (W : World) (hW : Below w2.heap.size w2 W) => tab_size W (hT2.below hW))
  rw [exN_size] at Hsize
  have Hlist := Lib.hid (fun (W : World) (hW : Below w2.heap.size w2 W) => tab_list W (hT2.below hW) exN_good (Hm.out.below (hW2.trans (hW.mono hW2.size)) (Nat.le_refl _)) ByteArray.empty (by decide) (by decide))
  have HW2 := Lib.hid hW2; have Hnums := Lib.hid hnums
  clear hown hnums hbut hA hW2 hT2 Hap
  go_wp2_with fail
  refine (Htry.out _ _ ?_ ?_).mono ?_
  · exact (Below.refl _ _).alloc (Nat.le_refl _) _
  · exact IsEdts.new w2 exT 2 _ _ _ rfl
  rintro e w3 ⟨rfl, hb3⟩
  have Hb3 := Lib.hid (((Below.refl w2.heap.size w2).alloc (Nat.le_refl _) _).trans (hb3.mono (by simp))); clear hb3
  go_wp2_with fail
  refine (Hsize.out _ Hb3.out).mono ?_
  rintro e w4 ⟨rfl, hb4⟩
  have Hb4 := Lib.hid (Hb3.out.trans (hb4.mono Hb3.out.size)); clear hb4
  go_wp2_with fail
  refine (law_numbers _ _ [1, 2, 1] _ (Hnums.out.below (Hb4.out.alloc Hb4.out.size _) (Nat.le_refl _)) ?_ (by decide)).mono ?_
  · exact IsNums.new w4 [1, 2, 1] 3 _ _
  rintro e w5 ⟨rfl, hb5⟩
  have Hb5 := Lib.hid ((Hb4.out.alloc Hb4.out.size _).trans (hb5.mono (Hb4.out.alloc Hb4.out.size _).size)); clear hb5
  go_wp2_with fail
  refine (Hlist.out _ Hb5.out).mono ?_
  rintro e w6 ⟨L, hL, v6, rfl, hv6, hb6⟩
  rw [show (ByteArray.empty).data.toList = [] from rfl, ex_names L hL] at hv6
  have Hv6 := Lib.hid hv6; have Hb6 := Lib.hid (Hb5.out.trans (hb6.mono Hb5.out.size)); clear hb6
  go_wp2_with fail
  refine (law_texts _ _ [tB] _ (Hv6.out.below ((Below.refl _ _).alloc (Nat.le_refl _) _) (Nat.le_refl _)) ?_ (by decide)).mono ?_
  · exact IsStrs.new w6 [tB] 1 _ _
  rintro e w7 ⟨rfl, hb7⟩
  have Hb7 := Lib.hid ((Hb6.out.alloc Hb6.out.size _).trans (hb7.mono (Hb6.out.alloc Hb6.out.size _).size)); clear hb7
  go_wp2_with fail
  go_ret
  exact ⟨rfl, HW2.out.trans (Hb7.out.mono HW2.out.size)⟩
end Go.Proofs.YtbmmabpglkojkaaDoor
