/- Contract for scriniumlaw16.works: the document's example comes true. -/
import Derived.Test.YtnlolfhhemdojaaDoorLaw16a
namespace Go.Proofs.YtnlolfhhemdojaaDoor
open Go Go.RowKit Pth

theorem w_child : childL [97] [97, 47, 98, 47, 99] = [98, 47] := by decide
theorem w_under : underL [97] [97, 47, 98, 47, 99] = true := by decide
theorem w_may1 : mayL [97, 47, 98, 45, 49, 46, 99, 95] = true := by decide
theorem w_may2 : mayL [97, 47, 47, 98] = false := by decide
theorem w_may3 : mayL [] = false := by decide
theorem w_pre : prefL [] = true := by decide
theorem w_un2 : underL [97] [97, 98] = false := by decide
theorem w_kids : nub (kidsL [97] [[97, 47, 98], [97, 47, 98, 47, 99], [97, 47, 120], [98]]) = [[98], [98, 47], [120]] := by decide
theorem w_names : namesL [97] [[97, 47, 98], [97, 47, 98, 47, 99], [97, 47, 120], [98]] = [[98], [98, 47], [120]] := by
  unfold namesL
  rw [w_kids]
  exact List.mergeSort_of_pairwise (by decide)
theorem w_same : sameB ((namesL [97] [[97, 47, 98], [97, 47, 98, 47, 99], [97, 47, 120], [98]]).map bs) [⟨#[98]⟩, ⟨#[98, 47]⟩, ⟨#[120]⟩] = true := by
  rw [w_names]; decide

/-- w is reached from w0 by new memory alone, and the library's own variable holds an integer. -/
def St (w0 w : World) : Prop := Below w0.heap.size w0 w ∧ MX w
theorem St.start {w : World} (h : MX w) : St w w := ⟨Below.refl _ _, h⟩
theorem St.step {w0 w w' : World} (h : St w0 w) (hb : Below w.heap.size w w') : St w0 w' := ⟨h.1.trans (hb.mono h.1.size), h.2.below hb (Nat.le_refl _)⟩
theorem St.alloc {w0 w : World} (h : St w0 w) (o : Obj) : St w0 (w.alloc o) := h.step ((Below.refl _ _).alloc (Nat.le_refl _) o)

set_option maxRecDepth 100000 in
set_option maxHeartbeats 1000000 in
theorem law16_works (w : World) (hm : MX w) :
    Calls Tryd.prog 8 #[] w fun e w' => e = .returned (.bool true) ∧ Below w.heap.size w w' := by
  have Hm := Lib.hid (St.start hm); clear hm
  have c1 := path_child ⟨#[97]⟩ ⟨#[97, 47, 98, 47, 99]⟩ (by decide) (by decide) w Hm.out.2
  rw [show childL (⟨#[97]⟩ : ByteArray).data.toList (⟨#[97, 47, 98, 47, 99]⟩ : ByteArray).data.toList = [98, 47] from w_child, show underL (⟨#[97]⟩ : ByteArray).data.toList (⟨#[97, 47, 98, 47, 99]⟩ : ByteArray).data.toList = true from w_under] at c1
  have C1 := Lib.hid c1; clear c1
  go_enter Tryd.func8, Tryd.ntmps8
  go_wp2_with fail
  refine (C1.out).mono ?_
  rintro e w1 ⟨rfl, hb1⟩
  have H1 := Lib.hid (Hm.out.step hb1); clear hb1
  go_wp2_with fail
  refine (path_names ⟨#[97]⟩ [⟨#[97, 47, 98]⟩, ⟨#[97, 47, 98, 47, 99]⟩, ⟨#[97, 47, 120]⟩, ⟨#[98]⟩] _ _ (by decide) (by decide) (by decide) (IsStrs.new w1 [⟨#[97, 47, 98]⟩, ⟨#[97, 47, 98, 47, 99]⟩, ⟨#[97, 47, 120]⟩, ⟨#[98]⟩] 4 9 (0, 0)) (H1.out.alloc _).2).mono ?_
  rintro e w2 ⟨v, rfl, hst, hb2⟩
  have H2 := Lib.hid ((H1.out.alloc _).step hb2)
  have Hst := Lib.hid hst; clear hst hb2
  go_wp2_with fail
  have c3 := fun w3 => law16_same v (.slice (some ⟨w2.heap.size, 0, none⟩) 3 3) ((namesL [97] [[97, 47, 98], [97, 47, 98, 47, 99], [97, 47, 120], [98]]).map bs) [⟨#[98]⟩, ⟨#[98, 47]⟩, ⟨#[120]⟩] w3
  rw [w_same] at c3
  refine (c3 _ (Hst.out.below ((Below.refl _ _).alloc (Nat.le_refl _) _) (Nat.le_refl _)) (IsStrs.new w2 [⟨#[98]⟩, ⟨#[98, 47]⟩, ⟨#[120]⟩] 3 9 (0, 0)) (by rw [w_names]; decide)).mono ?_
  clear c3
  rintro e w4 ⟨rfl, hb4⟩
  have H4 := Lib.hid ((H2.out.alloc _).step hb4); clear hb4
  have hcc : ((bs [98, 47]).toList == [98, 47]) = true := by rw [ByteArray.toList_eq, bs_toList]; rfl
  go_wp2_with fail
  refine (path_may ⟨#[97, 47, 98, 45, 49, 46, 99, 95]⟩ (by decide) _ H4.out.2).mono ?_
  rw [show mayL (⟨#[97, 47, 98, 45, 49, 46, 99, 95]⟩ : ByteArray).data.toList = true from w_may1]
  rintro e w5 ⟨rfl, hb5⟩
  have H5 := Lib.hid (H4.out.step hb5); clear hb5
  go_wp2_with fail
  refine (path_may ⟨#[97, 47, 47, 98]⟩ (by decide) _ H5.out.2).mono ?_
  rw [show mayL (⟨#[97, 47, 47, 98]⟩ : ByteArray).data.toList = false from w_may2]
  rintro e w6 ⟨rfl, hb6⟩
  have H6 := Lib.hid (H5.out.step hb6); clear hb6
  go_wp2_with fail
  refine (path_may ⟨#[]⟩ (by decide) _ H6.out.2).mono ?_
  rw [show mayL (⟨#[]⟩ : ByteArray).data.toList = false from w_may3]
  rintro e w7 ⟨rfl, hb7⟩
  have H7 := Lib.hid (H6.out.step hb7); clear hb7
  go_wp2_with fail
  refine (path_prefix ⟨#[]⟩ (by decide) _ H7.out.2).mono ?_
  rw [show prefL (⟨#[]⟩ : ByteArray).data.toList = true from w_pre]
  rintro e w8 ⟨rfl, hb8⟩
  have H8 := Lib.hid (H7.out.step hb8); clear hb8
  go_wp2_with fail
  refine (path_under ⟨#[97]⟩ ⟨#[97, 98]⟩ (by decide) (by decide) _ H8.out.2).mono ?_
  rw [show underL (⟨#[97]⟩ : ByteArray).data.toList (⟨#[97, 98]⟩ : ByteArray).data.toList = false from w_un2]
  rintro e w9 ⟨rfl, hb9⟩
  have H9 := Lib.hid (H8.out.step hb9); clear hb9
  go_wp2_with fail
  go_ret
  exact ⟨rfl, H9.out.1⟩
end Go.Proofs.YtnlolfhhemdojaaDoor
