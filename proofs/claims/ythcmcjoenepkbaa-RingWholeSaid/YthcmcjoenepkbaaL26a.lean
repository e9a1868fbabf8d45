/- Law 26: of, few. -/
import Derived.Test.YthcmcjoenepkbaaRingT
import Derived.Test.YthcmcjoenepkbaaFew
namespace Go.Proofs.Ythcmcjoenepkbaa
open Go Go.RowKit Go.Maps

set_option maxRecDepth 100000 in
set_option maxHeartbeats 2000000 in
theorem law26_of (b cap h : Nat) (sp : List (Nat × Nat)) (w : World) (hl : sp.length ≤ 1000000) (hrow : ∀ i, i < sp.length → w.cell? ⟨b, i * 2, none⟩ = some (.int .u64 ((sp.getD i d0).1 : Int)) ∧ w.cell? ⟨b, i * 2 + 1, none⟩ = some (.int .u32 ((sp.getD i d0).2 : Int))) :
    Calls Try.prog 12 #[.slice (some ⟨b, 0, none⟩) sp.length cap, .int .u64 (h : Int)] w fun e w' => e = .returned (.int .u32 (ofP sp h : Nat)) ∧ Below w.heap.size w w' := by
  obtain ⟨L, hLn⟩ : ∃ L, sp.length = L := ⟨_, rfl⟩
  have hofp : ∀ k, k < L → ofP (sp.take (k + 1)) h = if (sp.getD k d0).1 ≤ h then (sp.getD k d0).2 else ofP (sp.take k) h := fun k hk => by
    rw [List.take_succ_eq_append_getElem (by omega), ofP_snoc, List.getD_eq_getElem?_getD, List.getElem?_eq_getElem (by omega)]; rfl
  have hofL : ofP (sp.take L) h = ofP sp h := by rw [← hLn, List.take_length]
  rw [hLn] at hrow hl ⊢
  have HR := Lib.hid hrow; have HOF := Lib.hid hofp; have HOL := Lib.hid hofL
  clear hrow hofp hofL hLn
  go_enter Try.func12, Try.ntmps12
  go_wp2_with fail
  go_loopw [5, 6] (fun s i wr => ∃ k : Nat, k ≤ L ∧ i = .int .i64 k ∧ s = .int .u32 (ofP (sp.take k) h : Nat) ∧ wr = w) (fun _ i _ => L - (intOf i).toNat)
  case atStart => exact ⟨0, Nat.zero_le _, rfl, rfl, rfl⟩
  case round =>
    obtain ⟨k, hk, rfl, rfl, hwr⟩ := hrel
    subst hwr
    by_cases hlt : k < L
    · obtain ⟨r1, r2⟩ := HR.out k hlt
      obtain ⟨p, hp⟩ : ∃ p, (sp.getD k d0).1 = p := ⟨_, rfl⟩
      obtain ⟨s, hs⟩ : ∃ s, (sp.getD k d0).2 = s := ⟨_, rfl⟩
      have ho := HOF.out k hlt
      rw [hp] at r1 ho; rw [hs] at r2 ho
      have HO := Lib.hid ho
      clear hp hs ho
      by_cases hc : p ≤ h
      · go_wp2_with fail
        go_roundw
        case rel => exact ⟨k + 1, by omega, rfl, by rw [HO.out, if_pos hc], by first | trivial | rfl⟩
        case measure => simp [intOf]; omega
      · go_wp2_with fail
        go_roundw
        case rel => exact ⟨k + 1, by omega, rfl, by rw [HO.out, if_neg hc], by first | trivial | rfl⟩
        case measure => simp [intOf]; omega
    · obtain rfl : k = L := by omega
      go_wp2_with fail
      go_ret
      exact ⟨by rw [HOL.out]; rfl, Below.refl _ _⟩

end Go.Proofs.Ythcmcjoenepkbaa
