/- Contracts: scriniumref16 piece, cut, Pieces. -/
import Derived.Test.YtggdkfijioeijaaGreatDoorQb00
import Derived.Deep.DeepMust
import Derived.Deep.QuietTactic
import Derived.BigQuiet
namespace Go.Proofs.YtggdkfijioeijaaGreatDoor
open Go Go.RowKit Pth
end Go.Proofs.YtggdkfijioeijaaGreatDoor
namespace Go.Proofs.YtggdkfijioeijaaGreatDoor
open Go Go.RowKit Pth
def CutRel (s : List UInt8) (k p : Nat) (done : List ByteArray) : Prop :=
 (k ≤ s.length ∧ p ≤ k ∧ (∀ c ∈ (s.drop p).take (k - p), c ≠ 47) ∧ done.map (·.data.toList) ++ glue ((s.drop p).take (k - p)) (splitL (s.drop k)) = splitL s) ∨ (k = s.length + 1 ∧ done.map (·.data.toList) = splitL s)
theorem CutRel.start (s : List UInt8) : CutRel s 0 0 [] := by
 left; refine ⟨Nat.zero_le _, Nat.le_refl _, by simp, ?_⟩
 simp [glue_nil _ (splitL_ne s)]
theorem CutRel.skip {s : List UInt8} {k p : Nat} {done : List ByteArray} (h : CutRel s k p done) (hk : k < s.length) (hc : s[k] ≠ 47) : CutRel s (k + 1) p done := by
 rcases h with ⟨_, hp, hno, he⟩ | ⟨h1, _⟩
 ·left
  have e1 : (s.drop p).take (k + 1 - p) = (s.drop p).take (k - p) ++ [s[k]] := by
   rw [show k + 1 - p = (k - p) + 1 by omega, List.take_succ_eq_append_getElem (by rw [List.length_drop]; omega)]
   congr 2
   rw [List.getElem_drop]; congr 1; omega
  have e2 : splitL (s.drop k) = glue [s[k]] (splitL (s.drop (k + 1))) := by
   rw [List.drop_eq_getElem_cons hk, splitL, if_neg hc]
  refine ⟨by omega, by omega, ?_, ?_⟩
  ·rw [e1]; intro c hc2
   rcases List.mem_append.1 hc2 with h | h
   ·exact hno c h
   ·rw [List.mem_singleton] at h; subst h; exact hc
  ·rw [e2, glue_glue _ _ _ (splitL_ne _)] at he
   rw [e1]; exact he
 ·omega
end Go.Proofs.YtggdkfijioeijaaGreatDoor
namespace Go.Proofs.YtggdkfijioeijaaGreatDoor
open Go Go.RowKit Pth
end Go.Proofs.YtggdkfijioeijaaGreatDoor
