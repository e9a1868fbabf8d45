/- Contracts for scriniumref16 (piece, cut, Pieces, Prefix, Under, Child). -/
import Derived.Test.YtnlolfhhemdojaaDoorBase
import Derived.Test.YtnlolfhhemdojaaDoorPathPlain
namespace Go.Proofs.YtnlolfhhemdojaaDoor
open Go Go.RowKit Pth

theorem take_snoc (s : ByteArray) (k : Nat) (h : k < s.size) : s.data.toList.take (k + 1) = s.data.toList.take k ++ [s[k]] := by
  rw [List.take_succ_eq_append_getElem (by simpa using h)]; rfl

theorem all_take_succ (s : ByteArray) (k : Nat) (h : k < s.size) (h0 : (s.data.toList.take k).all okc = true) (hc : okc s[k] = true) : (s.data.toList.take (k + 1)).all okc = true := by
  rw [take_snoc s k h, List.all_append, h0]; simp [hc]
theorem okPiece_no (s : ByteArray) (k : Nat) (h : k < s.size) (hc : okc s[k] = false) : okPiece s.data.toList = false := by
  have : s.data.toList.all okc = false := by
    rw [List.all_eq_false]; exact ⟨s[k], by simp only [Array.mem_toList_iff]; exact Array.getElem_mem h, by simp [hc]⟩
  simp [okPiece, this]
theorem okPiece_yes (s : ByteArray) (h1 : 1 ≤ s.size) (h2 : s.size ≤ 32) (k : Nat) (h : ¬ k < s.size) (h0 : (s.data.toList.take k).all okc = true) : okPiece s.data.toList = true := by
  rw [List.take_of_length_le (by simp; omega)] at h0
  simp [okPiece, h0]; exact ⟨h1, h2⟩
theorem okPiece_size (s : ByteArray) (h : ¬ (1 ≤ s.size ∧ s.size ≤ 32)) : okPiece s.data.toList = false := by
  have e : s.data.toList.length = s.size := by simp
  simp only [okPiece, e, Bool.and_eq_false_iff]
  by_cases h1 : 1 ≤ s.size
  · left; right; rw [decide_eq_false_iff_not]; omega
  · left; left; rw [decide_eq_false_iff_not]; omega
theorem okc_cases (c : UInt8) : (okc c = true ∧ (97 ≤ (c.toNat : Int) ∧ (c.toNat : Int) ≤ 122)) ∨ (okc c = true ∧ (c.toNat : Int) < 97 ∧ 48 ≤ (c.toNat : Int) ∧ (c.toNat : Int) ≤ 57) ∨ (okc c = true ∧ (c.toNat : Int) ≤ 46 ∧ 46 ≤ (c.toNat : Int)) ∨ (okc c = true ∧ (c.toNat : Int) ≤ 95 ∧ 95 ≤ (c.toNat : Int)) ∨ (okc c = true ∧ (c.toNat : Int) ≤ 45 ∧ 45 ≤ (c.toNat : Int)) ∨
    (okc c = false ∧ (c.toNat : Int) < 45) ∨ (okc c = false ∧ 46 < (c.toNat : Int) ∧ (c.toNat : Int) < 48) ∨ (okc c = false ∧ 57 < (c.toNat : Int) ∧ (c.toNat : Int) < 95) ∨ (okc c = false ∧ 95 < (c.toNat : Int) ∧ (c.toNat : Int) < 97) ∨ (okc c = false ∧ 122 < (c.toNat : Int)) := by
  simp only [okc, Bool.or_eq_true, decide_eq_true_eq, Bool.or_eq_false_iff, decide_eq_false_iff_not]
  omega

set_option maxHeartbeats 1000000 in
theorem ref16_piece (s : ByteArray) (hs : s.size ≤ maxLen) (w : World) :
    Calls Tryd.prog 22 #[.string s] w fun e w' => e = .returned (.bool (okPiece s.data.toList)) ∧ w = w' := by
  unfold maxLen at hs
  by_cases h1 : 1 ≤ s.size ∧ s.size ≤ 32
  · obtain ⟨h1, h2⟩ := h1
    go_enter Tryd.func22, Tryd.ntmps22
    go_wp2
    go_loop [3] (fun i => ∃ k : Nat, k ≤ s.size ∧ i = .int .i64 k ∧ Hid ((s.data.toList.take k).all okc = true)) (fun i => s.size - (intOf i).toNat)
    case atStart => exact ⟨0, Nat.zero_le _, rfl, Lib.hid rfl⟩
    case round =>
      obtain ⟨k, hk, rfl, hall⟩ := hrel
      by_cases hlt : k < s.size
      · rcases okc_cases s[k] with ⟨ho, hx⟩ | ⟨ho, hx⟩ | ⟨ho, hx⟩ | ⟨ho, hx⟩ | ⟨ho, hx⟩ | ⟨ho, hx⟩ | ⟨ho, hx⟩ | ⟨ho, hx⟩ | ⟨ho, hx⟩ | ⟨ho, hx⟩
        all_goals (have Ho := Lib.hid ho; clear ho; go_wp2)
        all_goals first
          | (exfalso; omega)
          | (go_round
             case rel => exact ⟨k + 1, by omega, by go_num, Lib.hid (all_take_succ s k hlt hall.out Ho.out)⟩
             case measure => simp [intOf]; omega)
          | (go_ret; exact ⟨ret_bool (okPiece_no s k hlt Ho.out).symm, rfl⟩)
          | (exfalso; simp at *; omega)
      · go_wp2
        go_ret
        exact ⟨ret_bool (okPiece_yes s h1 h2 k hlt hall.out).symm, rfl⟩
  · have H := Lib.hid (okPiece_size s h1)
    rcases (show s.size < 1 ∨ (1 ≤ s.size ∧ 32 < s.size) by omega) with h1 | ⟨h1, h2⟩
    all_goals
      go_enter Tryd.func22, Tryd.ntmps22
      go_wp2
      go_ret
      exact ⟨ret_bool H.out.symm, rfl⟩

end Go.Proofs.YtnlolfhhemdojaaDoor
