/- Contracts for package path: piece and its closure, the library's ContainsFunc at it, Pieces, May, Prefix, Under, Child. -/
import Derived.Test.YthcmcjoenepkbaaGreatDoorBase
import Derived.Test.YthcmcjoenepkbaaGreatDoorPathPlain
import Derived.Test.YthcmcjoenepkbaaGreatDoorShelf
import Derived.Lib.DecodeN
namespace Go.Proofs.YthcmcjoenepkbaaGreatDoor
open Go Go.RowKit Pth

def oddN (r : Nat) : Bool := !(decide (97 ≤ r ∧ r ≤ 122) || decide (48 ≤ r ∧ r ≤ 57) || decide (r = 46) || decide (r = 95) || decide (r = 45))
theorem odd_okc (c : UInt8) : oddN c.toNat = !okc c := rfl
theorem odd_big (r : Nat) (h : 128 ≤ r) : oddN r = true := by
  simp only [oddN, Bool.not_eq_true', Bool.or_eq_false_iff, decide_eq_false_iff_not]; omega
theorem okc_small (c : UInt8) (h : okc c = true) : c.toNat < 128 := by
  simp only [okc, Bool.or_eq_true, decide_eq_true_eq] at h; omega

theorem decode_small (s : ByteArray) (i : Nat) (h : (s.get! i).toNat < 128) : Utf8.decode s i = ((s.get! i).toNat, 1) := by
  rw [Lib.decode_at]; unfold Lib.decodeN; rw [if_pos h]
theorem decode_big (s : ByteArray) (i : Nat) (h : ¬ (s.get! i).toNat < 128) : 128 ≤ (Utf8.decode s i).1 := by
  rw [Lib.decode_at]; unfold Lib.decodeN; rw [if_neg h]
  repeat' split
  all_goals (simp; try omega)
theorem get_at (s : ByteArray) (i : Nat) (h : i < s.size) : s.get! i = s.data.toList[i]'h := by
  show s.data[i]! = _
  rw [getElem!_pos s.data i h]; simp

theorem odd_from (s : ByteArray) : ∀ (f pos : Nat), s.size - pos ≤ f → decide (0 ≤ Lib.idxFuncFrom oddN true s f pos) = !((s.data.toList.drop pos).all okc)
  | 0, pos, h => by
    have : s.data.toList.drop pos = [] := List.drop_eq_nil_of_le (by show s.size ≤ pos; omega)
    rw [this]; rfl
  | f + 1, pos, h => by
    unfold Lib.idxFuncFrom
    by_cases hp : pos < s.size
    · have hd : s.data.toList.drop pos = s.data.toList[pos]'hp :: s.data.toList.drop (pos + 1) := List.drop_eq_getElem_cons hp
      rw [if_pos hp, hd, List.all_cons, ← get_at s pos hp]
      cases ho : okc (s.get! pos) with
      | true =>
        have h1 := okc_small _ ho
        rw [decode_small s pos h1]
        have h2 : oddN (s.get! pos).toNat = false := by rw [odd_okc, ho]; rfl
        simp only [h2, Bool.false_eq_true, if_false, Bool.true_and]
        exact odd_from s f (pos + 1) (by omega)
      | false =>
        have : oddN (Utf8.decode s pos).1 = true := by
          by_cases h1 : (s.get! pos).toNat < 128
          · rw [decode_small s pos h1]; simp [odd_okc, ho]
          · exact odd_big _ (decode_big s pos h1)
        simp [this]
    · have : s.data.toList.drop pos = [] := List.drop_eq_nil_of_le (by show s.size ≤ pos; omega)
      rw [this, if_neg hp]; rfl
theorem odd_all (s : ByteArray) : decide (0 ≤ Lib.idxFunc oddN true s) = !(s.data.toList.all okc) := odd_from s s.size 0 (by omega)

theorem odd_cases (r : Nat) : (oddN r = false ∧ (97 ≤ (r : Int) ∧ (r : Int) ≤ 122)) ∨ (oddN r = false ∧ (r : Int) < 97 ∧ 48 ≤ (r : Int) ∧ (r : Int) ≤ 57) ∨ (oddN r = false ∧ r = 46) ∨ (oddN r = false ∧ r = 95) ∨ (oddN r = false ∧ r = 45) ∨
    (oddN r = true ∧ (r : Int) < 45) ∨ (oddN r = true ∧ 46 < (r : Int) ∧ (r : Int) < 48) ∨ (oddN r = true ∧ 57 < (r : Int) ∧ (r : Int) < 95) ∨ (oddN r = true ∧ 95 < (r : Int) ∧ (r : Int) < 97) ∨ (oddN r = true ∧ 122 < (r : Int)) := by
  simp only [oddN, Bool.not_eq_true', Bool.not_eq_false', Bool.or_eq_true, decide_eq_true_eq, Bool.or_eq_false_iff, decide_eq_false_iff_not]
  omega

set_option maxHeartbeats 1000000 in
theorem path_odd (r : Nat) (w : World) :
    Calls Tryz.prog 125 #[.int .i32 r] w fun e w' => e = .returned (.bool (oddN r)) ∧ w = w' := by
  rcases odd_cases r with ⟨ho, hx⟩ | ⟨ho, hx⟩ | ⟨ho, hx⟩ | ⟨ho, hx⟩ | ⟨ho, hx⟩ | ⟨ho, hx⟩ | ⟨ho, hx⟩ | ⟨ho, hx⟩ | ⟨ho, hx⟩ | ⟨ho, hx⟩
  all_goals
    have Ho := Lib.hid ho
    clear ho
    try (subst hx)
    go_enter Tryz.func125, Tryz.ntmps125
    go_wp2
    all_goals first
      | (exfalso; omega)
      | (go_ret; refine ⟨ret_bool ?_, rfl⟩; rw [Ho.out] <;> first | rfl | (simp; done) | (simp; omega))

theorem enters26 : ∀ args w, (callFunc 97 args).run Tryz.prog w = .ok (.enter 97 args) w := enters_of Tryz.func97 (by kernel_rfl) rfl
theorem enters34 : ∀ args w, (callFunc 125 args).run Tryz.prog w = .ok (.enter 125 args) w := enters_of Tryz.func125 (by kernel_rfl) rfl
theorem odd_pred (w : World) : PredAt Tryz.prog 125 #[] encR oddN w := fun W x _ => (path_odd x W).mono fun _ _ ⟨he, hw⟩ => ⟨he, 0, hw.symm⟩

set_option maxHeartbeats 1000000 in
theorem path_piece (s : ByteArray) (hs : s.size ≤ maxLen) (w : World) :
    Calls Tryz.prog 98 #[.string s] w fun e w' => e = .returned (.bool (okPiece s.data.toList)) ∧ Below w.heap.size w w' := by
  unfold maxLen at hs
  have e0 : s.data.toList.length = s.size := rfl
  rcases (show s.size < 1 ∨ (1 ≤ s.size ∧ 32 < s.size) ∨ (1 ≤ s.size ∧ s.size ≤ 32) by omega) with h1 | ⟨h1, h2⟩ | ⟨h1, h2⟩
  · have H : Hid (okPiece s.data.toList = false) := by
      have : okPiece s.data.toList = false := by simp only [okPiece, e0, Bool.and_eq_false_iff]; left; left; rw [decide_eq_false_iff_not]; omega
      exact Lib.hid this
    clear e0
    go_enter Tryz.func98, Tryz.ntmps98
    go_wp2
    go_ret
    refine ⟨ret_bool ?_, Below.refl _ _⟩
    rw [H.out]
  · have H : Hid (okPiece s.data.toList = false) := by
      have : okPiece s.data.toList = false := by simp only [okPiece, e0, Bool.and_eq_false_iff]; left; right; rw [decide_eq_false_iff_not]; omega
      exact Lib.hid this
    clear e0
    go_enter Tryz.func98, Tryz.ntmps98
    go_wp2
    go_ret
    refine ⟨ret_bool ?_, Below.refl _ _⟩
    rw [H.out]
  · have H : Hid (okPiece s.data.toList = s.data.toList.all okc) := by
      have : okPiece s.data.toList = s.data.toList.all okc := by simp [okPiece, e0, h1, h2]
      exact Lib.hid this
    clear e0
    go_enter Tryz.func98, Tryz.ntmps98
    go_wp2_with (go_at_call 126; refine (Tryz.strings_ContainsFunc 125 #[] enters34 oddN s _ (odd_pred _)).mono ?_; rintro e w' ⟨rfl, hb⟩; have Hb := Lib.hid hb; clear hb)
    go_ret
    refine ⟨ret_bool ?_, Hb.out⟩
    rw [H.out, odd_all]
    simp

set_option maxHeartbeats 1000000 in
theorem path_notpiece (s : ByteArray) (hs : s.size ≤ maxLen) (w : World) :
    Calls Tryz.prog 97 #[.string s] w fun e w' => e = .returned (.bool (!okPiece s.data.toList)) ∧ Below w.heap.size w w' := by
  go_enter Tryz.func97, Tryz.ntmps97
  go_wp2_with (go_at_call 98; refine (path_piece s hs _).mono ?_; rintro e w' ⟨rfl, hb⟩; have Hb := Lib.hid hb; clear hb)
  go_ret
  exact ⟨rfl, Hb.out⟩

def FoundIn (l : List ByteArray) (w : World) (e : Ending) (w' : World) : Prop :=
  ∃ i : Int, e = .returned (.int .i64 i) ∧ decide (0 ≤ i) = l.any (fun s => !okPiece s.data.toList) ∧ Below w.heap.size w w'

theorem any_take {l : List ByteArray} {k : Nat} {p : ByteArray → Bool} (hk : k < l.length) (h0 : (l.take k).any p = false) (h1 : p (l.getD k ByteArray.empty) = false) : (l.take (k + 1)).any p = false := by
  rw [List.take_succ_eq_append_getElem hk, List.any_append, h0]
  rw [List.getD_eq_getElem?_getD, List.getElem?_eq_getElem hk] at h1
  simpa using h1
theorem any_hit {l : List ByteArray} {k : Nat} {p : ByteArray → Bool} (hk : k < l.length) (h1 : p (l.getD k ByteArray.empty) = true) : l.any p = true := by
  rw [List.getD_eq_getElem?_getD, List.getElem?_eq_getElem hk] at h1
  exact List.any_eq_true.2 ⟨l[k], List.getElem_mem hk, h1⟩

set_option maxHeartbeats 1000000 in
theorem path_indexFunc (l : List ByteArray) (b off cap : Nat) (w : World) (hl : l.length ≤ 8) (hls : ∀ i, i < l.length → (l.getD i ByteArray.empty).size ≤ maxLen) (hlt : b < w.heap.size)
    (hc : ∀ i, i < l.length → w.cell? ⟨b, off + i, none⟩ = some (.string (l.getD i ByteArray.empty))) :
    Calls Tryz.prog 124 #[.slice (some ⟨b, off, none⟩) l.length cap, .func (.func 97) #[] #[]] w (FoundIn l w) := by
  go_enter Tryz.func124, Tryz.ntmps124
  go_wp2
  go_loopw [8] (fun i wr => ∃ k : Nat, k ≤ l.length ∧ i = .int .i64 k ∧ Hid ((l.take k).any (fun s => !okPiece s.data.toList) = false) ∧ Below w.heap.size w wr) (fun i _ => l.length - (intOf i).toNat)
  case atStart => exact ⟨0, Nat.zero_le _, rfl, Lib.hid rfl, Below.refl _ _⟩
  case round =>
    obtain ⟨k, hk, rfl, hno, hbw⟩ := hrel
    by_cases hlt2 : k < l.length
    · have hcell : wr.cell? ⟨b, off + k, none⟩ = some (.string (l.getD k ByteArray.empty)) := (hbw.cell (p := ⟨b, off + k, none⟩) hlt).trans (hc k hlt2)
      have hsz := hls k hlt2
      obtain ⟨s, hs⟩ : ∃ s, s = l.getD k ByteArray.empty := ⟨_, rfl⟩
      rw [← hs] at hcell hsz
      have Hs := Lib.hid hs; clear hs hls hc
      cases ho : okPiece s.data.toList with
      | true =>
        have Ho := Lib.hid ho; clear ho
        go_wp2_with (go_at_call 97; refine (path_notpiece s hsz _).mono ?_; rw [Ho.out]; rintro e w' ⟨rfl, hb⟩; have Hb := Lib.hid (hbw.trans (hb.mono hbw.size)); clear hb)
        go_roundw
        case rel => exact ⟨k + 1, by omega, by go_num, Lib.hid (any_take hlt2 hno.out (by rw [← Hs.out]; simp [Ho.out])), Hb.out⟩
        case measure => simp [intOf]; omega
      | false =>
        have Ho := Lib.hid ho; clear ho
        go_wp2_with (go_at_call 97; refine (path_notpiece s hsz _).mono ?_; rw [Ho.out]; rintro e w' ⟨rfl, hb⟩; have Hb := Lib.hid (hbw.trans (hb.mono hbw.size)); clear hb)
        go_ret
        exact ⟨k, rfl, by rw [any_hit hlt2 (by rw [← Hs.out]; simp [Ho.out])]; simp, Hb.out⟩
    · clear hls hc
      go_wp2
      go_ret
      refine ⟨-1, rfl, ?_, hbw⟩
      have := hno.out
      rw [List.take_of_length_le (by omega)] at this
      rw [this]; rfl

set_option maxHeartbeats 1000000 in
theorem path_containsFunc (l : List ByteArray) (b off cap : Nat) (w : World) (hl : l.length ≤ 8) (hls : ∀ i, i < l.length → (l.getD i ByteArray.empty).size ≤ maxLen) (hlt : b < w.heap.size)
    (hc : ∀ i, i < l.length → w.cell? ⟨b, off + i, none⟩ = some (.string (l.getD i ByteArray.empty))) :
    Calls Tryz.prog 96 #[.slice (some ⟨b, off, none⟩) l.length cap, .func (.func 97) #[] #[]] w
      fun e w' => e = .returned (.bool (l.any (fun s => !okPiece s.data.toList))) ∧ Below w.heap.size w w' := by
  have c := path_indexFunc l b off cap w hl hls hlt hc
  have C := Lib.hid c; clear c hc hls
  go_enter Tryz.func96, Tryz.ntmps96
  go_wp2_with (go_at_call 124; refine (C.out).mono ?_; rintro e w' ⟨i, rfl, hi, hb⟩; have Hi := Lib.hid hi; clear hi; have Hb := Lib.hid hb; clear hb)
  go_ret
  refine ⟨ret_bool ?_, Hb.out⟩
  rw [← Hi.out]
end Go.Proofs.YthcmcjoenepkbaaGreatDoor
