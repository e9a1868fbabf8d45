/- Contracts for package path: piece and its closure, the library's ContainsFunc at it, Pieces, May, Prefix, Under, Child. Contracts for package path: Pieces, May, Prefix, Under, Child. Plan: reads, edits, places and asks as they lie in memory. Contract: plan.May: its closures, and what goes over reads and edits with them. -/
import Derived.Test.YtggdkfijioeijaaGreatDoorQa00
import Derived.Lib.DecodeN
namespace Go.Proofs.YtggdkfijioeijaaGreatDoor
open Go Go.RowKit Pth
def oddN (r : Nat) : Bool := !(decide (97 ≤ r ∧ r ≤ 122) || decide (48 ≤ r ∧ r ≤ 57) || decide (r = 46) || decide (r = 95) || decide (r = 45))
theorem odd_okc (c : UInt8) : oddN c.toNat = !okc c := rfl
theorem odd_big (r : Nat) (h : 128 ≤ r) : oddN r = true := by
  simp only [oddN, Bool.not_eq_true', Bool.or_eq_false_iff, decide_eq_false_iff_not]; omega
theorem okc_small (c : UInt8) (h : okc c = true) : c.toNat < 128 := by
  simp only [okc, Bool.or_eq_true, decide_eq_true_eq] at h; omega

theorem decode_small (s : ByteArray) (i : Nat) (h : (s.get! i).toNat < 128) : Utf8.decode s i = ((s.get! i).toNat, 1) := by
  rw [Lib.decode_at]; unfold Lib.decodeN; rw [if_pos h]
theorem decode_big (s : ByteArray) (i : Nat) (h : ¬ (s.get! i).toNat < 128) : 128 ≤ (Utf8.decode s i).1 := by
  rw [Lib.decode_at]; unfold Lib.decodeN; rw [if_neg h]
  repeat' split
  all_goals (simp; try omega)
theorem get_at (s : ByteArray) (i : Nat) (h : i < s.size) : s.get! i = s.data.toList[i]'h := by
  show s.data[i]! = _
  rw [getElem!_pos s.data i h]; simp

theorem odd_from (s : ByteArray) : ∀ (f pos : Nat), s.size - pos ≤ f → decide (0 ≤ Lib.idxFuncFrom oddN true s f pos) = !((s.data.toList.drop pos).all okc)
  | 0, pos, h => by
    have : s.data.toList.drop pos = [] := List.drop_eq_nil_of_le (by show s.size ≤ pos; omega)
    rw [this]; rfl
  | f + 1, pos, h => by
    unfold Lib.idxFuncFrom
    by_cases hp : pos < s.size
    · have hd : s.data.toList.drop pos = s.data.toList[pos]'hp :: s.data.toList.drop (pos + 1) := List.drop_eq_getElem_cons hp
      rw [if_pos hp, hd, List.all_cons, ← get_at s pos hp]
      cases ho : okc (s.get! pos) with
      | true =>
        have h1 := okc_small _ ho
        rw [decode_small s pos h1]
        have h2 : oddN (s.get! pos).toNat = false := by rw [odd_okc, ho]; rfl
        simp only [h2, Bool.false_eq_true, if_false, Bool.true_and]
        exact odd_from s f (pos + 1) (by omega)
      | false =>
        have : oddN (Utf8.decode s pos).1 = true := by
          by_cases h1 : (s.get! pos).toNat < 128
          · rw [decode_small s pos h1]; simp [odd_okc, ho]
          · exact odd_big _ (decode_big s pos h1)
        simp [this]
    · have : s.data.toList.drop pos = [] := List.drop_eq_nil_of_le (by show s.size ≤ pos; omega)
      rw [this, if_neg hp]; rfl
theorem odd_all (s : ByteArray) : decide (0 ≤ Lib.idxFunc oddN true s) = !(s.data.toList.all okc) := odd_from s s.size 0 (by omega)

theorem odd_cases (r : Nat) : (oddN r = false ∧ (97 ≤ (r : Int) ∧ (r : Int) ≤ 122)) ∨ (oddN r = false ∧ (r : Int) < 97 ∧ 48 ≤ (r : Int) ∧ (r : Int) ≤ 57) ∨ (oddN r = false ∧ r = 46) ∨ (oddN r = false ∧ r = 95) ∨ (oddN r = false ∧ r = 45) ∨
    (oddN r = true ∧ (r : Int) < 45) ∨ (oddN r = true ∧ 46 < (r : Int) ∧ (r : Int) < 48) ∨ (oddN r = true ∧ 57 < (r : Int) ∧ (r : Int) < 95) ∨ (oddN r = true ∧ 95 < (r : Int) ∧ (r : Int) < 97) ∨ (oddN r = true ∧ 122 < (r : Int)) := by
  simp only [oddN, Bool.not_eq_true', Bool.not_eq_false', Bool.or_eq_true, decide_eq_true_eq, Bool.or_eq_false_iff, decide_eq_false_iff_not]
  omega

set_option maxHeartbeats 1000000 in
theorem path_odd (r : Nat) (w : World) :
    Calls Tryz.prog 125 #[.int .i32 r] w fun e w' => e = .returned (.bool (oddN r)) ∧ w = w' := by
  rcases odd_cases r with ⟨ho, hx⟩ | ⟨ho, hx⟩ | ⟨ho, hx⟩ | ⟨ho, hx⟩ | ⟨ho, hx⟩ | ⟨ho, hx⟩ | ⟨ho, hx⟩ | ⟨ho, hx⟩ | ⟨ho, hx⟩ | ⟨ho, hx⟩
  all_goals
    have Ho := Lib.hid ho
    clear ho
    try (subst hx)
    go_enter Tryz.func125, Tryz.ntmps125
    go_wp2
    all_goals first
      | (exfalso; omega)
      | (go_ret; refine ⟨ret_bool ?_, rfl⟩; rw [Ho.out] <;> first | rfl | (simp; done) | (simp; omega))

theorem enters34 : ∀ args w, (callFunc 125 args).run Tryz.prog w = .ok (.enter 125 args) w := enters_of Tryz.func125 (by kernel_rfl) rfl
theorem odd_pred (w : World) : PredAt Tryz.prog 125 #[] encR oddN w := fun W x _ => (path_odd x W).mono fun _ _ ⟨he, hw⟩ => ⟨he, 0, hw.symm⟩

set_option maxHeartbeats 1000000 in
theorem path_piece (s : ByteArray) (hs : s.size ≤ maxLen) (w : World) :
    Calls Tryz.prog 98 #[.string s] w fun e w' => e = .returned (.bool (okPiece s.data.toList)) ∧ Below w.heap.size w w' := by
  unfold maxLen at hs
  have e0 : s.data.toList.length = s.size := rfl
  rcases (show s.size < 1 ∨ (1 ≤ s.size ∧ 32 < s.size) ∨ (1 ≤ s.size ∧ s.size ≤ 32) by omega) with h1 | ⟨h1, h2⟩ | ⟨h1, h2⟩
  · have H : Hid (okPiece s.data.toList = false) := by
      have : okPiece s.data.toList = false := by simp only [okPiece, e0, Bool.and_eq_false_iff]; left; left; rw [decide_eq_false_iff_not]; omega
      exact Lib.hid this
    clear e0
    go_enter Tryz.func98, Tryz.ntmps98
    go_wp2
    go_ret
    refine ⟨ret_bool ?_, Below.refl _ _⟩
    rw [H.out]
  · have H : Hid (okPiece s.data.toList = false) := by
      have : okPiece s.data.toList = false := by simp only [okPiece, e0, Bool.and_eq_false_iff]; left; right; rw [decide_eq_false_iff_not]; omega
      exact Lib.hid this
    clear e0
    go_enter Tryz.func98, Tryz.ntmps98
    go_wp2
    go_ret
    refine ⟨ret_bool ?_, Below.refl _ _⟩
    rw [H.out]
  · have H : Hid (okPiece s.data.toList = s.data.toList.all okc) := by
      have : okPiece s.data.toList = s.data.toList.all okc := by simp [okPiece, e0, h1, h2]
      exact Lib.hid this
    clear e0
    go_enter Tryz.func98, Tryz.ntmps98
    go_wp2_with (go_at_call 126; refine (Tryz.strings_ContainsFunc 125 #[] enters34 oddN s _ (odd_pred _)).mono ?_; rintro e w' ⟨rfl, hb⟩; have Hb := Lib.hid hb; clear hb)
    go_ret
    refine ⟨ret_bool ?_, Hb.out⟩
    rw [H.out, odd_all]
    simp

set_option maxHeartbeats 1000000 in
theorem path_notpiece (s : ByteArray) (hs : s.size ≤ maxLen) (w : World) :
    Calls Tryz.prog 97 #[.string s] w fun e w' => e = .returned (.bool (!okPiece s.data.toList)) ∧ Below w.heap.size w w' := by
  go_enter Tryz.func97, Tryz.ntmps97
  go_wp2_with (go_at_call 98; refine (path_piece s hs _).mono ?_; rintro e w' ⟨rfl, hb⟩; have Hb := Lib.hid hb; clear hb)
  go_ret
  exact ⟨rfl, Hb.out⟩

def FoundIn (l : List ByteArray) (w : World) (e : Ending) (w' : World) : Prop :=
  ∃ i : Int, e = .returned (.int .i64 i) ∧ decide (0 ≤ i) = l.any (fun s => !okPiece s.data.toList) ∧ Below w.heap.size w w'

theorem any_take {l : List ByteArray} {k : Nat} {p : ByteArray → Bool} (hk : k < l.length) (h0 : (l.take k).any p = false) (h1 : p (l.getD k ByteArray.empty) = false) : (l.take (k + 1)).any p = false := by
  rw [List.take_succ_eq_append_getElem hk, List.any_append, h0]
  rw [List.getD_eq_getElem?_getD, List.getElem?_eq_getElem hk] at h1
  simpa using h1
theorem any_hit {l : List ByteArray} {k : Nat} {p : ByteArray → Bool} (hk : k < l.length) (h1 : p (l.getD k ByteArray.empty) = true) : l.any p = true := by
  rw [List.getD_eq_getElem?_getD, List.getElem?_eq_getElem hk] at h1
  exact List.any_eq_true.2 ⟨l[k], List.getElem_mem hk, h1⟩

set_option maxHeartbeats 1000000 in
theorem path_indexFunc (l : List ByteArray) (b off cap : Nat) (w : World) (hl : l.length ≤ 8) (hls : ∀ i, i < l.length → (l.getD i ByteArray.empty).size ≤ maxLen) (hlt : b < w.heap.size)
    (hc : ∀ i, i < l.length → w.cell? ⟨b, off + i, none⟩ = some (.string (l.getD i ByteArray.empty))) :
    Calls Tryz.prog 124 #[.slice (some ⟨b, off, none⟩) l.length cap, .func (.func 97) #[] #[]] w (FoundIn l w) := by
  go_enter Tryz.func124, Tryz.ntmps124
  go_wp2
  go_loopw [8] (fun i wr => ∃ k : Nat, k ≤ l.length ∧ i = .int .i64 k ∧ Hid ((l.take k).any (fun s => !okPiece s.data.toList) = false) ∧ Below w.heap.size w wr) (fun i _ => l.length - (intOf i).toNat)
  case atStart => exact ⟨0, Nat.zero_le _, rfl, Lib.hid rfl, Below.refl _ _⟩
  case round =>
    obtain ⟨k, hk, rfl, hno, hbw⟩ := hrel
    by_cases hlt2 : k < l.length
    · have hcell : wr.cell? ⟨b, off + k, none⟩ = some (.string (l.getD k ByteArray.empty)) := (hbw.cell (p := ⟨b, off + k, none⟩) hlt).trans (hc k hlt2)
      have hsz := hls k hlt2
      obtain ⟨s, hs⟩ : ∃ s, s = l.getD k ByteArray.empty := ⟨_, rfl⟩
      rw [← hs] at hcell hsz
      have Hs := Lib.hid hs; clear hs hls hc
      cases ho : okPiece s.data.toList with
      | true =>
        have Ho := Lib.hid ho; clear ho
        go_wp2_with (go_at_call 97; refine (path_notpiece s hsz _).mono ?_; rw [Ho.out]; rintro e w' ⟨rfl, hb⟩; have Hb := Lib.hid (hbw.trans (hb.mono hbw.size)); clear hb)
        go_roundw
        case rel => exact ⟨k + 1, by omega, by go_num, Lib.hid (any_take hlt2 hno.out (by rw [← Hs.out]; simp [Ho.out])), Hb.out⟩
        case measure => simp [intOf]; omega
      | false =>
        have Ho := Lib.hid ho; clear ho
        go_wp2_with (go_at_call 97; refine (path_notpiece s hsz _).mono ?_; rw [Ho.out]; rintro e w' ⟨rfl, hb⟩; have Hb := Lib.hid (hbw.trans (hb.mono hbw.size)); clear hb)
        go_ret
        exact ⟨k, rfl, by rw [any_hit hlt2 (by rw [← Hs.out]; simp [Ho.out])]; simp, Hb.out⟩
    · clear hls hc
      go_wp2
      go_ret
      refine ⟨-1, rfl, ?_, hbw⟩
      have := hno.out
      rw [List.take_of_length_le (by omega)] at this
      rw [this]; rfl

set_option maxHeartbeats 1000000 in
theorem path_containsFunc (l : List ByteArray) (b off cap : Nat) (w : World) (hl : l.length ≤ 8) (hls : ∀ i, i < l.length → (l.getD i ByteArray.empty).size ≤ maxLen) (hlt : b < w.heap.size)
    (hc : ∀ i, i < l.length → w.cell? ⟨b, off + i, none⟩ = some (.string (l.getD i ByteArray.empty))) :
    Calls Tryz.prog 96 #[.slice (some ⟨b, off, none⟩) l.length cap, .func (.func 97) #[] #[]] w
      fun e w' => e = .returned (.bool (l.any (fun s => !okPiece s.data.toList))) ∧ Below w.heap.size w w' := by
  have c := path_indexFunc l b off cap w hl hls hlt hc
  have C := Lib.hid c; clear c hc hls
  go_enter Tryz.func96, Tryz.ntmps96
  go_wp2_with (go_at_call 124; refine (C.out).mono ?_; rintro e w' ⟨i, rfl, hi, hb⟩; have Hi := Lib.hid hi; clear hi; have Hb := Lib.hid hb; clear hb)
  go_ret
  refine ⟨ret_bool ?_, Hb.out⟩
  rw [← Hi.out]
end Go.Proofs.YtggdkfijioeijaaGreatDoor

namespace Go.Proofs.YtggdkfijioeijaaGreatDoor
open Go Go.RowKit Pth
theorem splitB_splitL (s : ByteArray) : (Lib.splitB ⟨#[47]⟩ 0 (Lib.countB s ⟨#[47]⟩) s).map (·.data.toList) = splitL s.data.toList := by
  rw [Lib.splitB_data]; exact split_eq s.data.toList

set_option maxHeartbeats 400000 in
theorem path_split (s : ByteArray) (hs : s.size < 4294967281) (w : World) (hm : MX w) :
    Calls Tryz.prog 95 #[.string s, .string ⟨#[47]⟩] w fun e w' => ∃ L : List ByteArray, e = .returned (.slice (some ⟨w.heap.size, 0, none⟩) L.length L.length) ∧ Hid (L.map (·.data.toList) = splitL s.data.toList) ∧ w' = w.alloc (.cells (L.map Value.string).toArray 9) := by
  obtain ⟨m, hm⟩ := hm
  refine (Tryz.strings_Split s ⟨#[47]⟩ m w hs hm (Nat.le_refl _)).mono ?_
  rintro e w' ⟨rfl, rfl⟩
  have h1 := Lib.splitB_all ⟨#[47]⟩ (Nat.le_refl _) 0 _ s rfl
  exact ⟨_, by rw [h1], Lib.hid (splitB_splitL s), rfl⟩

theorem map_all {l : List ByteArray} {m : List (List UInt8)} (h : l.map (·.data.toList) = m) : l.any (fun s => !okPiece s.data.toList) = !(m.all okPiece) := by
  subst h; induction l with
  | nil => rfl
  | cons a t ih => simp [ih]
theorem piece_small {s : List UInt8} {m : List (List UInt8)} (h : splitL s = m) : ∀ p ∈ m, p.length ≤ s.length := by
  subst h
  induction s with
  | nil => intro p hp; simp [splitL] at hp; subst hp; simp
  | cons c r ih =>
    intro p hp
    unfold splitL at hp
    split at hp
    · rcases List.mem_cons.1 hp with rfl | h
      · simp
      · have := ih p h; simp; omega
    · rcases hr : splitL r with _ | ⟨a, b⟩
      · exact absurd hr (splitL_ne r)
      · rw [hr] at hp ih
        simp [glue] at hp
        rcases hp with rfl | h
        · have := ih a (by simp); simp; omega
        · have := ih p (by simp [h]); simp; omega
theorem el_small {l : List ByteArray} {s : List UInt8} (h : l.map (·.data.toList) = splitL s) (i : Nat) (hi : i < l.length) : (l.getD i ByteArray.empty).size ≤ s.length := by
  have : (l.getD i ByteArray.empty).data.toList ∈ splitL s := by
    rw [← h, List.getD_eq_getElem?_getD, List.getElem?_eq_getElem hi]
    exact List.mem_map.2 ⟨l[i], List.getElem_mem hi, rfl⟩
  exact piece_small rfl _ this

set_option maxHeartbeats 1000000 in
theorem path_pieces_no (s : ByteArray) (hs : s.size ≤ 140737488351232) (w : World) (hm : MX w) (hno : mayL s.data.toList = false) :
    Calls Tryz.prog 70 #[.string s] w fun e w' => e = .returned (.slice none 0 0) ∧ Below w.heap.size w w' := by
  by_cases h1 : 128 < s.size
  · clear hm hno
    go_enter Tryz.func70, Tryz.ntmps70
    go_wp2
    go_ret
    exact ⟨rfl, Below.refl _ _⟩
  · have Hno := Lib.hid hno; clear hno
    have Hm := Lib.hid hm; clear hm
    go_enter Tryz.func70, Tryz.ntmps70
    go_wp2_with fail
    refine (path_split s (by omega) _ Hm.out).mono ?_
    rintro e w' ⟨L, rfl, HL, rfl⟩
    by_cases h2 : 8 < L.length
    · go_wp2
      go_ret
      exact ⟨rfl, (Below.refl _ _).alloc (Nat.le_refl _) _⟩
    · have h3 : Hid (L.any (fun s => !okPiece s.data.toList) = true) := by
        refine Lib.hid ?_
        rw [map_all HL.out]
        cases h : (splitL s.data.toList).all okPiece with
        | false => rfl
        | true =>
          have h4 := (may_iff s.data.toList).2 ⟨by show s.size ≤ 128; omega, by rw [← HL.out, List.length_map]; omega, h⟩
          rw [Hno.out] at h4; cases h4
      have hc := path_containsFunc L w.heap.size 0 L.length (w.alloc (.cells (L.map Value.string).toArray 9)) (by omega) (fun i hi => by have := el_small HL.out i hi; unfold maxLen; have e : s.data.toList.length = s.size := rfl; omega) (by simp)
        (fun i hi => by
          obtain ⟨a, cap, hv, h⟩ := IsStrs.new w L L.length 9 (0, 0)
          rcases h with h | ⟨b, off, ha, _, hcc⟩
          · subst h; simp at hi
          · simp only [Value.slice.injEq] at hv
            obtain ⟨rfl, _⟩ := hv
            simp only [Option.some.injEq, Addr.mk.injEq, and_true] at ha
            obtain ⟨rfl, rfl⟩ := ha
            exact hcc i hi)
      rw [h3.out] at hc
      have Hc := Lib.hid hc; clear hc
      go_wp2_with (go_at_call 96; refine (Hc.out).mono ?_; rintro e w' ⟨rfl, hb⟩; have Hb := Lib.hid hb; clear hb)
      go_ret
      exact ⟨rfl, ((Below.refl _ _).alloc (Nat.le_refl _) _).trans (Hb.out.mono (by simp))⟩

def PiecesYes (s : ByteArray) (w : World) (e : Ending) (w' : World) : Prop :=
  ∃ l : List ByteArray, e = .returned (.slice (some ⟨w.heap.size, 0, none⟩) l.length l.length) ∧ l.map (·.data.toList) = splitL s.data.toList ∧ IsStrs w' (.slice (some ⟨w.heap.size, 0, none⟩) l.length l.length) l ∧ Below w.heap.size w w'

set_option maxHeartbeats 1000000 in
theorem path_pieces_yes (s : ByteArray) (w : World) (hm : MX w) (hyes : mayL s.data.toList = true) :
    Calls Tryz.prog 70 #[.string s] w (PiecesYes s w) := by
  obtain ⟨g1, g2, g3⟩ := (may_iff s.data.toList).1 hyes
  have h1 : s.size ≤ 128 := g1
  clear g1 hyes
  have G2 := Lib.hid g2; have G3 := Lib.hid g3; clear g2 g3
  have Hm := Lib.hid hm; clear hm
  go_enter Tryz.func70, Tryz.ntmps70
  go_wp2_with fail
  refine (path_split s (by omega) _ Hm.out).mono ?_
  rintro e w' ⟨L, rfl, HL, rfl⟩
  have h2 : L.length ≤ 8 := by have := G2.out; rw [← HL.out, List.length_map] at this; exact this
  have hc := path_containsFunc L w.heap.size 0 L.length (w.alloc (.cells (L.map Value.string).toArray 9)) (by omega) (fun i hi => by have := el_small HL.out i hi; unfold maxLen; have e : s.data.toList.length = s.size := rfl; omega) (by simp)
    (fun i hi => by
      obtain ⟨a, cap, hv, h⟩ := IsStrs.new w L L.length 9 (0, 0)
      rcases h with h | ⟨b, off, ha, _, hcc⟩
      · subst h; simp at hi
      · simp only [Value.slice.injEq] at hv
        obtain ⟨rfl, _⟩ := hv
        simp only [Option.some.injEq, Addr.mk.injEq, and_true] at ha
        obtain ⟨rfl, rfl⟩ := ha
        exact hcc i hi)
  rw [map_all HL.out, G3.out] at hc
  have Hc := Lib.hid hc; clear hc
  go_wp2_with (go_at_call 96; refine (Hc.out).mono ?_; rintro e w' ⟨rfl, hb⟩; have Hb := Lib.hid hb; clear hb)
  go_ret
  exact ⟨L, rfl, HL.out, (IsStrs.new w L L.length 9 (0, 0)).below Hb.out (Nat.le_refl _), ((Below.refl _ _).alloc (Nat.le_refl _) _).trans (Hb.out.mono (by simp))⟩

set_option maxHeartbeats 1000000 in
theorem path_may (s : ByteArray) (hs : s.size ≤ 140737488351232) (w : World) (hm : MX w) :
    Calls Tryz.prog 34 #[.string s] w fun e w' => e = .returned (.bool (mayL s.data.toList)) ∧ Below w.heap.size w w' := by
  cases h : mayL s.data.toList with
  | false =>
    have c := path_pieces_no s hs w hm h
    have C := Lib.hid c; clear c h hm
    have hne := fun w => run_neq_slice_nil_any (P := Tryz.prog) w 49 9 none 0 0 0 0 Tryz.underlying49
    go_enter Tryz.func34, Tryz.ntmps34
    go_wp2_with (go_at_call 70; refine (C.out).mono ?_; rintro e w' ⟨rfl, hb⟩; have Hb := Lib.hid hb; clear hb)
    go_ret
    exact ⟨rfl, Hb.out⟩
  | true =>
    have c := path_pieces_yes s w hm h
    have C := Lib.hid c; clear c h hm
    have hne := fun w n => run_neq_slice_nil_any (P := Tryz.prog) w 49 9 (some ⟨w.heap.size, 0, none⟩) n n 0 0 Tryz.underlying49
    go_enter Tryz.func34, Tryz.ntmps34
    go_wp2_with (go_at_call 70; refine (C.out).mono ?_; rintro e w' ⟨L, rfl, _, _, hb⟩; have Hb := Lib.hid hb; clear hb)
    go_ret
    exact ⟨rfl, Hb.out⟩

theorem emptyT {s : ByteArray} (h : s.data.toList = []) : s.toList = [] := by rw [ByteArray.toList_eq]; exact h
theorem emptyF {s : ByteArray} (h : ¬ s.data.toList = []) : s.toList.isEmpty = false := by rw [ByteArray.toList_eq]; simpa using h
theorem emptyG {s : ByteArray} (h : ¬ s.data.toList = []) : ¬ s.toList = [] := by rw [ByteArray.toList_eq]; exact h

set_option maxHeartbeats 1000000 in
theorem path_prefix (s : ByteArray) (hs : s.size ≤ 140737488351232) (w : World) (hm : MX w) :
    Calls Tryz.prog 38 #[.string s] w fun e w' => e = .returned (.bool (prefL s.data.toList)) ∧ Below w.heap.size w w' := by
  by_cases h : s.data.toList = []
  · have H := Lib.hid h; have h1 := emptyT h; clear h hm
    go_enter Tryz.func38, Tryz.ntmps38
    go_wp2_with fail
    go_ret
    exact ⟨ret_bool (by rw [H.out]; rfl), Below.refl _ _⟩
  · have c := path_may s hs w hm
    have C := Lib.hid c; clear c hm
    have H := Lib.hid h; have h1 := emptyF h; have h2 := emptyG h; clear h
    go_enter Tryz.func38, Tryz.ntmps38
    go_wp2_with (go_at_call 34; refine (C.out).mono ?_; rintro e w' ⟨rfl, hb⟩; have Hb := Lib.hid hb; clear hb)
    go_ret
    refine ⟨ret_bool ?_, Hb.out⟩
    have h3 : s.data.toList.isEmpty = false := by simpa using H.out
    simp only [prefL, h3, Bool.false_or]

end Go.Proofs.YtggdkfijioeijaaGreatDoor

namespace Go.Proofs.YtggdkfijioeijaaGreatDoor
open Go Go.RowKit
def IsL {α : Type} (k : Nat) (C : α → List Value) (z : α) (w : World) (v : Value) (l : List α) : Prop :=
  ∃ a cp, v = .slice a l.length cp ∧ (l = [] ∨ ∃ b off, a = some ⟨b, off, none⟩ ∧ b < w.heap.size ∧ ∀ i, i < l.length → ∀ j u, (C (l.getD i z))[j]? = some u → w.cell? ⟨b, off + i * k + j, none⟩ = some u)
theorem IsL.below {α : Type} {k : Nat} {C : α → List Value} {z : α} {w w' : World} {v : Value} {l : List α} {B : Nat} (h : IsL k C z w v l) (hb : Below B w w') (hB : w.heap.size ≤ B) : IsL k C z w' v l := by
  obtain ⟨a, cp, rfl, h⟩ := h
  refine ⟨a, cp, rfl, ?_⟩
  rcases h with h | ⟨b, off, rfl, hlt, hc⟩
  · exact Or.inl h
  · exact Or.inr ⟨b, off, rfl, by have := hb.size; omega, fun i hi j u hu => (hb.cell (p := ⟨b, off + i * k + j, none⟩) (by dsimp only; omega)).trans (hc i hi j u hu)⟩
theorem IsL.nil {α : Type} (k : Nat) (C : α → List Value) (z : α) (w : World) : IsL k C z w (.slice none 0 0) [] := ⟨none, 0, rfl, Or.inl rfl⟩
theorem IsL.len {α : Type} {k : Nat} {C : α → List Value} {z : α} {w : World} {a : Option Addr} {n cp : Nat} {l : List α} (h : IsL k C z w (.slice a n cp) l) : n = l.length := by
  obtain ⟨a', cp', h1, _⟩ := h
  cases h1; rfl
theorem flat_at {α : Type} {k : Nat} {C : α → List Value} (hC : ∀ x, (C x).length = k) (z : α) : ∀ (l : List α) (i : Nat), i < l.length → ∀ j u, (C (l.getD i z))[j]? = some u → (l.flatMap C)[i * k + j]? = some u
  | [], i, h, _, _, _ => by simp at h
  | x :: l, 0, _, j, u, hu => by
    have hj : j < (C x).length := (List.getElem?_eq_some_iff.1 hu).1
    rw [List.flatMap_cons, Nat.zero_mul, Nat.zero_add, List.getElem?_append_left hj]
    exact hu
  | x :: l, i + 1, h, j, u, hu => by
    rw [List.flatMap_cons, List.getElem?_append_right (by rw [hC]; rw [Nat.add_mul]; omega), hC, show (i + 1) * k + j - k = i * k + j by rw [Nat.add_mul]; omega]
    exact flat_at hC z l i (by simpa using h) j u hu
theorem flat_length {α : Type} {k : Nat} {C : α → List Value} (hC : ∀ x, (C x).length = k) (l : List α) : (l.flatMap C).length = l.length * k := by
  induction l with
  | nil => simp
  | cons x l ih => rw [List.flatMap_cons, List.length_append, ih, hC, List.length_cons, Nat.add_mul]; omega
theorem flat_snoc {α : Type} (C : α → List Value) (l : List α) (x : α) : (l ++ [x]).flatMap C = l.flatMap C ++ C x := by simp
theorem IsL.own {α : Type} {k : Nat} {C : α → List Value} (hC : ∀ x, (C x).length = k) (_hk : 0 < k) (z : α) {w : World} {B e : Nat} {v : Value} {l : List α} (h : w.ownsRow B e k v l.length (l.flatMap C)) : IsL k C z w v l := by
  rcases h.2 with ⟨hv, hl⟩ | ⟨g, cap, cur, hv, hB, hg, hn, hcap, hsz, htake⟩
  · have : l = [] := List.length_eq_zero_iff.1 hl
    subst this; exact ⟨none, 0, hv, Or.inl rfl⟩
  · subst hv
    refine ⟨_, cap, rfl, Or.inr ⟨g, 0, rfl, (Array.getElem?_eq_some_iff.1 hg).1, fun i hi j u hu => ?_⟩⟩
    have hj : j < k := by have := (List.getElem?_eq_some_iff.1 hu).1; rw [hC] at this; exact this
    have hlt : i * k + j < l.length * k := by
      have : (i + 1) * k ≤ l.length * k := Nat.mul_le_mul_right k hi
      rw [Nat.add_mul] at this; omega
    have c1 := World.ownsRow.cellAt h (i * k + j) hlt
    rw [Nat.zero_add, c1]
    exact flat_at hC z l i hi j u hu

structure Rd where
  path : ByteArray
  n : Nat
def dRd : Rd := ⟨ByteArray.empty, 0⟩
def rdC (r : Rd) : List Value := [.string r.path, .int .u64 (r.n : Int)]
theorem rdC_len (r : Rd) : (rdC r).length = 2 := rfl
structure Ed where
  kind : Nat
  path : ByteArray
  any : Bool
  want : Nat
  n : Nat
  text : ByteArray
def dEd : Ed := ⟨0, ByteArray.empty, false, 0, 0, ByteArray.empty⟩
def edC (x : Ed) : List Value := [.int .u8 (x.kind : Int), .string x.path, .bool x.any, .int .u64 (x.want : Int), .int .u64 (x.n : Int), .string x.text]
theorem edC_len (x : Ed) : (edC x).length = 6 := rfl
def ixC (n : Nat) : List Value := [.int .i64 (n : Int)]
theorem ixC_len (n : Nat) : (ixC n).length = 1 := rfl
abbrev IsRds (w : World) (v : Value) (l : List Rd) : Prop := IsL 2 rdC dRd w v l
abbrev IsEds (w : World) (v : Value) (l : List Ed) : Prop := IsL 6 edC dEd w v l
abbrev IsIxs (w : World) (v : Value) (l : List Nat) : Prop := IsL 1 ixC 0 w v l
theorem rdC_ones (l : List Rd) : ∀ u ∈ l.flatMap rdC, u.oneCell' = true := by
  intro u hu
  obtain ⟨x, _, hx⟩ := List.mem_flatMap.1 hu
  simp only [rdC, List.mem_cons, List.mem_nil_iff, or_false] at hx
  rcases hx with rfl | rfl <;> rfl
theorem edC_ones (l : List Ed) : ∀ u ∈ l.flatMap edC, u.oneCell' = true := by
  intro u hu
  obtain ⟨x, _, hx⟩ := List.mem_flatMap.1 hu
  simp only [edC, List.mem_cons, List.mem_nil_iff, or_false] at hx
  rcases hx with rfl | rfl | rfl | rfl | rfl | rfl <;> rfl

structure Ask where
  shard : Nat
  reads : List Rd
  readAt : List Nat
  edits : List Ed
  editAt : List Nat
  list : Bool
  pre : ByteArray
  give : Bool
  take : Bool
  f : Nat
  t : Nat
def Ask.new (s : Nat) : Ask := ⟨s, [], [], [], [], false, ByteArray.empty, false, false, 0, 0⟩
def dAsk : Ask := Ask.new 0
abbrev askV (A : Ask) (v1 v2 v3 v4 : Value) : Array Value := #[.int .u32 (A.shard : Int), v1, v2, v3, v4, .bool A.list, .string A.pre, .bool A.give, .bool A.take, .int .u64 (A.f : Int), .int .u64 (A.t : Int)]
end Go.Proofs.YtggdkfijioeijaaGreatDoor
namespace Go.Proofs.YtggdkfijioeijaaGreatDoor
open Go Go.RowKit Pth
def IdxG (b : Bool) (w : World) (e : Ending) (w' : World) : Prop := ∃ z : Int, e = .returned (.int .i64 z) ∧ (0 ≤ z ↔ b = true) ∧ Below w.heap.size w w'
structure SmallRd (r : Rd) : Prop where
  path : r.path.size ≤ 140737488351232
structure SmallEd (x : Ed) : Prop where
  path : x.path.size ≤ 140737488351232
  text : x.text.size ≤ 140737488351232
  kind : x.kind < 256
def badR (r : Rd) : Bool := !mayL r.path.data.toList
def badE (x : Ed) : Bool := decide (x.kind < 1) || decide (3 < x.kind) || !mayL x.path.data.toList
def longE (x : Ed) : Bool := decide (4047 < x.text.size)

set_option maxHeartbeats 1000000 in
theorem clo_r (r : Rd) (h : SmallRd r) (w : World) (hm : MX w) : Calls Tryz.prog 33 #[.agg (rdC r).toArray] w fun e w' => e = .returned (.bool (badR r)) ∧ Below w.heap.size w w' := by
  unfold rdC badR
  have HP := Lib.hid (fun (W : World) (hW : Below w.heap.size w W) => path_may r.path h.path W (hm.below hW (Nat.le_refl _)))
  obtain ⟨b, hb⟩ : ∃ b, mayL r.path.data.toList = b := ⟨_, rfl⟩
  rw [hb] at HP ⊢
  clear hb h hm
  go_enter Tryz.func33, Tryz.ntmps33
  go_wp2_with fail
  have hb0 : Below w.heap.size w (w.alloc (.cells #[.string r.path, .int .u64 (r.n : Int)] 56)) := (Below.refl _ _).alloc (Nat.le_refl _) _
  refine (HP.out _ hb0).mono ?_
  rintro e w1 ⟨rfl, hb1⟩
  have HB := Lib.hid (hb0.trans (hb1.mono hb0.size)); clear hb1 hb0
  go_wp2_with fail
  go_ret
  exact ⟨rfl, HB.out⟩
set_option maxRecDepth 100000 in
set_option maxHeartbeats 2000000 in
theorem clo_e (r : Ed) (h : SmallEd r) (w : World) (hm : MX w) : Calls Tryz.prog 36 #[.agg (edC r).toArray] w fun e w' => e = .returned (.bool (badE r)) ∧ Below w.heap.size w w' := by
  unfold edC badE
  have HP := Lib.hid (fun (W : World) (hW : Below w.heap.size w W) => path_may r.path h.path W (hm.below hW (Nat.le_refl _)))
  obtain ⟨b, hb⟩ : ∃ b, mayL r.path.data.toList = b := ⟨_, rfl⟩
  rw [hb] at HP ⊢
  clear hb h hm
  have hb0 : Below w.heap.size w (w.alloc (.cells #[.int .u8 (r.kind : Int), .string r.path, .bool r.any, .int .u64 (r.want : Int), .int .u64 (r.n : Int), .string r.text] 63)) := (Below.refl _ _).alloc (Nat.le_refl _) _
  have HB0 := Lib.hid hb0; clear hb0
  by_cases h1 : r.kind < 1
  · have h1' : (r.kind : Int) < 1 := by omega
    rw [decide_eq_true h1]
    clear h1
    go_enter Tryz.func36, Tryz.ntmps36
    go_wp2_with fail
    go_ret
    exact ⟨rfl, HB0.out⟩
  · have h1' : ¬ (r.kind : Int) < 1 := by omega
    rw [decide_eq_false h1]
    by_cases h2 : 3 < r.kind
    · have h2' : (3 : Int) < (r.kind : Int) := by omega
      rw [decide_eq_true h2]
      clear h1 h2
      go_enter Tryz.func36, Tryz.ntmps36
      go_wp2_with fail
      go_ret
      exact ⟨rfl, HB0.out⟩
    · have h2' : ¬ (3 : Int) < (r.kind : Int) := by omega
      rw [decide_eq_false h2]
      clear h1 h2
      go_enter Tryz.func36, Tryz.ntmps36
      go_wp2_with fail
      refine (HP.out _ HB0.out).mono ?_
      rintro e w1 ⟨rfl, hb1⟩
      have HB := Lib.hid (HB0.out.trans (hb1.mono HB0.out.size)); clear hb1
      go_wp2_with fail
      go_ret
      exact ⟨rfl, HB.out⟩
set_option maxHeartbeats 1000000 in
theorem clo_l (r : Ed) (_h : SmallEd r) (w : World) (_hm : MX w) : Calls Tryz.prog 37 #[.agg (edC r).toArray] w fun e w' => e = .returned (.bool (longE r)) ∧ Below w.heap.size w w' := by
  unfold edC longE
  clear _hm _h
  by_cases h1 : 4047 < r.text.size
  · have h1' : (4047 : Int) < (r.text.size : Int) := by omega
    rw [decide_eq_true h1]
    clear h1
    go_enter Tryz.func37, Tryz.ntmps37
    go_wp2_with fail
    go_ret
    exact ⟨rfl, (Below.refl _ _).alloc (Nat.le_refl _) _⟩
  · have h1' : ¬ (4047 : Int) < (r.text.size : Int) := by omega
    rw [decide_eq_false h1]
    clear h1
    go_enter Tryz.func37, Tryz.ntmps37
    go_wp2_with fail
    go_ret
    exact ⟨rfl, (Below.refl _ _).alloc (Nat.le_refl _) _⟩

set_option maxRecDepth 100000 in
set_option maxHeartbeats 2000000 in
theorem idx_r (l : List Rd) (v : Value) (w : World) (hv : IsL 2 rdC dRd w v l) (hl : l.length ≤ 9223372036854775807) (hok : ∀ r ∈ l, SmallRd r) (hm : MX w) :
    Calls Tryz.prog 69 #[v, .func (.func 33) #[] #[]] w (IdxG (l.any badR) w) := by
  obtain ⟨a, cap, rfl, hc⟩ := hv
  have HC := Lib.hid hc; have HM := Lib.hid hm; have HOK := Lib.hid hok
  have HF := Lib.hid (fun (r : Rd) (h : SmallRd r) (W : World) (hW : Below w.heap.size w W) => clo_r r h W (hm.below hW (Nat.le_refl _)))
  clear hc hm hok
  go_enter Tryz.func69, Tryz.ntmps69
  go_wp2
  go_loopw [8] (fun i wr => ∃ k : Nat, k ≤ l.length ∧ i = .int .i64 k ∧ Hid ((l.take k).any badR = false) ∧ Hid (Below w.heap.size w wr)) (fun i _ => l.length - (intOf i).toNat)
  case atStart => exact ⟨0, Nat.zero_le _, rfl, Lib.hid rfl, Lib.hid (Below.refl _ _)⟩
  case round =>
    obtain ⟨k, hk, rfl, hmm, hbw⟩ := hrel
    by_cases hlt : k < l.length
    · rcases HC.out with hn | ⟨b, off, rfl, hblt, hcc⟩
      · subst hn; simp at hlt
      have hr : l.getD k dRd ∈ l := by rw [List.getD_eq_getElem?_getD, List.getElem?_eq_getElem hlt]; exact List.getElem_mem _
      have hf := HF.out _ (HOK.out _ hr) wr hbw.out
      have htk : (l.take (k + 1)).any badR = ((l.take k).any badR || badR (l.getD k dRd)) := by
        rw [List.take_succ_eq_append_getElem hlt, List.any_append, List.getD_eq_getElem?_getD, List.getElem?_eq_getElem hlt]; simp
      have hin : badR (l.getD k dRd) = true → l.any badR = true := fun h => List.any_eq_true.2 ⟨_, hr, h⟩
      have hc0 := hcc k hlt
      obtain ⟨r, hre⟩ : ∃ r, l.getD k dRd = r := ⟨_, rfl⟩
      rw [hre] at hf htk hc0 hin
      have x0 : wr.cell? ⟨b, off + k * 2, none⟩ = some (.string r.path) := (hbw.out.cell (p := ⟨b, off + k * 2 + 0, none⟩) hblt).trans (hc0 0 _ rfl)
      have x1 : wr.cell? ⟨b, off + k * 2 + 1, none⟩ = some (.int .u64 (r.n : Int)) := (hbw.out.cell (p := ⟨b, off + k * 2 + 1, none⟩) hblt).trans (hc0 1 _ rfl)
      have HR := Lib.hid hf; have HTK := Lib.hid htk; have HIN := Lib.hid hin
      unfold rdC at HR
      clear hre hr hf htk hc0 hin hcc
      cases hb : badR r with
      | true =>
        rw [hb] at HR
        have HI := Lib.hid (HIN.out hb)
        clear hb
        go_wp2_with fail
        refine HR.out.mono ?_
        rintro e w1 ⟨rfl, hb1⟩
        have HB := Lib.hid (hbw.out.trans (hb1.mono hbw.out.size)); clear hb1
        go_wp2_with fail
        go_ret
        exact ⟨(k : Int), rfl, ⟨fun _ => HI.out, fun _ => by omega⟩, HB.out⟩
      | false =>
        rw [hb] at HR
        have HN := Lib.hid (show (l.take (k + 1)).any badR = false by rw [HTK.out, hmm.out, hb]; rfl)
        clear hb
        go_wp2_with fail
        refine HR.out.mono ?_
        rintro e w1 ⟨rfl, hb1⟩
        have HB := Lib.hid (hbw.out.trans (hb1.mono hbw.out.size)); clear hb1
        go_wp2_with fail
        go_roundw
        case rel => exact ⟨k + 1, by omega, by go_num, HN, HB⟩
        case measure => simp [intOf]; omega
    · have hge : (l.length : Int) ≤ (k : Int) := by omega
      have HN := Lib.hid (show l.any badR = false by have := hmm.out; rw [List.take_of_length_le (by omega)] at this; exact this)
      go_wp2
      go_ret
      exact ⟨-1, rfl, ⟨fun h => absurd h (by decide), fun h => by rw [HN.out] at h; cases h⟩, hbw.out⟩
set_option maxRecDepth 100000 in
set_option maxHeartbeats 2000000 in
theorem has_r (l : List Rd) (v : Value) (w : World) (hv : IsL 2 rdC dRd w v l) (hl : l.length ≤ 9223372036854775807) (hok : ∀ r ∈ l, SmallRd r) (hm : MX w) :
    Calls Tryz.prog 32 #[v, .func (.func 33) #[] #[]] w fun e w' => e = .returned (.bool (l.any badR)) ∧ Below w.heap.size w w' := by
  have HI := Lib.hid (idx_r l v w hv hl hok hm)
  clear hv hl hok hm
  obtain ⟨b, hb⟩ : ∃ b, l.any badR = b := ⟨_, rfl⟩
  rw [hb] at HI ⊢
  clear hb
  go_enter Tryz.func32, Tryz.ntmps32
  go_wp2_with fail
  refine HI.out.mono ?_
  rintro e w1 ⟨z, rfl, hz, hb1⟩
  have HB := Lib.hid hb1; clear hb1
  cases b with
  | true =>
    have h0 : 0 ≤ z := hz.2 rfl
    clear hz
    go_wp2_with fail
    go_ret
    exact ⟨rfl, HB.out⟩
  | false =>
    have h0 : ¬ 0 ≤ z := fun h => by have := hz.1 h; cases this
    have hd : decide (0 ≤ z) = false := decide_eq_false h0
    clear hz
    go_wp2_with fail
    go_ret
    exact ⟨rfl, HB.out⟩

set_option maxRecDepth 100000 in
set_option maxHeartbeats 2000000 in
theorem idx_e (l : List Ed) (v : Value) (w : World) (hv : IsL 6 edC dEd w v l) (hl : l.length ≤ 9223372036854775807) (hok : ∀ r ∈ l, SmallEd r) (hm : MX w) :
    Calls Tryz.prog 71 #[v, .func (.func 36) #[] #[]] w (IdxG (l.any badE) w) := by
  obtain ⟨a, cap, rfl, hc⟩ := hv
  have HC := Lib.hid hc; have HM := Lib.hid hm; have HOK := Lib.hid hok
  have HF := Lib.hid (fun (r : Ed) (h : SmallEd r) (W : World) (hW : Below w.heap.size w W) => clo_e r h W (hm.below hW (Nat.le_refl _)))
  clear hc hm hok
  go_enter Tryz.func71, Tryz.ntmps71
  go_wp2
  go_loopw [8] (fun i wr => ∃ k : Nat, k ≤ l.length ∧ i = .int .i64 k ∧ Hid ((l.take k).any badE = false) ∧ Hid (Below w.heap.size w wr)) (fun i _ => l.length - (intOf i).toNat)
  case atStart => exact ⟨0, Nat.zero_le _, rfl, Lib.hid rfl, Lib.hid (Below.refl _ _)⟩
  case round =>
    obtain ⟨k, hk, rfl, hmm, hbw⟩ := hrel
    by_cases hlt : k < l.length
    · rcases HC.out with hn | ⟨b, off, rfl, hblt, hcc⟩
      · subst hn; simp at hlt
      have hr : l.getD k dEd ∈ l := by rw [List.getD_eq_getElem?_getD, List.getElem?_eq_getElem hlt]; exact List.getElem_mem _
      have hf := HF.out _ (HOK.out _ hr) wr hbw.out
      have htk : (l.take (k + 1)).any badE = ((l.take k).any badE || badE (l.getD k dEd)) := by
        rw [List.take_succ_eq_append_getElem hlt, List.any_append, List.getD_eq_getElem?_getD, List.getElem?_eq_getElem hlt]; simp
      have hin : badE (l.getD k dEd) = true → l.any badE = true := fun h => List.any_eq_true.2 ⟨_, hr, h⟩
      have hc0 := hcc k hlt
      obtain ⟨r, hre⟩ : ∃ r, l.getD k dEd = r := ⟨_, rfl⟩
      rw [hre] at hf htk hc0 hin
      have x0 : wr.cell? ⟨b, off + k * 6, none⟩ = some (.int .u8 (r.kind : Int)) := (hbw.out.cell (p := ⟨b, off + k * 6 + 0, none⟩) hblt).trans (hc0 0 _ rfl)
      have x1 : wr.cell? ⟨b, off + k * 6 + 1, none⟩ = some (.string r.path) := (hbw.out.cell (p := ⟨b, off + k * 6 + 1, none⟩) hblt).trans (hc0 1 _ rfl)
      have x2 : wr.cell? ⟨b, off + k * 6 + 2, none⟩ = some (.bool r.any) := (hbw.out.cell (p := ⟨b, off + k * 6 + 2, none⟩) hblt).trans (hc0 2 _ rfl)
      have x3 : wr.cell? ⟨b, off + k * 6 + 3, none⟩ = some (.int .u64 (r.want : Int)) := (hbw.out.cell (p := ⟨b, off + k * 6 + 3, none⟩) hblt).trans (hc0 3 _ rfl)
      have x4 : wr.cell? ⟨b, off + k * 6 + 4, none⟩ = some (.int .u64 (r.n : Int)) := (hbw.out.cell (p := ⟨b, off + k * 6 + 4, none⟩) hblt).trans (hc0 4 _ rfl)
      have x5 : wr.cell? ⟨b, off + k * 6 + 5, none⟩ = some (.string r.text) := (hbw.out.cell (p := ⟨b, off + k * 6 + 5, none⟩) hblt).trans (hc0 5 _ rfl)
      have HR := Lib.hid hf; have HTK := Lib.hid htk; have HIN := Lib.hid hin
      unfold edC at HR
      clear hre hr hf htk hc0 hin hcc
      cases hb : badE r with
      | true =>
        rw [hb] at HR
        have HI := Lib.hid (HIN.out hb)
        clear hb
        go_wp2_with fail
        refine HR.out.mono ?_
        rintro e w1 ⟨rfl, hb1⟩
        have HB := Lib.hid (hbw.out.trans (hb1.mono hbw.out.size)); clear hb1
        go_wp2_with fail
        go_ret
        exact ⟨(k : Int), rfl, ⟨fun _ => HI.out, fun _ => by omega⟩, HB.out⟩
      | false =>
        rw [hb] at HR
        have HN := Lib.hid (show (l.take (k + 1)).any badE = false by rw [HTK.out, hmm.out, hb]; rfl)
        clear hb
        go_wp2_with fail
        refine HR.out.mono ?_
        rintro e w1 ⟨rfl, hb1⟩
        have HB := Lib.hid (hbw.out.trans (hb1.mono hbw.out.size)); clear hb1
        go_wp2_with fail
        go_roundw
        case rel => exact ⟨k + 1, by omega, by go_num, HN, HB⟩
        case measure => simp [intOf]; omega
    · have hge : (l.length : Int) ≤ (k : Int) := by omega
      have HN := Lib.hid (show l.any badE = false by have := hmm.out; rw [List.take_of_length_le (by omega)] at this; exact this)
      go_wp2
      go_ret
      exact ⟨-1, rfl, ⟨fun h => absurd h (by decide), fun h => by rw [HN.out] at h; cases h⟩, hbw.out⟩
set_option maxRecDepth 100000 in
set_option maxHeartbeats 2000000 in
theorem has_e (l : List Ed) (v : Value) (w : World) (hv : IsL 6 edC dEd w v l) (hl : l.length ≤ 9223372036854775807) (hok : ∀ r ∈ l, SmallEd r) (hm : MX w) :
    Calls Tryz.prog 35 #[v, .func (.func 36) #[] #[]] w fun e w' => e = .returned (.bool (l.any badE)) ∧ Below w.heap.size w w' := by
  have HI := Lib.hid (idx_e l v w hv hl hok hm)
  clear hv hl hok hm
  obtain ⟨b, hb⟩ : ∃ b, l.any badE = b := ⟨_, rfl⟩
  rw [hb] at HI ⊢
  clear hb
  go_enter Tryz.func35, Tryz.ntmps35
  go_wp2_with fail
  refine HI.out.mono ?_
  rintro e w1 ⟨z, rfl, hz, hb1⟩
  have HB := Lib.hid hb1; clear hb1
  cases b with
  | true =>
    have h0 : 0 ≤ z := hz.2 rfl
    clear hz
    go_wp2_with fail
    go_ret
    exact ⟨rfl, HB.out⟩
  | false =>
    have h0 : ¬ 0 ≤ z := fun h => by have := hz.1 h; cases this
    have hd : decide (0 ≤ z) = false := decide_eq_false h0
    clear hz
    go_wp2_with fail
    go_ret
    exact ⟨rfl, HB.out⟩

set_option maxRecDepth 100000 in
set_option maxHeartbeats 2000000 in
theorem idx_l (l : List Ed) (v : Value) (w : World) (hv : IsL 6 edC dEd w v l) (hl : l.length ≤ 9223372036854775807) (hok : ∀ r ∈ l, SmallEd r) (hm : MX w) :
    Calls Tryz.prog 71 #[v, .func (.func 37) #[] #[]] w (IdxG (l.any longE) w) := by
  obtain ⟨a, cap, rfl, hc⟩ := hv
  have HC := Lib.hid hc; have HM := Lib.hid hm; have HOK := Lib.hid hok
  have HF := Lib.hid (fun (r : Ed) (h : SmallEd r) (W : World) (hW : Below w.heap.size w W) => clo_l r h W (hm.below hW (Nat.le_refl _)))
  clear hc hm hok
  go_enter Tryz.func71, Tryz.ntmps71
  go_wp2
  go_loopw [8] (fun i wr => ∃ k : Nat, k ≤ l.length ∧ i = .int .i64 k ∧ Hid ((l.take k).any longE = false) ∧ Hid (Below w.heap.size w wr)) (fun i _ => l.length - (intOf i).toNat)
  case atStart => exact ⟨0, Nat.zero_le _, rfl, Lib.hid rfl, Lib.hid (Below.refl _ _)⟩
  case round =>
    obtain ⟨k, hk, rfl, hmm, hbw⟩ := hrel
    by_cases hlt : k < l.length
    · rcases HC.out with hn | ⟨b, off, rfl, hblt, hcc⟩
      · subst hn; simp at hlt
      have hr : l.getD k dEd ∈ l := by rw [List.getD_eq_getElem?_getD, List.getElem?_eq_getElem hlt]; exact List.getElem_mem _
      have hf := HF.out _ (HOK.out _ hr) wr hbw.out
      have htk : (l.take (k + 1)).any longE = ((l.take k).any longE || longE (l.getD k dEd)) := by
        rw [List.take_succ_eq_append_getElem hlt, List.any_append, List.getD_eq_getElem?_getD, List.getElem?_eq_getElem hlt]; simp
      have hin : longE (l.getD k dEd) = true → l.any longE = true := fun h => List.any_eq_true.2 ⟨_, hr, h⟩
      have hc0 := hcc k hlt
      obtain ⟨r, hre⟩ : ∃ r, l.getD k dEd = r := ⟨_, rfl⟩
      rw [hre] at hf htk hc0 hin
      have x0 : wr.cell? ⟨b, off + k * 6, none⟩ = some (.int .u8 (r.kind : Int)) := (hbw.out.cell (p := ⟨b, off + k * 6 + 0, none⟩) hblt).trans (hc0 0 _ rfl)
      have x1 : wr.cell? ⟨b, off + k * 6 + 1, none⟩ = some (.string r.path) := (hbw.out.cell (p := ⟨b, off + k * 6 + 1, none⟩) hblt).trans (hc0 1 _ rfl)
      have x2 : wr.cell? ⟨b, off + k * 6 + 2, none⟩ = some (.bool r.any) := (hbw.out.cell (p := ⟨b, off + k * 6 + 2, none⟩) hblt).trans (hc0 2 _ rfl)
      have x3 : wr.cell? ⟨b, off + k * 6 + 3, none⟩ = some (.int .u64 (r.want : Int)) := (hbw.out.cell (p := ⟨b, off + k * 6 + 3, none⟩) hblt).trans (hc0 3 _ rfl)
      have x4 : wr.cell? ⟨b, off + k * 6 + 4, none⟩ = some (.int .u64 (r.n : Int)) := (hbw.out.cell (p := ⟨b, off + k * 6 + 4, none⟩) hblt).trans (hc0 4 _ rfl)
      have x5 : wr.cell? ⟨b, off + k * 6 + 5, none⟩ = some (.string r.text) := (hbw.out.cell (p := ⟨b, off + k * 6 + 5, none⟩) hblt).trans (hc0 5 _ rfl)
      have HR := Lib.hid hf; have HTK := Lib.hid htk; have HIN := Lib.hid hin
      unfold edC at HR
      clear hre hr hf htk hc0 hin hcc
      cases hb : longE r with
      | true =>
        rw [hb] at HR
        have HI := Lib.hid (HIN.out hb)
        clear hb
        go_wp2_with fail
        refine HR.out.mono ?_
        rintro e w1 ⟨rfl, hb1⟩
        have HB := Lib.hid (hbw.out.trans (hb1.mono hbw.out.size)); clear hb1
        go_wp2_with fail
        go_ret
        exact ⟨(k : Int), rfl, ⟨fun _ => HI.out, fun _ => by omega⟩, HB.out⟩
      | false =>
        rw [hb] at HR
        have HN := Lib.hid (show (l.take (k + 1)).any longE = false by rw [HTK.out, hmm.out, hb]; rfl)
        clear hb
        go_wp2_with fail
        refine HR.out.mono ?_
        rintro e w1 ⟨rfl, hb1⟩
        have HB := Lib.hid (hbw.out.trans (hb1.mono hbw.out.size)); clear hb1
        go_wp2_with fail
        go_roundw
        case rel => exact ⟨k + 1, by omega, by go_num, HN, HB⟩
        case measure => simp [intOf]; omega
    · have hge : (l.length : Int) ≤ (k : Int) := by omega
      have HN := Lib.hid (show l.any longE = false by have := hmm.out; rw [List.take_of_length_le (by omega)] at this; exact this)
      go_wp2
      go_ret
      exact ⟨-1, rfl, ⟨fun h => absurd h (by decide), fun h => by rw [HN.out] at h; cases h⟩, hbw.out⟩
set_option maxRecDepth 100000 in
set_option maxHeartbeats 2000000 in
theorem has_l (l : List Ed) (v : Value) (w : World) (hv : IsL 6 edC dEd w v l) (hl : l.length ≤ 9223372036854775807) (hok : ∀ r ∈ l, SmallEd r) (hm : MX w) :
    Calls Tryz.prog 35 #[v, .func (.func 37) #[] #[]] w fun e w' => e = .returned (.bool (l.any longE)) ∧ Below w.heap.size w w' := by
  have HI := Lib.hid (idx_l l v w hv hl hok hm)
  clear hv hl hok hm
  obtain ⟨b, hb⟩ : ∃ b, l.any longE = b := ⟨_, rfl⟩
  rw [hb] at HI ⊢
  clear hb
  go_enter Tryz.func35, Tryz.ntmps35
  go_wp2_with fail
  refine HI.out.mono ?_
  rintro e w1 ⟨z, rfl, hz, hb1⟩
  have HB := Lib.hid hb1; clear hb1
  cases b with
  | true =>
    have h0 : 0 ≤ z := hz.2 rfl
    clear hz
    go_wp2_with fail
    go_ret
    exact ⟨rfl, HB.out⟩
  | false =>
    have h0 : ¬ 0 ≤ z := fun h => by have := hz.1 h; cases this
    have hd : decide (0 ≤ z) = false := decide_eq_false h0
    clear hz
    go_wp2_with fail
    go_ret
    exact ⟨rfl, HB.out⟩
end Go.Proofs.YtggdkfijioeijaaGreatDoor
