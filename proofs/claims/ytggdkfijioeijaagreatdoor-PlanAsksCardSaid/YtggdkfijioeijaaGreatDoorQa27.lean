/- Contracts: scriniumref16 piece, cut, Pieces. -/
import Derived.Test.YtggdkfijioeijaaGreatDoorQa00
import Derived.Deep.DeepMust
import Derived.Deep.QuietTactic
import Derived.BigQuiet
namespace Go.Proofs.YtggdkfijioeijaaGreatDoor
open Go Go.RowKit Pth
theorem take_snoc (s : ByteArray) (k : Nat) (h : k < s.size) : s.data.toList.take (k + 1) = s.data.toList.take k ++ [s[k]] := by
  rw [List.take_succ_eq_append_getElem (by simpa using h)]; rfl

theorem all_take_succ (s : ByteArray) (k : Nat) (h : k < s.size) (h0 : (s.data.toList.take k).all okc = true) (hc : okc s[k] = true) : (s.data.toList.take (k + 1)).all okc = true := by
  rw [take_snoc s k h, List.all_append, h0]; simp [hc]
theorem okPiece_no (s : ByteArray) (k : Nat) (h : k < s.size) (hc : okc s[k] = false) : okPiece s.data.toList = false := by
  have : s.data.toList.all okc = false := by
    rw [List.all_eq_false]; exact ⟨s[k], by simp only [Array.mem_toList_iff]; exact Array.getElem_mem h, by simp [hc]⟩
  simp [okPiece, this]
theorem okPiece_yes (s : ByteArray) (h1 : 1 ≤ s.size) (h2 : s.size ≤ 32) (k : Nat) (h : ¬ k < s.size) (h0 : (s.data.toList.take k).all okc = true) : okPiece s.data.toList = true := by
  rw [List.take_of_length_le (by simp; omega)] at h0
  simp [okPiece, h0]; exact ⟨h1, h2⟩
theorem okPiece_size (s : ByteArray) (h : ¬ (1 ≤ s.size ∧ s.size ≤ 32)) : okPiece s.data.toList = false := by
  have e : s.data.toList.length = s.size := by simp
  simp only [okPiece, e, Bool.and_eq_false_iff]
  by_cases h1 : 1 ≤ s.size
  · left; right; rw [decide_eq_false_iff_not]; omega
  · left; left; rw [decide_eq_false_iff_not]; omega
theorem okc_cases (c : UInt8) : (okc c = true ∧ (97 ≤ (c.toNat : Int) ∧ (c.toNat : Int) ≤ 122)) ∨ (okc c = true ∧ (c.toNat : Int) < 97 ∧ 48 ≤ (c.toNat : Int) ∧ (c.toNat : Int) ≤ 57) ∨ (okc c = true ∧ (c.toNat : Int) ≤ 46 ∧ 46 ≤ (c.toNat : Int)) ∨ (okc c = true ∧ (c.toNat : Int) ≤ 95 ∧ 95 ≤ (c.toNat : Int)) ∨ (okc c = true ∧ (c.toNat : Int) ≤ 45 ∧ 45 ≤ (c.toNat : Int)) ∨
    (okc c = false ∧ (c.toNat : Int) < 45) ∨ (okc c = false ∧ 46 < (c.toNat : Int) ∧ (c.toNat : Int) < 48) ∨ (okc c = false ∧ 57 < (c.toNat : Int) ∧ (c.toNat : Int) < 95) ∨ (okc c = false ∧ 95 < (c.toNat : Int) ∧ (c.toNat : Int) < 97) ∨ (okc c = false ∧ 122 < (c.toNat : Int)) := by
  simp only [okc, Bool.or_eq_true, decide_eq_true_eq, Bool.or_eq_false_iff, decide_eq_false_iff_not]
  omega

set_option maxHeartbeats 1000000 in
theorem ref16_piece (s : ByteArray) (hs : s.size ≤ maxLen) (w : World) :
    Calls Tryz.prog 50 #[.string s] w fun e w' => e = .returned (.bool (okPiece s.data.toList)) ∧ w = w' := by
  unfold maxLen at hs
  by_cases h1 : 1 ≤ s.size ∧ s.size ≤ 32
  · obtain ⟨h1, h2⟩ := h1
    go_enter Tryz.func50, Tryz.ntmps50
    go_wp2
    go_loop [3] (fun i => ∃ k : Nat, k ≤ s.size ∧ i = .int .i64 k ∧ Hid ((s.data.toList.take k).all okc = true)) (fun i => s.size - (intOf i).toNat)
    case atStart => exact ⟨0, Nat.zero_le _, rfl, Lib.hid rfl⟩
    case round =>
      obtain ⟨k, hk, rfl, hall⟩ := hrel
      by_cases hlt : k < s.size
      · rcases okc_cases s[k] with ⟨ho, hx⟩ | ⟨ho, hx⟩ | ⟨ho, hx⟩ | ⟨ho, hx⟩ | ⟨ho, hx⟩ | ⟨ho, hx⟩ | ⟨ho, hx⟩ | ⟨ho, hx⟩ | ⟨ho, hx⟩ | ⟨ho, hx⟩
        all_goals (have Ho := Lib.hid ho; clear ho; go_wp2)
        all_goals first
          | (exfalso; omega)
          | (go_round
             case rel => exact ⟨k + 1, by omega, by go_num, Lib.hid (all_take_succ s k hlt hall.out Ho.out)⟩
             case measure => simp [intOf]; omega)
          | (go_ret; exact ⟨ret_bool (okPiece_no s k hlt Ho.out).symm, rfl⟩)
          | (exfalso; simp at *; omega)
      · go_wp2
        go_ret
        exact ⟨ret_bool (okPiece_yes s h1 h2 k hlt hall.out).symm, rfl⟩
  · have H := Lib.hid (okPiece_size s h1)
    rcases (show s.size < 1 ∨ (1 ≤ s.size ∧ 32 < s.size) by omega) with h1 | ⟨h1, h2⟩
    all_goals
      go_enter Tryz.func50, Tryz.ntmps50
      go_wp2
      go_ret
      exact ⟨ret_bool H.out.symm, rfl⟩

end Go.Proofs.YtggdkfijioeijaaGreatDoor
namespace Go.Proofs.YtggdkfijioeijaaGreatDoor
open Go Go.RowKit Pth
theorem info9 : (Tryz.prog.info? 9).map (fun i => (i.zero, i.size, i.bytes)) = some (some (.string ByteArray.empty), 1, 16) := by kernel_rfl

def CutRel (s : List UInt8) (k p : Nat) (done : List ByteArray) : Prop :=
  (k ≤ s.length ∧ p ≤ k ∧ (∀ c ∈ (s.drop p).take (k - p), c ≠ 47) ∧ done.map (·.data.toList) ++ glue ((s.drop p).take (k - p)) (splitL (s.drop k)) = splitL s) ∨ (k = s.length + 1 ∧ done.map (·.data.toList) = splitL s)
theorem CutRel.start (s : List UInt8) : CutRel s 0 0 [] := by
  left; refine ⟨Nat.zero_le _, Nat.le_refl _, by simp, ?_⟩
  simp [glue_nil _ (splitL_ne s)]
theorem CutRel.skip {s : List UInt8} {k p : Nat} {done : List ByteArray} (h : CutRel s k p done) (hk : k < s.length) (hc : s[k] ≠ 47) : CutRel s (k + 1) p done := by
  rcases h with ⟨_, hp, hno, he⟩ | ⟨h1, _⟩
  · left
    have e1 : (s.drop p).take (k + 1 - p) = (s.drop p).take (k - p) ++ [s[k]] := by
      rw [show k + 1 - p = (k - p) + 1 by omega, List.take_succ_eq_append_getElem (by rw [List.length_drop]; omega)]
      congr 2
      rw [List.getElem_drop]; congr 1; omega
    have e2 : splitL (s.drop k) = glue [s[k]] (splitL (s.drop (k + 1))) := by
      rw [List.drop_eq_getElem_cons hk, splitL, if_neg hc]
    refine ⟨by omega, by omega, ?_, ?_⟩
    · rw [e1]; intro c hc2
      rcases List.mem_append.1 hc2 with h | h
      · exact hno c h
      · rw [List.mem_singleton] at h; subst h; exact hc
    · rw [e2, glue_glue _ _ _ (splitL_ne _)] at he
      rw [e1]; exact he
  · omega
theorem CutRel.slash {s : List UInt8} {k p : Nat} {done : List ByteArray} (h : CutRel s k p done) (hk : k < s.length) (hc : s[k] = 47) {x : ByteArray} (hx : x.data.toList = (s.drop p).take (k - p)) : CutRel s (k + 1) (k + 1) (done ++ [x]) := by
  rcases h with ⟨_, hp, hno, he⟩ | ⟨h1, _⟩
  · left
    refine ⟨by omega, by omega, by simp, ?_⟩
    rw [List.drop_eq_getElem_cons hk, hc, splitL_slash] at he
    rw [Nat.sub_self, List.take_zero, glue_nil _ (splitL_ne _), List.map_append, ← he]
    simp [glue, hx]
  · omega
theorem CutRel.last {s : List UInt8} {k p : Nat} {done : List ByteArray} (h : CutRel s k p done) (hk : k = s.length) {x : ByteArray} (hx : x.data.toList = (s.drop p).take (k - p)) : CutRel s (k + 1) (k + 1) (done ++ [x]) := by
  rcases h with ⟨_, hp, hno, he⟩ | ⟨h1, _⟩
  · right
    refine ⟨by omega, ?_⟩
    rw [hk, List.drop_length] at he
    rw [← he, List.map_append]
    simp [splitL, glue, hx, hk]
  · omega
theorem CutRel.fin {s : List UInt8} {k p : Nat} {done : List ByteArray} (h : CutRel s k p done) (hk : s.length < k) : done.map (·.data.toList) = splitL s := by
  rcases h with ⟨h1, _⟩ | ⟨_, h2⟩
  · omega
  · exact h2
theorem one_str (x : ByteArray) : ∀ u ∈ [Value.string x], u.oneCell' = true := by intro u hu; simp at hu; subst hu; rfl

theorem p16_own_above {w : World} {B e n : Nat} {v : Value} {xs : List Value} (h : w.ownsRow B e 1 v n xs) : ∀ k, v.ownBlock = some k → B ≤ k := by
  intro k hk
  rcases h.2 with ⟨hv, _⟩ | ⟨g, cap, cur, hv, hB, _⟩
  · subst hv; cases hk
  · subst hv; cases hk; exact hB
def CutGives (s : List UInt8) (w : World) (e : Ending) (w' : World) : Prop :=
  ∃ (v : Value) (l : List ByteArray), e = .returned v ∧ w'.ownsRow w.heap.size 9 1 v l.length (l.map Value.string) ∧ l.map (·.data.toList) = splitL s ∧ Below w.heap.size w w'

set_option maxHeartbeats 1000000 in
set_option maxRecDepth 100000 in
theorem ref16_cut (s : ByteArray) (hs : s.size ≤ 128) (w : World) :
    Calls Tryz.prog 49 #[.string s] w (CutGives s.data.toList w) := by
  have e0 : s.data.toList.length = s.size := rfl
  obtain ⟨i0, hi, hz0, hz1, hz2⟩ := info_parts info9
  go_enter Tryz.func49, Tryz.ntmps49
  go_wp2
  go_loopw [3, 4, 5] (fun v p i wr => ∃ (k q : Nat) (done : List ByteArray), k ≤ s.size + 1 ∧ q ≤ k ∧ done.length ≤ k ∧ i = .int .i64 k ∧ p = .int .i64 q ∧ wr.ownsRow w.heap.size 9 1 v done.length (done.map Value.string) ∧ Hid (CutRel s.data.toList k q done) ∧ Below w.heap.size w wr) (fun _ _ i _ => s.size + 1 - (intOf i).toNat)
  case atStart => exact ⟨0, 0, [], Nat.zero_le _, Nat.le_refl _, Nat.le_refl _, rfl, rfl, World.ownsRow_nil _ _ _ _, Lib.hid (CutRel.start _), Below.refl _ _⟩
  case round =>
    obtain ⟨k, q, done, hk, hq, hd, rfl, rfl, hown, hrl, hbw⟩ := hrel
    rcases (show k < s.size ∨ k = s.size ∨ k = s.size + 1 by omega) with hlt | heq | hgt
    · by_cases hc : s.data.toList[k]'hlt = 47
      · have Hc := Lib.hid hc
        have hcb : 47 ≤ (s[k].toNat : Int) ∧ (s[k].toNat : Int) ≤ 47 := by
          have : s[k] = 47 := hc
          rw [this]; decide
        have hcB : ((s[k].toNat : Int) == 47) = true := by rw [beq_iff_eq]; omega
        clear hc e0
        go_wp2_with (at_builtin; (refine wpList_append_own _ rfl _ _ 49 rfl w.heap.size 9 i0 (.string ByteArray.empty) 1 16 Tryz.underlying49 hi hz0 hz1 hz2 rfl (by decide) _ _ _ rfl (hown.alloc _) ⟨wr.heap.size, 0, none⟩ 1 1 [.string (s.extract q k)] rfl rfl (cell_one_new _ _ _) (one_str _) (by unfold maxLen; omega) (by omega) (by have := hbw.size; simp; omega) ?_); intro v' w1 hown' hgrow hnil)
        have R := hrl.out.slash hlt Hc.out (x := s.extract q k) (by rw [Lib.extract_data])
        have hcl := hbw.size
        have Hown := Lib.hid hown'
        have Hb := Lib.hid ((hbw.alloc hcl _).grown hgrow (by simp; omega) (p16_own_above hown))
        clear hown' hgrow hnil hown hbw
        go_wp2
        go_roundw
        case rel => exact ⟨k + 1, k + 1, done ++ [s.extract q k], by omega, by omega, by simp; omega, by go_num, by go_num, by rw [List.length_append, List.map_append]; exact Hown.out, Lib.hid R, Hb.out⟩
        case measure => simp [intOf]; omega
      · have Hc := Lib.hid hc
        have hcB : ((s[k].toNat : Int) == 47) = false := by
          have : s[k].toNat ≠ 47 := fun h => hc (UInt8.toNat_inj.1 h)
          rw [beq_eq_false_iff_ne]; omega
        have hcN : ¬ ((s[k].toNat : Int) = 47) := by rw [beq_eq_false_iff_ne] at hcB; exact hcB
        clear hc e0
        · go_wp2
          go_roundw
          case rel => exact ⟨k + 1, q, done, by omega, by omega, by omega, by go_num, rfl, hown, Lib.hid (hrl.out.skip hlt Hc.out), hbw⟩
          case measure => simp [intOf]; omega
    · have hkB : ((k : Int) == (s.size : Int)) = true := by rw [beq_iff_eq]; omega
      have hle : k ≤ s.size := by omega
      have Heq := Lib.hid heq
      clear heq e0
      go_wp2_with (at_builtin; (refine wpList_append_own _ rfl _ _ 49 rfl w.heap.size 9 i0 (.string ByteArray.empty) 1 16 Tryz.underlying49 hi hz0 hz1 hz2 rfl (by decide) _ _ _ rfl (hown.alloc _) ⟨wr.heap.size, 0, none⟩ 1 1 [.string (s.extract q k)] rfl rfl (cell_one_new _ _ _) (one_str _) (by unfold maxLen; omega) (by omega) (by have := hbw.size; simp; omega) ?_); intro v' w1 hown' hgrow hnil)
      have R := hrl.out.last Heq.out (x := s.extract q k) (by rw [Lib.extract_data])
      have hcl := hbw.size
      have Hown := Lib.hid hown'
      have Hb := Lib.hid ((hbw.alloc hcl _).grown hgrow (by simp; omega) (p16_own_above hown))
      clear hown' hgrow hnil hown hbw
      go_wp2
      have heq := Heq.out
      go_roundw
      case rel => exact ⟨k + 1, k + 1, done ++ [s.extract q k], by omega, by omega, by simp; omega, by go_num, by go_num, by rw [List.length_append, List.map_append]; exact Hown.out, Lib.hid R, Hb.out⟩
      case measure => simp [intOf]; omega
    · have Hown := Lib.hid hown; have Hb := Lib.hid hbw
      have hgt2 : ¬ (k : Int) ≤ (s.size : Int) := by omega
      have Hf := Lib.hid (hrl.out.fin (by omega))
      have hlt : (s.size : Int) < (k : Int) := by omega
      clear hgt hown hbw e0
      go_wp2
      go_ret
      exact ⟨_, done, rfl, Hown.out, Hf.out, Hb.out⟩
end Go.Proofs.YtggdkfijioeijaaGreatDoor
namespace Go.Proofs.YtggdkfijioeijaaGreatDoor
open Go Go.RowKit Pth
def GivesStrs (l : List (List UInt8)) (w : World) (e : Ending) (w' : World) : Prop :=
  ∃ (v : Value) (m : List ByteArray), e = .returned v ∧ IsStrs w' v m ∧ m.map (·.data.toList) = l ∧ Below w.heap.size w w'

theorem rpiece_small {s : List UInt8} : ∀ p ∈ splitL s, p.length ≤ s.length := by
  induction s with
  | nil => intro p hp; simp [splitL] at hp; subst hp; simp
  | cons c r ih =>
    intro p hp
    unfold splitL at hp
    split at hp
    · rcases List.mem_cons.1 hp with rfl | h
      · simp
      · have := ih p h; simp; omega
    · rcases hr : splitL r with _ | ⟨a, b⟩
      · exact absurd hr (splitL_ne r)
      · rw [hr] at hp ih
        simp [glue] at hp
        rcases hp with rfl | h
        · have := ih a (by simp); simp; omega
        · have := ih p (by simp [h]); simp; omega
theorem rel_small {l : List ByteArray} {s : List UInt8} (h : l.map (·.data.toList) = splitL s) (i : Nat) (hi : i < l.length) : (l.getD i ByteArray.empty).size ≤ s.length := by
  have : (l.getD i ByteArray.empty).data.toList ∈ splitL s := by
    rw [← h, List.getD_eq_getElem?_getD, List.getElem?_eq_getElem hi]
    exact List.mem_map.2 ⟨l[i], List.getElem_mem hi, rfl⟩
  exact rpiece_small _ this
theorem okAll_map {l : List ByteArray} {m : List (List UInt8)} (h : l.map (·.data.toList) = m) : l.all (fun s => okPiece s.data.toList) = m.all okPiece := by
  subst h; induction l with
  | nil => rfl
  | cons a t ih => simp [ih]
theorem all_take_snoc {l : List ByteArray} {k : Nat} {p : ByteArray → Bool} (hk : k < l.length) (h0 : (l.take k).all p = true) (h1 : p (l.getD k ByteArray.empty) = true) : (l.take (k + 1)).all p = true := by
  rw [List.take_succ_eq_append_getElem hk, List.all_append, h0]
  rw [List.getD_eq_getElem?_getD, List.getElem?_eq_getElem hk] at h1
  simpa using h1
theorem all_hit {l : List ByteArray} {k : Nat} {p : ByteArray → Bool} (hk : k < l.length) (h1 : p (l.getD k ByteArray.empty) = false) : l.all p = false := by
  rw [List.getD_eq_getElem?_getD, List.getElem?_eq_getElem hk] at h1
  exact List.all_eq_false.2 ⟨l[k], List.getElem_mem hk, by simpa using h1⟩

theorem pieces_long {s : List UInt8} (h : 128 < s.length) : piecesL s = [] := by unfold piecesL; rw [if_pos h]
theorem pieces_many {s : List UInt8} (h : 8 < (splitL s).length) : piecesL s = [] := by unfold piecesL; rw [if_pos h]; split <;> rfl
theorem pieces_bad {s : List UInt8} (h : (splitL s).all okPiece = false) : piecesL s = [] := by
  unfold piecesL; rw [if_neg (c := (splitL s).all okPiece = true) (by rw [h]; simp)]; split <;> (try split) <;> rfl
theorem pieces_good {s : List UInt8} (h : s.length ≤ 128) (h1 : (splitL s).length ≤ 8) (h2 : (splitL s).all okPiece = true) : piecesL s = splitL s := by
  unfold piecesL; rw [if_neg (by omega), if_neg (by omega), if_pos h2]

set_option maxHeartbeats 1000000 in
set_option maxRecDepth 100000 in
theorem ref16_pieces (s : ByteArray) (hs : s.size ≤ 140737488351232) (w : World) :
    Calls Tryz.prog 19 #[.string s] w (GivesStrs (piecesL s.data.toList) w) := by
  by_cases h1 : 128 < s.size
  · have H := Lib.hid (pieces_long (s := s.data.toList) h1)
    go_enter Tryz.func19, Tryz.ntmps19
    go_wp2
    go_ret
    exact ⟨_, [], rfl, IsStrs.nil _, by rw [H.out]; rfl, Below.refl _ _⟩
  · have c := fun w => ref16_cut s (by omega) w
    have C := Lib.hid c; clear c
    go_enter Tryz.func19, Tryz.ntmps19
    go_wp2_with fail
    refine (C.out _).mono ?_
    rintro e w1 ⟨v, L, rfl, hown, hL, hb⟩
    have HL := Lib.hid hL; clear hL
    have Hb := Lib.hid hb; clear hb
    have hst := IsStrs.own hown
    clear hown
    obtain ⟨a, cap, rfl, hc⟩ := hst
    have HC := Lib.hid hc; clear hc
    by_cases h2 : 8 < L.length
    · go_wp2
      go_ret
      exact ⟨_, [], rfl, IsStrs.nil _, by rw [pieces_many (by rw [← HL.out, List.length_map]; exact h2)]; rfl, Hb.out⟩
    · go_wp2
      go_loop [4] (fun i => ∃ k : Nat, k ≤ L.length ∧ i = .int .i64 k ∧ Hid ((L.take k).all (fun s => okPiece s.data.toList) = true)) (fun i => L.length - (intOf i).toNat)
      case atStart => exact ⟨0, Nat.zero_le _, rfl, Lib.hid rfl⟩
      case round =>
        obtain ⟨k, hk, rfl, hall⟩ := hrel
        by_cases hlt : k < L.length
        · rcases HC.out with hn | ⟨b, off, rfl, hblt, hcc⟩
          · subst hn; simp at hlt
          have hcell := hcc k hlt
          have hsz := rel_small HL.out k hlt
          obtain ⟨x, hx⟩ : ∃ x, x = L.getD k ByteArray.empty := ⟨_, rfl⟩
          rw [← hx] at hcell hsz
          have Hx := Lib.hid hx; clear hx hcc
          have e0 : s.data.toList.length = s.size := rfl
          have hxm : x.size ≤ maxLen := by unfold maxLen; omega
          clear hsz e0
          have hp := ref16_piece x hxm w1
          cases ho : okPiece x.data.toList with
          | true =>
            rw [ho] at hp
            have Ho := Lib.hid ho; clear ho
            have Hp := Lib.hid hp; clear hp
            go_wp2_with (go_at_call 50; refine (Hp.out).mono ?_; rintro e w' ⟨rfl, rfl⟩)
            go_round
            case rel => exact ⟨k + 1, by omega, by go_num, Lib.hid (all_take_snoc hlt hall.out (by rw [← Hx.out]; exact Ho.out))⟩
            case measure => simp [intOf]; omega
          | false =>
            rw [ho] at hp
            have Ho := Lib.hid ho; clear ho
            have Hp := Lib.hid hp; clear hp
            go_wp2_with (go_at_call 50; refine (Hp.out).mono ?_; rintro e w' ⟨rfl, rfl⟩)
            go_ret
            exact ⟨_, [], rfl, IsStrs.nil _, by rw [pieces_bad (by rw [← okAll_map HL.out]; exact all_hit hlt (by rw [← Hx.out]; exact Ho.out))]; rfl, Hb.out⟩
        · have hall2 := hall.out
          rw [List.take_of_length_le (by omega), okAll_map HL.out] at hall2
          have H2 := Lib.hid hall2; clear hall2
          go_wp2
          go_ret
          exact ⟨_, L, rfl, ⟨a, cap, rfl, HC.out⟩, by rw [HL.out, pieces_good (by show s.size ≤ 128; omega) (by rw [← HL.out, List.length_map]; omega) H2.out], Hb.out⟩

end Go.Proofs.YtggdkfijioeijaaGreatDoor
