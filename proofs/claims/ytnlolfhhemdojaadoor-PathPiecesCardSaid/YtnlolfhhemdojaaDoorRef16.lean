/- Contracts for scriniumref16 (cut, Pieces, Prefix, Under, Child). -/
import Derived.Test.YtnlolfhhemdojaaDoorRef16a
import Derived.Deep.DeepMust
namespace Go.Proofs.YtnlolfhhemdojaaDoor
open Go Go.RowKit Pth

theorem info9 : (Tryd.prog.info? 9).map (fun i => (i.zero, i.size, i.bytes)) = some (some (.string ByteArray.empty), 1, 16) := by kernel_rfl

def CutRel (s : List UInt8) (k p : Nat) (done : List ByteArray) : Prop :=
  (k ≤ s.length ∧ p ≤ k ∧ (∀ c ∈ (s.drop p).take (k - p), c ≠ 47) ∧ done.map (·.data.toList) ++ glue ((s.drop p).take (k - p)) (splitL (s.drop k)) = splitL s) ∨ (k = s.length + 1 ∧ done.map (·.data.toList) = splitL s)
theorem CutRel.start (s : List UInt8) : CutRel s 0 0 [] := by
  left; refine ⟨Nat.zero_le _, Nat.le_refl _, by simp, ?_⟩
  simp [glue_nil _ (splitL_ne s)]
theorem CutRel.skip {s : List UInt8} {k p : Nat} {done : List ByteArray} (h : CutRel s k p done) (hk : k < s.length) (hc : s[k] ≠ 47) : CutRel s (k + 1) p done := by
  rcases h with ⟨_, hp, hno, he⟩ | ⟨h1, _⟩
  · left
    have e1 : (s.drop p).take (k + 1 - p) = (s.drop p).take (k - p) ++ [s[k]] := by
      rw [show k + 1 - p = (k - p) + 1 by omega, List.take_succ_eq_append_getElem (by rw [List.length_drop]; omega)]
      congr 2
      rw [List.getElem_drop]; congr 1; omega
    have e2 : splitL (s.drop k) = glue [s[k]] (splitL (s.drop (k + 1))) := by
      rw [List.drop_eq_getElem_cons hk, splitL, if_neg hc]
    refine ⟨by omega, by omega, ?_, ?_⟩
    · rw [e1]; intro c hc2
      rcases List.mem_append.1 hc2 with h | h
      · exact hno c h
      · rw [List.mem_singleton] at h; subst h; exact hc
    · rw [e2, glue_glue _ _ _ (splitL_ne _)] at he
      rw [e1]; exact he
  · omega
theorem CutRel.slash {s : List UInt8} {k p : Nat} {done : List ByteArray} (h : CutRel s k p done) (hk : k < s.length) (hc : s[k] = 47) {x : ByteArray} (hx : x.data.toList = (s.drop p).take (k - p)) : CutRel s (k + 1) (k + 1) (done ++ [x]) := by
  rcases h with ⟨_, hp, hno, he⟩ | ⟨h1, _⟩
  · left
    refine ⟨by omega, by omega, by simp, ?_⟩
    rw [List.drop_eq_getElem_cons hk, hc, splitL_slash] at he
    rw [Nat.sub_self, List.take_zero, glue_nil _ (splitL_ne _), List.map_append, ← he]
    simp [glue, hx]
  · omega
theorem CutRel.last {s : List UInt8} {k p : Nat} {done : List ByteArray} (h : CutRel s k p done) (hk : k = s.length) {x : ByteArray} (hx : x.data.toList = (s.drop p).take (k - p)) : CutRel s (k + 1) (k + 1) (done ++ [x]) := by
  rcases h with ⟨_, hp, hno, he⟩ | ⟨h1, _⟩
  · right
    refine ⟨by omega, ?_⟩
    rw [hk, List.drop_length] at he
    rw [← he, List.map_append]
    simp [splitL, glue, hx, hk]
  · omega
theorem CutRel.fin {s : List UInt8} {k p : Nat} {done : List ByteArray} (h : CutRel s k p done) (hk : s.length < k) : done.map (·.data.toList) = splitL s := by
  rcases h with ⟨h1, _⟩ | ⟨_, h2⟩
  · omega
  · exact h2
theorem CutRel.bound {s : List UInt8} {k p : Nat} {done : List ByteArray} (h : CutRel s k p done) (hk : k ≤ s.length) : p ≤ k := by
  rcases h with ⟨_, hp, _⟩ | ⟨h1, _⟩ <;> omega
theorem one_str (x : ByteArray) : ∀ u ∈ [Value.string x], u.oneCell' = true := by intro u hu; simp at hu; subst hu; rfl

theorem own_above {w : World} {B e n : Nat} {v : Value} {xs : List Value} (h : w.ownsRow B e 1 v n xs) : ∀ k, v.ownBlock = some k → B ≤ k := by
  intro k hk
  rcases h.2 with ⟨hv, _⟩ | ⟨g, cap, cur, hv, hB, _⟩
  · subst hv; cases hk
  · subst hv; cases hk; exact hB
def CutGives (s : List UInt8) (w : World) (e : Ending) (w' : World) : Prop :=
  ∃ (v : Value) (l : List ByteArray), e = .returned v ∧ w'.ownsRow w.heap.size 9 1 v l.length (l.map Value.string) ∧ l.map (·.data.toList) = splitL s ∧ Below w.heap.size w w'

set_option maxHeartbeats 1000000 in
theorem ref16_cut (s : ByteArray) (hs : s.size ≤ 128) (w : World) :
    Calls Tryd.prog 21 #[.string s] w (CutGives s.data.toList w) := by
  have e0 : s.data.toList.length = s.size := rfl
  obtain ⟨i0, hi, hz0, hz1, hz2⟩ := info_parts info9
  go_enter Tryd.func21, Tryd.ntmps21
  go_wp2
  go_loopw [3, 4, 5] (fun v p i wr => ∃ (k q : Nat) (done : List ByteArray), k ≤ s.size + 1 ∧ q ≤ k ∧ done.length ≤ k ∧ i = .int .i64 k ∧ p = .int .i64 q ∧ wr.ownsRow w.heap.size 9 1 v done.length (done.map Value.string) ∧ Hid (CutRel s.data.toList k q done) ∧ Below w.heap.size w wr) (fun _ _ i _ => s.size + 1 - (intOf i).toNat)
  case atStart => exact ⟨0, 0, [], Nat.zero_le _, Nat.le_refl _, Nat.le_refl _, rfl, rfl, World.ownsRow_nil _ _ _ _, Lib.hid (CutRel.start _), Below.refl _ _⟩
  case round =>
    obtain ⟨k, q, done, hk, hq, hd, rfl, rfl, hown, hrl, hbw⟩ := hrel
    rcases (show k < s.size ∨ k = s.size ∨ k = s.size + 1 by omega) with hlt | heq | hgt
    · by_cases hc : s.data.toList[k]'hlt = 47
      · have Hc := Lib.hid hc
        have hcb : 47 ≤ (s[k].toNat : Int) ∧ (s[k].toNat : Int) ≤ 47 := by
          have : s[k] = 47 := hc
          rw [this]; decide
        have hcB : ((s[k].toNat : Int) == 47) = true := by rw [beq_iff_eq]; omega
        clear hc e0
        go_wp2_with (at_builtin; (refine wpList_append_own _ rfl _ _ 23 rfl w.heap.size 9 i0 (.string ByteArray.empty) 1 16 Tryd.underlying23 hi hz0 hz1 hz2 rfl (by decide) _ _ _ rfl (hown.alloc _) ⟨wr.heap.size, 0, none⟩ 1 1 [.string (s.extract q k)] rfl rfl (cell_one_new _ _ _) (one_str _) (by unfold maxLen; omega) (by omega) (by have := hbw.size; simp; omega) ?_); intro v' w1 hown' hgrow hnil)
        have R := hrl.out.slash hlt Hc.out (x := s.extract q k) (by rw [Lib.extract_data])
        have hcl := hbw.size
        have Hown := Lib.hid hown'
        have Hb := Lib.hid ((hbw.alloc hcl _).grown hgrow (by simp; omega) (own_above hown))
        clear hown' hgrow hnil hown hbw
        go_wp2
        go_roundw
        case rel => exact ⟨k + 1, k + 1, done ++ [s.extract q k], by omega, by omega, by simp; omega, by go_num, by go_num, by rw [List.length_append, List.map_append]; exact Hown.out, Lib.hid R, Hb.out⟩
        case measure => simp [intOf]; omega
      · have Hc := Lib.hid hc
        have hcB : ((s[k].toNat : Int) == 47) = false := by
          have : s[k].toNat ≠ 47 := fun h => hc (UInt8.toNat_inj.1 h)
          rw [beq_eq_false_iff_ne]; omega
        have hcN : ¬ ((s[k].toNat : Int) = 47) := by rw [beq_eq_false_iff_ne] at hcB; exact hcB
        clear hc e0
        · go_wp2
          go_roundw
          case rel => exact ⟨k + 1, q, done, by omega, by omega, by omega, by go_num, rfl, hown, Lib.hid (hrl.out.skip hlt Hc.out), hbw⟩
          case measure => simp [intOf]; omega
    · have hkB : ((k : Int) == (s.size : Int)) = true := by rw [beq_iff_eq]; omega
      have hle : k ≤ s.size := by omega
      have Heq := Lib.hid heq
      clear heq e0
      go_wp2_with (at_builtin; (refine wpList_append_own _ rfl _ _ 23 rfl w.heap.size 9 i0 (.string ByteArray.empty) 1 16 Tryd.underlying23 hi hz0 hz1 hz2 rfl (by decide) _ _ _ rfl (hown.alloc _) ⟨wr.heap.size, 0, none⟩ 1 1 [.string (s.extract q k)] rfl rfl (cell_one_new _ _ _) (one_str _) (by unfold maxLen; omega) (by omega) (by have := hbw.size; simp; omega) ?_); intro v' w1 hown' hgrow hnil)
      have R := hrl.out.last Heq.out (x := s.extract q k) (by rw [Lib.extract_data])
      have hcl := hbw.size
      have Hown := Lib.hid hown'
      have Hb := Lib.hid ((hbw.alloc hcl _).grown hgrow (by simp; omega) (own_above hown))
      clear hown' hgrow hnil hown hbw
      go_wp2
      have heq := Heq.out
      go_roundw
      case rel => exact ⟨k + 1, k + 1, done ++ [s.extract q k], by omega, by omega, by simp; omega, by go_num, by go_num, by rw [List.length_append, List.map_append]; exact Hown.out, Lib.hid R, Hb.out⟩
      case measure => simp [intOf]; omega
    · have Hown := Lib.hid hown; have Hb := Lib.hid hbw
      have hgt2 : ¬ (k : Int) ≤ (s.size : Int) := by omega
      have Hf := Lib.hid (hrl.out.fin (by omega))
      have hlt : (s.size : Int) < (k : Int) := by omega
      clear hgt hown hbw e0
      go_wp2
      go_ret
      exact ⟨_, done, rfl, Hown.out, Hf.out, Hb.out⟩
end Go.Proofs.YtnlolfhhemdojaaDoor
