/- What law31.told tells, plainly: it's right; what is right stays right without those that have no place; what changes its places is not. Maps from transactions to numbers; lists of transactions. Contract: model.Behind. Plain laws of the stories that scriniumlaw31.alive plays. Boxes of stories; rows of two and of four stories. append onto a row of structs: that each cell of its block is of its field's kind, the spare ones too; what keeps rows where a row of stories turns. Calls in memory; told stories. -/
import Derived.Test.YtfbgnpfhjbiikaaGreatDoorQr10
import Derived.DeepKeys3
import Derived.Maps.Keyed
import Derived.Great.Walk
import Derived.Deep.AppendLies
namespace Go.Proofs.YtfbgnpfhjbiikaaGreatDoor
open Go Go.RowKit
open Pth
open Go.Maps (has size Canon CanonK Tidy IsMap KeysOf Keyed Merged)
def doM (M : DataW Cel) (c : Cal) : Done := doesT M (bytesR (rowsL M)) QQ QQ c
def tolM (cs : List Cal) : Nat → DataW Cel
  | 0 => .map []
  | k + 1 => (doM (tolM cs k) (cs.getD k dCal)).M
def tolS (i : Nat) (c : Cal) (d : Done) (lost : Bool) : Sto :=
  if d.is = false then ⟨0, c, 2 * i + 1, 2 * i + 2, false, 1, i + 1, 0, 170, [], [], []⟩
  else if lost then ⟨0, c, 2 * i + 1, 0, true, 1, i + 1, i + 1, 0, [], [], []⟩
  else ⟨0, c, 2 * i + 1, 2 * i + 2, false, 1, i + 1, i + 1, 0, d.got, d.nums, d.names⟩
def tolA (cs : List Cal) (lost : List Bool) (k : Nat) : Sto := tolS k (cs.getD k dCal) (doM (tolM cs k) (cs.getD k dCal)) (lost.getD k false)
def tolL (cs : List Cal) (lost : List Bool) (n : Nat) : List Sto := (List.range n).map (tolA cs lost)
theorem tolL_succ (cs : List Cal) (lost : List Bool) (n : Nat) : tolL cs lost (n + 1) = tolL cs lost n ++ [tolA cs lost n] := by
  unfold tolL; rw [List.range_succ, List.map_append]; rfl
theorem tolL_length (cs : List Cal) (lost : List Bool) (n : Nat) : (tolL cs lost n).length = n := by simp [tolL]
theorem tolL_at {cs : List Cal} {lost : List Bool} {n i : Nat} (h : i < n) : (tolL cs lost n).getD i dS = tolA cs lost i := by
  simp [tolL, List.getD_eq_getElem?_getD, h]
def edN (cs : List Cal) : Nat → Nat
  | 0 => 0
  | k + 1 => edN cs k + (cs.getD k dCal).eds.length
theorem tolM_good (cs : List Cal) : ∀ k, Good Tryz.prog 9 (tolM cs k) ∧ size (tolM cs k) ≤ edN cs k
  | 0 => ⟨good_none _ _, by simp [tolM, size]⟩
  | k + 1 => by
    obtain ⟨h1, h2⟩ := tolM_good cs k
    obtain ⟨g1, _, g3⟩ := does_good (q1 := QQ) (q2 := QQ) (c := cs.getD k dCal) h1
    exact ⟨g1, by show _ ≤ edN cs k + _; exact Nat.le_trans g3 (by omega)⟩
theorem doM_not {M : DataW Cel} {c : Cal} (h : (doM M c).is = false) : (doM M c).M = M := by
  unfold doM doesT at *
  split at h
  · rename_i hk
    rw [if_pos hk]
    simp only [decide_eq_false_iff_not] at h
    simp only [nextM, if_neg h]
  · split at h <;> simp at h

section
variable {cs : List Cal} {lost : List Bool}
theorem tolA_com (i : Nat) : (tolA cs lost i).com = if (doM (tolM cs i) (cs.getD i dCal)).is = false then 0 else (i : Int) + 1 := by
  unfold tolA tolS
  split
  · rfl
  · split <;> rfl
theorem tolA_frm (i : Nat) : (tolA cs lost i).frm = 2 * i + 1 := by
  unfold tolA tolS
  split
  · rfl
  · split <;> rfl
theorem tolA_til (i : Nat) : (tolA cs lost i).til = 2 * i + 2 ∨ (tolA cs lost i).til = 0 := by
  unfold tolA tolS
  split
  · exact Or.inl rfl
  · split
    · exact Or.inr rfl
    · exact Or.inl rfl
theorem tolA_call (i : Nat) : (tolA cs lost i).call = cs.getD i dCal := by
  unfold tolA tolS
  split
  · rfl
  · split <;> rfl
theorem tolA_alone (i : Nat) : aloneT (tolA cs lost i) = 0 := by
  have h1 : (1 : Int) ≤ 2 * i + 1 := by omega
  unfold aloneT
  have hb1 : aloneB1 (tolA cs lost i) = false := by
    unfold tolA tolS aloneB1
    split
    · simp; omega
    · split
      · simp; omega
      · simp; omega
  have hb2 : aloneB2 (tolA cs lost i) = false := by
    unfold tolA tolS aloneB2
    split
    · simp
    · split
      · simp
      · simp <;> omega
  rw [hb1, hb2]; rfl
theorem tolA_right (i : Nat) : wrongR (doM (tolM cs i) (cs.getD i dCal)) (tolA cs lost i) = false ∨ (doM (tolM cs i) (cs.getD i dCal)).is = false := by
  by_cases h : (doM (tolM cs i) (cs.getD i dCal)).is = false
  · exact Or.inr h
  · left
    unfold tolA tolS
    rw [if_neg h]
    split
    · exact wrongR_false (by simp)
    · rw [wrongR_of (r := true) (by simp; omega) ⟨fun _ => ⟨rfl, rfl, rfl⟩, fun _ => rfl⟩]; rfl
theorem tolM_skip {a : Nat} : ∀ b, a ≤ b → (∀ i, a ≤ i → i < b → (doM (tolM cs i) (cs.getD i dCal)).is = false) → tolM cs b = tolM cs a := by
  intro b hab
  induction b with
  | zero => intro _; obtain rfl : a = 0 := by omega
            rfl
  | succ b ih =>
    intro h
    by_cases e : a = b + 1
    · rw [e]
    · rw [← ih (by omega) (fun i h1 h2 => h i h1 (by omega))]
      exact doM_not (h b (by omega) (by omega))
end
structure SomeT (cs : List Cal) (lost : List Bool) (n : Nat) (idx : List Nat) : Prop where
  lt : ∀ i ∈ idx, i < n
  up : idx.Pairwise (· < ·)
  all : ∀ i, i < n → (doM (tolM cs i) (cs.getD i dCal)).is = true → i ∈ idx
section
variable {cs : List Cal} {lost : List Bool} {n : Nat} {idx : List Nat}
def jAt (idx : List Nat) (p : Nat) : Nat := idx.getD p 0
theorem jAt_get {p : Nat} (h : p < idx.length) : jAt idx p = idx[p] := by unfold jAt; rw [List.getD_eq_getElem?_getD, List.getElem?_eq_getElem h]; rfl
theorem SomeT.mono (h : SomeT cs lost n idx) {p q : Nat} (hq : q < idx.length) (hpq : p < q) : jAt idx p < jAt idx q := by
  rw [jAt_get hq, jAt_get (show p < idx.length by omega)]
  exact List.pairwise_iff_getElem.1 h.up p q (by omega) hq hpq
theorem some_at {p : Nat} (h : p < idx.length) : (idx.map (tolA cs lost)).getD p dS = tolA cs lost (jAt idx p) := by
  rw [jAt_get h]; simp [List.getD_eq_getElem?_getD, h]
def isP (cs : List Cal) (idx : List Nat) (p : Nat) : Bool := (doM (tolM cs (jAt idx p)) (cs.getD (jAt idx p) dCal)).is
theorem some_com {p : Nat} (h : p < idx.length) : comF (idx.map (tolA cs lost)) p = if isP cs idx p = false then 0 else (jAt idx p : Int) + 1 := by
  unfold comF
  rw [some_at h, tolA_com]; rfl
theorem SomeT.ord (h : SomeT cs lost n idx) : ordS (idx.map (tolA cs lost)) = (List.range idx.length).filter (isP cs idx) := by
  unfold ordS
  rw [List.length_map]
  have he : (List.range idx.length).filter (fun i => decide (0 < comF (idx.map (tolA cs lost)) i)) = (List.range idx.length).filter (isP cs idx) := by
    refine List.filter_congr (fun p hp => ?_)
    rw [some_com (List.mem_range.1 hp)]
    cases hi : isP cs idx p with
    | false => simp
    | true => simp <;> omega
  refine (ordL_uniq (by rw [he]) ?_).symm
  have hlt : ((List.range idx.length).filter (isP cs idx)).Pairwise (· < ·) := List.Pairwise.filter _ List.pairwise_lt_range
  refine hlt.imp_of_mem (fun {a b} ha hb hab => ?_)
  obtain ⟨ha1, ha2⟩ := List.mem_filter.1 ha
  obtain ⟨hb1, hb2⟩ := List.mem_filter.1 hb
  have := h.mono (List.mem_range.1 hb1) hab
  simp only [leS, decide_eq_true_eq]
  rw [some_com (List.mem_range.1 ha1), some_com (List.mem_range.1 hb1), if_neg (by simp [ha2]), if_neg (by simp [hb2])]
  omega
def restP (cs : List Cal) (idx : List Nat) (p : Nat) : List Nat := (List.range' p (idx.length - p)).filter (isP cs idx)
theorem restP_no {p : Nat} (hp : p < idx.length) (h : isP cs idx p = false) : restP cs idx p = restP cs idx (p + 1) := by
  unfold restP
  rw [show idx.length - p = (idx.length - (p + 1)) + 1 by omega, List.range'_succ, List.filter_cons_of_neg (by simp [h])]
theorem restP_yes {p : Nat} (hp : p < idx.length) (h : isP cs idx p = true) : restP cs idx p = p :: restP cs idx (p + 1) := by
  unfold restP
  rw [show idx.length - p = (idx.length - (p + 1)) + 1 by omega, List.range'_succ, List.filter_cons_of_pos h]
theorem restP_mem {p q : Nat} (h : q ∈ restP cs idx p) : p ≤ q ∧ q < idx.length ∧ isP cs idx q = true := by
  unfold restP at h
  obtain ⟨h1, h2⟩ := List.mem_filter.1 h
  rw [List.mem_range'_1] at h1
  exact ⟨h1.1, by omega, h2⟩
theorem SomeT.notLate (h : SomeT cs lost n idx) {o : List Nat} (ho : o = (List.range idx.length).filter (isP cs idx)) {k p : Nat} (hp : p < idx.length) (hd : o.drop k = p :: restP cs idx (p + 1)) (hi : isP cs idx p = true) : lateT (idx.map (tolA cs lost)) o k = false := by
  have hk : k < o.length := by
    rcases Nat.lt_or_ge k o.length with h | h
    · exact h
    · rw [List.drop_of_length_le h] at hd; cases hd
  have hd2 := hd
  rw [List.drop_eq_getElem_cons hk] at hd2
  injection hd2 with h1 h2
  have hg : o.getD k 0 = p := by rw [List.getD_eq_getElem?_getD, List.getElem?_eq_getElem hk]; exact h1
  have hup : o.Pairwise (· < ·) := by rw [ho]; exact List.Pairwise.filter _ List.pairwise_lt_range
  unfold lateT
  rw [hg, h2, some_at hp, Bool.or_eq_false_iff]
  constructor
  · by_cases hk0 : 0 < k
    · have hk1 : k - 1 < o.length := by omega
      have hlt : o[k - 1] < o[k] := List.pairwise_iff_getElem.1 hup (k - 1) k hk1 hk (by omega)
      have hm : o[k - 1] ∈ o := List.getElem_mem hk1
      have hg1 : o.getD (k - 1) 0 = o[k - 1] := by rw [List.getD_eq_getElem?_getD, List.getElem?_eq_getElem hk1]; rfl
      rw [hg1]
      obtain ⟨q0, hq0⟩ : ∃ q0, o[k - 1] = q0 := ⟨_, rfl⟩
      rw [hq0] at hm hlt ⊢
      rw [ho] at hm
      obtain ⟨hq, hqi⟩ := List.mem_filter.1 hm
      have hq2 := List.mem_range.1 hq
      rw [h1] at hlt
      have hj := h.mono hp hlt
      rw [some_at hq2, tolA_com, tolA_com]
      have e1 : ¬ (doM (tolM cs (jAt idx q0)) (cs.getD (jAt idx q0) dCal)).is = false := by
        have : isP cs idx q0 = true := hqi
        unfold isP at this; rw [this]; simp
      have e2 : ¬ (doM (tolM cs (jAt idx p)) (cs.getD (jAt idx p) dCal)).is = false := by
        unfold isP at hi; rw [hi]; simp
      rw [if_neg e1, if_neg e2]
      simp; omega
    · simp [hk0]
  · rw [List.any_eq_false]
    intro q hq
    obtain ⟨q1, q2, _⟩ := restP_mem hq
    have hj := h.mono q2 (show p < q by omega)
    rw [some_at q2, tolA_frm]
    rcases tolA_til (cs := cs) (lost := lost) (jAt idx q) with e | e
    · rw [e]; simp; omega
    · rw [e]; simp
theorem SomeT.runs (h : SomeT cs lost n idx) {o : List Nat} (ho : o = (List.range idx.length).filter (isP cs idx)) : ∀ (d p k m : Nat), idx.length - p = d → p ≤ idx.length → o.drop k = restP cs idx p → m ≤ n → (p < idx.length → m ≤ jAt idx p) →
    (∀ i, m ≤ i → i < n → (doM (tolM cs i) (cs.getD i dCal)).is = true → ∃ q, p ≤ q ∧ q < idx.length ∧ jAt idx q = i) →
    chkT (idx.map (tolA cs lost)) o k (restP cs idx p) (tolM cs m, (bytesR (rowsL (tolM cs m)) : Int)) = ⟨true, 0, 0⟩ ∧ (runM (idx.map (tolA cs lost)) (restP cs idx p) (tolM cs m, (bytesR (rowsL (tolM cs m)) : Int))).1 = tolM cs n
  | 0, p, k, m, hd, hp, hdr, hm, hmj, hall => by
    have he : restP cs idx p = [] := by unfold restP; rw [hd]; rfl
    rw [he]
    refine ⟨rfl, ?_⟩
    show tolM cs m = tolM cs n
    refine (tolM_skip n hm (fun i h1 h2 => ?_)).symm
    cases hi : (doM (tolM cs i) (cs.getD i dCal)).is with
    | false => rfl
    | true => obtain ⟨q, q1, q2, _⟩ := hall i h1 h2 hi; omega
  | d + 1, p, k, m, hd, hp, hdr, hm, hmj, hall => by
    have hpl : p < idx.length := by omega
    have hjn : jAt idx p < n := h.lt _ (by rw [jAt_get hpl]; exact List.getElem_mem hpl)
    have hsk : tolM cs (jAt idx p) = tolM cs m := tolM_skip _ (hmj hpl) (fun i h1 h2 => by
      cases hi : (doM (tolM cs i) (cs.getD i dCal)).is with
      | false => rfl
      | true =>
        obtain ⟨q, q1, q2, q3⟩ := hall i h1 (by omega) hi
        by_cases e : q = p
        · subst e; omega
        · have := h.mono q2 (show p < q by omega); omega)
    have hall2 : ∀ i, jAt idx p + 1 ≤ i → i < n → (doM (tolM cs i) (cs.getD i dCal)).is = true → ∃ q, p + 1 ≤ q ∧ q < idx.length ∧ jAt idx q = i := fun i h1 h2 h3 => by
      obtain ⟨q, q1, q2, q3⟩ := hall i (by have := hmj hpl; omega) h2 h3
      refine ⟨q, ?_, q2, q3⟩
      by_cases e : q = p
      · subst e; omega
      · omega
    cases hi : isP cs idx p with
    | false =>
      rw [restP_no hpl hi] at hdr ⊢
      have hst : tolM cs (jAt idx p + 1) = tolM cs m := by rw [← hsk]; exact doM_not hi
      have := SomeT.runs h ho d (p + 1) k (jAt idx p + 1) (by omega) (by omega) hdr (by omega) (fun hp2 => h.mono hp2 (by omega)) hall2
      rw [hst] at this
      exact this
    | true =>
      rw [restP_yes hpl hi] at hdr ⊢
      have hlate := h.notLate ho hpl hdr hi
      have hdr2 : o.drop (k + 1) = restP cs idx (p + 1) := by
        rw [← List.drop_drop, hdr]; rfl
      have hrec := SomeT.runs h ho d (p + 1) (k + 1) (jAt idx p + 1) (by omega) (by omega) hdr2 (by omega) (fun hp2 => h.mono hp2 (by omega)) hall2
      have hca : ((idx.map (tolA cs lost)).getD p dS).call = cs.getD (jAt idx p) dCal := by rw [some_at hpl, tolA_call]
      have hdo : doesT (tolM cs m) (bytesR (rowsL (tolM cs m))) QQ QQ ((idx.map (tolA cs lost)).getD p dS).call = doM (tolM cs (jAt idx p)) (cs.getD (jAt idx p) dCal) := by rw [hca, hsk]; rfl
      have hB : (doM (tolM cs (jAt idx p)) (cs.getD (jAt idx p) dCal)).B = bytesR (rowsL (tolM cs (jAt idx p + 1))) := (does_good (q1 := QQ) (q2 := QQ) (c := cs.getD (jAt idx p) dCal) (tolM_good cs (jAt idx p)).1).2.1
      have hisT : (doM (tolM cs (jAt idx p)) (cs.getD (jAt idx p) dCal)).is = true := hi
      have hw : wrongR (doM (tolM cs (jAt idx p)) (cs.getD (jAt idx p) dCal)) ((idx.map (tolA cs lost)).getD p dS) = false := by
        rw [some_at hpl]
        rcases tolA_right (cs := cs) (lost := lost) (jAt idx p) with e | e
        · exact e
        · rw [hisT] at e; cases e
      constructor
      · unfold chkT
        rw [hlate]
        simp only [Bool.false_eq_true, if_false]
        rw [hdo, hisT, hw]
        simp only [Bool.true_eq_false, Bool.false_eq_true, if_false]
        rw [hB]
        exact hrec.1
      · unfold runM
        simp only
        rw [hdo, hB]
        exact hrec.2
theorem SomeT.right (h : SomeT cs lost n idx) : checkT (idx.map (tolA cs lost)) = ⟨true, 0, 0⟩ ∧ rowsS (idx.map (tolA cs lost)) = rowsL (tolM cs n) := by
  have ho := h.ord
  have hr0 : restP cs idx 0 = (List.range idx.length).filter (isP cs idx) := by unfold restP; rw [Nat.sub_zero, List.range_eq_range']
  have h0 := h.runs ho _ 0 0 0 rfl (Nat.zero_le _) (by rw [List.drop_zero, ho, hr0]) (Nat.zero_le _) (fun _ => Nat.zero_le _) (fun i _ h2 h3 => by
    obtain ⟨q, hq, e⟩ := List.getElem_of_mem (h.all i h2 h3)
    exact ⟨q, Nat.zero_le _, hq, by rw [jAt_get hq]; exact e⟩)
  have hz : (tolM cs 0, (bytesR (rowsL (tolM cs 0)) : Int)) = (DataW.map [], 0) := by
    show (DataW.map [], (bytesR (rowsL (.map [])) : Int)) = _
    rw [rowsL_nil]; rfl
  rw [hz, hr0, ← ho] at h0
  refine ⟨?_, ?_⟩
  · rw [bad_miss (fun j hj => ?_)]
    · exact h0.1
    · rw [List.length_map] at hj
      rw [some_at hj]; exact tolA_alone _
  · unfold rowsS
    rw [h0.2]
end
theorem someT_all (cs : List Cal) (lost : List Bool) (n : Nat) : SomeT cs lost n (List.range n) := ⟨fun _i hi => List.mem_range.1 hi, List.pairwise_lt_range, fun _i hi _ => List.mem_range.2 hi⟩
theorem someT_com (cs : List Cal) (lost : List Bool) (n : Nat) : SomeT cs lost n ((List.range n).filter (fun i => decide (0 < (tolA cs lost i).com))) :=
  ⟨fun i hi => List.mem_range.1 (List.mem_filter.1 hi).1, List.Pairwise.filter _ List.pairwise_lt_range, fun i hi h => List.mem_filter.2 ⟨List.mem_range.2 hi, by rw [tolA_com, h]; simp <;> omega⟩⟩

theorem chkR_late {l : List Sto} {o : List Nat} {k : Nat} (hk : k < o.length) (hl : lateT l o k = true) : ∀ (d k0 : Nat) (s : DataW Cel × Int), k - k0 = d → k0 ≤ k → (chkT l o k0 (o.drop k0) s).right = false := by
  intro d
  induction d with
  | zero =>
    intro k0 s hd hk0
    obtain rfl : k0 = k := by omega
    rw [List.drop_eq_getElem_cons hk]
    unfold chkT
    rw [hl]; rfl
  | succ d ih =>
    intro k0 s hd hk0
    rw [List.drop_eq_getElem_cons (show k0 < o.length by omega)]
    unfold chkT
    split
    · rfl
    · split
      · rfl
      · split
        · rfl
        · exact ih (k0 + 1) _ (by omega) (by omega)
theorem checkR_late {l : List Sto} {lo hi : Nat} (hlo : lo < l.length) (hhi : hi < l.length) (hne : lo ≠ hi) (c1 : 0 < (l.getD hi dS).com) (c2 : (l.getD hi dS).com < (l.getD lo dS).com) (t1 : 0 < (l.getD lo dS).til) (t2 : (l.getD lo dS).til < (l.getD hi dS).frm) : (checkT l).right = false := by
  unfold checkT
  split
  · rfl
  · have m1 : hi ∈ ordS l := mem_ordL.2 ⟨hhi, c1⟩
    have m2 : lo ∈ ordS l := mem_ordL.2 ⟨hlo, by show 0 < (l.getD lo dS).com; omega⟩
    obtain ⟨k, hk, ek⟩ := List.getElem_of_mem m1
    obtain ⟨k2, hk2, ek2⟩ := List.getElem_of_mem m2
    have hs : (ordS l).Pairwise (fun a b => leS (comF l) a b = true) := ordL_sorted _ _
    have hkk : k < k2 := by
      rcases Nat.lt_trichotomy k k2 with h | h | h
      · exact h
      · subst h; rw [ek] at ek2; exact absurd ek2.symm hne
      · have := List.pairwise_iff_getElem.1 hs k2 k hk2 hk h
        rw [ek, ek2] at this
        have h2 : comF l lo < comF l hi ∨ (comF l lo = comF l hi ∧ lo ≤ hi) := of_decide_eq_true this
        have e1 : comF l lo = (l.getD lo dS).com := rfl
        have e2 : comF l hi = (l.getD hi dS).com := rfl
        omega
    refine chkR_late hk ?_ k 0 _ (by omega) (Nat.zero_le _)
    unfold lateT
    rw [Bool.or_eq_true]
    right
    rw [List.any_eq_true]
    refine ⟨lo, ?_, ?_⟩
    · rw [← ek2]
      exact List.mem_drop_iff_getElem.2 ⟨k2 - (k + 1), by omega, by congr 1; omega⟩
    · have hg : (ordS l).getD k 0 = hi := by rw [List.getD_eq_getElem?_getD, List.getElem?_eq_getElem hk]; exact ek
      rw [hg, Bool.and_eq_true, decide_eq_true_eq, decide_eq_true_eq]; exact ⟨t1, t2⟩
def swapS (l : List Sto) (x y : Nat) : List Sto := (l.set x { l.getD x dS with com := (l.getD y dS).com }).set y { l.getD y dS with com := (l.getD x dS).com }
theorem swap_wrong {cs : List Cal} {lost : List Bool} {n x y : Nat} (hx : x < n) (hy : y < n) (hne : x ≠ y) (cx : 0 < (tolA cs lost x).com) (cy : 0 < (tolA cs lost y).com) (tx : 0 < (tolA cs lost x).til) (ty : 0 < (tolA cs lost y).til) : (checkT (swapS (tolL cs lost n) x y)).right = false := by
  have hl : (swapS (tolL cs lost n) x y).length = n := by simp [swapS, tolL_length]
  have ex : (swapS (tolL cs lost n) x y).getD x dS = { tolA cs lost x with com := (tolA cs lost y).com } := by
    unfold swapS
    rw [List.getD_eq_getElem?_getD, List.getElem?_set_ne (Ne.symm hne), List.getElem?_set_self (by rw [tolL_length]; exact hx), tolL_at hx, tolL_at hy]; rfl
  have ey : (swapS (tolL cs lost n) x y).getD y dS = { tolA cs lost y with com := (tolA cs lost x).com } := by
    unfold swapS
    rw [List.getD_eq_getElem?_getD, List.getElem?_set_self (by rw [List.length_set, tolL_length]; exact hy), tolL_at hx, tolL_at hy]; rfl
  have c1 : (tolA cs lost x).com = x + 1 := by
    have := tolA_com (cs := cs) (lost := lost) x
    split at this
    · omega
    · exact this
  have c2 : (tolA cs lost y).com = y + 1 := by
    have := tolA_com (cs := cs) (lost := lost) y
    split at this
    · omega
    · exact this
  have t1 : (tolA cs lost x).til = 2 * x + 2 := by rcases tolA_til (cs := cs) (lost := lost) x with h | h <;> omega
  have t2 : (tolA cs lost y).til = 2 * y + 2 := by rcases tolA_til (cs := cs) (lost := lost) y with h | h <;> omega
  have f1 := tolA_frm (cs := cs) (lost := lost) x
  have f2 := tolA_frm (cs := cs) (lost := lost) y
  rcases Nat.lt_or_gt_of_ne hne with h | h
  · refine checkR_late (lo := x) (hi := y) (by omega) (by omega) hne ?_ ?_ ?_ ?_ <;> (first | rw [ex, ey] | rw [ey] | rw [ex]) <;> dsimp only <;> omega
  · refine checkR_late (lo := y) (hi := x) (by omega) (by omega) (Ne.symm hne) ?_ ?_ ?_ ?_ <;> (first | rw [ex, ey] | rw [ex] | rw [ey]) <;> dsimp only <;> omega
end Go.Proofs.YtfbgnpfhjbiikaaGreatDoor

namespace Go.Proofs.YtfbgnpfhjbiikaaGreatDoor
open Go Go.RowKit
open Pth
open Go.Maps (has size Canon CanonK Tidy IsMap KeysOf Keyed Merged)
abbrev Tx : Type := Nat × Nat
def txOf (s : Sto) : Tx := (s.life, s.txn)
def TxOk (x : Tx) : Prop := x.1 < 18446744073709551616 ∧ x.2 < 18446744073709551616
def txVal (x : Tx) : Value := .agg #[.int .u64 x.1, .int .u64 x.2]
def keyTx (x : Tx) : Lit := .string (keyBytes [.int .u64 x.1, .int .u64 x.2])
theorem wfU64 {n : Nat} (h : n < 18446744073709551616) : (Lit.int .u64 (n : Int)).wf = true := by
  simp [Lit.wf, IntKind.min, IntKind.max, IntKind.signed, IntKind.bits]; omega
theorem txDeep1 : Tryz.prog.keyTypeAt 2 82 = true := by kernel_rfl
theorem txDeep2 : Tryz.prog.tiled 2 82 = true := by kernel_rfl
theorem txDeep3 : (match Tryz.prog.underlying 82 with | some (.array _ _) | some (.struct _) => true | _ => false) = true := by kernel_rfl
set_option maxRecDepth 100000 in
theorem kTx : Keyed Tryz.prog 82 := Maps.Keyed.of_law (deep_law (m := 2) (by omega) txDeep1 txDeep2 txDeep3)
theorem keyTx_of {x : Tx} (h : TxOk x) : keyOf Tryz.prog 82 (txVal x) = some (keyTx x) := by
  have h1 : Tryz.prog.keyType 82 = true := by kernel_rfl
  have hc : Tryz.prog.cellsOf 82 = 2 := by kernel_rfl
  have hu : Tryz.prog.cellsOf 43 = 1 := by kernel_rfl
  have h2 : (txVal x).formed Tryz.prog 82 = true := by
    simp [Value.formed, txVal, Tryz.underlying82, hc]
  obtain ⟨m, hm⟩ : ∃ m, Tryz.prog.types.size = m + 1 := ⟨Tryz.prog.types.size - 1, by
    have : 0 < Tryz.prog.types.size := of_decide_eq_true (by kernel_rfl)
    omega⟩
  have h3 : Tryz.prog.keyLits (Tryz.prog.types.size + 1) 82 (txVal x).cells.toList = some [.int .u64 x.1, .int .u64 x.2] := by
    rw [hm]
    simp [Program.keyLits, txVal, Value.cells, Tryz.underlying82, Tryz.underlying43, hc, hu, wfU64 h.1, wfU64 h.2]
  unfold keyOf
  rw [Tryz.underlying82]
  simp only [h1, h2, h3, Bool.and_self, if_true, Option.map_some]
  rfl
theorem keyTx_inj {x y : Tx} (hx : TxOk x) (hy : TxOk y) (h : keyTx x = keyTx y) : x = y := by
  have := kTx.inj (keyTx_of hx) (by rw [h]; exact keyTx_of hy)
  unfold txVal at this
  injection this with this
  simp at this
  exact Prod.ext (by omega) (by omega)

def MapTx (w : World) (b n : Nat) (F : Tx → Option Int) : Prop :=
  ∃ D : DataW Value, w.ownsMap Tryz.prog 82 heldR b n D ∧ IsMap D ∧ ∀ x, TxOk x → has D (keyTx x) = (F x).isSome ∧ ∀ v, F x = some v → D.atKey (keyTx x) .nil = .held (.int .i64 v)
theorem MapTx.move {w w' : World} {b n : Nat} {F : Tx → Option Int} (h : MapTx w b n F) (hb : w'.heap[b]? = w.heap[b]?) : MapTx w' b n F := by
  obtain ⟨D, ⟨es, clock, hh, Fi, hn, hD⟩, hm, hF⟩ := h
  exact ⟨D, ⟨es, clock, hb.trans hh, Fi, hn, hD⟩, hm, hF⟩
theorem MapTx.lt {w : World} {b n : Nat} {F : Tx → Option Int} (h : MapTx w b n F) : b < w.heap.size := by obtain ⟨D, h, _⟩ := h; exact h.lt
theorem MapTx.made (w : World) : MapTx (w.alloc (.map #[] 0)) w.heap.size 0 (fun _ => none) :=
  ⟨.map [], World.ownsMap_made w _ _ heldR, ⟨[], rfl⟩, fun x _ => ⟨rfl, fun v h => by cases h⟩⟩
theorem MapTx.put {_w w' : World} {b _n n' : Nat} {F : Tx → Option Int} {D : DataW Value} {x : Tx} {c : Int} (hx : TxOk x) (hm : IsMap D) (hF : ∀ x, TxOk x → has D (keyTx x) = (F x).isSome ∧ ∀ v, F x = some v → D.atKey (keyTx x) .nil = .held (.int .i64 v))
    (h : w'.ownsMap Tryz.prog 82 heldR b n' (D.put (keyTx x) (.held (.int .i64 c)))) : MapTx w' b n' (fun y => if y = x then some c else F y) := by
  refine ⟨_, h, hm.put _ _, fun y hy => ?_⟩
  have hk := kTx.key (keyTx_of hx)
  dsimp only
  by_cases e : y = x
  · subst e
    rw [if_pos rfl]
    exact ⟨Maps.has_put_same hm hk _, fun v hv => by injection hv with hv; subst hv; exact Maps.atKey_put_same hm hk _ _⟩
  · have hne : keyTx y ≠ keyTx x := fun h => e (keyTx_inj hy hx h)
    rw [if_neg e, Maps.has_put_other hne]
    exact ⟨(hF y hy).1, fun v hv => by rw [Maps.atKey_put_other hne]; exact (hF y hy).2 v hv⟩
theorem zeroIntT (w : World) : (zeroValue 3).run Tryz.prog w = .ok (.int .i64 0) w := by kernel_rfl
theorem MapTx.look {w : World} {b n : Nat} {F : Tx → Option Int} (h : MapTx w b n F) {x : Tx} (hx : TxOk x) :
    (Instr.lookup 141 (.map (some b)) (txVal x) true).run Tryz.prog w = .ok (.tuple #[.int .i64 ((F x).getD 0), .bool (F x).isSome]) w ∧
    (Instr.lookup 141 (.map (some b)) (txVal x) false).run Tryz.prog w = .ok (.int .i64 ((F x).getD 0)) w := by
  obtain ⟨D, ho, hm, hF⟩ := h
  obtain ⟨v1, p1, hr1, hv1⟩ := ho.look_ok kTx Tryz.underlying141 (zeroIntT w) (zd := .held (.int .i64 0)) (zp := []) rfl (keyTx_of hx)
  obtain ⟨v2, p2, hr2, hv2⟩ := ho.lookup kTx Tryz.underlying141 (zeroIntT w) (zd := .held (.int .i64 0)) (zp := []) rfl (keyTx_of hx)
  have e1 : DataW.held v1 = D.atKey (keyTx x) (.held (.int .i64 0)) := by simpa [heldR] using (congrArg (fun o => o.map Prod.fst) hv1)
  have e2 : DataW.held v2 = D.atKey (keyTx x) (.held (.int .i64 0)) := by simpa [heldR] using (congrArg (fun o => o.map Prod.fst) hv2)
  obtain ⟨h1, h2⟩ := hF x hx
  rw [h1] at hr1
  cases hf : F x with
  | none =>
    rw [hf] at h1
    rw [Maps.atKey_of_not_has h1] at e1 e2
    injection e1 with e1; injection e2 with e2
    subst e1; subst e2
    rw [hf] at hr1
    exact ⟨hr1, hr2⟩
  | some c =>
    rw [hf] at h1
    rw [Maps.atKey_indep h1 (.held (.int .i64 0)) .nil, h2 c hf] at e1 e2
    injection e1 with e1; injection e2 with e2
    subst e1; subst e2
    rw [hf] at hr1
    exact ⟨hr1, hr2⟩
theorem wpl_mapTx {ops : Array Oper} {rest : List Oper} {o : Oper} {a : Act} {w : World} {Q : Exit → Act → World → Prop} {b n : Nat} {F : Tx → Option Int}
    (hg : o.guard = none) (m k v : Operand) (hop : o.op = Op.mapUpdate 141 m k v) (h : MapTx w b n F) (hn : n < maxLen) (x : Tx) (c : Int) (hx : TxOk x)
    (hm : a.eval m = .map (some b)) (hk : a.eval k = txVal x) (hv : a.eval v = .int .i64 c)
    (hK : ∀ w', MapTx w' b (n + 1) (fun y => if y = x then some c else F y) → w.grownBy w' (some b) → wpList Tryz.prog ops Q rest (a.put o.dst undef) w') :
    wpList Tryz.prog ops Q (o :: rest) a w := by
  obtain ⟨D, ho, hmm, hF⟩ := h
  exact wpList_mapUpdate_own w hg m k v 141 hop 82 3 kTx Tryz.underlying141 heldR b n D hm ho hn _ _ _ hk hv (keyTx_of hx) _ [] rfl (fun w' h' hg' => hK w' (MapTx.put (_w := w) (_n := n) hx hmm hF h') hg')

def IsTxs (w : World) (v : Value) (l : List Tx) : Prop :=
  ∃ a cap, v = .slice a l.length cap ∧ (l = [] ∨ ∃ b off, a = some ⟨b, off, none⟩ ∧ b < w.heap.size ∧ ∀ i, i < l.length → w.cell? ⟨b, off + i * 2, none⟩ = some (.int .u64 (l.getD i (0, 0)).1) ∧ w.cell? ⟨b, off + i * 2 + 1, none⟩ = some (.int .u64 (l.getD i (0, 0)).2))
theorem IsTxs.below {w w' : World} {v : Value} {l : List Tx} {B : Nat} (h : IsTxs w v l) (hb : Below B w w') (hB : w.heap.size ≤ B) : IsTxs w' v l := by
  obtain ⟨a, cap, hv, h⟩ := h
  refine ⟨a, cap, hv, ?_⟩
  rcases h with h | ⟨b, off, ha, hlt, hc⟩
  · exact Or.inl h
  · exact Or.inr ⟨b, off, ha, by have := hb.size; omega, fun i hi => ⟨(hb.cell (p := ⟨b, _, none⟩) (by show b < B; omega)).trans (hc i hi).1, (hb.cell (p := ⟨b, _, none⟩) (by show b < B; omega)).trans (hc i hi).2⟩⟩
theorem zeroTx (w : World) : (zeroValue 82).run Tryz.prog w = .ok (.agg #[.int .u64 0, .int .u64 0]) w := by kernel_rfl
end Go.Proofs.YtfbgnpfhjbiikaaGreatDoor

namespace Go.Proofs.YtfbgnpfhjbiikaaGreatDoor
open Go Go.RowKit
open Pth
open Go.Maps (has size Canon CanonK Tidy IsMap KeysOf Keyed Merged)
def stoFlat (l : List (Five × Sto)) : List Value := l.flatMap (fun x => stoCells x.1 x.2)
theorem stoFlat_length (l : List (Five × Sto)) : (stoFlat l).length = l.length * 18 := by
  induction l with
  | nil => rfl
  | cons x r ih =>
    have e : stoFlat (x :: r) = stoCells x.1 x.2 ++ stoFlat r := by simp [stoFlat]
    have hl : (stoCells x.1 x.2).length = 18 := rfl
    rw [e, List.length_append, ih, hl, List.length_cons]; omega
theorem stoFlat_append (l : List (Five × Sto)) (x : Five × Sto) : stoFlat (l ++ [x]) = stoFlat l ++ stoCells x.1 x.2 := by simp [stoFlat]
abbrev dFS : Five × Sto := (⟨.slice none 0 0, .slice none 0 0, .slice none 0 0, .slice none 0 0, .slice none 0 0⟩, dS)
theorem stoFlat_at (l : List (Five × Sto)) : ∀ (i : Nat), i < l.length → ∀ j, j < 18 → (stoFlat l)[i * 18 + j]? = (stoCells (l.getD i dFS).1 (l.getD i dFS).2)[j]? := by
  induction l with
  | nil => intro i hi; simp at hi
  | cons g r ih =>
    intro i hi j hj
    have e : stoFlat (g :: r) = stoCells g.1 g.2 ++ stoFlat r := by simp [stoFlat]
    have hl : (stoCells g.1 g.2).length = 18 := rfl
    rw [e]
    cases i with
    | zero => rw [List.getElem?_append_left (by rw [hl]; omega)]; simp
    | succ i =>
      rw [List.getElem?_append_right (by rw [hl]; omega), hl, show (i + 1) * 18 + j - 18 = i * 18 + j by omega, ih i (by simpa using hi) j hj]
      simp
theorem IsStos.own {w : World} {B e : Nat} {v : Value} {T : List (Five × Sto)} (h : w.ownsRow B e 18 v T.length (stoFlat T)) (hT : ∀ x ∈ T, StoIs w x.1 x.2) : IsStos w v (T.map (·.2)) := by
  rcases h.2 with ⟨hv, hl⟩ | ⟨g, cap, cur, hv, hB, hg, hn, hcap, hsz, htake⟩
  · have : T = [] := List.length_eq_zero_iff.1 hl
    subst this; exact ⟨none, 0, hv, Nat.le_refl _, Or.inl rfl⟩
  · refine ⟨_, cap, by rw [List.length_map]; exact hv, by rw [List.length_map]; exact hn, Or.inr ⟨g, 0, rfl, lt_of_block hg, fun i hi => ?_⟩⟩
    rw [List.length_map] at hi
    subst hv
    have hm : T.getD i dFS ∈ T := by rw [List.getD_eq_getElem?_getD, List.getElem?_eq_getElem hi]; exact List.getElem_mem hi
    have he : (T.map (·.2)).getD i dS = (T.getD i dFS).2 := by
      rw [List.getD_eq_getElem?_getD, List.getD_eq_getElem?_getD, List.getElem?_map, List.getElem?_eq_getElem hi]; rfl
    rw [he]
    refine ⟨(T.getD i dFS).1, hT _ hm, fun j u hj => ?_⟩
    have hj2 : j < 18 := (List.getElem?_eq_some_iff.1 hj).1
    rw [Nat.zero_add, World.ownsRow.cellAt h (i * 18 + j) (by omega), stoFlat_at T i hi j hj2, hj]
theorem infoStoA : (Tryz.prog.info? 87).map (fun i => (i.zero, i.size, i.bytes)) = some (some (.agg #[.int .i64 0, .int .u8 0, .slice none 0 0, .slice none 0 0, .string ByteArray.empty, .int .u64 0, .int .u64 0, .int .u32 0, .int .i64 0, .int .i64 0, .bool false, .int .u64 0, .int .u64 0, .int .i64 0, .int .i64 0, .slice none 0 0, .slice none 0 0, .slice none 0 0]), 18, 232) := by kernel_rfl

theorem built1 (f : Five) (s : Sto) : Tryz.prog.builtSlice 87 1 [(0, .agg (stoCells f s).toArray)] = some (stoCells f s).toArray := by kernel_rfl
theorem wpl_build_sto {ops : Array Oper} {rest : List Oper} {o : Oper} {a : Act} {w : World} {Q : Exit → Act → World → Prop} (hg : o.guard = none) (x : Operand) (ho : o.op = .buildSlice 68 1 #[(0, x)]) {f : Five} {s : Sto} (hx : a.eval x = .agg (stoCells f s).toArray)
    (h : wpList Tryz.prog ops Q rest (a.put o.dst (.slice (some ⟨w.heap.size, 0, none⟩) 1 1)) (w.alloc (.cells (stoCells f s).toArray 87))) : wpList Tryz.prog ops Q (o :: rest) a w :=
  Great.wpList_buildSliceTo hg 68 87 1 #[(0, x)] ho w.heap.size rfl o.dst rfl Tryz.underlying68 (stoCells f s).toArray (by
    simp only [List.map_toArray, List.map_cons, List.map_nil, hx]; exact built1 f s) h
def someS (l : List Sto) (txs : List Tx) (o : List Nat) : List Sto := (o.filter (fun i => txs.contains (txOf (l.getD i dS)))).map (fun i => l.getD i dS)
def allS (l : List Sto) (txs : List Tx) (o : List Nat) : Bool := txs.all (fun x => o.any (fun i => txOf (l.getD i dS) == x))
def leftF (l : List Sto) (txs : List Tx) (o : List Nat) (x : Tx) : Option Int := if x ∈ txs then some (if o.any (fun i => txOf (l.getD i dS) == x) then 0 else 1) else none
def BehindG (l : List Sto) (txs : List Tx) (w : World) (e : Ending) (w' : World) : Prop :=
  ∃ v, e = .returned (.tuple #[v, .bool (allS l txs (ordS l))]) ∧ IsRows w' v (rowsS (someS l txs (ordS l))) ∧ Below w.heap.size w w'
theorem filter_take_succ {p : Nat → Bool} {o : List Nat} {k : Nat} (hk : k < o.length) : (o.take (k + 1)).filter p = if p (o.getD k 0) then (o.take k).filter p ++ [o.getD k 0] else (o.take k).filter p := by
  rw [List.take_succ_eq_append_getElem hk, List.filter_append, List.getD_eq_getElem?_getD, List.getElem?_eq_getElem hk]
  by_cases h : p o[k] <;> simp [h]
theorem someS_succ {l : List Sto} {txs : List Tx} {o : List Nat} {k : Nat} (hk : k < o.length) : someS l txs (o.take (k + 1)) = if txOf (l.getD (o.getD k 0) dS) ∈ txs then someS l txs (o.take k) ++ [l.getD (o.getD k 0) dS] else someS l txs (o.take k) := by
  unfold someS
  rw [filter_take_succ hk]
  by_cases h : txOf (l.getD (o.getD k 0) dS) ∈ txs
  · rw [if_pos h, if_pos (by simpa using h), List.map_append]; rfl
  · rw [if_neg h, if_neg (by simpa using h)]
theorem leftF_succ {l : List Sto} {txs : List Tx} {o : List Nat} {k : Nat} (hk : k < o.length) (x : Tx) : leftF l txs (o.take (k + 1)) x = if x = txOf (l.getD (o.getD k 0) dS) ∧ txOf (l.getD (o.getD k 0) dS) ∈ txs then some 0 else leftF l txs (o.take k) x := by
  unfold leftF
  rw [any_take_succ (p := fun i => txOf (l.getD i dS) == x) hk 0]
  obtain ⟨y, hy⟩ : ∃ y, txOf (l.getD (o.getD k 0) dS) = y := ⟨_, rfl⟩
  rw [hy]
  by_cases h : x = y
  · subst h
    by_cases h2 : x ∈ txs
    · simp only [h2, if_true, beq_self_eq_true, Bool.or_true, and_self]
    · simp only [h2, if_false, and_false]
  · have h2 : (y == x) = false := by rw [beq_eq_false_iff_ne]; exact fun e => h e.symm
    rw [h2, Bool.or_false, if_neg (c := x = y ∧ y ∈ txs) (fun e => h e.1)]
theorem allS_succ {l : List Sto} {txs : List Tx} {o : List Nat} {k : Nat} (hk : k < txs.length) : allS l (txs.take (k + 1)) o = (allS l (txs.take k) o && o.any (fun i => txOf (l.getD i dS) == txs.getD k (0, 0))) := by
  unfold allS
  rw [List.take_succ_eq_append_getElem hk, List.all_append, List.getD_eq_getElem?_getD, List.getElem?_eq_getElem hk]
  simp
theorem someS_mem {l : List Sto} {txs : List Tx} {o : List Nat} {s : Sto} (h : s ∈ someS l txs o) : ∃ i ∈ o, s = l.getD i dS := by
  unfold someS at h
  obtain ⟨i, hi, rfl⟩ := List.mem_map.1 h
  exact ⟨i, (List.mem_filter.1 hi).1, rfl⟩
theorem someS_len (l : List Sto) (txs : List Tx) (o : List Nat) : (someS l txs o).length ≤ o.length := by
  unfold someS; rw [List.length_map]; exact List.length_filter_le _ _
set_option maxRecDepth 100000 in
set_option maxHeartbeats 8000000 in
theorem model_behind (l : List Sto) (txs : List Tx) (v vt : Value) (w : World) (hv : IsStos w v l) (ht : IsTxs w vt txs) (hl : l.length ≤ 1048576) (htl : txs.length ≤ 1048576) (hk : (idxO l l.length).length ≤ 20) (hz : StosSz l) (hok : ∀ x ∈ txs, TxOk x) (hokl : ∀ i, i < l.length → TxOk (txOf (l.getD i dS))) (hm : MX w) :
    Calls Tryz.prog 35 #[v, vt] w (BehindG l txs w) := by
  have HV := Lib.hid hv; have HZ := Lib.hid hz; have HM := Lib.hid hm; have HK := Lib.hid hk; have HOK := Lib.hid hok; have HOKL := Lib.hid hokl
  obtain ⟨a, cap, rfl, hcap, hcc⟩ := hv
  obtain ⟨at', ct, rfl, htc⟩ := ht
  have HC := Lib.hid hcc; have HTC := Lib.hid htc
  clear hcc hz hm hk hok hokl htc
  obtain ⟨i0, hi, hz0, hz1, hz2⟩ := info_parts infoStoA
  have hzt := zeroTx
  have hmm := @run_makeMap Tryz.prog
  go_enter Tryz.func35, Tryz.ntmps35
  go_upto_region 2 with fail
  refine wp_abs (F := fun W => MapTx W w.heap.size 0 (fun _ => none) ∧ Below w.heap.size w W) ⟨MapTx.made w, (Below.refl _ _).alloc (Nat.le_refl _) _⟩ ?_
  rintro W1 ⟨hM1, hb1⟩
  have HM1 := Lib.hid hM1; have Hb1 := Lib.hid hb1
  clear hM1 hb1
  go_wp2_with fail
  go_loopw [20] (fun s20 wr => ∃ k : Nat, k ≤ txs.length ∧ s20 = .int .i64 k ∧ Hid (MapTx wr w.heap.size k (fun x => if x ∈ txs.take k then some 1 else none)) ∧ Hid (Below w.heap.size w wr)) (fun i _ => txs.length - (intOf i).toNat)
  case atStart => exact ⟨0, Nat.zero_le _, rfl, Lib.hid (by simpa using HM1.out), Hb1⟩
  case round =>
    obtain ⟨k, hk, rfl, hM, hbw⟩ := hrel
    by_cases hlt : k < txs.length
    · have hltI : (k : Int) < (txs.length : Int) := by omega
      rcases HTC.out with hn | ⟨b1, o1, rfl, hblt, hst⟩
      · rw [hn] at hlt; simp at hlt
      obtain ⟨g0, g1⟩ := hst k hlt
      have e0 := (hbw.out.cell (p := ⟨b1, o1 + k * 2, none⟩) hblt).trans g0
      have e1 := (hbw.out.cell (p := ⟨b1, o1 + k * 2 + 1, none⟩) hblt).trans g1
      have hxm : txs.getD k (0, 0) ∈ txs := by rw [List.getD_eq_getElem?_getD, List.getElem?_eq_getElem hlt]; exact List.getElem_mem hlt
      have hxo := HOK.out _ hxm
      have htk : ∀ x, (x ∈ txs.take (k + 1) ↔ x = txs.getD k (0, 0) ∨ x ∈ txs.take k) := fun x => by
        rw [List.take_succ_eq_append_getElem hlt, List.mem_append, List.mem_singleton, List.getD_eq_getElem?_getD, List.getElem?_eq_getElem hlt]
        exact Or.comm
      obtain ⟨x, hx⟩ : ∃ x, txs.getD k (0, 0) = x := ⟨_, rfl⟩
      rw [hx] at e0 e1 hxo htk
      have Htk := Lib.hid htk; have Hxo := Lib.hid hxo
      clear hx hst g0 g1 hxm htk hxo
      obtain ⟨x1, x2⟩ := x
      dsimp only at e0 e1
      go_upto_region 5 with fail
      refine wp_abs (F := fun W => One wr.heap.size #[.int .u64 x1, .int .u64 x2] W ∧ Below wr.heap.size wr W) ⟨One.of _ _ _, (Below.refl _ _).alloc (Nat.le_refl _) _⟩ ?_
      rintro W2 ⟨hO2, hb2⟩
      have y0 := hO2.c 0; have y1 := hO2.c 1
      simp at y0 y1
      have HM2 := Lib.hid (hM.out.move (hb2.block _ hM.out.lt))
      have HB2 : Hid (Below w.heap.size w W2) := Lib.hid (hbw.out.trans (hb2.mono hbw.out.size))
      clear hO2 hb2 e0 e1
      go_wp2_with (first
        | (refine wpl_mapTx rfl (.tmp 24) (.tmp 25) _ rfl HM2.out (by unfold maxLen; omega) (x1, x2) 1 Hxo.out rfl rfl rfl ?_; intro w3 hM3 hg3; have HM3 := Lib.hid hM3; have Hg3 := Lib.hid hg3; clear hM3 hg3)
        | fail)
      go_roundw
      case rel => exact ⟨k + 1, by omega, by go_num, Lib.hid (by
          have : (fun y => if y = (x1, x2) then some (1 : Int) else if y ∈ txs.take k then some 1 else none) = (fun y => if y ∈ txs.take (k + 1) then some 1 else none) := by
            funext y
            by_cases e : y = (x1, x2)
            · rw [if_pos e, if_pos ((Htk.out y).2 (Or.inl e))]
            · rw [if_neg e]
              by_cases e2 : y ∈ txs.take k
              · rw [if_pos e2, if_pos ((Htk.out y).2 (Or.inr e2))]
              · rw [if_neg e2, if_neg (fun h => by rcases (Htk.out y).1 h with h | h; exact e h; exact e2 h)]
          rw [← this]; exact HM3.out), Lib.hid (HB2.out.grown Hg3.out HB2.out.size (fun k hk => by cases hk; exact Nat.le_refl _))⟩
      case measure => simp [intOf]; omega
    · have hge : ¬ (k : Int) < (txs.length : Int) := by omega
      obtain rfl : k = txs.length := by omega
      have HMa : Hid (MapTx wr w.heap.size txs.length (leftF l txs [])) := Lib.hid (by
        have h := hM.out
        rw [List.take_length] at h
        exact h)
      have HB0 := Lib.hid hbw.out
      have HOr := Lib.hid (model_order l _ wr (HV.out.below hbw.out (Nat.le_refl _)) hl HK.out)
      clear hM hbw
      go_wp2_with fail
      refine HOr.out.mono ?_
      rintro e w3 ⟨vo, rfl, hio, hfo, hb3⟩
      have HB3 : Hid (Below w.heap.size w w3) := Lib.hid (HB0.out.trans (hb3.mono HB0.out.size))
      have HM3 := Lib.hid (HMa.out.move (hb3.block _ HMa.out.lt))
      have HIO := Lib.hid hio
      have HFO : Hid (∀ k, vo.ownBlock = some k → ¬ (k = w.heap.size)) := Lib.hid (fun k hk => by have := hfo k hk; have := HMa.out.lt; omega)
      obtain ⟨ao, co, rfl, hoc, _⟩ := hio
      have hol : (ordS l).length ≤ 1048576 := Nat.le_trans (ordL_le _ _) hl
      have HLen : Hid ((ordS l).length ≤ 20) := Lib.hid (by unfold ordS; rw [ordL_length]; exact HK.out)
      have Hmb : Hid (w.heap.size < w3.heap.size) := Lib.hid HM3.out.lt
      clear hb3 hfo HOr hoc
      go_wp2_with fail
      go_loopw [9, 30] (fun s9 s30 wx => ∃ (k : Nat) (T : List (Five × Sto)), k ≤ (ordS l).length ∧ s30 = .int .i64 k ∧ (∃ a9 c9, s9 = .slice a9 T.length c9) ∧ Hid (T.map (·.2) = someS l txs ((ordS l).take k)) ∧ Hid (∀ x ∈ T, StoIs w x.1 x.2) ∧ Hid (wx.ownsRow w3.heap.size 87 18 s9 T.length (stoFlat T)) ∧ Hid (MapTx wx w.heap.size (txs.length + k) (leftF l txs ((ordS l).take k))) ∧ Hid (ButS (fun k => k = w.heap.size) w3 wx)) (fun _ i _ => (ordS l).length - (intOf i).toNat)
      case atStart => exact ⟨0, [], Nat.zero_le _, rfl, ⟨none, 0, rfl⟩, Lib.hid rfl, Lib.hid (fun x hx => by cases hx), Lib.hid (World.ownsRow_nil _ _ _ _), HM3, Lib.hid (ButS.of (Below.refl _ _))⟩
      case round =>
        obtain ⟨k, T, hk2, rfl, ⟨a9, c9, rfl⟩, hmap, hsi, hrow, hM, hbw⟩ := hrel
        have HBr : Hid (Below w.heap.size w wr) := Lib.hid (HB3.out.trans (hbw.out.below (fun k hk => by omega) HB3.out.size))
        have hTl : T.length ≤ k := by
          have h1 := congrArg List.length hmap.out
          rw [List.length_map] at h1
          rw [h1]; unfold someS
          rw [List.length_map]
          exact Nat.le_trans (List.length_filter_le _ _) (List.length_take_le _ _)
        by_cases hlt : k < (ordS l).length
        · have hltI : (k : Int) < ((ordS l).length : Int) := by omega
          have hio := HIO.out.but hbw.out HFO.out
          obtain ⟨ao', co', hvo, _, hoo⟩ := hio
          injection hvo with e1 _ e3
          subst e1; subst e3
          have hone : ordS l ≠ [] := fun h => by rw [h] at hlt; simp at hlt
          rcases hoo with h0 | ⟨ob, oo, rfl, hoblt, hoc2⟩
          · exact absurd h0 hone
          have hck := hoc2 k hlt
          have him : (ordS l).getD k 0 ∈ ordS l := by rw [List.getD_eq_getElem?_getD, List.getElem?_eq_getElem hlt]; exact List.getElem_mem hlt
          have hil := (mem_ordL.1 him).1
          have HSs := Lib.hid (someS_succ (l := l) (txs := txs) hlt)
          have HLs := Lib.hid (fun x => leftF_succ (l := l) (txs := txs) hlt x)
          obtain ⟨i, hi⟩ : ∃ i, (ordS l).getD k 0 = i := ⟨_, rfl⟩
          rw [hi] at hck hil HSs HLs
          rcases HC.out with hn | ⟨b1, o1, rfl, hblt, hst⟩
          · rw [hn] at hil; simp at hil
          obtain ⟨f, hsi1, hat⟩ := hst i hil
          have HAT := Lib.hid (hat.below HBr.out hblt)
          have g11 := HAT.out 11 _ rfl
          have g12 := HAT.out 12 _ rfl
          have hone1 := five_one hsi1
          have hxo := HOKL.out i hil
          have HSI := Lib.hid hsi1
          have hiI : (i : Int) < (l.length : Int) := by omega
          obtain ⟨x, hx⟩ : ∃ x, l.getD i dS = x := ⟨_, rfl⟩
          rw [hx] at HAT g11 g12 hone1 hxo HSI HSs HLs
          have Hone := Lib.hid hone1
          have hlook := (hM.out.look hxo).1
          unfold txVal txOf at hlook
          dsimp only at hlook
          have Hxo := Lib.hid hxo
          clear hi him hoc2 hone hst hsi1 hat hx hone1 hxo
          by_cases hin : txOf x ∈ txs
          · have hlf : (leftF l txs ((ordS l).take k) (x.life, x.txn)).isSome = true := by unfold leftF; rw [if_pos (show (x.life, x.txn) ∈ txs from hin)]; rfl
            rw [hlf] at hlook
            have HSs2 : Hid (someS l txs ((ordS l).take (k + 1)) = someS l txs ((ordS l).take k) ++ [x]) := Lib.hid (by rw [HSs.out, if_pos hin])
            have HLs2 : Hid ((fun y => if y = txOf x then some (0 : Int) else leftF l txs ((ordS l).take k) y) = leftF l txs ((ordS l).take (k + 1))) := Lib.hid (by
              funext y
              rw [HLs.out y]
              by_cases e : y = txOf x
              · rw [if_pos e, if_pos ⟨e, hin⟩]
              · rw [if_neg e, if_neg (fun h => e h.1)])
            have Hin := Lib.hid hin
            have HLen2 := HLen.out
            clear HSs HLs hin hlf
            have hbA : Below wr.heap.size wr (wr.alloc (.cells (stoCells f x).toArray 87)) := (Below.refl _ _).alloc (Nat.le_refl _) _
            have HbA := Lib.hid hbA
            have HMA := Lib.hid (hM.out.move (hbA.block _ hM.out.lt))
            have Hblt := Lib.hid hblt
            clear hbA
            go_wp2_with (first
              | (refine wpl_load_sto rfl (.tmp 48) rfl rfl HAT.out ?_)
              | (refine wpl_build_sto rfl (.tmp 49) rfl rfl ?_)
              | (at_builtin; refine wpList_append_own _ rfl (.tmp 45) (.tmp 50) 68 rfl w3.heap.size 87 i0 (.agg #[.int .i64 0, .int .u8 0, .slice none 0 0, .slice none 0 0, .string ByteArray.empty, .int .u64 0, .int .u64 0, .int .u32 0, .int .i64 0, .int .i64 0, .bool false, .int .u64 0, .int .u64 0, .int .i64 0, .int .i64 0, .slice none 0 0, .slice none 0 0, .slice none 0 0]) 18 232 Tryz.underlying68 hi hz0 hz1 hz2 rfl (by decide) _ T.length (stoFlat T) rfl (ownBelow hrow.out HbA.out) ⟨wr.heap.size, 0, none⟩ 1 1 (stoCells f x) rfl rfl (World.news_of_block (MapKept.heap_alloc _ _).1) Hone.out (by unfold maxLen; omega) (by omega) ?hbase ?go; (case hbase => have h1 := hbw.out.size; simp; omega); intro v5 w5 hown5 hg5 _; obtain ⟨a6, c6, rfl⟩ := ownShape hown5;
                  have hb5 : Below w.heap.size w w5 := (HBr.out.alloc HBr.out.size _).grown hg5 (HBr.out.alloc HBr.out.size (.cells (stoCells f x).toArray 87)).size (fun k hk => by have := ownAbove hrow.out k hk; have := Hmb.out; omega);
                  have hat5 := HAT.out.below ((Below.refl wr.heap.size wr).alloc (Nat.le_refl _) (.cells (stoCells f x).toArray 87)) (by have := HBr.out.size; have := Hblt.out; omega);
                  have HM5 := Lib.hid (HMA.out.move (hg5.block _ HMA.out.lt (fun e => by have := ownAbove hrow.out _ e.symm; have := Hmb.out; omega)));
                  have hat6 : StoAt w5 b1 (o1 + i * 18) f x := fun j u hj => (World.cell?_of_block (a := ⟨b1, o1 + i * 18 + j, none⟩) (hg5.block b1 (by have := HBr.out.size; have := Hblt.out; simp; omega) (fun e => by have := ownAbove hrow.out _ e.symm; have := Hblt.out; have := Hmb.out; omega))).trans (hat5 j u hj);
                  have p11 := hat6 11 _ rfl; have p12 := hat6 12 _ rfl; have HW5 : Hid (Below w3.heap.size wr w5) := Lib.hid ((HbA.out.mono hbw.out.size).grown hg5 (Nat.le_trans hbw.out.size HbA.out.size) (fun k hk => ownAbove hrow.out k hk)); have HB5 := Lib.hid hb5; have Hown5 := Lib.hid hown5; have Hg5 := Lib.hid hg5; clear hb5 hown5 hg5 hat5 hat6)
              | (refine wpl_mapTx rfl (.tmp 52) (.tmp 57) _ rfl HM5.out (by unfold maxLen; omega) (txOf x) 0 Hxo.out rfl rfl rfl ?_; intro w6 hM6 hg6; have HM6 := Lib.hid hM6; have Hg6 := Lib.hid hg6; clear hM6 hg6)
              | fail)
            go_roundw
            case rel =>
              refine ⟨k + 1, T ++ [(f, x)], by omega, by go_num, ⟨a6, c6, by rw [List.length_append]; rfl⟩, Lib.hid ?_, Lib.hid ?_, Lib.hid ?_, Lib.hid ?_, Lib.hid ?_⟩
              · rw [HSs2.out, List.map_append, hmap.out]; rfl
              · intro y hy
                rcases List.mem_append.1 hy with hy | hy
                · exact hsi.out y hy
                · rw [List.mem_singleton.1 hy]; exact HSI.out
              · rw [List.length_append, stoFlat_append]
                exact ownGrown Hown5.out Hg6.out Hmb.out
              · rw [← HLs2.out]; exact HM6.out
              · exact (hbw.out.thenB HW5.out).trans (ButS.grown Hg6.out rfl)
            case measure => simp [intOf]; omega
          · have hlf : (leftF l txs ((ordS l).take k) (x.life, x.txn)).isSome = false := by unfold leftF; rw [if_neg (show ¬ (x.life, x.txn) ∈ txs from hin)]; rfl
            rw [hlf] at hlook
            have HSs2 : Hid (someS l txs ((ordS l).take (k + 1)) = someS l txs ((ordS l).take k)) := Lib.hid (by rw [HSs.out, if_neg hin])
            have HLs2 : Hid (leftF l txs ((ordS l).take (k + 1)) = leftF l txs ((ordS l).take k)) := Lib.hid (by
              funext y
              rw [HLs.out y, if_neg (fun h => hin h.2)])
            have HMn : Hid (MapTx wr w.heap.size (txs.length + (k + 1)) (leftF l txs ((ordS l).take k))) := Lib.hid (by
              obtain ⟨D, ho, hm, hF⟩ := hM.out
              exact ⟨D, ho.mono (by omega), hm, hF⟩)
            clear HSs HLs hin hlf
            go_wp2_with fail
            go_roundw
            case rel => exact ⟨k + 1, T, by omega, by go_num, ⟨a9, c9, rfl⟩, Lib.hid (by rw [HSs2.out]; exact hmap.out), hsi, hrow, Lib.hid (by rw [HLs2.out]; exact HMn.out), hbw⟩
            case measure => simp [intOf]; omega
        · have hge2 : ¬ (k : Int) < ((ordS l).length : Int) := by omega
          have hkk : k = (ordS l).length := by omega
          have HSm : Hid (T.map (·.2) = someS l txs (ordS l)) := Lib.hid (by have := hmap.out; rwa [hkk, List.take_length] at this)
          have HMf : Hid (MapTx wr w.heap.size (txs.length + (ordS l).length) (leftF l txs (ordS l))) := Lib.hid (by have := hM.out; rwa [hkk, List.take_length] at this)
          have HISt : Hid (IsStos wr (.slice a9 T.length c9) (someS l txs (ordS l))) := Lib.hid (by
            rw [← HSm.out]
            exact IsStos.own hrow.out (fun y hy => (hsi.out y hy).below HBr.out (Nat.le_refl _)))
          have HTl : Hid (T.length = (someS l txs (ordS l)).length) := Lib.hid (by rw [← HSm.out, List.length_map])
          have HLen2 := HLen.out
          have HBr' := HBr
          obtain ⟨wrL, hwrL⟩ : ∃ W, W = wr := ⟨_, rfl⟩
          rw [← hwrL] at HBr' HMf HISt ⊢
          clear hmap hM hsi hrow hkk HMa hbw HBr hwrL
          go_wp2_with fail
          go_loopw [14, 61] (fun s14 s61 wx => ∃ k : Nat, k ≤ txs.length ∧ s61 = .int .i64 k ∧ s14 = .bool (allS l (txs.take k) (ordS l)) ∧ Hid (Below wrL.heap.size wrL wx)) (fun _ i _ => txs.length - (intOf i).toNat)
          case atStart => exact ⟨0, Nat.zero_le _, rfl, rfl, Lib.hid (Below.refl _ _)⟩
          case round =>
            obtain ⟨k5, hk5, rfl, rfl, hbx⟩ := hrel
            by_cases hlt5 : k5 < txs.length
            · have hltI : (k5 : Int) < (txs.length : Int) := by omega
              rcases HTC.out with hn | ⟨b1, o1, rfl, hblt, hst⟩
              · rw [hn] at hlt5; simp at hlt5
              obtain ⟨g0, g1⟩ := hst k5 hlt5
              have hbB : Below w.heap.size w wr := HBr'.out.trans (hbx.out.mono HBr'.out.size)
              have e0 := (hbB.cell (p := ⟨b1, o1 + k5 * 2, none⟩) hblt).trans g0
              have e1 := (hbB.cell (p := ⟨b1, o1 + k5 * 2 + 1, none⟩) hblt).trans g1
              have hxm : txs.getD k5 (0, 0) ∈ txs := by rw [List.getD_eq_getElem?_getD, List.getElem?_eq_getElem hlt5]; exact List.getElem_mem hlt5
              have hxo := HOK.out _ hxm
              have HAs := Lib.hid (allS_succ (l := l) (o := ordS l) hlt5)
              obtain ⟨x, hx⟩ : ∃ x, txs.getD k5 (0, 0) = x := ⟨_, rfl⟩
              rw [hx] at e0 e1 hxo HAs hxm
              have Hxo := Lib.hid hxo
              have HlF : Hid (leftF l txs (ordS l) x = some (if (ordS l).any (fun i => txOf (l.getD i dS) == x) then 0 else 1)) := Lib.hid (by unfold leftF; rw [if_pos hxm])
              clear hx hst g0 g1 hxm hxo hbB
              obtain ⟨x1, x2⟩ := x
              dsimp only at e0 e1
              go_upto_region 20 with fail
              refine wp_abs (F := fun W => One wr.heap.size #[.int .u64 x1, .int .u64 x2] W ∧ Below wr.heap.size wr W) ⟨One.of _ _ _, (Below.refl _ _).alloc (Nat.le_refl _) _⟩ ?_
              rintro W2 ⟨hO2, hb2⟩
              have y0 := hO2.c 0; have y1 := hO2.c 1
              simp at y0 y1
              have hM2 := HMf.out.move ((hb2.block _ (Nat.lt_of_lt_of_le HMf.out.lt hbx.out.size)).trans (hbx.out.block _ HMf.out.lt))
              have hlook := (hM2.look Hxo.out).2
              rw [HlF.out] at hlook
              unfold txVal at hlook
              dsimp only [Option.getD_some] at hlook
              obtain ⟨z2, hz2⟩ : ∃ z, (ordS l).any (fun i => txOf (l.getD i dS) == (x1, x2)) = z := ⟨_, rfl⟩
              rw [hz2] at hlook HAs
              obtain ⟨z1, hz1⟩ : ∃ z, allS l (txs.take k5) (ordS l) = z := ⟨_, rfl⟩
              rw [hz1] at HAs ⊢
              have HB2 : Hid (Below wrL.heap.size wrL W2) := Lib.hid (hbx.out.trans (hb2.mono hbx.out.size))
              clear hO2 hb2 e0 e1 hM2 hz1 hz2 HlF
              cases z1 <;> cases z2
              all_goals (
                go_wp2_with fail
                go_roundw
                case rel => exact ⟨k5 + 1, by omega, by go_num, by rw [HAs.out]; rfl, HB2⟩
                case measure => simp [intOf]; omega)
            · have hge5 : ¬ (k5 : Int) < (txs.length : Int) := by omega
              obtain rfl : k5 = txs.length := by omega
              have HBw : Hid (Below w.heap.size w wr) := Lib.hid (HBr'.out.trans (hbx.out.mono HBr'.out.size))
              have HIS2 := Lib.hid (HISt.out.below hbx.out (Nat.le_refl _))
              have hlen : (someS l txs (ordS l)).length ≤ 20 := Nat.le_trans (someS_len _ _ _) HLen2
              have HRw := Lib.hid (model_rows (someS l txs (ordS l)) _ wr HIS2.out (by omega) (Nat.le_trans (idxO_le _ _) hlen) (fun i hi => by
                have hm : (someS l txs (ordS l)).getD i dS ∈ someS l txs (ordS l) := by rw [List.getD_eq_getElem?_getD, List.getElem?_eq_getElem hi]; exact List.getElem_mem hi
                obtain ⟨j, hj, he⟩ := someS_mem hm
                rw [he]; exact HZ.out j (mem_ordL.1 hj).1) (HM.out.below HBw.out (Nat.le_refl _)))
              rw [List.take_length]
              go_wp2_with fail
              refine HRw.out.mono ?_
              rintro e w9 ⟨v9, rfl, hi9, hb9⟩
              have HI9 := Lib.hid hi9; have HB9 := Lib.hid hb9
              obtain ⟨a10, c10, rfl, _⟩ := hi9
              clear hb9 HRw
              go_wp2_with fail
              go_ret2
              exact ⟨_, rfl, HI9.out, HBw.out.trans (HB9.out.mono HBw.out.size)⟩
end Go.Proofs.YtfbgnpfhjbiikaaGreatDoor

namespace Go.Proofs.YtfbgnpfhjbiikaaGreatDoor
open Go Go.RowKit
open Pth
open Go.Maps (has size Canon CanonK Tidy IsMap KeysOf Keyed Merged)
def sA : Sto := ⟨0, putL tA tX, 1, 2, false, 1, 1, 1, 0, [], [1], []⟩
def sB : Sto := ⟨0, getL tA, 3, 4, false, 1, 2, 2, 0, [⟨⟨1, 1, tX⟩, 0⟩], [], []⟩
def sC : Sto := ⟨0, getL tA, 3, 4, false, 1, 2, 2, 0, [⟨dV, 3⟩], [], []⟩
def sD : Sto := ⟨0, putL tA tX, 1, 2, false, 1, 1, 3, 0, [], [1], []⟩
def exM : DataW Cel := .map [(kS tA, .held ⟨1, [⟨1, 1, tX⟩]⟩)]
theorem exM_put : doesT (.map []) 0 QQ QQ (putL tA tX) = ⟨[], [1], [], true, exM, 2⟩ := by kernel_rfl
theorem exM_get : doesT exM 2 QQ QQ (getL tA) = ⟨[⟨⟨1, 1, tX⟩, 0⟩], [], [], true, exM, 2⟩ := by kernel_rfl
theorem ord_AB (s t : Sto) (h1 : 0 < s.com) (h2 : s.com ≤ t.com) : ordS [s, t] = [0, 1] := by
  symm
  refine ordL_uniq ?_ ?_
  · have : (List.range [s, t].length).filter (fun i => decide (0 < comF [s, t] i)) = [0, 1] := by
      have e0 : comF [s, t] 0 = s.com := rfl
      have e1 : comF [s, t] 1 = t.com := rfl
      have hr : List.range [s, t].length = [0, 1] := rfl
      rw [hr]
      simp [e0, e1, h1]; omega
    rw [this]
  · have e0 : comF [s, t] 0 = s.com := rfl
    have e1 : comF [s, t] 1 = t.com := rfl
    simp [leS, e0, e1]; omega
theorem ord_BA (s t : Sto) (h1 : 0 < t.com) (h2 : t.com < s.com) : ordS [s, t] = [1, 0] := by
  symm
  refine ordL_uniq ?_ ?_
  · have : (List.range [s, t].length).filter (fun i => decide (0 < comF [s, t] i)) = [0, 1] := by
      have e0 : comF [s, t] 0 = s.com := rfl
      have e1 : comF [s, t] 1 = t.com := rfl
      have hr : List.range [s, t].length = [0, 1] := rfl
      rw [hr]
      simp [e0, e1, h1]; omega
    rw [this]
    exact List.Perm.swap _ _ _
  · have e0 : comF [s, t] 0 = s.com := rfl
    have e1 : comF [s, t] 1 = t.com := rfl
    simp [leS, e0, e1]; omega
theorem check_cons {l : List Sto} (h : l.findIdx badA = l.length) : checkT l = chkT l (ordS l) 0 (ordS l) (.map [], 0) := by
  unfold checkT; rw [h, if_neg (Nat.lt_irrefl _)]
theorem chk_step {l : List Sto} {o : List Nat} {k i : Nat} {r : List Nat} {M : DataW Cel} {B : Int} {d : Done} (hl : lateT l o k = false) (hd : doesT M B QQ QQ (l.getD i dS).call = d) (hi : d.is = true) (hw : wrongR d (l.getD i dS) = false) : chkT l o k (i :: r) (M, B) = chkT l o (k + 1) r (d.M, d.B) := by
  rw [chkT, if_neg (by rw [hl]; decide)]
  dsimp only
  rw [hd, if_neg (by rw [hi]; decide), if_neg (by rw [hw]; decide)]
theorem chk_wrong {l : List Sto} {o : List Nat} {k i : Nat} {r : List Nat} {M : DataW Cel} {B : Int} {d : Done} (hl : lateT l o k = false) (hd : doesT M B QQ QQ (l.getD i dS).call = d) (hi : d.is = true) (hw : wrongR d (l.getD i dS) = true) : chkT l o k (i :: r) (M, B) = ⟨false, i, 4⟩ := by
  rw [chkT, if_neg (by rw [hl]; decide)]
  dsimp only
  rw [hd, if_neg (by rw [hi]; decide), if_pos hw]
theorem chk_late {l : List Sto} {o : List Nat} {k i : Nat} {r : List Nat} {s : DataW Cel × Int} (hl : lateT l o k = true) : chkT l o k (i :: r) s = ⟨false, i, 1⟩ := by
  rw [chkT, if_pos hl]
theorem wrong_same {d : Done} {s : Sto} (h : SameR d s) : wrongR d s = false := by
  unfold wrongR; exact @decide_eq_false _ (Classical.propDecidable _) (fun h2 => h2.2 h)
theorem wrong_not {d : Done} {s : Sto} (h0 : 0 < s.til) (h : ¬ SameR d s) : wrongR d s = true := by
  unfold wrongR; exact @decide_eq_true _ (Classical.propDecidable _) ⟨h0, h⟩
theorem check_AB : checkT [sA, sB] = ⟨true, 0, 0⟩ := by
  rw [check_cons (by kernel_rfl), ord_AB sA sB (by decide) (by decide)]
  rw [chk_step (d := ⟨[], [1], [], true, exM, 2⟩) (by kernel_rfl) exM_put rfl (wrong_same ⟨rfl, rfl, rfl⟩)]
  rw [chk_step (d := ⟨[⟨⟨1, 1, tX⟩, 0⟩], [], [], true, exM, 2⟩) (by kernel_rfl) exM_get rfl (wrong_same ⟨rfl, rfl, rfl⟩)]
  rfl
theorem check_AC : checkT [sA, sC] = ⟨false, 1, 4⟩ := by
  rw [check_cons (by kernel_rfl), ord_AB sA sC (by decide) (by decide)]
  rw [chk_step (d := ⟨[], [1], [], true, exM, 2⟩) (by kernel_rfl) exM_put rfl (wrong_same ⟨rfl, rfl, rfl⟩)]
  rw [chk_wrong (d := ⟨[⟨⟨1, 1, tX⟩, 0⟩], [], [], true, exM, 2⟩) (by kernel_rfl) exM_get rfl (wrong_not (by decide) (fun h => by
    have h1 := h.1
    have h2 : (1 : Nat) = 0 := congrArg (fun l : List GotR => (l.getD 0 dG).ver.n) h1
    cases h2))]
theorem check_DB : checkT [sD, sB] = ⟨false, 1, 1⟩ := by
  rw [check_cons (by kernel_rfl), ord_BA sD sB (by decide) (by decide)]
  rw [chk_late (by kernel_rfl)]
theorem some_AB : someS [sA, sB] [(1, 1)] (ordS [sA, sB]) = [sA] := by
  rw [ord_AB sA sB (by decide) (by decide)]
  rfl
theorem all_AB : allS [sA, sB] [(1, 1)] (ordS [sA, sB]) = true := by
  rw [ord_AB sA sB (by decide) (by decide)]
  rfl
theorem ord_one (s : Sto) (h1 : 0 < s.com) : ordS [s] = [0] := by
  symm
  refine ordL_uniq ?_ (by simp)
  have : (List.range [s].length).filter (fun i => decide (0 < comF [s] i)) = [0] := by
    have e0 : comF [s] 0 = s.com := rfl
    have hr : List.range [s].length = [0] := rfl
    rw [hr]
    simp [e0, h1]
  rw [this]
theorem rows_A : rowsS [sA] = rowsL exM := by
  unfold rowsS
  rw [ord_one sA (by decide)]
  show rowsL (doesT (.map []) 0 QQ QQ (putL tA tX)).M = _
  rw [exM_put]
theorem good_exM : Good Tryz.prog 9 exM := by
  have h := (does_good (q1 := QQ) (q2 := QQ) (c := putL tA tX) (good_none Tryz.prog 9)).1
  rw [rowsL_nil] at h
  have e : doesT (.map []) ((bytesR [] : Nat) : Int) QQ QQ (putL tA tX) = ⟨[], [1], [], true, exM, 2⟩ := exM_put
  rw [e] at h
  exact h
theorem rows_one {M : DataW Cel} {p : ByteArray} {c : Cel} (hg : Good Tryz.prog 9 M) (hM : M = .map [(kS p, .held c)]) : rowsL M = [(p, c)] := by
  have hl : (rowsL M).length = 1 := by rw [rows_length hg.canon, hM]; rfl
  obtain ⟨x, hx⟩ := List.length_eq_one_iff.1 hl
  have hm := (rows_mem hg.canon x).1 (by rw [hx]; exact List.mem_cons_self)
  have hp : x.1 = p := by
    have h1 := hm.1
    rw [hM, Maps.has_eq] at h1
    simp only [List.any_cons, List.any_nil, Bool.or_false, sameKey_kS, decide_eq_true_eq] at h1
    exact h1.symm
  have hc : cellAt M p = c := by
    rw [hM]
    refine cellAt_of ?_
    have hk : Lit.sameKey (kS p) (kS p) = true := by rw [sameKey_kS]; simp
    simp [DataW.atKey, hk]
  rw [hx]
  congr 1
  exact Prod.ext hp (by rw [← hm.2, hp, hc])
theorem rows_exM : rowsL exM = [(tA, ⟨1, [⟨1, 1, tX⟩]⟩)] := rows_one good_exM rfl
end Go.Proofs.YtfbgnpfhjbiikaaGreatDoor

namespace Go.Proofs.YtfbgnpfhjbiikaaGreatDoor
open Go Go.RowKit
open Pth
open Go.Maps (has size Canon CanonK Tidy IsMap KeysOf Keyed Merged)
abbrev nilV : Value := .slice none 0 0
theorem IsNums.new1 (w : World) (n : Nat) (e : TypeId) : IsNums (w.alloc (.cells #[.int .u64 n] e)) (.slice (some ⟨w.heap.size, 0, none⟩) 1 1) [n] := by
  refine ⟨_, 1, rfl, Or.inr ⟨w.heap.size, 0, rfl, by simp, fun i hi => ?_⟩⟩
  obtain rfl : i = 0 := by simpa using hi
  simp
theorem IsGots.new1 (w : World) (g : GotR) (e : TypeId) : IsGots (w.alloc (.cells #[.int .u64 g.ver.n, .int .u8 g.ver.st, .string g.ver.tx, .int .i64 g.err] e)) (.slice (some ⟨w.heap.size, 0, none⟩) 1 1) [g] := by
  refine ⟨_, 1, rfl, Or.inr ⟨w.heap.size, 0, rfl, by simp, fun i hi => ?_⟩⟩
  obtain rfl : i = 0 := by simpa using hi
  have h := One.of w #[.int .u64 g.ver.n, .int .u8 g.ver.st, .string g.ver.tx, .int .i64 g.err] e
  exact ⟨h.c 0, h.c 1, h.c 2, h.c 3⟩
theorem IsEdts.one {w : World} {g : Nat} {x : Edt} (h : One g #[.int .u8 x.kind, .string x.path, .bool x.any, .int .u64 x.want, .int .u64 x.n, .string x.text] w) (cap : Nat) : IsEdts w (.slice (some ⟨g, 0, none⟩) 1 cap) [x] := by
  refine ⟨_, cap, rfl, Or.inr ⟨g, 0, rfl, h.lt, fun i hi => ?_⟩⟩
  obtain rfl : i = 0 := by simpa using hi
  exact ⟨h.c 0, h.c 1, h.c 2, h.c 3, h.c 4, h.c 5⟩
theorem wpl_store_stN {ops : Array Oper} {rest : List Oper} {op : Oper} {a : Act} {w : World} {Q : Exit → Act → World → Prop} (hgd : op.guard = none) (x y : Operand) (ho : op.op = .store 87 x y) (n : Nat) (hn : w.heap.size = n) {c : Array Value} (hx : a.eval x = .pointer (some ⟨n, 0, none⟩)) {f : Five} {s : Sto} (hy : a.eval y = .agg (stoCells f s).toArray)
    (hoo : c.size = 18) (h1 : ∀ v ∈ stoCells f s, v.oneCell' = true)
    (h : wpList Tryz.prog ops Q rest (a.put op.dst undef) (w.alloc (.cells (stoCells f s).toArray 87))) : wpList Tryz.prog ops Q (op :: rest) a (w.alloc (.cells c 87)) := by
  subst hn; exact wpl_store_sto hgd x y ho hx hy hoo h1 h
theorem sto_one5 {f : Five} {s : Sto} (h1 : f.r.oneCell' = true) (h2 : f.e.oneCell' = true) (h3 : f.g.oneCell' = true) (h4 : f.n.oneCell' = true) (h5 : f.m.oneCell' = true) : ∀ v ∈ stoCells f s, v.oneCell' = true := by
  intro v hv
  simp only [stoCells, List.mem_cons, List.not_mem_nil, or_false] at hv
  rcases hv with rfl | rfl | rfl | rfl | rfl | rfl | rfl | rfl | rfl | rfl | rfl | rfl | rfl | rfl | rfl | rfl | rfl | rfl <;> first | rfl | assumption
set_option maxRecDepth 100000 in
theorem wpl_build_s {ops : Array Oper} {rest : List Oper} {o : Oper} {a : Act} {w : World} {Q : Exit → Act → World → Prop} (hg : o.guard = none) (parts : Array (Nat × Operand)) (ho : o.op = .build 87 parts) (f : Five) (s : Sto)
    (hb : Tryz.prog.built 87 (parts.map fun (i, x) => (i, a.eval x)).toList = some (stoCells f s).toArray)
    (h : wpList Tryz.prog ops Q rest (a.put o.dst (.agg (stoCells f s).toArray)) w) : wpList Tryz.prog ops Q (o :: rest) a w := by
  refine wpList_plain hg fun K hK => ?_
  unfold Oper.wp execOp
  simp only [ho, Sem.run_bind]
  have := run_build (P := Tryz.prog) w 87 (parts.map fun (i, x) => (i, a.eval x)) _ hb
  simp only [this]
  exact hK _ _ h

structure BoxS (n : Nat) (f : Five) (s : Sto) (W : World) : Prop where
  o : One n (stoCells f s).toArray W
  i : StoIs W f s
theorem BoxS.step {n : Nat} {f : Five} {s : Sto} {W W' : World} (h : BoxS n f s W) (hb : Below W.heap.size W W') : BoxS n f s W' := ⟨h.o.step hb, h.i.below hb (Nat.le_refl _)⟩
theorem BoxS.at {n : Nat} {f : Five} {s : Sto} {W : World} (h : BoxS n f s W) : StoAt W n 0 f s := by
  intro j u hj
  rw [Nat.zero_add, h.o.c j]; simpa using hj
theorem BoxS.new {w : World} {f : Five} {s : Sto} (h : StoIs w f s) : BoxS w.heap.size f s (w.alloc (.cells (stoCells f s).toArray 87)) :=
  ⟨One.of _ _ _, h.below ((Below.refl _ _).alloc (Nat.le_refl _) _) (Nat.le_refl _)⟩
theorem IsStos.rowN (w : World) (L : List (Five × Sto)) (ty : TypeId) (h : ∀ x ∈ L, StoIs w x.1 x.2) : IsStos (w.alloc (.cells (stoFlat L).toArray ty)) (.slice (some ⟨w.heap.size, 0, none⟩) L.length L.length) (L.map (·.2)) := by
  have hO := One.of w (stoFlat L).toArray ty
  have hb : Below w.heap.size w (w.alloc (.cells (stoFlat L).toArray ty)) := (Below.refl _ _).alloc (Nat.le_refl _) _
  refine ⟨_, L.length, by rw [List.length_map], by rw [List.length_map]; exact Nat.le_refl _, Or.inr ⟨_, 0, rfl, hO.lt, fun i hi => ?_⟩⟩
  rw [List.length_map] at hi
  have hm : L.getD i dFS ∈ L := by rw [List.getD_eq_getElem?_getD, List.getElem?_eq_getElem hi]; exact List.getElem_mem hi
  have he : (L.map (·.2)).getD i dS = (L.getD i dFS).2 := by
    rw [List.getD_eq_getElem?_getD, List.getD_eq_getElem?_getD, List.getElem?_map, List.getElem?_eq_getElem hi]; rfl
  rw [he]
  refine ⟨(L.getD i dFS).1, (h _ hm).below hb (Nat.le_refl _), fun j u hj => ?_⟩
  have hj2 : j < 18 := (List.getElem?_eq_some_iff.1 hj).1
  rw [Nat.zero_add, hO.c, List.getElem?_toArray, stoFlat_at L i hi j hj2, hj]
theorem built2 (f g : Five) (s t : Sto) : Tryz.prog.builtSlice 87 2 [(0, .agg (stoCells f s).toArray), (1, .agg (stoCells g t).toArray)] = some (stoFlat [(f, s), (g, t)]).toArray := by kernel_rfl
theorem wpl_build_sto2 {ops : Array Oper} {rest : List Oper} {o : Oper} {a : Act} {w : World} {Q : Exit → Act → World → Prop} (hg : o.guard = none) (x y : Operand) (ho : o.op = .buildSlice 68 2 #[(0, x), (1, y)]) {f g : Five} {s t : Sto} (hx : a.eval x = .agg (stoCells f s).toArray) (hy : a.eval y = .agg (stoCells g t).toArray)
    (h : wpList Tryz.prog ops Q rest (a.put o.dst (.slice (some ⟨w.heap.size, 0, none⟩) 2 2)) (w.alloc (.cells (stoFlat [(f, s), (g, t)]).toArray 87))) : wpList Tryz.prog ops Q (o :: rest) a w :=
  Great.wpList_buildSliceTo hg 68 87 2 #[(0, x), (1, y)] ho w.heap.size rfl o.dst rfl Tryz.underlying68 (stoFlat [(f, s), (g, t)]).toArray (by
    simp only [List.map_toArray, List.map_cons, List.map_nil, hx, hy]; exact built2 f g s t) h
theorem sz_put {s : Sto} {p t : ByteArray} (h : s.call = putL p t) (hp : p.size ≤ 140737488351232) (ht : t.size ≤ 9223372036854775807) (hg : s.got.length ≤ 1048576) (hn : s.nums.length ≤ 1048576) (hm : s.names.length ≤ 1048576) : StoSz s := by
  refine ⟨?_, ?_, by omega, by omega, by omega⟩
  · rw [h]
    refine ⟨by simp [putL], by simp [putL], fun i hi => ?_, by simp [putL], fun i hi => ?_, by simp [putL]⟩
    · exact absurd hi (Nat.not_lt_zero _)
    · obtain rfl : i = 0 := by simpa [putL] using hi
      exact ⟨hp, ht⟩
  · rw [h]; simp [putL]
theorem sz_get {s : Sto} {p : ByteArray} (h : s.call = getL p) (hp : p.size ≤ 140737488351232) (hg : s.got.length ≤ 1048576) (hn : s.nums.length ≤ 1048576) (hm : s.names.length ≤ 1048576) : StoSz s := by
  refine ⟨?_, ?_, by omega, by omega, by omega⟩
  · rw [h]
    refine ⟨by simp [getL], by simp [getL], fun i hi => ?_, by simp [getL], fun i hi => ?_, by simp [getL]⟩
    · obtain rfl : i = 0 := by simpa [getL] using hi
      exact hp
    · exact absurd hi (Nat.not_lt_zero _)
  · rw [h]; simp [getL]
theorem StosSz.two {s t : Sto} (h : StoSz s) (k : StoSz t) : StosSz [s, t] := fun i hi => by
  have : i = 0 ∨ i = 1 := by have : i < 2 := hi; omega
  rcases this with rfl | rfl
  · exact h
  · exact k
theorem check_two (s t : Sto) (v : Value) (w : World) (hv : IsStos w v [s, t]) (h1 : StoSz s) (h2 : StoSz t) (hm : MX w) : Calls Tryz.prog 32 #[v] w (CheckG [s, t] w) :=
  model_check [s, t] v w hv (by simp) (Nat.le_trans (idxO_le _ _) (by simp)) (StosSz.two h1 h2) hm
theorem IsGots.one {w : World} {b : Nat} {g : GotR} (h : One b #[.int .u64 g.ver.n, .int .u8 g.ver.st, .string g.ver.tx, .int .i64 g.err] w) : IsGots w (.slice (some ⟨b, 0, none⟩) 1 1) [g] := by
  refine ⟨_, 1, rfl, Or.inr ⟨b, 0, rfl, h.lt, fun i hi => ?_⟩⟩
  obtain rfl : i = 0 := by simpa using hi
  exact ⟨h.c 0, h.c 1, h.c 2, h.c 3⟩
theorem IsNums.none (w : World) : IsNums w (.slice none 0 0) [] := ⟨Option.none, 0, rfl, Or.inl rfl⟩
end Go.Proofs.YtfbgnpfhjbiikaaGreatDoor

namespace Go.Proofs.YtfbgnpfhjbiikaaGreatDoor
open Go Go.RowKit
open Pth
def AllK (K : Nat → Value → Prop) (sz : Nat) (w : World) (o : Option Nat) : Prop := ∀ g, o = some g → ∀ j u, w.cell? ⟨g, j, none⟩ = some u → K (j % sz) u
theorem AllK.nil {K : Nat → Value → Prop} {sz : Nat} {w : World} : AllK K sz w Option.none := fun g h => by cases h
theorem AllK.but {K : Nat → Value → Prop} {sz : Nat} {S : Nat → Prop} {w w' : World} {o : Option Nat} (h : AllK K sz w o) (hb : ButS S w w') (hS : ∀ g, o = some g → ¬ S g ∧ g < w.heap.size) : AllK K sz w' o := by
  intro g hg j u hu
  obtain ⟨h1, h2⟩ := hS g hg
  exact h g hg j u ((hb.cell (p := ⟨g, j, none⟩) h2 h1).symm.trans hu)
theorem zeroCells_at {z : Array Value} {n j : Nat} {u : Value} (h : (Builtin.zeroCells z n)[j]? = some u) : u = z[j % z.size]! := by
  unfold Builtin.zeroCells at h
  rw [Array.getElem?_map] at h
  cases hj : (Array.range (n * z.size))[j]? with
  | none => rw [hj] at h; cases h
  | some k =>
    rw [hj] at h
    have : k = j := by
      have := Array.getElem?_eq_some_iff.1 hj
      obtain ⟨h1, h2⟩ := this
      simpa using h2.symm
    subst this
    simpa using h.symm
section
variable {P : Program} {w : World}
theorem append_allK {K : Nat → Value → Prop} {sz bytes : Nat} (hsz : 0 < sz) {t ty e : TypeId} {i : TypeInfo} {z : Value} (ht : P.underlying t = some (.slice e)) (hi : P.info? e = some i) (hz : i.zero = some z) (hsize : i.size = sz) (hby : i.bytes = bytes) (hb48 : bytes ≤ 140737488355328) (hzs : z.cells.size = sz) (hzk : ∀ j, j < sz → K j z.cells[j]!)
    {base n : Nat} {v : Value} {xs : List Value} (hown : w.ownsRow base e sz v n xs) (hall : AllK K sz w v.ownBlock) {a : Addr} {c : Nat} {x : List Value} (hxl : x.length = 1 * sz) (hnews : ∀ j u, x[j]? = some u → w.cell? (a.add j) = some u) (h1 : ∀ u ∈ x, u.oneCell' = true) (hxk : ∀ j u, x[j]? = some u → K j u)
    (hn : (n + 1) * bytes ≤ 140737488355328) (hn63 : n + 1 ≤ maxLen)
    {v' : Value} {w' : World} (hrun : (Builtin.append_ #[t, t] ty #[v, .slice (some a) 1 c]).run P w = .ok v' w') : AllK K sz w' v'.ownBlock := by
  have hn63' : ((n + 1 : Nat) : Int) ≤ 9223372036854775807 := by unfold maxLen at hn63; omega
  have hmem : ∀ {L : List Value} {m k : Nat} {t' : TypeId} {W : World} {g : Nat}, L.length = m * sz → (∀ j u, L[j]? = some u → K (j % sz) u) → W.heap[g]? = some (.cells (L.toArray ++ Builtin.zeroCells z.cells k) t' (0, 0)) → AllK K sz W (some g) := by
    intro L m k t' W g hL hK hh g' hg' j u hu
    cases hg'
    unfold World.cell? at hu
    rw [hh] at hu
    have hu2 : (L.toArray ++ Builtin.zeroCells z.cells k)[j]? = some u := hu
    by_cases hj : j < L.length
    · rw [Array.getElem?_append_left (by simpa using hj)] at hu2
      exact hK j u (by simpa using hu2)
    · rw [Array.getElem?_append_right (by simpa using hj)] at hu2
      have := zeroCells_at hu2
      rw [hzs] at this
      have he : (j - L.toArray.size) % sz = j % sz := by
        have : j = (j - L.toArray.size) + m * sz := by rw [List.size_toArray]; omega
        conv => rhs; rw [this]
        rw [Nat.add_mul_mod_self_right]
      rw [he] at this
      rw [this]
      exact hzk _ (Nat.mod_lt _ hsz)
  rcases hown.2 with ⟨rfl, rfl⟩ | ⟨g, cap, cur, rfl, hbg, hg, hnc, hcm, hcs, htake⟩
  · have hr := run_append_nil (P := P) w t ty e i _ ht hi hz a 1 c x (by rw [hsize]; exact hxl) hnews (by decide) (by decide) (by rw [hby]; omega)
    rw [hrun] at hr
    injection hr with h1 h2
    subst h1; subst h2
    exact hmem (L := x) (m := 1) hxl (fun j u hj => by
      have hjl := (List.getElem?_eq_some_iff.1 hj).1
      rw [Nat.mod_eq_of_lt (by omega)]; exact hxk j u hj) (by rw [← show w.drew.heap.size = w.heap.size from rfl]; exact (MapKept.heap_alloc w.drew _).1)
  · have hcur : ∀ j u, cur.toList[j]? = some u → K (j % sz) u := by
      intro j u hj
      refine hall g rfl j u ?_
      unfold World.cell?
      rw [hg]
      simpa using hj
    have hlen : cur.toList.length = cap * sz := by rw [Array.length_toList]; exact hcs
    by_cases hroom : n + 1 ≤ cap
    · have hle : (n + 1) * sz ≤ cap * sz := Nat.mul_le_mul_right _ hroom
      rw [Nat.succ_mul] at hle
      have hr := run_append_room (P := P) w t ty e i ht hi g n cap cur hg a 1 c x (by rw [hsize]; exact hxl) hnews h1 hroom (by rw [hsize, hcs]; omega)
      rw [hrun] at hr
      injection hr with h1 h2
      subst h1; subst h2
      intro g' hg' j u hu
      cases hg'
      unfold World.cell? at hu
      rw [setRow_heap w g cur _ e _ hg] at hu
      have hu2 : (cur.toList.take (n * i.size) ++ x ++ cur.toList.drop (n * i.size + x.length))[j]? = some u := by simpa using hu
      rw [hsize] at hu2
      have hl1 : (cur.toList.take (n * sz)).length = n * sz := by rw [List.length_take]; omega
      by_cases hj1 : j < n * sz
      · rw [List.append_assoc, List.getElem?_append_left (by rw [hl1]; exact hj1), List.getElem?_take_of_lt hj1] at hu2
        exact hcur j u hu2
      · by_cases hj2 : j < n * sz + sz
        · rw [List.getElem?_append_left (by rw [List.length_append, hl1]; omega), List.getElem?_append_right (by rw [hl1]; omega), hl1] at hu2
          have he : j % sz = j - n * sz := by
            have : j = (j - n * sz) + n * sz := by omega
            conv => lhs; rw [this]
            rw [Nat.add_mul_mod_self_right, Nat.mod_eq_of_lt (by omega)]
          rw [he]; exact hxk _ u hu2
        · rw [List.getElem?_append_right (by rw [List.length_append, hl1]; omega), List.length_append, hl1, List.getElem?_drop] at hu2
          rw [show n * sz + x.length + (j - (n * sz + x.length)) = j by omega] at hu2
          exact hcur j u hu2
    · have holds : ∀ j u, xs[j]? = some u → w.cell? ((⟨g, 0, none⟩ : Addr).add j) = some u := hown.cells (g := g) rfl
      have hr := run_append_grow (P := P) w t ty e i _ ht hi hz ⟨g, 0, none⟩ n cap xs (by rw [hsize]; exact hown.1) holds a 1 c x (by rw [hsize]; exact hxl) hnews (by omega) hn63' (growslice_fits (by omega) (by rw [hby]; exact hn))
      rw [hrun] at hr
      injection hr with h1 h2
      subst h1; subst h2
      have hxs := hown.1
      refine hmem (L := xs ++ x) (m := n + 1) (by rw [List.length_append, Nat.succ_mul]; omega) (fun j u hj => ?_) (k := (grownCap w (n + 1) cap e - (n + 1))) (t' := e) ?_
      · by_cases hjx : j < xs.length
        · rw [List.getElem?_append_left hjx, ← htake] at hj
          rw [List.getElem?_take_of_lt (by omega)] at hj
          exact hcur j u hj
        · rw [List.getElem?_append_right (by omega)] at hj
          have hjl := (List.getElem?_eq_some_iff.1 hj).1
          have he : j % sz = j - xs.length := by
            have : j = (j - xs.length) + n * sz := by omega
            conv => lhs; rw [this]
            rw [Nat.add_mul_mod_self_right, Nat.mod_eq_of_lt (by omega)]
          rw [he]; exact hxk _ u hj
      · have := (MapKept.heap_alloc w.drew (.cells (xs.toArray ++ x.toArray ++ Builtin.zeroCells z.cells (grownCap w (n + 1) cap e - (n + 1))) e)).1
        simpa using this
end
theorem wpList_append_k {P : Program} (w : World) {ops : Array Oper} {rest : List Oper} {o : Oper} {a : Act} {Q : Exit → Act → World → Prop} (hgd : o.guard = none) (s x : Operand) (t : TypeId)
    (ho : o.op = .call { callee := .builtin .append, args := #[s, x], argTypes := #[t, t] })
    (base : Nat) (e : TypeId) (i : TypeInfo) (z : Value) (sz bytes : Nat) (ht : P.underlying t = some (.slice e)) (hi : P.info? e = some i) (hz : i.zero = some z)
    (hsize : i.size = sz) (hby : i.bytes = bytes) (hzs : z.cells.size = sz) (hsz : 0 < sz) (hb48 : bytes ≤ 140737488355328) (K : Nat → Value → Prop) (hzk : ∀ j, j < sz → K j z.cells[j]!)
    (v : Value) (n : Nat) (xs : List Value) (hs : a.eval s = v) (hown : w.ownsRow base e sz v n xs) (hall : AllK K sz w v.ownBlock)
    (ad : Addr) (c : Nat) (news : List Value) (hx : a.eval x = .slice (some ad) 1 c) (hl : news.length = 1 * sz) (hnews : ∀ j u, news[j]? = some u → w.cell? (ad.add j) = some u) (h1 : ∀ u ∈ news, u.oneCell' = true) (hxk : ∀ j u, news[j]? = some u → K j u)
    (h63 : n + 1 ≤ maxLen) (hbytes : (n + 1) * bytes ≤ 140737488355328) (hbase : base ≤ w.heap.size)
    (h : ∀ g cap w', w'.ownsRow base e sz (.slice (some ⟨g, 0, none⟩) (n + 1) cap) (n + 1) (xs ++ news) → w.grownBy w' v.ownBlock → (v.ownBlock = some g ∨ g = w.heap.size) → g < w'.heap.size → AllK K sz w' (some g) → wpList P ops Q rest (a.put o.dst (.slice (some ⟨g, 0, none⟩) (n + 1) cap)) w') : wpList P ops Q (o :: rest) a w := by
  refine wpList_plain hgd fun K' hK => ?_
  obtain ⟨g, cap, w', hr, h2, h3, h4, h5⟩ := run_append_lies (P := P) w t o.type base e i z sz bytes ht hi hz hsize hby hzs hsz v n xs hown ad 1 c news hl hnews h1 (by decide) h63 hbytes hbase w.heap.size rfl
  have hU := append_allK hsz ht hi hz hsize hby hb48 hzs hzk hown hall hl hnews h1 hxk hbytes h63 hr
  unfold Oper.wp execOp
  simp only [ho, resolve, invoke, builtin, Sem.run_bind, Sem.run_pure, Result.andThen_ok, List.map_toArray, List.map_cons, List.map_nil, hs, hx, hr]
  exact hK _ _ (h g cap w' h2 h3 h4 h5 hU)

def kindS (j : Nat) (u : Value) : Prop :=
  if j = 4 then ∃ s, u = .string s else if j = 5 ∨ j = 6 ∨ j = 11 ∨ j = 12 then ∃ n, u = .int .u64 n else if j = 1 then ∃ n, u = .int .u8 n else (∀ s, u ≠ .string s) ∧ (∀ n, u ≠ .int .u64 n) ∧ ∀ n, u ≠ .int .u8 n
theorem kindS_zero : ∀ j, j < 18 → kindS j (Value.agg #[.int .i64 0, .int .u8 0, .slice none 0 0, .slice none 0 0, .string ByteArray.empty, .int .u64 0, .int .u64 0, .int .u32 0, .int .i64 0, .int .i64 0, .bool false, .int .u64 0, .int .u64 0, .int .i64 0, .int .i64 0, .slice none 0 0, .slice none 0 0, .slice none 0 0]).cells[j]! := by
  intro j hj
  have : j = 0 ∨ j = 1 ∨ j = 2 ∨ j = 3 ∨ j = 4 ∨ j = 5 ∨ j = 6 ∨ j = 7 ∨ j = 8 ∨ j = 9 ∨ j = 10 ∨ j = 11 ∨ j = 12 ∨ j = 13 ∨ j = 14 ∨ j = 15 ∨ j = 16 ∨ j = 17 := by omega
  rcases this with rfl | rfl | rfl | rfl | rfl | rfl | rfl | rfl | rfl | rfl | rfl | rfl | rfl | rfl | rfl | rfl | rfl | rfl <;> simp [kindS, Value.cells]
theorem kindS_sto {w : World} {f : Five} {s : Sto} (h : StoIs w f s) : ∀ j u, (stoCells f s)[j]? = some u → kindS j u := by
  obtain ⟨⟨⟨a1, c1, e1, _⟩, ⟨a2, c2, e2, _⟩⟩, ⟨a3, c3, e3, _⟩, ⟨a4, c4, e4, _⟩, ⟨a5, c5, e5, _⟩⟩ := h
  intro j u hj
  have hjl := (List.getElem?_eq_some_iff.1 hj).1
  have hj18 : j < 18 := hjl
  have : j = 0 ∨ j = 1 ∨ j = 2 ∨ j = 3 ∨ j = 4 ∨ j = 5 ∨ j = 6 ∨ j = 7 ∨ j = 8 ∨ j = 9 ∨ j = 10 ∨ j = 11 ∨ j = 12 ∨ j = 13 ∨ j = 14 ∨ j = 15 ∨ j = 16 ∨ j = 17 := by omega
  rcases this with rfl | rfl | rfl | rfl | rfl | rfl | rfl | rfl | rfl | rfl | rfl | rfl | rfl | rfl | rfl | rfl | rfl | rfl <;> simp [stoCells, e1, e2, e3, e4, e5] at hj <;> subst hj <;> simp [kindS]
theorem storiesBare {w : World} {g : Nat} (h : AllK kindS 18 w (some g)) : (∀ o s n v, w.cell? ⟨g, o, none⟩ = some (.string s) → w.cell? ⟨g, o + 1, none⟩ = some (.int .u64 n) → w.cell? ⟨g, o + 2, none⟩ = some v → ∃ m, v = .int .u64 m) ∧ NoVers w g := by
  constructor
  · intro o s n v h1 h2 h3
    have k1 := h g rfl o _ h1
    have k3 := h g rfl (o + 2) _ h3
    unfold kindS at k1 k3
    have e : o % 18 = 4 := by
      by_cases e : o % 18 = 4
      · exact e
      · rw [if_neg e] at k1
        split at k1
        · obtain ⟨m, hm⟩ := k1; cases hm
        · split at k1
          · obtain ⟨m, hm⟩ := k1; cases hm
          · exact absurd rfl (k1.1 s)
    have e3 : (o + 2) % 18 = 6 := by omega
    rw [e3, if_neg (by decide), if_pos (by decide)] at k3
    exact k3
  · intro o n s h1 h2
    have k1 := h g rfl o _ h1
    have k2 := h g rfl (o + 1) _ h2
    unfold kindS at k1 k2
    have e : o % 18 = 5 ∨ o % 18 = 6 ∨ o % 18 = 11 ∨ o % 18 = 12 := by
      by_cases e4 : o % 18 = 4
      · rw [if_pos e4] at k1; obtain ⟨m, hm⟩ := k1; cases hm
      · rw [if_neg e4] at k1
        by_cases e : o % 18 = 5 ∨ o % 18 = 6 ∨ o % 18 = 11 ∨ o % 18 = 12
        · exact e
        · rw [if_neg e] at k1
          split at k1
          · obtain ⟨m, hm⟩ := k1; cases hm
          · exact absurd rfl (k1.2.1 n)
    have e1 : (o + 1) % 18 ≠ 1 := by omega
    have e4 : (o + 1) % 18 ≠ 4 := by omega
    rw [if_neg e4] at k2
    split at k2
    · obtain ⟨m, hm⟩ := k2; cases hm
    · exact absurd rfl (k2.2.2 s)
theorem IsRows.but3 {S : Nat → Prop} {w w' : World} {v : Value} {l : List (ByteArray × Cel)} (h : IsRows w v l) (hb : ButS S w w') (hS : ∀ k, S k → Bare w k ∨ AllK kindS 18 w (some k)) : IsRows w' v l := by
  obtain ⟨a, cap, hv, h⟩ := h
  refine ⟨a, cap, hv, ?_⟩
  rcases h with h | ⟨b2, off, ha, hlt, hc⟩
  · exact Or.inl h
  · by_cases hl : l = []
    · exact Or.inl hl
    have hn : ¬ S b2 := by
      intro hs
      obtain ⟨h1, h2, s, h3, hv⟩ := hc 0 (List.length_pos_iff.2 hl)
      rcases hS b2 hs with hb | hk
      · exact (hb _ _ h1).2 _ rfl
      · obtain ⟨m, hm⟩ := (storiesBare hk).1 _ _ _ _ h1 h2 h3
        obtain ⟨a', c', e, _⟩ := hv
        rw [e] at hm; cases hm
    refine Or.inr ⟨b2, off, ha, by have := hb.size; omega, fun i hi => ?_⟩
    obtain ⟨h1, h2, s, h3, hs⟩ := hc i hi
    exact ⟨(hb.cell hlt hn).trans h1, (hb.cell hlt hn).trans h2, s, (hb.cell hlt hn).trans h3, hs.but hb (fun k hk => by
      rcases hS k hk with hb | hk
      · exact hb.noVers
      · exact (storiesBare hk).2)⟩
theorem RefAt.but3 {S : Nat → Prop} {w w' : World} {t : Nat} {q1 q2 : Int} {R : List Rw} (h : RefAt w t q1 q2 R) (hb : ButS S w w') (hS : ∀ k, S k → Bare w k ∨ AllK kindS 18 w (some k)) (ht : ¬ S t) : RefAt w' t q1 q2 R := by
  have hl := h.lt
  obtain ⟨a, c, h2, hr, hcp⟩ := h.c2
  exact ⟨(hb.cell hl ht).trans h.c0, (hb.cell hl ht).trans h.c1, ⟨a, c, (hb.cell hl ht).trans h2, hr.but3 hb hS, hcp⟩, fun j => (hb.cell hl ht).trans (h.cn j), (hb.frozen hl ht).trans h.f2⟩
theorem ownBut2 {S : Nat → Prop} {w w' : World} {B e n k : Nat} {v : Value} {xs : List Value} (h : w.ownsRow B e k v n xs) (hb : ButS S w w') (hS : ∀ k, v.ownBlock = some k → ¬ S k) : w'.ownsRow B e k v n xs := by
  refine ⟨h.1, ?_⟩
  rcases h.2 with hn | ⟨g, cap, cur, hv, hBg, hg, rest⟩
  · exact Or.inl hn
  · exact Or.inr ⟨g, cap, cur, hv, hBg, (hb.block g (lt_of_block hg) (hS g (by rw [hv]; rfl))).trans hg, rest⟩
theorem ownLt {w : World} {B e n k : Nat} {v : Value} {xs : List Value} (h : w.ownsRow B e k v n xs) : ∀ g, v.ownBlock = some g → g < w.heap.size := by
  intro g0 hg0
  rcases h.2 with ⟨hv, _⟩ | ⟨g, cap, cur, hv, _, hg, _⟩
  · rw [hv] at hg0; cases hg0
  · rw [hv] at hg0; cases hg0; exact lt_of_block hg
theorem ButS.thenG {S : Nat → Prop} {w1 w2 w3 : World} {o : Option Nat} (h : ButS S w1 w2) (g : w2.grownBy w3 o) (ho : ∀ k, o = some k → S k ∨ w1.heap.size ≤ k) : ButS S w1 w3 :=
  ⟨g.os.trans h.os, g.tape.trans h.tape, g.output.trans h.output, Nat.le_trans h.size g.size, fun i hi hS => (g.block i (Nat.lt_of_lt_of_le hi h.size) (fun e => by
    rcases ho i e.symm with h1 | h1
    · exact hS h1
    · omega)).trans (h.block i hi hS)⟩
end Go.Proofs.YtfbgnpfhjbiikaaGreatDoor

namespace Go.Proofs.YtfbgnpfhjbiikaaGreatDoor
open Go Go.RowKit
open Pth
open Go.Maps (has size Canon CanonK Tidy IsMap KeysOf Keyed Merged)
def IsCals (w : World) (v : Value) (l : List Cal) : Prop :=
  ∃ a cap, v = .slice a l.length cap ∧ (l = [] ∨ ∃ b off, a = some ⟨b, off, none⟩ ∧ b < w.heap.size ∧ ∀ i, i < l.length → ∃ vR vE, CalIs w vR vE (l.getD i dCal) ∧ w.rangeAt b (off + i * 7) (calCells vR vE (l.getD i dCal)))
def IsBools (w : World) (v : Value) (l : List Bool) : Prop :=
  ∃ a cap, v = .slice a l.length cap ∧ (l = [] ∨ ∃ b off, a = some ⟨b, off, none⟩ ∧ b < w.heap.size ∧ ∀ i, i < l.length → w.cell? ⟨b, off + i, none⟩ = some (.bool (l.getD i false)))
theorem rangeAt_below {w w' : World} {b o B : Nat} {xs : List Value} (h : w.rangeAt b o xs) (hb : Below B w w') (hB : b < B) : w'.rangeAt b o xs := fun j u hj => (hb.cell (p := ⟨b, o + j, none⟩) hB).trans (h j u hj)

structure TolIs (w0 w : World) (s5 : Value) (t : Nat) (x : Five × Sto) : Prop where
  c : CalIs w0 x.1.r x.1.e x.2.call
  g : IsGots w x.1.g x.2.got
  n : IsNums w x.1.n x.2.nums
  m : IsStrs w x.1.m x.2.names
  fg : x.2.got ≠ [] → ∀ k, x.1.g.ownBlock = some k → ¬ (k = t ∨ s5.ownBlock = some k)
  fn : x.2.nums ≠ [] → ∀ k, x.1.n.ownBlock = some k → ¬ (k = t ∨ s5.ownBlock = some k)
  fm : x.2.names ≠ [] → ∀ k, x.1.m.ownBlock = some k → ¬ (k = t ∨ s5.ownBlock = some k)
theorem TolIs.but {w0 w w' : World} {s5 s5' : Value} {t t' : Nat} {x : Five × Sto} (h : TolIs w0 w s5 t x) (hb : ButS (fun k => k = t ∨ s5.ownBlock = some k) w w')
    (h5 : ∀ k, s5'.ownBlock = some k → s5.ownBlock = some k ∨ w.heap.size ≤ k) (ht : t' = t ∨ w.heap.size ≤ t') : TolIs w0 w' s5' t' x := by
  have far : ∀ k, k < w.heap.size → ¬ (k = t ∨ s5.ownBlock = some k) → ¬ (k = t' ∨ s5'.ownBlock = some k) := by
    rintro k hk hn (e | e)
    · rcases ht with h | h
      · exact hn (Or.inl (e.trans h))
      · omega
    · rcases h5 k e with h | h
      · exact hn (Or.inr h)
      · omega
  exact ⟨h.c, h.g.but hb h.fg, h.n.but3 hb h.fn, h.m.but3 hb h.fm, fun hl k hk => far k (h.g.lt hl k hk) (h.fg hl k hk), fun hl k hk => far k (h.n.lt hl k hk) (h.fn hl k hk), fun hl k hk => far k (h.m.lt hl k hk) (h.fm hl k hk)⟩
theorem TolIs.sto {w0 w : World} {s5 : Value} {t : Nat} {x : Five × Sto} (h : TolIs w0 w s5 t x) (hb : Below w0.heap.size w0 w) : StoIs w x.1 x.2 := ⟨h.c.below hb (Nat.le_refl _), h.g, h.n, h.m⟩
def tolB (k : Nat) (c : Cal) : Sto := ⟨0, c, 2 * k + 1, 0, false, 1, k + 1, 0, 0, [], [], []⟩
theorem edN_mono (cs : List Cal) {a b : Nat} (h : a ≤ b) : edN cs a ≤ edN cs b := by
  induction b with
  | zero => obtain rfl : a = 0 := by omega
            exact Nat.le_refl _
  | succ b ih =>
    by_cases e : a = b + 1
    · rw [e]; exact Nat.le_refl _
    · exact Nat.le_trans (ih (by omega)) (Nat.le_add_right _ _)
theorem edN_at (cs : List Cal) {i n : Nat} (h : i < n) : (cs.getD i dCal).eds.length ≤ edN cs n := Nat.le_trans (Nat.le_add_left _ _) (edN_mono cs (show i + 1 ≤ n from h))

theorem oneKind {n : Nat} {W : World} {c : Cal} {vR vE v15 v16 v17 : Value} {x8 x9 x13 x14 : Int} {b10 : Bool} {n11 n12 : Int} (h : One n #[.int .i64 0, .int .u8 c.kind, vR, vE, .string c.pre, .int .u64 c.f, .int .u64 c.t, .int .u32 c.dst, .int .i64 x8, .int .i64 x9, .bool b10, .int .u64 n11, .int .u64 n12, .int .i64 x13, .int .i64 x14, v15, v16, v17] W)
    (hv : (∃ a n c, vR = .slice a n c) ∧ (∃ a n c, vE = .slice a n c) ∧ (∃ a n c, v15 = .slice a n c) ∧ (∃ a n c, v16 = .slice a n c) ∧ ∃ a n c, v17 = .slice a n c) : AllK kindS 18 W (some n) := by
  obtain ⟨⟨a1, m1, c1, rfl⟩, ⟨a2, m2, c2, rfl⟩, ⟨a3, m3, c3, rfl⟩, ⟨a4, m4, c4, rfl⟩, ⟨a5, m5, c5, rfl⟩⟩ := hv
  intro g hg j u hu
  cases hg
  rw [h.c j] at hu
  have hj : j < 18 := (Array.getElem?_eq_some_iff.1 hu).1
  have : j = 0 ∨ j = 1 ∨ j = 2 ∨ j = 3 ∨ j = 4 ∨ j = 5 ∨ j = 6 ∨ j = 7 ∨ j = 8 ∨ j = 9 ∨ j = 10 ∨ j = 11 ∨ j = 12 ∨ j = 13 ∨ j = 14 ∨ j = 15 ∨ j = 16 ∨ j = 17 := by omega
  rcases this with rfl | rfl | rfl | rfl | rfl | rfl | rfl | rfl | rfl | rfl | rfl | rfl | rfl | rfl | rfl | rfl | rfl | rfl <;> simp at hu <;> subst hu <;> simp [kindS]
end Go.Proofs.YtfbgnpfhjbiikaaGreatDoor
