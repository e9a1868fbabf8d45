/- A region that draws its order, each operation once: what holds of the slots and the world behind any part of it. A region that draws its order in a round (the body of a range over a function): each operation once, told as outside of one. -/
import Derived.Test.YthcmcjoenepkbaaGreatDoorBut
import Derived.OrdersIn
namespace Go.Proofs.YthcmcjoenepkbaaGreatDoor
open Go Go.RowKit

theorem ready_mem {md : Region.Mode} {ops : Array Oper} {l : Array Bool} {i : Nat} (h : i ∈ Region.ready md ops l) :
    ∃ o : Oper, ops[i]? = some o ∧ l.getD i true = false ∧ ∀ e ∈ o.after, Region.binds md e = true → l.getD e.on false = true := by
  unfold Region.ready at h
  obtain ⟨h1, h2⟩ := List.mem_filter.1 h
  have hi : i < ops.size := by simpa using h1
  simp only [Bool.and_eq_true, Bool.not_eq_true'] at h2
  refine ⟨ops[i], Array.getElem?_eq_getElem hi, h2.1, fun e he hb => ?_⟩
  have h3 := h2.2
  rw [Array.getElem?_eq_getElem hi] at h3
  simp only [Option.map_some, Option.getD_some, Array.all_eq_true_iff_forall_mem, Bool.or_eq_true, Bool.not_eq_true'] at h3
  rcases h3 e he with h4 | h4
  · rw [hb] at h4; cases h4
  · exact h4
theorem getD_in {l : Array Bool} {i : Nat} (h : i < l.size) (a b : Bool) : l.getD i a = l.getD i b := by simp [h]
theorem ready_nil {md : Region.Mode} {ops : Array Oper} {l : Array Bool} (hsz : l.size = ops.size) (hlex : ∀ (i : Nat) (o : Oper), ops[i]? = some o → ∀ e ∈ o.after, e.on < i) (h : Region.ready md ops l = []) : ∀ i, i < ops.size → l.getD i false = true := by
  intro i
  induction i using Nat.strongRecOn with
  | ind i ih =>
    intro hi
    cases hl : l.getD i false with
    | true => rfl
    | false =>
      exfalso
      have : i ∈ Region.ready md ops l := by
        unfold Region.ready
        refine List.mem_filter.2 ⟨by simpa using hi, ?_⟩
        rw [getD_in (by omega) true false, hl, Array.getElem?_eq_getElem hi]
        simp only [Bool.not_false, Bool.true_and, Option.map_some, Option.getD_some, Array.all_eq_true_iff_forall_mem, Bool.or_eq_true, Bool.not_eq_true']
        intro e he
        right
        have hlt := hlex i ops[i] (Array.getElem?_eq_getElem hi) e he
        exact ih e.on hlt (by omega)
      rw [h] at this; cases this
def unl (l : Array Bool) : Nat := (l.toList.filter (! ·)).length
theorem filter_set : ∀ (l : List Bool) (i : Nat), l[i]? = some false → ((l.set i true).filter (! ·)).length + 1 = (l.filter (! ·)).length
  | [], i, h => by simp at h
  | x :: l, 0, h => by simp at h; subst h; simp
  | x :: l, i + 1, h => by
    have ih := filter_set l i (by simpa using h)
    cases x
    · simp at ih ⊢; omega
    · simp at ih ⊢; omega
theorem unl_set {l : Array Bool} {i : Nat} (h : l.getD i true = false) : unl (l.setIfInBounds i true) + 1 = unl l := by
  unfold unl
  have hi : i < l.size := by
    rcases Nat.lt_or_ge i l.size with h1 | h1
    · exact h1
    · simp [h1] at h
  have h2 : l.toList[i]? = some false := by
    simp [hi] at h
    simp [hi, h]
  rw [Array.toList_setIfInBounds]
  exact filter_set _ _ h2
theorem unl_zero {l : Array Bool} (h : unl l = 0) {i : Nat} : l.getD i true = true := by
  cases hl : l.getD i true with
  | true => rfl
  | false => have := unl_set hl; omega

theorem wpAny_each {P : Program} {md : Region.Mode} {ops : Array Oper} {Q : Exit → Act → World → Prop} (Inv : Array Bool → Act → World → Prop)
    (hsz : ∀ l a w, Inv l a w → l.size = ops.size) (hlex : ∀ (i : Nat) (o : Oper), ops[i]? = some o → ∀ e ∈ o.after, e.on < i)
    (hstep : ∀ l a w i, Inv l a w → i ∈ Region.ready md ops l → ∀ K : Act → World → Prop, (∀ a' w', Inv (l.setIfInBounds i true) a' w' → K a' w') → wpOp P ops Q i K a w)
    (hfin : ∀ l a w, (∀ i, i < ops.size → l.getD i false = true) → Inv l a w → Q .normal a w) : ∀ (fuel : Nat) (l : Array Bool) (a : Act) (w : World), unl l ≤ fuel → Inv l a w → wpAny P md ops Q fuel l a w
  | 0, l, a, w, hf, hI => by
    have hr : Region.ready md ops l = [] := by
      cases hc : Region.ready md ops l with
      | nil => rfl
      | cons i r =>
        exfalso
        obtain ⟨o, _, h1, _⟩ := ready_mem (md := md) (ops := ops) (l := l) (i := i) (by rw [hc]; simp)
        rw [unl_zero (by omega)] at h1; cases h1
    exact ⟨hr, hfin l a w (ready_nil (hsz l a w hI) hlex hr) hI⟩
  | fuel + 1, l, a, w, hf, hI => by
    refine ⟨fun hr => hfin l a w (ready_nil (hsz l a w hI) hlex hr) hI, fun i hi => ?_⟩
    obtain ⟨o, _, h1, _⟩ := ready_mem hi
    exact hstep l a w i hI hi _ (fun a' w' hI' => wpAny_each Inv hsz hlex hstep hfin fuel _ a' w' (by have := unl_set h1; omega) hI')

/-- Each operation of a region that draws its order is met once, behind whatever part of the others. -/
theorem wp_region_each {P : Program} {id : Nat} {ops : Array Oper} {Q : Exit → Act → World → Prop} {a : Act} {w : World} (hm : P.follows .mixedOrders = true)
    (Inv : Array Value → (Nat → Bool) → Array Value → World → Prop) (hlex : ∀ (i : Nat) (o : Oper), ops[i]? = some o → ∀ e ∈ o.after, e.on < i)
    (h0 : Inv a.tmps (fun _ => false) a.tmps { w with drawn := w.drawn + 1 })
    (hstep : ∀ (l : Nat → Bool) (t : Array Value) (w : World) (i : Nat) (o : Oper), Inv a.tmps l t w → ops[i]? = some o → l i = false → (∀ e ∈ o.after, Region.binds .any e = true → l e.on = true) →
      ∀ (K : Act → World → Prop) (Q : Exit → Act → World → Prop), (∀ t' w', Inv a.tmps (fun j => if j = i then true else l j) t' w' → K { tmps := t', defers := a.defers } w') → Region.wanted o (yielded ops t) = true ∧ Oper.wp P o { tmps := t, defers := a.defers } w K Q)
    (hfin : ∀ l t w, (∀ i, i < ops.size → l i = true) → Inv a.tmps l t w → Q .normal { tmps := t, defers := a.defers } w) : (Code.region id ops true).wp P Q a w := by
  refine wp_region_any hm (wpAny_each (fun l a' w' => l.size = ops.size ∧ a'.defers = a.defers ∧ Inv a.tmps (fun i => l.getD i false) a'.tmps w') (fun l a w h => h.1) hlex ?_ ?_ _ _ _ _ ?_ ⟨by simp, rfl, ?_⟩)
  · rintro l ⟨t, d⟩ w' i ⟨hs, hd, hI⟩ hi K hK
    simp only at hd hI
    subst hd
    obtain ⟨o, ho, h1, h2⟩ := ready_mem hi
    have hil : i < ops.size := (Array.getElem?_eq_some_iff.1 ho).1
    obtain ⟨g1, g2⟩ := hstep (fun i => l.getD i false) t w' i o hI ho (by rw [getD_in (by omega) false true]; exact h1) h2 K Q (fun t' w'' hI' => hK _ _ ⟨by simpa using hs, rfl, by
      have : (fun j => (l.setIfInBounds i true).getD j false) = (fun j => if j = i then true else l.getD j false) := by
        funext j
        by_cases e : j = i
        · subst e; simp [hs, hil]
        · simp only [if_neg e, Array.getD_eq_getD_getElem?, Array.getElem?_setIfInBounds, if_neg (Ne.symm e)]
      rw [this]; exact hI'⟩)
    unfold wpOp
    rw [ho]
    show if Region.wanted o (yielded ops t) = true then _ else _
    rw [if_pos g1]
    exact Or.inl g2
  · rintro l ⟨t, d⟩ w' hall ⟨hs, hd, hI⟩
    simp only at hd hI
    subst hd
    exact hfin _ t w' hall hI
  · unfold unl
    refine Nat.le_trans (List.length_filter_le _ _) ?_
    simp
  · have : (fun i => (Array.replicate ops.size false).getD i false) = fun _ => false := by
      funext i
      simp only [Array.getD_eq_getD_getElem?, Array.getElem?_replicate]
      split <;> rfl
    rw [this]; exact h0
end Go.Proofs.YthcmcjoenepkbaaGreatDoor

namespace Go.Proofs.YthcmcjoenepkbaaGreatDoor
open Go Go.RowKit

theorem opIn_of {r n : Nat} {P : Program} {o : Oper} {a : Act} {w : World} {K : Act → World → Prop} {Q : Exit → Act → World → Prop} (hd : ∀ c, o.op ≠ .defer c) (h : o.wp P a w K Q) : o.wpIn (Fence.wide.inRound r) n P a w K Q := by
  refine ⟨fun _ _ => trivial, ?_⟩
  unfold Oper.wp at h
  show o.uponIn _ n P a K Q ((Oper.semAt (some r) a.eval o).run P w)
  rw [Oper.semAt_some r _ _ hd]
  cases hr : (execOp a.eval o).run P w with
  | ok x w' =>
    rw [hr] at h
    cases x
    case enter f args => exact ⟨fun hh => (by cases hh), callsIn_wide.2 h⟩
    case row row args => exact ⟨fun hh => (by cases hh), fun c cs _ => (h c cs).elim fun v ⟨w'', q, s⟩ => ⟨v, w'', q, stepsIn_wide.2 s⟩⟩
    all_goals first | exact h | exact h.elim
  | halt e w' =>
    rw [hr] at h
    cases e <;> first | exact h | exact h.elim

theorem wpAnyIn_each {r n : Nat} {P : Program} {md : Region.Mode} {ops : Array Oper} {Q : Exit → Act → World → Prop} (hnd : ∀ (i : Nat) (o : Oper), ops[i]? = some o → ∀ c, o.op ≠ .defer c) (Inv : Array Bool → Act → World → Prop)
    (hsz : ∀ l a w, Inv l a w → l.size = ops.size) (hlex : ∀ (i : Nat) (o : Oper), ops[i]? = some o → ∀ e ∈ o.after, e.on < i)
    (hstep : ∀ l a w i, Inv l a w → i ∈ Region.ready md ops l → ∀ o, ops[i]? = some o → Region.wanted o (yielded ops a.tmps) = true ∧ ∀ K : Act → World → Prop, (∀ a' w', Inv (l.setIfInBounds i true) a' w' → K a' w') → o.wp P a w K Q)
    (hfin : ∀ l a w, (∀ i, i < ops.size → l.getD i false = true) → Inv l a w → Q .normal a w) : ∀ (fuel : Nat) (l : Array Bool) (a : Act) (w : World), unl l ≤ fuel → Inv l a w → wpAnyIn (Fence.wide.inRound r) n P md ops Q fuel l a w
  | 0, l, a, w, hf, hI => by
    have hr : Region.ready md ops l = [] := by
      cases hc : Region.ready md ops l with
      | nil => rfl
      | cons i r =>
        exfalso
        obtain ⟨o, _, h1, _⟩ := ready_mem (md := md) (ops := ops) (l := l) (i := i) (by rw [hc]; simp)
        rw [unl_zero (by omega)] at h1; cases h1
    exact ⟨hr, hfin l a w (ready_nil (hsz l a w hI) hlex hr) hI⟩
  | fuel + 1, l, a, w, hf, hI => by
    refine ⟨fun hr => hfin l a w (ready_nil (hsz l a w hI) hlex hr) hI, fun i hi => ?_⟩
    obtain ⟨o, ho, h1, _⟩ := ready_mem hi
    obtain ⟨g1, g2⟩ := hstep l a w i hI hi o ho
    unfold wpOpIn
    rw [ho]
    show if Region.wanted o (yielded ops a.tmps) = true then _ else _
    rw [if_pos g1]
    exact opIn_of (hnd i o ho) (g2 _ (fun a' w' hI' => wpAnyIn_each hnd Inv hsz hlex hstep hfin fuel _ a' w' (by have := unl_set h1; omega) hI'))

/-- The operations listed are closed under what binds. -/
def Clsd (ops : Array Oper) (l : Nat → Bool) : Prop := ∀ (i : Nat) (o : Oper), ops[i]? = some o → l i = true → ∀ e ∈ o.after, Region.binds .any e = true → l e.on = true
theorem wpIn_region_each {r n : Nat} {P : Program} {id : Nat} {ops : Array Oper} {Q : Exit → Act → World → Prop} {a : Act} {w : World} (hm : P.follows .mixedOrders = true) (hnd : ∀ (i : Nat) (o : Oper), ops[i]? = some o → ∀ c, o.op ≠ .defer c)
    (Inv : Array Value → (Nat → Bool) → Array Value → World → Prop) (hlex : ∀ (i : Nat) (o : Oper), ops[i]? = some o → ∀ e ∈ o.after, e.on < i)
    (h0 : Inv a.tmps (fun _ => false) a.tmps { w with drawn := w.drawn + 1 })
    (hstep : ∀ (l : Nat → Bool) (t : Array Value) (w : World) (i : Nat) (o : Oper), Inv a.tmps l t w → ops[i]? = some o → l i = false → (∀ e ∈ o.after, Region.binds .any e = true → l e.on = true) → Clsd ops l →
      ∀ (K : Act → World → Prop) (Q : Exit → Act → World → Prop), (∀ t' w', Inv a.tmps (fun j => if j = i then true else l j) t' w' → K { tmps := t', defers := a.defers } w') → Region.wanted o (yielded ops t) = true ∧ Oper.wp P o { tmps := t, defers := a.defers } w K Q)
    (hfin : ∀ l t w, (∀ i, i < ops.size → l i = true) → Inv a.tmps l t w → Q .normal { tmps := t, defers := a.defers } w) : (Code.region id ops true).wpIn (Fence.wide.inRound r) n P Q a w := by
  refine wpIn_region_any hm (wpAnyIn_each hnd (fun l a' w' => l.size = ops.size ∧ a'.defers = a.defers ∧ Clsd ops (fun i => l.getD i false) ∧ Inv a.tmps (fun i => l.getD i false) a'.tmps w') (fun l a w h => h.1) hlex ?_ ?_ _ _ _ _ ?_ ⟨by simp, rfl, ?_, ?_⟩)
  · rintro l ⟨t, d⟩ w' i ⟨hs, hd, hC, hI⟩ hi o ho
    simp only at hd hI
    subst hd
    obtain ⟨o', ho', h1, h2⟩ := ready_mem hi
    have hil : i < ops.size := (Array.getElem?_eq_some_iff.1 ho).1
    rw [ho] at ho'
    cases ho'
    have H := hstep (fun i => l.getD i false) t w' i o hI ho (by rw [getD_in (by omega) false true]; exact h1) h2 hC
    have hfun : (fun j => (l.setIfInBounds i true).getD j false) = (fun j => if j = i then true else l.getD j false) := by
      funext j
      by_cases e : j = i
      · subst e; simp [hs, hil]
      · simp only [if_neg e, Array.getD_eq_getD_getElem?, Array.getElem?_setIfInBounds, if_neg (Ne.symm e)]
    refine ⟨(H (fun _ _ => True) Q (fun _ _ _ => trivial)).1, fun K hK => (H K Q (fun t' w'' hI' => hK _ _ ⟨by simpa using hs, rfl, ?_, ?_⟩)).2⟩
    · rw [hfun]
      intro i' o' ho' hl e he hb
      show (if e.on = i then true else l.getD e.on false) = true
      by_cases ei : i' = i
      · subst ei
        rw [ho] at ho'; cases ho'
        split
        · rfl
        · exact h2 e he hb
      · simp only [if_neg ei] at hl
        split
        · rfl
        · exact hC i' o' ho' hl e he hb
    · rw [hfun]; exact hI'
  · rintro l ⟨t, d⟩ w' hall ⟨hs, hd, hC, hI⟩
    simp only at hd hI
    subst hd
    exact hfin _ t w' hall hI
  · unfold unl
    refine Nat.le_trans (List.length_filter_le _ _) ?_
    simp
  · intro i o _ h
    simp only [Array.getD_eq_getD_getElem?, Array.getElem?_replicate] at h
    split at h <;> cases h
  · have : (fun i => (Array.replicate ops.size false).getD i false) = fun _ => false := by
      funext i
      simp only [Array.getD_eq_getD_getElem?, Array.getElem?_replicate]
      split <;> rfl
    rw [this]; exact h0

/-- A code that always ends as written. -/
theorem wpIn_normal {F : Fence} {n : Nat} {P : Program} {c : Code} {Q : Exit → Act → World → Prop} {a : Act} {w : World} (G : Act → World → Prop) (h : c.wpIn F n P (fun e a w => match e with | .normal => G a w | _ => False) a w) (hG : ∀ a w, G a w → Q .normal a w) : c.wpIn F n P Q a w :=
  wpIn_mono h fun e a w hq => by cases e <;> first | exact hG _ _ hq | exact hq.elim

/-- A frame of which the slots from lo to hi alone have turned. -/
def Fs (base : Array Value) (lo hi : Nat) (f : Nat → Value) : Array Value := base.mapIdx fun i v => if lo ≤ i ∧ i < hi then f i else v
theorem Fs_self (base : Array Value) (lo hi : Nat) : base = Fs base lo hi (fun i => base.getD i undef) := by
  refine Array.ext_getElem? fun k => ?_
  simp only [Fs, Array.getElem?_mapIdx]
  cases h : base[k]? with
  | none => rfl
  | some v => simp [Array.getD_eq_getD_getElem?, h]
theorem Fs_in {base : Array Value} {lo hi k : Nat} {f : Nat → Value} (h : k < base.size) (h1 : lo ≤ k) (h2 : k < hi) : (Fs base lo hi f).getD k undef = f k := by
  simp [Fs, Array.getD_eq_getD_getElem?, h, h1, h2]
theorem Fs_out {base : Array Value} {lo hi k : Nat} {f : Nat → Value} (h : ¬ (lo ≤ k ∧ k < hi)) : (Fs base lo hi f).getD k undef = base.getD k undef := by
  simp only [Fs, Array.getD_eq_getD_getElem?, Array.getElem?_mapIdx, if_neg h]
  cases base[k]? <;> rfl
theorem Fs_set {base : Array Value} {lo hi k : Nat} {f : Nat → Value} {v : Value} (h1 : lo ≤ k) (h2 : k < hi) : (Fs base lo hi f).setIfInBounds k v = Fs base lo hi (fun i => if i = k then v else f i) := by
  refine Array.ext_getElem? fun i => ?_
  simp only [Fs, Array.getElem?_mapIdx, Array.getElem?_setIfInBounds, Array.size_mapIdx]
  by_cases e : k = i
  · subst e
    by_cases hk : k < base.size
    · simp [hk, h1, h2]
    · simp [hk]
  · rw [if_neg e]
    cases base[i]? with
    | none => rfl
    | some x =>
      simp only [Option.map_some]
      rw [if_neg (Ne.symm e)]
theorem Fs_nil (base : Array Value) (lo : Nat) (f : Nat → Value) : Fs base lo lo f = base := by
  refine Array.ext_getElem? fun i => ?_
  simp only [Fs, Array.getElem?_mapIdx]
  cases base[i]? with
  | none => rfl
  | some x => simp only [Option.map_some]; rw [if_neg (by omega)]
theorem Fs_succ (base : Array Value) {lo hi : Nat} (h : lo ≤ hi) (f : Nat → Value) : Fs base lo (hi + 1) f = (Fs base lo hi f).setIfInBounds hi (f hi) := by
  refine Array.ext_getElem? fun i => ?_
  simp only [Fs, Array.getElem?_mapIdx, Array.getElem?_setIfInBounds, Array.size_mapIdx]
  by_cases e : hi = i
  · subst e
    by_cases hk : hi < base.size
    · simp [hk, h]
    · simp [hk]
  · rw [if_neg e]
    cases base[i]? with
    | none => rfl
    | some x =>
      simp only [Option.map_some]
      by_cases hh : lo ≤ i ∧ i < hi
      · rw [if_pos hh, if_pos ⟨hh.1, by omega⟩]
      · rw [if_neg hh, if_neg (by omega)]
theorem Fs_size (base : Array Value) (lo hi : Nat) (f : Nat → Value) : (Fs base lo hi f).size = base.size := by simp [Fs]
end Go.Proofs.YthcmcjoenepkbaaGreatDoor
