/- Plain: whose a place is, by spots (points and shards); what a spot more turns; spans. -/
import Derived.Test.YtggdkfijioeijaaGreatDoorQa11
namespace Go.Proofs.YtggdkfijioeijaaGreatDoor
open Go
abbrev M64 : Nat := 18446744073709551616
abbrev M32 : Nat := 4294967296
def key (h : Nat) (x : Nat × Nat) : Nat := (x.1 + M64 - h) % M64 * M32 + x.2
def InB (ps : List (Nat × Nat)) : Prop := ∀ x ∈ ps, x.1 < M64 ∧ x.2 < M32
def IsO (ps : List (Nat × Nat)) (h s : Nat) : Prop := ∃ p, (p, s) ∈ ps ∧ ∀ y ∈ ps, key h (p, s) ≤ key h y
theorem IsO.uniq {ps : List (Nat × Nat)} {h s s' : Nat} (hB : InB ps) (a : IsO ps h s) (b : IsO ps h s') : s = s' := by
  obtain ⟨p, hp, ha⟩ := a
  obtain ⟨q, hq, hb⟩ := b
  have h1 := ha _ hq
  have h2 := hb _ hp
  have b1 := (hB _ hp).2
  have b2 := (hB _ hq).2
  simp only [key, M64, M32] at h1 h2 b1 b2
  omega
noncomputable def ownF (ps : List (Nat × Nat)) (h : Nat) : Nat := Classical.epsilon (IsO ps h)
theorem ownF_eq {ps : List (Nat × Nat)} {h s : Nat} (hB : InB ps) (a : IsO ps h s) : ownF ps h = s := (Classical.epsilon_spec ⟨s, a⟩ : IsO ps h (ownF ps h)).uniq hB a
theorem IsO.mem {ps : List (Nat × Nat)} {h s : Nat} (a : IsO ps h s) : ∃ p, (p, s) ∈ ps := a.elim fun p h => ⟨p, h.1⟩
theorem least_ex {α : Type} (f : α → Nat) : ∀ (l : List α), l ≠ [] → ∃ x ∈ l, ∀ y ∈ l, f x ≤ f y
  | [], h => (h rfl).elim
  | [x], _ => ⟨x, by simp, fun y hy => by simp at hy; subst hy; exact Nat.le_refl _⟩
  | x :: z :: l, _ => by
    obtain ⟨y, hy, hl⟩ := least_ex f (z :: l) (by simp)
    by_cases h : f x ≤ f y
    · refine ⟨x, by simp, fun u hu => ?_⟩
      rcases List.mem_cons.1 hu with rfl | hu
      · exact Nat.le_refl _
      · exact Nat.le_trans h (hl u hu)
    · refine ⟨y, by simp [List.mem_cons.1 hy], fun u hu => ?_⟩
      rcases List.mem_cons.1 hu with rfl | hu
      · omega
      · exact hl u hu
theorem IsO.ex {ps : List (Nat × Nat)} (h : Nat) (hne : ps ≠ []) : ∃ s, IsO ps h s := by
  obtain ⟨x, hx, hl⟩ := least_ex (key h) ps hne
  exact ⟨x.2, x.1, hx, hl⟩
theorem ownF_is {ps : List (Nat × Nat)} (h : Nat) (hne : ps ≠ []) : IsO ps h (ownF ps h) := Classical.epsilon_spec (IsO.ex h hne)
theorem IsO.perm {ps qs : List (Nat × Nat)} {h s : Nat} (hm : ∀ x, x ∈ ps ↔ x ∈ qs) (a : IsO ps h s) : IsO qs h s := by
  obtain ⟨p, hp, ha⟩ := a
  exact ⟨p, (hm _).1 hp, fun y hy => ha y ((hm y).2 hy)⟩
theorem ownF_perm {ps qs : List (Nat × Nat)} (hm : ∀ x, x ∈ ps ↔ x ∈ qs) (hne : ps ≠ []) (hB : InB qs) (h : Nat) : ownF qs h = ownF ps h := ownF_eq hB ((ownF_is h hne).perm hm)
theorem ownF_const {ps : List (Nat × Nat)} {c h : Nat} (hB : InB ps) (hne : ps ≠ []) (hch : c ≤ h) (hh : h < M64) (hno : ∀ y ∈ ps, ¬ (c ≤ y.1 ∧ y.1 < h)) : ownF ps h = ownF ps c := by
  obtain ⟨p, hp, ha⟩ := ownF_is c hne
  have key_sh : ∀ y ∈ ps, key c y = key h y + (h - c) * M32 := fun y hy => by
    have h1 := hno y hy
    have h2 := (hB y hy).1
    simp only [key, M64, M32] at *
    have : (y.1 + 18446744073709551616 - c) % 18446744073709551616 = (y.1 + 18446744073709551616 - h) % 18446744073709551616 + (h - c) := by omega
    rw [this, Nat.add_mul]; omega
  refine ownF_eq hB ⟨p, hp, fun y hy => ?_⟩
  have h1 := ha y hy
  rw [key_sh _ hp, key_sh _ hy] at h1
  omega

def Least (ps : List (Nat × Nat)) : Prop := ∀ p s, lastOf ps p = some s → ∀ s', (p, s') ∈ ps → s ≤ s'
theorem least_of : ∀ (ps : List (Nat × Nat)), ps.Pairwise (fun x y => y.2 ≤ x.2) → Least ps := by
  intro ps
  induction hn : ps.length generalizing ps with
  | zero => 
    intro _ p s h s' hm
    have : ps = [] := List.length_eq_zero_iff.1 hn
    rw [this] at hm; cases hm
  | succ n ih =>
    intro hp p s h s' hm
    obtain ⟨qs, x, rfl⟩ : ∃ qs x, ps = qs ++ [x] := ⟨ps.dropLast, ps.getLast (by intro e; rw [e] at hn; cases hn), (List.dropLast_concat_getLast _).symm⟩
    obtain ⟨x1, x2⟩ := x
    rw [List.pairwise_append] at hp
    rw [lastOf_snoc] at h
    rcases List.mem_append.1 hm with hq | hq
    · by_cases e : p = x1
      · rw [if_pos e] at h; cases h
        exact hp.2.2 _ hq (x1, s) (by simp)
      · rw [if_neg e] at h
        exact ih qs (by simpa using hn) hp.1 p s h s' hq
    · simp at hq
      obtain ⟨rfl, rfl⟩ := hq
      rw [if_pos rfl] at h; cases h; exact Nat.le_refl _
theorem lastOf_ex {ps : List (Nat × Nat)} {p s : Nat} (h : (p, s) ∈ ps) : ∃ s', lastOf ps p = some s' := by
  cases hc : lastOf ps p with
  | some s' => exact ⟨s', rfl⟩
  | none => exact (lastOf_none.1 hc _ h rfl).elim

theorem spot_owner {ps : List (Nat × Nat)} {pts : List Int} {h i : Nat} (hB : InB ps) (hL : Least ps) (hsort : pts.Pairwise (· ≤ ·)) (hmem : ∀ x, x ∈ pts ↔ ∃ p : Nat, x = (p : Int) ∧ (lastOf ps p).isSome = true) (hne : pts ≠ []) (hh : h < M64) (hs : Spot pts (h : Int) i) :
    ∃ p s : Nat, pts.getD (i % pts.length) 0 = (p : Int) ∧ lastOf ps p = some s ∧ ownF ps h = s := by
  have hl : 0 < pts.length := List.length_pos_iff.2 hne
  have hj : i % pts.length < pts.length := Nat.mod_lt _ hl
  have hgd : ∀ j, (hj : j < pts.length) → pts.getD j 0 = pts[j] := fun j hj => by rw [List.getD_eq_getElem?_getD, List.getElem?_eq_getElem hj]; rfl
  obtain ⟨p, hp, hps⟩ := (hmem _).1 (show pts.getD (i % pts.length) 0 ∈ pts by rw [hgd _ hj]; exact List.getElem_mem _)
  obtain ⟨s, hs'⟩ := Option.isSome_iff_exists.1 hps
  refine ⟨p, s, hp, hs', ownF_eq hB ⟨p, lastOf_mem hs', fun y hy => ?_⟩⟩
  have b1 := hB _ (lastOf_mem hs')
  have b2 := hB _ hy
  by_cases e : y.1 = p
  · have := hL p s hs' y.2 (by rw [← e]; exact hy)
    simp only [key, M64, M32] at *
    rw [e]; omega
  · -- y's point stands in the list
    obtain ⟨t, ht⟩ := lastOf_ex (ps := ps) (p := y.1) (s := y.2) hy
    obtain ⟨j, hjl, hjy⟩ := List.mem_iff_getElem.1 ((hmem (y.1 : Int)).2 ⟨y.1, rfl, by rw [ht]; rfl⟩)
    have hle := List.pairwise_iff_getElem.1 hsort
    by_cases hi : i < pts.length
    · rw [Nat.mod_eq_of_lt hi, hgd _ hi] at hp
      have h1 := hs.2.2 i (Nat.le_refl _) hi
      rw [hgd _ hi, hp] at h1
      by_cases hji : j < i
      · have h2 := hs.2.1 j hji
        rw [hgd _ hjl, hjy] at h2
        simp only [key, M64, M32] at *; omega
      · have h2 : p ≤ y.1 := by
          by_cases ee : i = j
          · subst ee; rw [hp] at hjy; omega
          · have := hle i j hi hjl (by omega); rw [hp, hjy] at this; omega
        simp only [key, M64, M32] at *; omega
    · have hil : i = pts.length := by have := hs.1; omega
      rw [hil, Nat.mod_self, hgd _ hl] at hp
      have h0 := hs.2.1 0 (by omega)
      have h2 := hs.2.1 j (by omega)
      rw [hgd _ hl, hp] at h0
      rw [hgd _ hjl, hjy] at h2
      have h3 : p ≤ y.1 := by
        by_cases ee : 0 = j
        · subst ee; rw [hp] at hjy; omega
        · have := hle 0 j hl hjl (by omega); rw [hp, hjy] at this; omega
      simp only [key, M64, M32] at *; omega

theorem length_le_of_sub {α : Type} [BEq α] [LawfulBEq α] : ∀ (l m : List α), l.Nodup → (∀ x ∈ l, x ∈ m) → l.length ≤ m.length
  | [], m, _, _ => Nat.zero_le _
  | a :: l, m, hd, hs => by
    have ha : a ∈ m := hs a (by simp)
    have hd' := List.nodup_cons.1 hd
    have h1 := length_le_of_sub l (m.erase a) hd'.2 (fun x hx => (List.mem_erase_of_ne (fun e => hd'.1 (by rw [← e]; exact hx))).2 (hs x (by simp [hx])))
    rw [List.length_erase_of_mem ha] at h1
    have : 0 < m.length := List.length_pos_of_mem ha
    simp only [List.length_cons]; omega
theorem pts_length {ps : List (Nat × Nat)} {pts : List Int} (hnd : pts.Nodup) (hmem : ∀ x, x ∈ pts ↔ ∃ p : Nat, x = (p : Int) ∧ (lastOf ps p).isSome = true) : pts.length ≤ ps.length := by
  have := length_le_of_sub pts (ps.map (fun x => ((x.1 : Nat) : Int))) hnd (fun x hx => by
    obtain ⟨p, rfl, h⟩ := (hmem x).1 hx
    obtain ⟨s, hs⟩ := Option.isSome_iff_exists.1 h
    exact List.mem_map.2 ⟨_, lastOf_mem hs, rfl⟩)
  simpa using this
def ofP (sp : List (Nat × Nat)) (h : Nat) : Nat := sp.foldl (fun s x => if x.1 ≤ h then x.2 else s) 0
theorem ofP_snoc (sp : List (Nat × Nat)) (x : Nat × Nat) (h : Nat) : ofP (sp ++ [x]) h = if x.1 ≤ h then x.2 else ofP sp h := by simp [ofP]
abbrev d0 : Nat × Nat := (0, 0)
theorem ofP_last {sp : List (Nat × Nat)} {h : Nat} (hne : sp ≠ []) (hle : ∀ x ∈ sp, x.1 ≤ h) : ofP sp h = (sp.getD (sp.length - 1) d0).2 := by
  obtain ⟨qs, x, rfl⟩ : ∃ qs x, sp = qs ++ [x] := ⟨sp.dropLast, sp.getLast hne, (List.dropLast_concat_getLast _).symm⟩
  rw [ofP_snoc, if_pos (hle x (by simp))]
  simp [List.getD_eq_getElem?_getD]
structure SpI (O : Nat → Nat) (sp : List (Nat × Nat)) (c : Nat) : Prop where
  ne : sp ≠ []
  zero : (sp.getD 0 d0).1 = 0
  rise : sp.Pairwise (fun x y => x.1 < y.1)
  adj : ∀ i, i + 1 < sp.length → (sp.getD (i + 1) d0).2 ≠ (sp.getD i d0).2
  lt : ∀ x ∈ sp, x.1 < c
  is : ∀ h, h < c → ofP sp h = O h
theorem SpI.start {O : Nat → Nat} {c : Nat} (hc : 0 < c) (ho : ∀ h, h < c → O h = O 0) : SpI O [(0, O 0)] c :=
  ⟨by simp, rfl, by simp, fun i hi => by simp at hi, fun x hx => by simp at hx; subst hx; exact hc, fun h hh => by simp [ofP]; exact (ho h hh).symm⟩
theorem SpI.skip {O : Nat → Nat} {sp : List (Nat × Nat)} {c c' : Nat} (h : SpI O sp c) (hc : c ≤ c') (ho : ∀ h, c ≤ h → h < c' → O h = O c) (hs : (sp.getD (sp.length - 1) d0).2 = O c) : SpI O sp c' := by
  refine ⟨h.ne, h.zero, h.rise, h.adj, fun x hx => by have := h.lt x hx; omega, fun u hu => ?_⟩
  by_cases e : u < c
  · exact h.is u e
  · rw [ofP_last h.ne (fun x hx => by have := h.lt x hx; omega), hs, ho u (by omega) hu]
theorem SpI.add {O : Nat → Nat} {sp : List (Nat × Nat)} {c c' : Nat} (h : SpI O sp c) (hc : c < c') (ho : ∀ h, c ≤ h → h < c' → O h = O c) (hs : (sp.getD (sp.length - 1) d0).2 ≠ O c) : SpI O (sp ++ [(c, O c)]) c' := by
  have hl : 0 < sp.length := List.length_pos_iff.2 h.ne
  refine ⟨by simp, ?_, ?_, fun i hi => ?_, fun x hx => ?_, fun u hu => ?_⟩
  · rw [List.getD_eq_getElem?_getD, List.getElem?_append_left hl, ← List.getD_eq_getElem?_getD]; exact h.zero
  · rw [List.pairwise_append]
    exact ⟨h.rise, by simp, fun a ha b hb => by simp at hb; subst hb; exact h.lt a ha⟩
  · rw [List.length_append] at hi
    simp only [List.length_cons, List.length_nil] at hi
    rw [List.getD_eq_getElem?_getD, List.getD_eq_getElem?_getD, List.getElem?_append_left (by omega : i < sp.length)]
    by_cases e : i + 1 < sp.length
    · rw [List.getElem?_append_left e, ← List.getD_eq_getElem?_getD, ← List.getD_eq_getElem?_getD]; exact h.adj i e
    · have : i = sp.length - 1 := by omega
      rw [List.getElem?_append_right (by omega), ← List.getD_eq_getElem?_getD, this]
      simp only [show sp.length - 1 + 1 - sp.length = 0 by omega]
      exact fun e => hs e.symm
  · rcases List.mem_append.1 hx with hx | hx
    · have := h.lt x hx; omega
    · simp at hx; subst hx; exact hc
  · rw [ofP_snoc]
    by_cases e : c ≤ u
    · rw [if_pos e, ho u e hu]
    · rw [if_neg e]; exact h.is u (by omega)
theorem SpI.from_ {O : Nat → Nat} {sp : List (Nat × Nat)} {c : Nat} (h : SpI O sp c) (i : Nat) (hi : i < sp.length) (u : Nat) (h1 : (sp.getD i d0).1 ≤ u) (h2 : u < c) (h3 : i + 1 < sp.length → u < (sp.getD (i + 1) d0).1) : O u = (sp.getD i d0).2 := by
  rw [← h.is u h2]
  have key : ∀ (l : List (Nat × Nat)) (k : Nat), k < l.length → l.Pairwise (fun x y => x.1 < y.1) → (l.getD k d0).1 ≤ u → (k + 1 < l.length → u < (l.getD (k + 1) d0).1) → ofP l u = (l.getD k d0).2 := by
    intro l
    induction hn : l.length generalizing l with
    | zero => intro k hk; omega
    | succ n ih =>
      intro k hk hp g1 g2
      obtain ⟨qs, x, rfl⟩ : ∃ qs x, l = qs ++ [x] := ⟨l.dropLast, l.getLast (by intro e; rw [e] at hn; cases hn), (List.dropLast_concat_getLast _).symm⟩
      have hq : qs.length = n := by simpa using hn
      rw [List.pairwise_append] at hp
      have gx : (qs ++ [x]).getD n d0 = x := by rw [List.getD_eq_getElem?_getD, List.getElem?_append_right (by omega), hq, Nat.sub_self]; rfl
      have gq : ∀ j, j < n → (qs ++ [x]).getD j d0 = qs.getD j d0 := fun j hj => by rw [List.getD_eq_getElem?_getD, List.getElem?_append_left (by omega), ← List.getD_eq_getElem?_getD]
      rw [ofP_snoc]
      by_cases e : k = n
      · subst e
        rw [gx] at g1 ⊢
        rw [if_pos g1]
      · have hkn : k < n := by omega
        have g3 := g2 (by omega)
        rw [if_neg ?_, gq k hkn]
        · rw [gq k hkn] at g1
          exact ih qs hq k (by omega) hp.1 g1 (fun hk1 => by rw [gq _ (by omega)] at g3; exact g3)
        · by_cases e2 : k + 1 = n
          · rw [e2, gx] at g3; omega
          · rw [gq _ (by omega)] at g3
            have := hp.2.2 (qs.getD (k + 1) d0) (by rw [List.getD_eq_getElem?_getD, List.getElem?_eq_getElem (by omega)]; exact List.getElem_mem _) x (by simp)
            omega
  exact key sp i hi h.rise h1 h3
end Go.Proofs.YtggdkfijioeijaaGreatDoor
