/- Contracts: ref27.Map's end, Owner, whose, add. -/
import Derived.Test.YthcmcjoenepkbaaGreatFir
import Derived.Test.YthcmcjoenepkbaaGreatSm6
namespace Go.Proofs.YthcmcjoenepkbaaGreat
open Go Go.RowKit Go.Maps

/-- What the walk of the document's map wants. -/
structure Canon (sp : List (Nat × Nat)) : Prop where
  pos : 1 ≤ sp.length
  len : sp.length ≤ 10000
  from_ : ∀ i, 1 ≤ i → i < sp.length → 1 ≤ (sp.getD i d0).1
  b64 : ∀ i, i < sp.length → (sp.getD i d0).1 < M64
theorem SpI.canon {O : Nat → Nat} {sp : List (Nat × Nat)} (h : SpI O sp M64) (hl : sp.length ≤ 10000) : Canon sp := by
  refine ⟨List.length_pos_iff.2 h.ne, hl, fun i h1 h2 => ?_, fun i hi => h.lt _ (by rw [List.getD_eq_getElem?_getD, List.getElem?_eq_getElem hi]; exact List.getElem_mem _)⟩
  have := List.pairwise_iff_getElem.1 h.rise 0 i (by omega) h2 (by omega)
  have h2 : (sp.getD 0 d0).1 < (sp.getD i d0).1 := by
    rw [List.getD_eq_getElem?_getD, List.getD_eq_getElem?_getD, List.getElem?_eq_getElem (by omega : 0 < sp.length), List.getElem?_eq_getElem h2]; exact this
  omega
theorem Canon.endLt {sp : List (Nat × Nat)} (h : Canon sp) (k : Nat) : endOf sp k < M64 := by
  unfold endOf
  split
  · have := h.b64 (k + 1) ‹_›; omega
  · decide

set_option maxRecDepth 100000 in
set_option maxHeartbeats 1000000 in
theorem d27_end (m e k : Nat) (sp : List (Nat × Nat)) (w : World) (hD : DocAt w m e sp) (hC : Canon sp) (hk : k < sp.length) :
    Calls Tryz.prog 32 #[.pointer (some ⟨m, 0, none⟩), .int .i64 (k : Int)] w fun en w' => en = .returned (.int .u64 ((endOf sp k : Nat) : Int)) ∧ w' = w := by
  obtain ⟨g, c, h1, h2, h3⟩ := hD
  have c1 : w.cell? ⟨m, 1, none⟩ = some (.slice (some ⟨g, 0, none⟩) sp.length c) := cell_of h1 1
  have hle := hC.len
  obtain ⟨L, hL⟩ : ∃ L, sp.length = L := ⟨_, rfl⟩
  obtain ⟨k1, hk1⟩ : ∃ k1, k + 1 = k1 := ⟨_, rfl⟩
  have hki : (k : Int) + 1 = (k1 : Int) := by omega
  rw [hL] at c1
  clear h1 h2
  by_cases hlt : k1 < L
  · obtain ⟨q0, _⟩ := h3 k1 (by omega)
    have hf := hC.from_ k1 (by omega) (by omega)
    have hb := hC.b64 k1 (by omega)
    have he : endOf sp k = (sp.getD k1 d0).1 - 1 := by unfold endOf; rw [hk1, hL, if_pos hlt]
    obtain ⟨q, hq⟩ : ∃ q, (sp.getD k1 d0).1 = q := ⟨_, rfl⟩
    rw [hq] at he q0 hf hb
    obtain ⟨q1, hq1⟩ : ∃ q1, q - 1 = q1 := ⟨_, rfl⟩
    have hqi : (q : Int) - 1 = (q1 : Int) := by omega
    have hq64 : (q1 : Int) < 18446744073709551616 := by have : q < 18446744073709551616 := hb; omega
    have hw : IntKind.u64.wrap (q1 : Int) = (q1 : Int) := by rw [IntKind.wrap_u64]; omega
    rw [he, hq1]
    have hlti : ((k1 : Int) < (L : Int)) = True := by simp; omega
    have hlti' : (k1 : Int) < (L : Int) := by omega
    clear h3 hC hq he hL hk1 hq1 hq64 hb
    go_enter Tryz.func32, Tryz.ntmps32
    go_wp2_with fail
    go_ret
    exact ⟨rfl, rfl⟩
  · have he : endOf sp k = 18446744073709551615 := by unfold endOf; rw [hk1, hL, if_neg hlt]
    rw [he]
    have hlti : ((k1 : Int) < (L : Int)) = False := by simp; omega
    have hlti' : ¬ (k1 : Int) < (L : Int) := by omega
    clear h3 hC he hL hk1
    go_enter Tryz.func32, Tryz.ntmps32
    go_wp2_with fail
    go_ret
    exact ⟨rfl, rfl⟩

/-- The last of n spans that begins at h or ahead of it. -/
def lastO (sp : List (Nat × Nat)) (h : Nat) : Nat → Nat
  | 0 => 0
  | k + 1 => if (sp.getD k d0).1 ≤ h then (sp.getD k d0).2 else lastO sp h k
theorem lastO_law {O : Nat → Nat} {sp : List (Nat × Nat)} (hS : SpI O sp M64) {h : Nat} (hh : h < M64) : lastO sp h sp.length = O h := by
  obtain ⟨k, hk, a, b⟩ := cover hS hh
  have key : ∀ n, k < n → n ≤ sp.length → lastO sp h n = (sp.getD k d0).2 := by
    intro n
    induction n with
    | zero => intro h1; omega
    | succ n ih =>
      intro h1 h2
      unfold lastO
      by_cases e : n = k
      · subst e; rw [if_pos a]
      · rw [if_neg, ih (by omega) (by omega)]
        have hr := List.pairwise_iff_getElem.1 hS.rise
        have hg : ∀ i, (hi : i < sp.length) → sp.getD i d0 = sp[i] := fun i hi => by rw [List.getD_eq_getElem?_getD, List.getElem?_eq_getElem hi]; rfl
        have h3 := (endOf_next hS hk).2
        rw [if_pos (by omega)] at h3
        have h4 : (sp.getD (k + 1) d0).1 ≤ (sp.getD n d0).1 := by
          by_cases e2 : n = k + 1
          · rw [e2]; exact Nat.le_refl _
          · rw [hg _ (by omega), hg _ (by omega)]; exact Nat.le_of_lt (hr (k + 1) n (by omega) (by omega) (by omega))
        omega
  rw [key _ hk (Nat.le_refl _), hS.at_ hk a b]

set_option maxRecDepth 100000 in
set_option maxHeartbeats 2000000 in
theorem d27_Owner (m e h : Nat) (sp : List (Nat × Nat)) (w : World) (hD : DocAt w m e sp) (hl : sp.length ≤ 10000) :
    Calls Tryz.prog 55 #[.pointer (some ⟨m, 0, none⟩), .int .u64 (h : Int)] w fun en w' => en = .returned (.int .u32 ((lastO sp h sp.length : Nat) : Int)) ∧ w = w' := by
  obtain ⟨g, c, h1, h2, h3⟩ := hD
  have c1 : w.cell? ⟨m, 1, none⟩ = some (.slice (some ⟨g, 0, none⟩) sp.length c) := cell_of h1 1
  obtain ⟨L, hL⟩ : ∃ L, sp.length = L := ⟨_, rfl⟩
  rw [hL] at c1 h3 hl ⊢
  have HC := Lib.hid h3
  clear h1 h2 h3 hL
  go_enter Tryz.func55, Tryz.ntmps55
  go_wp2_with fail
  go_loop [5, 6] (fun s i => ∃ k : Nat, k ≤ L ∧ i = .int .i64 k ∧ s = .int .u32 ((lastO sp h k : Nat) : Int)) (fun _ i => L - (intOf i).toNat)
  case atStart => exact ⟨0, Nat.zero_le _, rfl, rfl⟩
  case round =>
    obtain ⟨k, hk, rfl, rfl⟩ := hrel
    by_cases hlt : k < L
    · obtain ⟨k0, k1⟩ := HC.out k hlt
      have hs : lastO sp h (k + 1) = if (sp.getD k d0).1 ≤ h then (sp.getD k d0).2 else lastO sp h k := rfl
      obtain ⟨p, hp⟩ : ∃ p, (sp.getD k d0).1 = p := ⟨_, rfl⟩
      obtain ⟨s, hs0⟩ : ∃ p, (sp.getD k d0).2 = p := ⟨_, rfl⟩
      rw [hp, hs0] at hs; rw [hp] at k0; rw [hs0] at k1
      obtain ⟨o, ho⟩ : ∃ o, lastO sp h k = o := ⟨_, rfl⟩
      rw [ho] at hs ⊢
      have hkl : ((k : Int) < (L : Int)) = True := by simp; omega
      have hkl' : (k : Int) < (L : Int) := by omega
      have HS := Lib.hid hs
      clear hp hs0 ho hs
      by_cases hph : p ≤ h
      · go_wp2_with fail
        go_round
        case rel => exact ⟨k + 1, by omega, by go_num, by rw [HS.out, if_pos hph]⟩
        case measure => simp [intOf]; omega
      · go_wp2_with fail
        go_round
        case rel => exact ⟨k + 1, by omega, by go_num, by rw [HS.out, if_neg hph]⟩
        case measure => simp [intOf]; omega
    · obtain rfl : k = L := by omega
      go_wp2_with fail
      go_ret
      exact ⟨rfl, rfl⟩
end Go.Proofs.YthcmcjoenepkbaaGreat
