/- Contracts: ref27.Map's end, Owner, whose, add. Contracts: ref27.Map's whose; ref27's add. -/
import Derived.Test.YthcmcjoenepkbaaGreatDoorWd
import Derived.Test.YthcmcjoenepkbaaGreatDoorSmM
namespace Go.Proofs.YthcmcjoenepkbaaGreatDoor
open Go Go.RowKit Go.Maps

/-- What the walk of the document's map wants. -/
structure Canon (sp : List (Nat × Nat)) : Prop where
  pos : 1 ≤ sp.length
  len : sp.length ≤ 10000
  from_ : ∀ i, 1 ≤ i → i < sp.length → 1 ≤ (sp.getD i d0).1
  b64 : ∀ i, i < sp.length → (sp.getD i d0).1 < M64
theorem SpI.canon {O : Nat → Nat} {sp : List (Nat × Nat)} (h : SpI O sp M64) (hl : sp.length ≤ 10000) : Canon sp := by
  refine ⟨List.length_pos_iff.2 h.ne, hl, fun i h1 h2 => ?_, fun i hi => h.lt _ (by rw [List.getD_eq_getElem?_getD, List.getElem?_eq_getElem hi]; exact List.getElem_mem _)⟩
  have := List.pairwise_iff_getElem.1 h.rise 0 i (by omega) h2 (by omega)
  have h2 : (sp.getD 0 d0).1 < (sp.getD i d0).1 := by
    rw [List.getD_eq_getElem?_getD, List.getD_eq_getElem?_getD, List.getElem?_eq_getElem (by omega : 0 < sp.length), List.getElem?_eq_getElem h2]; exact this
  omega
theorem Canon.endLt {sp : List (Nat × Nat)} (h : Canon sp) (k : Nat) : endOf sp k < M64 := by
  unfold endOf
  split
  · have := h.b64 (k + 1) ‹_›; omega
  · decide

set_option maxRecDepth 100000 in
set_option maxHeartbeats 1000000 in
theorem d27_end (m e k : Nat) (sp : List (Nat × Nat)) (w : World) (hD : DocAt w m e sp) (hC : Canon sp) (hk : k < sp.length) :
    Calls Tryz.prog 53 #[.pointer (some ⟨m, 0, none⟩), .int .i64 (k : Int)] w fun en w' => en = .returned (.int .u64 ((endOf sp k : Nat) : Int)) ∧ w' = w := by
  obtain ⟨g, c, h1, h2, h3⟩ := hD
  have c1 : w.cell? ⟨m, 1, none⟩ = some (.slice (some ⟨g, 0, none⟩) sp.length c) := cell_of h1 1
  have hle := hC.len
  obtain ⟨L, hL⟩ : ∃ L, sp.length = L := ⟨_, rfl⟩
  obtain ⟨k1, hk1⟩ : ∃ k1, k + 1 = k1 := ⟨_, rfl⟩
  have hki : (k : Int) + 1 = (k1 : Int) := by omega
  rw [hL] at c1
  clear h1 h2
  by_cases hlt : k1 < L
  · obtain ⟨q0, _⟩ := h3 k1 (by omega)
    have hf := hC.from_ k1 (by omega) (by omega)
    have hb := hC.b64 k1 (by omega)
    have he : endOf sp k = (sp.getD k1 d0).1 - 1 := by unfold endOf; rw [hk1, hL, if_pos hlt]
    obtain ⟨q, hq⟩ : ∃ q, (sp.getD k1 d0).1 = q := ⟨_, rfl⟩
    rw [hq] at he q0 hf hb
    obtain ⟨q1, hq1⟩ : ∃ q1, q - 1 = q1 := ⟨_, rfl⟩
    have hqi : (q : Int) - 1 = (q1 : Int) := by omega
    have hq64 : (q1 : Int) < 18446744073709551616 := by have : q < 18446744073709551616 := hb; omega
    have hw : IntKind.u64.wrap (q1 : Int) = (q1 : Int) := by rw [IntKind.wrap_u64]; omega
    rw [he, hq1]
    have hlti : ((k1 : Int) < (L : Int)) = True := by simp; omega
    have hlti' : (k1 : Int) < (L : Int) := by omega
    clear h3 hC hq he hL hk1 hq1 hq64 hb
    go_enter Tryz.func53, Tryz.ntmps53
    go_wp2_with fail
    go_ret
    exact ⟨rfl, rfl⟩
  · have he : endOf sp k = 18446744073709551615 := by unfold endOf; rw [hk1, hL, if_neg hlt]
    rw [he]
    have hlti : ((k1 : Int) < (L : Int)) = False := by simp; omega
    have hlti' : ¬ (k1 : Int) < (L : Int) := by omega
    clear h3 hC he hL hk1
    go_enter Tryz.func53, Tryz.ntmps53
    go_wp2_with fail
    go_ret
    exact ⟨rfl, rfl⟩

/-- The last of n spans that begins at h or ahead of it. -/
def lastO (sp : List (Nat × Nat)) (h : Nat) : Nat → Nat
  | 0 => 0
  | k + 1 => if (sp.getD k d0).1 ≤ h then (sp.getD k d0).2 else lastO sp h k
theorem lastO_law {O : Nat → Nat} {sp : List (Nat × Nat)} (hS : SpI O sp M64) {h : Nat} (hh : h < M64) : lastO sp h sp.length = O h := by
  obtain ⟨k, hk, a, b⟩ := cover hS hh
  have key : ∀ n, k < n → n ≤ sp.length → lastO sp h n = (sp.getD k d0).2 := by
    intro n
    induction n with
    | zero => intro h1; omega
    | succ n ih =>
      intro h1 h2
      unfold lastO
      by_cases e : n = k
      · subst e; rw [if_pos a]
      · rw [if_neg, ih (by omega) (by omega)]
        have hr := List.pairwise_iff_getElem.1 hS.rise
        have hg : ∀ i, (hi : i < sp.length) → sp.getD i d0 = sp[i] := fun i hi => by rw [List.getD_eq_getElem?_getD, List.getElem?_eq_getElem hi]; rfl
        have h3 := (endOf_next hS hk).2
        rw [if_pos (by omega)] at h3
        have h4 : (sp.getD (k + 1) d0).1 ≤ (sp.getD n d0).1 := by
          by_cases e2 : n = k + 1
          · rw [e2]; exact Nat.le_refl _
          · rw [hg _ (by omega), hg _ (by omega)]; exact Nat.le_of_lt (hr (k + 1) n (by omega) (by omega) (by omega))
        omega
  rw [key _ hk (Nat.le_refl _), hS.at_ hk a b]

set_option maxRecDepth 100000 in
set_option maxHeartbeats 2000000 in
theorem d27_Owner (m e h : Nat) (sp : List (Nat × Nat)) (w : World) (hD : DocAt w m e sp) (hl : sp.length ≤ 10000) :
    Calls Tryz.prog 55 #[.pointer (some ⟨m, 0, none⟩), .int .u64 (h : Int)] w fun en w' => en = .returned (.int .u32 ((lastO sp h sp.length : Nat) : Int)) ∧ w = w' := by
  obtain ⟨g, c, h1, h2, h3⟩ := hD
  have c1 : w.cell? ⟨m, 1, none⟩ = some (.slice (some ⟨g, 0, none⟩) sp.length c) := cell_of h1 1
  obtain ⟨L, hL⟩ : ∃ L, sp.length = L := ⟨_, rfl⟩
  rw [hL] at c1 h3 hl ⊢
  have HC := Lib.hid h3
  clear h1 h2 h3 hL
  go_enter Tryz.func55, Tryz.ntmps55
  go_wp2_with fail
  go_loop [5, 6] (fun s i => ∃ k : Nat, k ≤ L ∧ i = .int .i64 k ∧ s = .int .u32 ((lastO sp h k : Nat) : Int)) (fun _ i => L - (intOf i).toNat)
  case atStart => exact ⟨0, Nat.zero_le _, rfl, rfl⟩
  case round =>
    obtain ⟨k, hk, rfl, rfl⟩ := hrel
    by_cases hlt : k < L
    · obtain ⟨k0, k1⟩ := HC.out k hlt
      have hs : lastO sp h (k + 1) = if (sp.getD k d0).1 ≤ h then (sp.getD k d0).2 else lastO sp h k := rfl
      obtain ⟨p, hp⟩ : ∃ p, (sp.getD k d0).1 = p := ⟨_, rfl⟩
      obtain ⟨s, hs0⟩ : ∃ p, (sp.getD k d0).2 = p := ⟨_, rfl⟩
      rw [hp, hs0] at hs; rw [hp] at k0; rw [hs0] at k1
      obtain ⟨o, ho⟩ : ∃ o, lastO sp h k = o := ⟨_, rfl⟩
      rw [ho] at hs ⊢
      have hkl : ((k : Int) < (L : Int)) = True := by simp; omega
      have hkl' : (k : Int) < (L : Int) := by omega
      have HS := Lib.hid hs
      clear hp hs0 ho hs
      by_cases hph : p ≤ h
      · go_wp2_with fail
        go_round
        case rel => exact ⟨k + 1, by omega, by go_num, by rw [HS.out, if_pos hph]⟩
        case measure => simp [intOf]; omega
      · go_wp2_with fail
        go_round
        case rel => exact ⟨k + 1, by omega, by go_num, by rw [HS.out, if_neg hph]⟩
        case measure => simp [intOf]; omega
    · obtain rfl : k = L := by omega
      go_wp2_with fail
      go_ret
      exact ⟨rfl, rfl⟩
end Go.Proofs.YthcmcjoenepkbaaGreatDoor

namespace Go.Proofs.YthcmcjoenepkbaaGreatDoor
open Go Go.RowKit Go.Maps

/-- What add leaves. -/
def AddD (base c s : Nat) (sp : List (Nat × Nat)) (w : World) (e : Ending) (w' : World) : Prop := ∃ a cp, e = .returned (.slice a (addS sp c s).length cp) ∧ w'.ownsRow base 99 2 (.slice a (addS sp c s).length cp) (addS sp c s).length (spV (addS sp c s)) ∧ Below base w w'

set_option maxRecDepth 100000 in
set_option maxHeartbeats 2000000 in
theorem d27_add (base c s n cp : Nat) (a : Option Addr) (sp : List (Nat × Nat)) (w : World) (hn : sp.length = n) (hl2 : n ≤ 100000) (hbw : base ≤ w.heap.size) (hrow : w.ownsRow base 99 2 (.slice a n cp) n (spV sp)) :
    Calls Tryz.prog 54 #[.slice a n cp, .int .u64 (c : Int), .int .u32 (s : Int)] w (AddD base c s sp w) := by
  obtain ⟨i0, hi, hz0, hz1, hz2⟩ := info_parts infoSpan
  have HN := Lib.hid hn; have HR := Lib.hid hrow
  have hab := own_above2 hrow
  by_cases hn0 : n = 0
  · have hsp : sp = [] := List.length_eq_zero_iff.1 (by omega)
    have HADS := Lib.hid (show addS sp c s = sp ++ [(c, s)] by unfold addS; rw [if_neg (fun h => h.1 hsp)])
    have hn0b : ((n : Int) > 0) = False := by simp; omega
    have hn0c : ¬ (0 : Int) < (n : Int) := by omega
    have HAB := Lib.hid hab; have HN0 := Lib.hid hn0
    clear hn hab hrow hsp hn0
    go_enter Tryz.func54, Tryz.ntmps54
    go_wp2_with (
      at_builtin
      refine wpList_append_lies _ rfl (.tmp 22) (.tmp 26) 83 rfl base 99 i0 (.agg #[.int .u64 0, .int .u32 0]) 2 16 Tryz.underlying83 hi hz0 hz1 hz2 rfl (by decide) _ n (spV sp) rfl (rowBelow HR.out ((Below.refl _ _).alloc (Nat.le_refl _) _)) ⟨w.heap.size, 0, none⟩ 1 1 [.int .u64 (c : Int), .int .u32 (s : Int)] rfl rfl (World.news_of_block (MapKept.heap_alloc _ _).1) (two_one (c, s)) (by decide) (by unfold maxLen; omega) (by omega) (by simp; omega) (w.heap.size + 1) (by simp) ?go
      intro g cp w8 hown8 hg8 _hat _hlt8
      have HB8 := Lib.hid ((((Below.refl base w).alloc hbw _).grown hg8 (by simp; omega) (fun j hj => HAB.out j hj)))
      have HO8 := Lib.hid hown8
      clear hown8 hg8 _hat _hlt8)
    go_ret
    have hlen : (addS sp c s).length = n + 1 := by rw [HADS.out, List.length_append, HN.out]; rfl
    refine ⟨_, _, by rw [hlen]; rfl, ?_, HB8.out⟩
    rw [hlen, HADS.out, spV_snoc]; exact HO8.out
  · obtain ⟨g0, rfl⟩ : ∃ g0, a = some ⟨g0, 0, none⟩ := by
      rcases hrow.2 with ⟨_, h⟩ | ⟨g', cap', cur, h', _⟩
      · exact absurd h hn0
      · simp only [Value.slice.injEq] at h'; exact ⟨g', h'.1⟩
    obtain ⟨nl, hnl⟩ : ∃ nl, n - 1 = nl := ⟨_, rfl⟩
    have hn0b : ((n : Int) > 0) = True := by simp; omega
    have hn0c : (0 : Int) < (n : Int) := by omega
    have hnli : (n : Int) - 1 = (nl : Int) := by omega
    have hnln : (nl : Int) < (n : Int) := by omega
    obtain ⟨s0, hs0⟩ : ∃ s0, (sp.getD (sp.length - 1) d0).2 = s0 := ⟨_, rfl⟩
    have hlast : w.cell? ⟨g0, nl * 2 + 1, none⟩ = some (.int .u32 (s0 : Int)) := by
      rw [World.ownsRow.cellAt hrow (nl * 2 + 1) (by omega), (spV_at sp nl (by rw [hn]; omega)).2, ← hs0, hn, hnl]
    have hspn : sp ≠ [] := fun e => by rw [e] at hn; simp at hn; omega
    have HAB := Lib.hid hab
    by_cases hss : s0 = s
    · have hsb : ((s0 : Int) == (s : Int)) = true := by simp [hss]
      have HADS := Lib.hid (show addS sp c s = sp from by unfold addS; rw [if_pos ⟨hspn, by rw [hs0, hss]⟩])
      clear hss hspn hs0 hnl hab hrow hn0 hn
      go_enter Tryz.func54, Tryz.ntmps54
      go_wp2_with fail
      go_ret
      refine ⟨_, _, by rw [HADS.out, HN.out]; rfl, ?_, Below.refl _ _⟩
      rw [HADS.out, HN.out]; exact HR.out
    · have hsb : ((s0 : Int) == (s : Int)) = false := by simp; omega
      have HADS := Lib.hid (show addS sp c s = sp ++ [(c, s)] from by unfold addS; rw [if_neg (fun h => hss (by rw [← hs0]; exact h.2))])
      clear hss hspn hs0 hnl hab hrow hn0 hn
      go_enter Tryz.func54, Tryz.ntmps54
      go_wp2_with (
        at_builtin
        refine wpList_append_lies _ rfl (.tmp 22) (.tmp 26) 83 rfl base 99 i0 (.agg #[.int .u64 0, .int .u32 0]) 2 16 Tryz.underlying83 hi hz0 hz1 hz2 rfl (by decide) _ n (spV sp) rfl (rowBelow HR.out ((Below.refl _ _).alloc (Nat.le_refl _) _)) ⟨w.heap.size, 0, none⟩ 1 1 [.int .u64 (c : Int), .int .u32 (s : Int)] rfl rfl (World.news_of_block (MapKept.heap_alloc _ _).1) (two_one (c, s)) (by decide) (by unfold maxLen; omega) (by omega) (by simp; omega) (w.heap.size + 1) (by simp) ?go1
        intro g cp w8 hown8 hg8 _hat _hlt8
        have HB8 := Lib.hid ((((Below.refl base w).alloc hbw _).grown hg8 (by simp; omega) (fun j hj => HAB.out j hj)))
        have HO8 := Lib.hid hown8
        clear hown8 hg8 _hat _hlt8)
      go_ret
      have hlen : (addS sp c s).length = n + 1 := by rw [HADS.out, List.length_append, HN.out]; rfl
      refine ⟨_, _, by rw [hlen]; rfl, ?_, HB8.out⟩
      rw [hlen, HADS.out, spV_snoc]; exact HO8.out

/-- Of the first n spans all that meet the range are s's. -/
def AllW (sp : List (Nat × Nat)) (f t s n : Nat) : Prop := ∀ k, k < n → (sp.getD k d0).1 ≤ t → f ≤ endOf sp k → (sp.getD k d0).2 = s
def WhoseG (sp : List (Nat × Nat)) (f t s : Nat) (w : World) (e : Ending) (w' : World) : Prop := ((AllW sp f t s sp.length ∧ e = .returned (.int .u32 (s : Int))) ∨ (¬ AllW sp f t s sp.length ∧ e = .returned (.int .u32 0))) ∧ Below w.heap.size w w'
theorem DocAt.drew {w : World} {m e : Nat} {sp : List (Nat × Nat)} (h : DocAt w m e sp) (n : Nat) : DocAt (w.drewN n) m e sp := h.below (below_dr (Below.refl _ _) n)

set_option maxRecDepth 100000 in
set_option maxHeartbeats 4000000 in
theorem d27_whose (m e f t : Nat) (sp : List (Nat × Nat)) (w : World) (hD : DocAt w m e sp) (hC : Canon sp) :
    Calls Tryz.prog 52 #[.pointer (some ⟨m, 0, none⟩), .agg #[.int .u64 (f : Int), .int .u64 (t : Int)]] w (WhoseG sp f t (lastO sp f sp.length) w) := by
  have hbox : Below w.heap.size w (w.alloc (.cells #[.int .u64 (f : Int), .int .u64 (t : Int)] 27)) := (Below.refl _ _).alloc (Nat.le_refl _) _
  have hO := d27_Owner m e f sp _ (hD.below hbox) hC.len
  have hend := fun (k : Nat) (hk : k < sp.length) (w' : World) (hb : Below w.heap.size w w') => d27_end m e k sp w' (hD.below hb) hC hk
  obtain ⟨s, hs⟩ : ∃ s, lastO sp f sp.length = s := ⟨_, rfl⟩
  rw [hs] at hO ⊢
  obtain ⟨g, c, h1, h2, h3⟩ := hD
  have hkeep := fun (w' : World) (hb : Below w.heap.size w w') => show w'.cell? ⟨m, 1, none⟩ = some (.slice (some ⟨g, 0, none⟩) sp.length c) ∧ ∀ i, i < sp.length → w'.cell? ⟨g, i * 2, none⟩ = some (.int .u64 ((sp.getD i d0).1 : Int)) ∧ w'.cell? ⟨g, i * 2 + 1, none⟩ = some (.int .u32 ((sp.getD i d0).2 : Int)) from
    ⟨cell_of ((hb.block _ (lt_of_block h1)).trans h1) 1, fun i hi => ⟨(hb.cell (p := ⟨g, i * 2, none⟩) h2).trans (h3 i hi).1, (hb.cell (p := ⟨g, i * 2 + 1, none⟩) h2).trans (h3 i hi).2⟩⟩
  have hle := hC.len
  obtain ⟨L, hL⟩ : ∃ L, sp.length = L := ⟨_, rfl⟩
  unfold WhoseG
  rw [hL] at hkeep hend hle ⊢
  have HO := Lib.hid hO; have HEND := Lib.hid hend; have HKEEP := Lib.hid hkeep
  clear hO hend hkeep h1 h2 h3 hs hC hL hbox
  go_enter Tryz.func52, Tryz.ntmps52
  go_wp2_with fail
  refine HO.out.mono ?_
  rintro en w1 ⟨rfl, hw1⟩
  have hb1 : Below w.heap.size w w1 := by rw [← hw1]; exact (Below.refl _ _).alloc (Nat.le_refl _) _
  have x0 : w1.cell? ⟨w.heap.size, 0, none⟩ = some (.int .u64 (f : Int)) := by rw [← hw1]; exact cell_of (MapKept.heap_alloc _ _).1 0
  have x1 : w1.cell? ⟨w.heap.size, 1, none⟩ = some (.int .u64 (t : Int)) := by rw [← hw1]; exact cell_of (MapKept.heap_alloc _ _).1 1
  obtain ⟨c1, hcc⟩ := HKEEP.out w1 hb1
  have HC := Lib.hid hcc; have HB1 := Lib.hid hb1
  clear hcc hb1 hw1 HO
  go_wp2_with fail
  go_loopw [6] (fun i wr => ∃ k : Nat, k ≤ L ∧ i = .int .i64 k ∧ Hid (AllW sp f t s k) ∧ ∃ n, wr = w1.drewN n) (fun i _ => L - (intOf i).toNat)
  case atStart => exact ⟨0, Nat.zero_le _, rfl, Lib.hid (fun k hk => by omega), 0, rfl⟩
  case round =>
    obtain ⟨k, hk, rfl, HA, nd, rfl⟩ := hrel
    have hbd : Below w.heap.size w (w1.drewN nd) := below_dr HB1.out nd
    by_cases hlt : k < L
    · obtain ⟨k0, k1⟩ := HC.out k hlt
      have HE := Lib.hid (fun (n : Nat) => HEND.out k hlt (w1.drewN n) (below_dr HB1.out n))
      have hbad : (sp.getD k d0).1 ≤ t → f ≤ endOf sp k → (sp.getD k d0).2 ≠ s → ¬ AllW sp f t s L := fun a b c h => c (h k hlt a b)
      have hgood : ((sp.getD k d0).1 ≤ t → f ≤ endOf sp k → (sp.getD k d0).2 = s) → AllW sp f t s (k + 1) := fun h j hj a b => by
        by_cases e : j = k
        · subst e; exact h a b
        · exact HA.out j (by omega) a b
      obtain ⟨p, hp⟩ : ∃ p, (sp.getD k d0).1 = p := ⟨_, rfl⟩
      obtain ⟨q, hq⟩ : ∃ p, (sp.getD k d0).2 = p := ⟨_, rfl⟩
      obtain ⟨en, hen⟩ : ∃ p, endOf sp k = p := ⟨_, rfl⟩
      rw [hp, hq, hen] at hbad hgood; rw [hp] at k0; rw [hq] at k1; rw [hen] at HE
      have HBAD := Lib.hid hbad; have HGOOD := Lib.hid hgood; have HBD := Lib.hid hbd
      have hkl : ((k : Int) < (L : Int)) = True := by simp; omega
      have hkl' : (k : Int) < (L : Int) := by omega
      clear hbad hgood hp hq hen hbd
      by_cases hpt : p ≤ t
      · by_cases hfe : f ≤ en
        · by_cases hqs : q = s
          · have hqb : ((q : Int) != (s : Int)) = false := by simp [hqs]
            have HG := Lib.hid (HGOOD.out (fun _ _ => hqs))
            have hd1 : decide ((p : Int) ≤ (t : Int)) = true := by simp; omega
            have hd2 : decide ((f : Int) ≤ (en : Int)) = true := by simp; omega
            clear hqs
            go_wp2_with fail
            go_quiet (exact (HE.out _).mono (fun e wz h => ⟨h.1, ⟨_, h.2⟩⟩))
            go_wp2_with fail
            go_roundw
            case rel => exact ⟨k + 1, by omega, by go_num, HG, _, rfl⟩
            case measure => simp [intOf]; omega
          · have hqb : ((q : Int) != (s : Int)) = true := by simp; omega
            have HG := Lib.hid (HBAD.out hpt hfe hqs)
            have hd1 : decide ((p : Int) ≤ (t : Int)) = true := by simp; omega
            have hd2 : decide ((f : Int) ≤ (en : Int)) = true := by simp; omega
            clear hqs
            go_wp2_with fail
            go_quiet (exact (HE.out _).mono (fun e wz h => ⟨h.1, ⟨_, h.2⟩⟩))
            go_wp2_with fail
            go_ret
            exact ⟨Or.inr ⟨HG.out, rfl⟩, below_dr HBD.out _⟩
        · have HG := Lib.hid (HGOOD.out (fun _ h => absurd h hfe))
          have hd1 : decide ((p : Int) ≤ (t : Int)) = true := by simp; omega
          have hd2 : decide ((f : Int) ≤ (en : Int)) = false := by simp; omega
          go_wp2_with fail
          go_quiet (exact (HE.out _).mono (fun e wz h => ⟨h.1, ⟨_, h.2⟩⟩))
          go_wp2_with fail
          go_roundw
          case rel => exact ⟨k + 1, by omega, by go_num, HG, _, rfl⟩
          case measure => simp [intOf]; omega
      · have HG := Lib.hid (HGOOD.out (fun h => absurd h hpt))
        have hd1 : decide ((p : Int) ≤ (t : Int)) = false := by simp; omega
        go_wp2_with fail
        go_quiet (exact (HE.out _).mono (fun e wz h => ⟨h.1, ⟨_, h.2⟩⟩))
        go_wp2_with fail
        go_roundw
        case rel => exact ⟨k + 1, by omega, by go_num, HG, _, rfl⟩
        case measure => simp [intOf]; omega
    · obtain rfl : k = L := by omega
      have HBD := Lib.hid hbd
      clear hbd
      go_wp2_with fail
      go_ret
      exact ⟨Or.inl ⟨HA.out, rfl⟩, HBD.out⟩
end Go.Proofs.YthcmcjoenepkbaaGreatDoor
