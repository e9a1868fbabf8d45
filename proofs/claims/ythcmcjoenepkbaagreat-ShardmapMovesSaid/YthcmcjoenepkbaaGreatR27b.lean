/- Contracts: ref27.Map's whose; ref27's add. -/
import Derived.Test.YthcmcjoenepkbaaGreatR27a
namespace Go.Proofs.YthcmcjoenepkbaaGreat
open Go Go.RowKit Go.Maps

/-- What add leaves. -/
def AddD (base c s : Nat) (sp : List (Nat × Nat)) (w : World) (e : Ending) (w' : World) : Prop := ∃ a cp, e = .returned (.slice a (addS sp c s).length cp) ∧ w'.ownsRow base 42 2 (.slice a (addS sp c s).length cp) (addS sp c s).length (spV (addS sp c s)) ∧ Below base w w'

set_option maxRecDepth 100000 in
set_option maxHeartbeats 2000000 in
theorem d27_add (base c s n cp : Nat) (a : Option Addr) (sp : List (Nat × Nat)) (w : World) (hn : sp.length = n) (hl2 : n ≤ 100000) (hbw : base ≤ w.heap.size) (hrow : w.ownsRow base 42 2 (.slice a n cp) n (spV sp)) :
    Calls Tryz.prog 33 #[.slice a n cp, .int .u64 (c : Int), .int .u32 (s : Int)] w (AddD base c s sp w) := by
  obtain ⟨i0, hi, hz0, hz1, hz2⟩ := info_parts infoSpan
  have HN := Lib.hid hn; have HR := Lib.hid hrow
  have hab := own_above2 hrow
  by_cases hn0 : n = 0
  · have hsp : sp = [] := List.length_eq_zero_iff.1 (by omega)
    have HADS := Lib.hid (show addS sp c s = sp ++ [(c, s)] by unfold addS; rw [if_neg (fun h => h.1 hsp)])
    have hn0b : ((n : Int) > 0) = False := by simp; omega
    have hn0c : ¬ (0 : Int) < (n : Int) := by omega
    have HAB := Lib.hid hab; have HN0 := Lib.hid hn0
    clear hn hab hrow hsp hn0
    go_enter Tryz.func33, Tryz.ntmps33
    go_wp2_with (
      at_builtin
      refine wpList_append_lies _ rfl (.tmp 22) (.tmp 26) 39 rfl base 42 i0 (.agg #[.int .u64 0, .int .u32 0]) 2 16 Tryz.underlying39 hi hz0 hz1 hz2 rfl (by decide) _ n (spV sp) rfl (rowBelow HR.out ((Below.refl _ _).alloc (Nat.le_refl _) _)) ⟨w.heap.size, 0, none⟩ 1 1 [.int .u64 (c : Int), .int .u32 (s : Int)] rfl rfl (World.news_of_block (MapKept.heap_alloc _ _).1) (two_one (c, s)) (by decide) (by unfold maxLen; omega) (by omega) (by simp; omega) (w.heap.size + 1) (by simp) ?go
      intro g cp w8 hown8 hg8 _hat _hlt8
      have HB8 := Lib.hid ((((Below.refl base w).alloc hbw _).grown hg8 (by simp; omega) (fun j hj => HAB.out j hj)))
      have HO8 := Lib.hid hown8
      clear hown8 hg8 _hat _hlt8)
    go_ret
    have hlen : (addS sp c s).length = n + 1 := by rw [HADS.out, List.length_append, HN.out]; rfl
    refine ⟨_, _, by rw [hlen]; rfl, ?_, HB8.out⟩
    rw [hlen, HADS.out, spV_snoc]; exact HO8.out
  · obtain ⟨g0, rfl⟩ : ∃ g0, a = some ⟨g0, 0, none⟩ := by
      rcases hrow.2 with ⟨_, h⟩ | ⟨g', cap', cur, h', _⟩
      · exact absurd h hn0
      · simp only [Value.slice.injEq] at h'; exact ⟨g', h'.1⟩
    obtain ⟨nl, hnl⟩ : ∃ nl, n - 1 = nl := ⟨_, rfl⟩
    have hn0b : ((n : Int) > 0) = True := by simp; omega
    have hn0c : (0 : Int) < (n : Int) := by omega
    have hnli : (n : Int) - 1 = (nl : Int) := by omega
    have hnln : (nl : Int) < (n : Int) := by omega
    obtain ⟨s0, hs0⟩ : ∃ s0, (sp.getD (sp.length - 1) d0).2 = s0 := ⟨_, rfl⟩
    have hlast : w.cell? ⟨g0, nl * 2 + 1, none⟩ = some (.int .u32 (s0 : Int)) := by
      rw [World.ownsRow.cellAt hrow (nl * 2 + 1) (by omega), (spV_at sp nl (by rw [hn]; omega)).2, ← hs0, hn, hnl]
    have hspn : sp ≠ [] := fun e => by rw [e] at hn; simp at hn; omega
    have HAB := Lib.hid hab
    by_cases hss : s0 = s
    · have hsb : ((s0 : Int) == (s : Int)) = true := by simp [hss]
      have HADS := Lib.hid (show addS sp c s = sp from by unfold addS; rw [if_pos ⟨hspn, by rw [hs0, hss]⟩])
      clear hss hspn hs0 hnl hab hrow hn0 hn
      go_enter Tryz.func33, Tryz.ntmps33
      go_wp2_with fail
      go_ret
      refine ⟨_, _, by rw [HADS.out, HN.out]; rfl, ?_, Below.refl _ _⟩
      rw [HADS.out, HN.out]; exact HR.out
    · have hsb : ((s0 : Int) == (s : Int)) = false := by simp; omega
      have HADS := Lib.hid (show addS sp c s = sp ++ [(c, s)] from by unfold addS; rw [if_neg (fun h => hss (by rw [← hs0]; exact h.2))])
      clear hss hspn hs0 hnl hab hrow hn0 hn
      go_enter Tryz.func33, Tryz.ntmps33
      go_wp2_with (
        at_builtin
        refine wpList_append_lies _ rfl (.tmp 22) (.tmp 26) 39 rfl base 42 i0 (.agg #[.int .u64 0, .int .u32 0]) 2 16 Tryz.underlying39 hi hz0 hz1 hz2 rfl (by decide) _ n (spV sp) rfl (rowBelow HR.out ((Below.refl _ _).alloc (Nat.le_refl _) _)) ⟨w.heap.size, 0, none⟩ 1 1 [.int .u64 (c : Int), .int .u32 (s : Int)] rfl rfl (World.news_of_block (MapKept.heap_alloc _ _).1) (two_one (c, s)) (by decide) (by unfold maxLen; omega) (by omega) (by simp; omega) (w.heap.size + 1) (by simp) ?go1
        intro g cp w8 hown8 hg8 _hat _hlt8
        have HB8 := Lib.hid ((((Below.refl base w).alloc hbw _).grown hg8 (by simp; omega) (fun j hj => HAB.out j hj)))
        have HO8 := Lib.hid hown8
        clear hown8 hg8 _hat _hlt8)
      go_ret
      have hlen : (addS sp c s).length = n + 1 := by rw [HADS.out, List.length_append, HN.out]; rfl
      refine ⟨_, _, by rw [hlen]; rfl, ?_, HB8.out⟩
      rw [hlen, HADS.out, spV_snoc]; exact HO8.out

/-- Of the first n spans all that meet the range are s's. -/
def AllW (sp : List (Nat × Nat)) (f t s n : Nat) : Prop := ∀ k, k < n → (sp.getD k d0).1 ≤ t → f ≤ endOf sp k → (sp.getD k d0).2 = s
def WhoseG (sp : List (Nat × Nat)) (f t s : Nat) (w : World) (e : Ending) (w' : World) : Prop := ((AllW sp f t s sp.length ∧ e = .returned (.int .u32 (s : Int))) ∨ (¬ AllW sp f t s sp.length ∧ e = .returned (.int .u32 0))) ∧ Below w.heap.size w w'
theorem DocAt.drew {w : World} {m e : Nat} {sp : List (Nat × Nat)} (h : DocAt w m e sp) (n : Nat) : DocAt (w.drewN n) m e sp := h.below (below_dr (Below.refl _ _) n)

set_option maxRecDepth 100000 in
set_option maxHeartbeats 4000000 in
theorem d27_whose (m e f t : Nat) (sp : List (Nat × Nat)) (w : World) (hD : DocAt w m e sp) (hC : Canon sp) :
    Calls Tryz.prog 31 #[.pointer (some ⟨m, 0, none⟩), .agg #[.int .u64 (f : Int), .int .u64 (t : Int)]] w (WhoseG sp f t (lastO sp f sp.length) w) := by
  have hbox : Below w.heap.size w (w.alloc (.cells #[.int .u64 (f : Int), .int .u64 (t : Int)] 24)) := (Below.refl _ _).alloc (Nat.le_refl _) _
  have hO := d27_Owner m e f sp _ (hD.below hbox) hC.len
  have hend := fun (k : Nat) (hk : k < sp.length) (w' : World) (hb : Below w.heap.size w w') => d27_end m e k sp w' (hD.below hb) hC hk
  obtain ⟨s, hs⟩ : ∃ s, lastO sp f sp.length = s := ⟨_, rfl⟩
  rw [hs] at hO ⊢
  obtain ⟨g, c, h1, h2, h3⟩ := hD
  have hkeep := fun (w' : World) (hb : Below w.heap.size w w') => show w'.cell? ⟨m, 1, none⟩ = some (.slice (some ⟨g, 0, none⟩) sp.length c) ∧ ∀ i, i < sp.length → w'.cell? ⟨g, i * 2, none⟩ = some (.int .u64 ((sp.getD i d0).1 : Int)) ∧ w'.cell? ⟨g, i * 2 + 1, none⟩ = some (.int .u32 ((sp.getD i d0).2 : Int)) from
    ⟨cell_of ((hb.block _ (lt_of_block h1)).trans h1) 1, fun i hi => ⟨(hb.cell (p := ⟨g, i * 2, none⟩) h2).trans (h3 i hi).1, (hb.cell (p := ⟨g, i * 2 + 1, none⟩) h2).trans (h3 i hi).2⟩⟩
  have hle := hC.len
  obtain ⟨L, hL⟩ : ∃ L, sp.length = L := ⟨_, rfl⟩
  unfold WhoseG
  rw [hL] at hkeep hend hle ⊢
  have HO := Lib.hid hO; have HEND := Lib.hid hend; have HKEEP := Lib.hid hkeep
  clear hO hend hkeep h1 h2 h3 hs hC hL hbox
  go_enter Tryz.func31, Tryz.ntmps31
  go_wp2_with fail
  refine HO.out.mono ?_
  rintro en w1 ⟨rfl, hw1⟩
  have hb1 : Below w.heap.size w w1 := by rw [← hw1]; exact (Below.refl _ _).alloc (Nat.le_refl _) _
  have x0 : w1.cell? ⟨w.heap.size, 0, none⟩ = some (.int .u64 (f : Int)) := by rw [← hw1]; exact cell_of (MapKept.heap_alloc _ _).1 0
  have x1 : w1.cell? ⟨w.heap.size, 1, none⟩ = some (.int .u64 (t : Int)) := by rw [← hw1]; exact cell_of (MapKept.heap_alloc _ _).1 1
  obtain ⟨c1, hcc⟩ := HKEEP.out w1 hb1
  have HC := Lib.hid hcc; have HB1 := Lib.hid hb1
  clear hcc hb1 hw1 HO
  go_wp2_with fail
  go_loopw [6] (fun i wr => ∃ k : Nat, k ≤ L ∧ i = .int .i64 k ∧ Hid (AllW sp f t s k) ∧ ∃ n, wr = w1.drewN n) (fun i _ => L - (intOf i).toNat)
  case atStart => exact ⟨0, Nat.zero_le _, rfl, Lib.hid (fun k hk => by omega), 0, rfl⟩
  case round =>
    obtain ⟨k, hk, rfl, HA, nd, rfl⟩ := hrel
    have hbd : Below w.heap.size w (w1.drewN nd) := below_dr HB1.out nd
    by_cases hlt : k < L
    · obtain ⟨k0, k1⟩ := HC.out k hlt
      have HE := Lib.hid (fun (n : Nat) => HEND.out k hlt (w1.drewN n) (below_dr HB1.out n))
      have hbad : (sp.getD k d0).1 ≤ t → f ≤ endOf sp k → (sp.getD k d0).2 ≠ s → ¬ AllW sp f t s L := fun a b c h => c (h k hlt a b)
      have hgood : ((sp.getD k d0).1 ≤ t → f ≤ endOf sp k → (sp.getD k d0).2 = s) → AllW sp f t s (k + 1) := fun h j hj a b => by
        by_cases e : j = k
        · subst e; exact h a b
        · exact HA.out j (by omega) a b
      obtain ⟨p, hp⟩ : ∃ p, (sp.getD k d0).1 = p := ⟨_, rfl⟩
      obtain ⟨q, hq⟩ : ∃ p, (sp.getD k d0).2 = p := ⟨_, rfl⟩
      obtain ⟨en, hen⟩ : ∃ p, endOf sp k = p := ⟨_, rfl⟩
      rw [hp, hq, hen] at hbad hgood; rw [hp] at k0; rw [hq] at k1; rw [hen] at HE
      have HBAD := Lib.hid hbad; have HGOOD := Lib.hid hgood; have HBD := Lib.hid hbd
      have hkl : ((k : Int) < (L : Int)) = True := by simp; omega
      have hkl' : (k : Int) < (L : Int) := by omega
      clear hbad hgood hp hq hen hbd
      by_cases hpt : p ≤ t
      · by_cases hfe : f ≤ en
        · by_cases hqs : q = s
          · have hqb : ((q : Int) != (s : Int)) = false := by simp [hqs]
            have HG := Lib.hid (HGOOD.out (fun _ _ => hqs))
            have hd1 : decide ((p : Int) ≤ (t : Int)) = true := by simp; omega
            have hd2 : decide ((f : Int) ≤ (en : Int)) = true := by simp; omega
            clear hqs
            go_wp2_with fail
            go_quiet (exact (HE.out _).mono (fun e wz h => ⟨h.1, ⟨_, h.2⟩⟩))
            go_wp2_with fail
            go_roundw
            case rel => exact ⟨k + 1, by omega, by go_num, HG, _, rfl⟩
            case measure => simp [intOf]; omega
          · have hqb : ((q : Int) != (s : Int)) = true := by simp; omega
            have HG := Lib.hid (HBAD.out hpt hfe hqs)
            have hd1 : decide ((p : Int) ≤ (t : Int)) = true := by simp; omega
            have hd2 : decide ((f : Int) ≤ (en : Int)) = true := by simp; omega
            clear hqs
            go_wp2_with fail
            go_quiet (exact (HE.out _).mono (fun e wz h => ⟨h.1, ⟨_, h.2⟩⟩))
            go_wp2_with fail
            go_ret
            exact ⟨Or.inr ⟨HG.out, rfl⟩, below_dr HBD.out _⟩
        · have HG := Lib.hid (HGOOD.out (fun _ h => absurd h hfe))
          have hd1 : decide ((p : Int) ≤ (t : Int)) = true := by simp; omega
          have hd2 : decide ((f : Int) ≤ (en : Int)) = false := by simp; omega
          go_wp2_with fail
          go_quiet (exact (HE.out _).mono (fun e wz h => ⟨h.1, ⟨_, h.2⟩⟩))
          go_wp2_with fail
          go_roundw
          case rel => exact ⟨k + 1, by omega, by go_num, HG, _, rfl⟩
          case measure => simp [intOf]; omega
      · have HG := Lib.hid (HGOOD.out (fun h => absurd h hpt))
        have hd1 : decide ((p : Int) ≤ (t : Int)) = false := by simp; omega
        go_wp2_with fail
        go_quiet (exact (HE.out _).mono (fun e wz h => ⟨h.1, ⟨_, h.2⟩⟩))
        go_wp2_with fail
        go_roundw
        case rel => exact ⟨k + 1, by omega, by go_num, HG, _, rfl⟩
        case measure => simp [intOf]; omega
    · obtain rfl : k = L := by omega
      have HBD := Lib.hid hbd
      clear hbd
      go_wp2_with fail
      go_ret
      exact ⟨Or.inl ⟨HA.out, rfl⟩, HBD.out⟩
end Go.Proofs.YthcmcjoenepkbaaGreat
