/- Law 27: works: the document's example. -/
import Derived.Test.YthcmcjoenepkbaaGreatSm9
import Derived.Test.YthcmcjoenepkbaaGreatFir
namespace Go.Proofs.YthcmcjoenepkbaaGreat
open Go Go.RowKit Go.Maps

theorem one_owner (u : Nat) : ownS (fewS 1) 1 u = 1 := by
  have h := fewS_mem (ownS_mem (S := fewS 1) (k := 1) (h := u) (by rw [fewS_length]; exact Nat.le_refl _) (Nat.le_refl _))
  omega
theorem one_spans {sp : List (Nat × Nat)} (h : SpI (ownS (fewS 1) 1) sp M64) : sp = [(0, 1)] := by
  have h1 : SpI (ownS (fewS 1) 1) [(0, ownS (fewS 1) 1 0)] M64 := SpI.start (by decide) (fun u _ => by rw [one_owner, one_owner])
  rw [one_owner] at h1
  exact h.uniq h1
theorem split_ex : splitL [(0, 1)] 10 20 2 = [(0, 1), (10, 2), (21, 1)] := by decide
theorem ranges_ex : rgOf 2 (upto (nthRg [(0, 1), (10, 2), (21, 1)]) 3) = [(10, 20, 2)] := by decide

theorem three_cells {w : World} {B e g c : Nat} {sp : List (Nat × Nat)} (h : w.ownsRow B e 2 (.slice (some ⟨g, 0, none⟩) sp.length c) sp.length (spV sp)) (i : Nat) (p s : Nat) (hi : i < sp.length) (hp : sp.getD i d0 = (p, s)) : w.cell? ⟨g, i * 2, none⟩ = some (.int .u64 (p : Int)) ∧ w.cell? ⟨g, i * 2 + 1, none⟩ = some (.int .u32 (s : Int)) := by
  have := cells_of_row h rfl i hi
  rw [hp] at this; exact this

set_option maxRecDepth 100000 in
set_option maxHeartbeats 4000000 in
theorem law27_works (w : World) : Calls Tryz.prog 9 #[] w fun e w' => e = .returned (.bool true) ∧ Below w.heap.size w w' := by
  have HF := Lib.hid (law27_first 0 0 (by decide) (by decide) w)
  go_enter Tryz.func9, Tryz.ntmps9
  go_wp2_with fail
  refine HF.out.mono ?_
  rintro e w1 ⟨m, r, sp, rfl, hM, hD, hS, hl, hb1⟩
  obtain rfl := one_spans hS
  have hmm : ∀ w', Below w1.heap.size w1 w' → MapAt w' m 1 [(0, 1)] := fun w' h => hM.below h
  have hsplit := map_Split_do m 1 10 20 2 [(0, 1)] w1 hM (by decide) _ hS (by decide) (by decide) (by decide)
  have hfit : Fits 10 20 (ownS (fewS 1) 1 10) 2 (upto (nthRg [(0, 1)]) [(0, 1)].length) := (fits_iff (by decide) (by decide) hS).2 ⟨fun u _ _ => by rw [one_owner, one_owner], by rw [one_owner]; decide⟩
  have hsp3 : SpI (splitO (ownS (fewS 1) 1) 10 20 2) [(0, 1), (10, 2), (21, 1)] M64 := by rw [← split_ex]; exact splitL_law 2 (by decide) hS
  have HM := Lib.hid hmm; have HSP := Lib.hid hsplit; have HFIT := Lib.hid hfit; have HS3 := Lib.hid hsp3; have HB1 := Lib.hid hb1
  clear hM hD hS hl hmm hsplit hfit hsp3 hb1 HF
  go_wp2_with fail
  refine HSP.out.mono ?_
  rintro e w2 ⟨hb2, h | h | h⟩
  · exact absurd HFIT.out h.1
  · exfalso
    obtain ⟨_, h, _⟩ := h
    rw [split_ex] at h
    revert h; decide
  obtain ⟨_, _, n, rfl, hN, hn⟩ := h
  rw [one_owner]
  rw [split_ex, show (1 + 1) % M64 = 2 from rfl] at hN
  have hN' : ∀ w', Below w2.heap.size w2 w' → MapAt w' n 2 [(0, 1), (10, 2), (21, 1)] := fun w' h => hN.below h
  have hspans := map_Spans n 2 [(0, 1), (10, 2), (21, 1)] w2 hN (by decide)
  have HN := Lib.hid hN'; have HSPANS := Lib.hid hspans; have HB2 := Lib.hid hb2
  clear hN hN' hspans hb2 hn HSP HFIT
  go_wp2_with fail
  refine HSPANS.out.mono ?_
  rintro e w3 ⟨v, rfl, hrow3, hb3⟩
  obtain ⟨g3, c3, rfl⟩ : ∃ g c, v = .slice (some ⟨g, 0, none⟩) 3 c := ownsRow_succ (k := 2) hrow3
  have l0 := three_cells hrow3 0 0 1 (by decide) rfl
  have l1 := three_cells hrow3 1 10 2 (by decide) rfl
  have l2 := three_cells hrow3 2 21 1 (by decide) rfl
  have hgl := block_lt_of_cell l0.1
  have hL3 : ∀ w', Below w3.heap.size w3 w' → w'.cell? ⟨g3, 0, none⟩ = some (.int .u64 0) ∧ w'.cell? ⟨g3, 1, none⟩ = some (.int .u32 1) ∧ w'.cell? ⟨g3, 2, none⟩ = some (.int .u64 10) ∧ w'.cell? ⟨g3, 3, none⟩ = some (.int .u32 2) ∧ w'.cell? ⟨g3, 4, none⟩ = some (.int .u64 21) ∧ w'.cell? ⟨g3, 5, none⟩ = some (.int .u32 1) := fun w' h =>
    ⟨(h.cell (p := ⟨g3, 0, none⟩) hgl).trans l0.1, (h.cell (p := ⟨g3, 1, none⟩) hgl).trans l0.2, (h.cell (p := ⟨g3, 2, none⟩) hgl).trans l1.1, (h.cell (p := ⟨g3, 3, none⟩) hgl).trans l1.2, (h.cell (p := ⟨g3, 4, none⟩) hgl).trans l2.1, (h.cell (p := ⟨g3, 5, none⟩) hgl).trans l2.2⟩
  have hranges := map_Ranges n 2 2 [(0, 1), (10, 2), (21, 1)] w3 (HN.out w3 hb3) (by decide) _ HS3.out
  have HL3 := Lib.hid hL3; have HRG := Lib.hid hranges; have HB3 := Lib.hid hb3
  clear hrow3 l0 l1 l2 hgl hL3 hranges hb3 HSPANS
  simp only [List.length_cons, List.length_nil, Nat.zero_add, Nat.reduceAdd]
  go_wp2_with fail
  refine HRG.out.mono ?_
  rintro e w4 ⟨a, cp, rfl, hrow4, hb4⟩
  have hex : rgOf 2 (upto (nthRg [(0, 1), (10, 2), (21, 1)]) [(0, 1), (10, 2), (21, 1)].length) = [(10, 20, 2)] := ranges_ex
  rw [hex] at hrow4 ⊢
  obtain ⟨g4, c4, hv4⟩ : ∃ g c, (Value.slice a 1 cp) = .slice (some ⟨g, 0, none⟩) 1 c := ownsRow_succ (k := 0) hrow4
  simp only [Value.slice.injEq, true_and] at hv4
  obtain ⟨rfl, rfl⟩ := hv4
  have r0 : w4.cell? ⟨g4, 0, none⟩ = some (.int .u64 10) := World.ownsRow.cellAt hrow4 0 (by decide)
  have r1 : w4.cell? ⟨g4, 1, none⟩ = some (.int .u64 20) := World.ownsRow.cellAt hrow4 1 (by decide)
  have hgl := block_lt_of_cell r0
  have hR4 : ∀ w', Below w4.heap.size w4 w' → w'.cell? ⟨g4, 0, none⟩ = some (.int .u64 10) ∧ w'.cell? ⟨g4, 1, none⟩ = some (.int .u64 20) := fun w' h => ⟨(h.cell (p := ⟨g4, 0, none⟩) hgl).trans r0, (h.cell (p := ⟨g4, 1, none⟩) hgl).trans r1⟩
  have hB4 : Below w2.heap.size w2 w4 := HB3.out.trans (hb4.mono HB3.out.size)
  have hsplit := map_Split_do n 2 5 15 3 [(0, 1), (10, 2), (21, 1)] w4 (HN.out w4 hB4) (by decide) _ HS3.out (by decide) (by decide) (by decide)
  have hno : ¬ Fits 5 15 (splitO (ownS (fewS 1) 1) 10 20 2 5) 3 (upto (nthRg [(0, 1), (10, 2), (21, 1)]) [(0, 1), (10, 2), (21, 1)].length) := fun h => by
    have h2 := ((fits_iff (by decide) (by decide) HS3.out).1 h).1 10 (by decide) (by decide)
    rw [splitO_in ⟨by decide, by decide⟩, splitO_out (by decide), one_owner] at h2
    exact absurd h2 (by decide)
  have HR4 := Lib.hid hR4; have HB4 := Lib.hid hB4; have HSP4 := Lib.hid hsplit; have HNO := Lib.hid hno; have HB34 := Lib.hid hb4
  clear hrow4 r0 r1 hgl hR4 hB4 hsplit hno hb4 hex HRG
  simp only [List.length_cons, List.length_nil, Nat.zero_add, Nat.reduceAdd]
  go_wp2_with fail
  refine HSP4.out.mono ?_
  rintro e w5 ⟨hb5, h | h | h⟩
  rotate_left
  · exact absurd h.1 HNO.out
  · exact absurd h.1 HNO.out
  obtain ⟨_, rfl⟩ := h
  have HB5 := Lib.hid (HB4.out.trans (hb5.mono HB4.out.size))
  obtain ⟨x0, x1, x2, x3, x4, x5⟩ := HL3.out w5 (HB34.out.trans (hb5.mono HB34.out.size))
  obtain ⟨y0, y1⟩ := HR4.out w5 hb5
  have HE2 := Lib.hid (map_Epoch n 2 _ w5 (HN.out w5 HB5.out))
  clear hb5 HSP4 HNO
  go_wp2_with fail
  refine HE2.out.mono ?_
  rintro e w6 ⟨rfl, hb6⟩
  have HB6 := Lib.hid (HB5.out.trans (hb6.mono HB5.out.size))
  have HBB := Lib.hid (HB2.out.trans (HB6.out.mono HB2.out.size))
  have HE1 := Lib.hid (map_Epoch m 1 _ w6 (HM.out w6 HBB.out))
  clear hb6 HE2
  go_wp2_with fail
  refine HE1.out.mono ?_
  rintro e w7 ⟨rfl, hb7⟩
  have HB7 := Lib.hid (HB1.out.trans ((HBB.out.trans (hb7.mono HBB.out.size)).mono HB1.out.size))
  clear hb7 HE1
  go_wp2_with fail
  go_ret
  exact ⟨rfl, HB7.out⟩
end Go.Proofs.YthcmcjoenepkbaaGreat
