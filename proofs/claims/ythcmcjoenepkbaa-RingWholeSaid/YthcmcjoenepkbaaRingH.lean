/- Contract: Shards. -/
import Derived.Test.YthcmcjoenepkbaaRingT
namespace Go.Proofs.Ythcmcjoenepkbaa
open Go Go.RowKit Go.Maps

set_option maxHeartbeats 1000000 in
theorem ring_Shards_nil (w : World) : Calls Try.prog 13 #[.pointer none] w fun e w' => e = .returned (.slice none 0 0) ∧ Below w.heap.size w w' := by
  go_enter Try.func13, Try.ntmps13
  go_wp2_with fail
  go_ret
  exact ⟨rfl, Below.refl _ _⟩
set_option maxHeartbeats 1000000 in
theorem ring_Shards (r : Nat) (pts : List Int) (ps : List (Nat × Nat)) (sh : List Int) (w : World) (hR : RingAt w r pts ps sh) (hl : sh.length ≤ 1000000) :
    Calls Try.prog 13 #[.pointer (some ⟨r, 0, none⟩)] w fun e w' => ∃ v, e = .returned v ∧ w'.ownsRow w.heap.size 27 1 v sh.length (sh.map (Value.int .u32)) ∧ Below w.heap.size w w' := by
  obtain ⟨⟨m, nn, bp, cp, bs, cs, D, hr, hp, hs, ho, hby⟩, hsort, hnd, hmem, hne⟩ := hR
  have c1 : w.cell? ⟨r, 2, none⟩ = some (.slice (some ⟨bs, 0, none⟩) sh.length cs) := cell_of hr 2
  have hcl := clone32 sh bs 0 cs w hs.lt (fun i hi => by rw [Nat.zero_add]; exact hs.cells i hi) hl
  obtain ⟨L, hLn⟩ : ∃ L, sh.length = L := ⟨_, rfl⟩
  rw [hLn] at c1 hcl ⊢
  have HCL := Lib.hid hcl
  clear hr hp hs ho hby hsort hnd hmem hne hLn hcl
  go_enter Try.func13, Try.ntmps13
  go_wp2_with fail
  refine HCL.out.mono ?_
  rintro e w1 ⟨v, rfl, h1, h2⟩
  have H1 := Lib.hid h1; have H2 := Lib.hid h2
  clear h1 h2
  go_wp2_with fail
  go_ret
  exact ⟨_, rfl, H1.out, H2.out⟩
theorem ringShards (r : Nat) (S : List Nat) (k : Nat) (w : World) (hR : IsRing w r S k) :
    Calls Try.prog 13 #[.pointer (some ⟨r, 0, none⟩)] w fun e w' => ∃ (v : Value) (srt : List Nat), e = .returned v ∧ srt.Perm S ∧ srt.Pairwise (· < ·) ∧ w'.ownsRow w.heap.size 27 1 v srt.length (srt.map (fun s : Nat => Value.int .u32 (s : Int))) ∧ Below w.heap.size w w' := by
  obtain ⟨⟨srt, pts, h1, h2, h3⟩, h4, h5, h6, h7, h8, h9⟩ := hR
  refine (ring_Shards r pts _ _ w h3 (by rw [List.length_map, h1.length_eq]; omega)).mono ?_
  rintro e w' ⟨v, rfl, hrow, hb⟩
  rw [List.length_map, List.map_map] at hrow
  exact ⟨v, srt, rfl, h1, h2, hrow, hb⟩

end Go.Proofs.Ythcmcjoenepkbaa
