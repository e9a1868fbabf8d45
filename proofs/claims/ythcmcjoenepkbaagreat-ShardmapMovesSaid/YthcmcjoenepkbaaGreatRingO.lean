/- Contracts: Owner, Len, Shards. -/
import Derived.Test.YthcmcjoenepkbaaGreatRingN
import Derived.Test.YthcmcjoenepkbaaGreatOwn
import Derived.Lib.QuoteBits
namespace Go.Proofs.YthcmcjoenepkbaaGreat
open Go Go.RowKit Go.Maps

theorem RingAt.below {W W' : World} {r : Nat} {pts : List Int} {ps : List (Nat × Nat)} {sh : List Int} (h : RingAt W r pts ps sh) (hb : Below W.heap.size W W') : RingAt W' r pts ps sh := by
  obtain ⟨⟨m, nn, bp, cp, bs, cs, D, hr, hp, hs, ho, hby⟩, h1, h2, h3, h4⟩ := h
  exact ⟨⟨m, nn, bp, cp, bs, cs, D, (hb.block _ (lt_of_block hr)).trans hr, hp.below hb (Nat.le_refl _), hs.below hb (Nat.le_refl _), ownsMap_below ho hb, hby⟩, h1, h2, h3, h4⟩
theorem IsInts.cells {K : IntKind} {A : World} {b n c : Nat} {ys : List Int} (h : IsInts K A (.slice (some ⟨b, 0, none⟩) n c) ys) : ∀ j, j < ys.length → A.cell? ⟨b, j, none⟩ = some (.int K (ys.getD j 0)) := by
  rcases h with ⟨h, _⟩ | ⟨b', o', c', h, h1, h2⟩
  · cases h
  · simp only [Value.slice.injEq, Option.some.injEq, Addr.mk.injEq, and_true] at h
    obtain ⟨⟨rfl, rfl⟩, _, rfl⟩ := h
    intro j hj
    have := h2 j hj
    rwa [Nat.zero_add] at this

set_option maxRecDepth 100000 in
set_option maxHeartbeats 4000000 in
theorem ring_Owner (r : Nat) (pts : List Int) (ps : List (Nat × Nat)) (sh : List Int) (h : Nat) (hh : h < M64) (w : World) (hR : RingAt w r pts ps sh) (hB : InB ps) (hL : Least ps) (hlen : ps.length ≤ 1000000) :
    Calls Tryz.prog 62 #[.pointer (some ⟨r, 0, none⟩), .int .u64 (h : Int)] w fun e w' => e = .returned (.int .u32 (ownF ps h : Nat)) ∧ Below w.heap.size w w' := by
  obtain ⟨⟨m, nn, bp, cp, bs, cs, D, hr, hp, hs, ho, hby⟩, hsort, hnd, hmem, hne⟩ := hR
  have hpl := pts_length hnd hmem
  have hl0 : 0 < pts.length := List.length_pos_iff.2 hne
  have hpc := hp.cells
  have hcell : ∀ w', Below w.heap.size w w' → w'.cell? ⟨r, 0, none⟩ = some (.map (some m)) ∧ w'.cell? ⟨r, 1, none⟩ = some (.slice (some ⟨bp, 0, none⟩) pts.length cp) ∧ (∀ j, j < pts.length → w'.cell? ⟨bp, j, none⟩ = some (.int .u64 (pts.getD j 0))) := fun w' hb => by
    have h1 := (hb.block _ (lt_of_block hr)).trans hr
    exact ⟨cell_of h1 0, cell_of h1 1, fun j hj => (hb.cell (p := ⟨bp, j, none⟩) hp.lt).trans (hpc j hj)⟩
  have hsea := search64 pts (h : Int) bp 0 cp w hp.lt (fun i hi => by rw [Nat.zero_add]; exact hpc i hi) (by omega) hsort
  have hlook : ∀ (w' : World), Below w.heap.size w w' → ∀ p s : Nat, (Lit.int .u64 (p : Int)).wf = true → lastOf ps p = some s → (Instr.lookup 97 (.map (some m)) (.int .u64 (p : Int)) false).run Tryz.prog w' = .ok (.int .u32 (s : Int)) w' := fun w' hb p s hwf hs => by
    obtain ⟨c, hrun, hc, _⟩ := (ownsMap_below ho hb).lookup_int (int_keyed Tryz.underlying22) Tryz.underlying97 Tryz.underlying25 (by kernel_rfl) (keyOf_int_mk Tryz.underlying22 hwf)
    rw [hby.val p s hs] at hc
    cases hc
    exact hrun
  have hspot := fun i (hsp : Spot pts (h : Int) i) => spot_owner hB hL hsort hmem hne hh hsp
  obtain ⟨L, hLn⟩ : ∃ L, pts.length = L := ⟨_, rfl⟩
  rw [hLn] at hpl hl0 hcell hsea
  have HP := Lib.hid hpc; have HC := Lib.hid hcell; have HSE := Lib.hid hsea; have HLK := Lib.hid hlook; have HSP := Lib.hid hspot; have HLn := Lib.hid hLn; have HB := Lib.hid hB
  obtain ⟨c0, c1, _⟩ := hcell w (Below.refl _ _)
  have hL0 : ((L : Int) == 0) = false := by simp; omega
  clear hpc hcell hsea hlook hspot hLn hr hp hs ho hby hsort hnd hmem hne hL hB
  go_enter Tryz.func62, Tryz.ntmps62
  go_wp2_with fail
  refine HSE.out.mono ?_
  rintro e w1 ⟨i, f, rfl, hsp, hb1⟩
  obtain ⟨p, s, hp, hlo, how⟩ := HSP.out i hsp
  rw [HLn.out] at hp
  obtain ⟨d0, d1, d2⟩ := HC.out w1 hb1
  obtain ⟨j, hj⟩ : ∃ j, i % L = j := ⟨_, rfl⟩
  have hjl : j < L := hj ▸ Nat.mod_lt _ hl0
  rw [hj] at hp
  have d3 := d2 j hjl
  rw [hp] at d3
  have hrem : ((i : Int) % (L : Int)) = (j : Int) := by rw [← hj]; rfl
  have hL1 : ((L : Int) = 0) = False := by simp; omega
  have hj1 : ((j : Int) < (L : Int)) = True := by simp; omega
  have hpb : (Lit.int .u64 (p : Int)).wf = true := u64wf (HB.out _ (lastOf_mem hlo)).1
  have hlk := fun w' hb => HLK.out w' hb p s hpb hlo
  have hlkN := fun n => hlk (w1.drewN n) ⟨hb1.os, hb1.tape, hb1.output, hb1.size, hb1.block⟩
  clear HLK HSE HSP HP HLn HC HB hlk hpb hsp d2 hj hlo hlen hpl
  go_wp2_with fail
  go_big_quiet (fail)
  go_wp2_with fail
  go_ret
  exact ⟨by rw [how]; rfl, ⟨hb1.os, hb1.tape, hb1.output, hb1.size, hb1.block⟩⟩

set_option maxHeartbeats 1000000 in
theorem ring_Owner_nil (h : Int) (w : World) : Calls Tryz.prog 62 #[.pointer none, .int .u64 h] w fun e w' => e = .returned (.int .u32 0) ∧ Below w.heap.size w w' := by
  go_enter Tryz.func62, Tryz.ntmps62
  go_wp2_with fail
  go_ret
  exact ⟨rfl, Below.refl _ _⟩
set_option maxHeartbeats 1000000 in
theorem ring_Len_nil (w : World) : Calls Tryz.prog 60 #[.pointer none] w fun e w' => e = .returned (.int .i64 0) ∧ Below w.heap.size w w' := by
  go_enter Tryz.func60, Tryz.ntmps60
  go_wp2_with fail
  go_ret
  exact ⟨rfl, Below.refl _ _⟩
set_option maxHeartbeats 1000000 in
theorem ring_Len (r : Nat) (pts : List Int) (ps : List (Nat × Nat)) (sh : List Int) (w : World) (hR : RingAt w r pts ps sh) :
    Calls Tryz.prog 60 #[.pointer (some ⟨r, 0, none⟩)] w fun e w' => e = .returned (.int .i64 (pts.length : Nat)) ∧ Below w.heap.size w w' := by
  obtain ⟨⟨m, nn, bp, cp, bs, cs, D, hr, hp, hs, ho, hby⟩, hsort, hnd, hmem, hne⟩ := hR
  have c1 : w.cell? ⟨r, 1, none⟩ = some (.slice (some ⟨bp, 0, none⟩) pts.length cp) := cell_of hr 1
  obtain ⟨L, hLn⟩ : ∃ L, pts.length = L := ⟨_, rfl⟩
  rw [hLn] at c1 ⊢
  clear hr hp hs ho hby hsort hnd hmem hne hLn
  go_enter Tryz.func60, Tryz.ntmps60
  go_wp2_with fail
  go_ret
  exact ⟨rfl, Below.refl _ _⟩
end Go.Proofs.YthcmcjoenepkbaaGreat
