/- Contracts: Owner, Len, Shards. Contract: Spans. The ring, told by its shards: what New, Owner, Len, Spans, Shards answer. -/
import Derived.Test.YtggdkfijioeijaaGreatDoorQb08
import Derived.Lib.QuoteBits
import Derived.Deep.AppendLies
namespace Go.Proofs.YtggdkfijioeijaaGreatDoor
open Go Go.RowKit Go.Maps
theorem RingAt.below {W W' : World} {r : Nat} {pts : List Int} {ps : List (Nat × Nat)} {sh : List Int} (h : RingAt W r pts ps sh) (hb : Below W.heap.size W W') : RingAt W' r pts ps sh := by
 obtain ⟨⟨m, nn, bp, cp, bs, cs, D, hr, hp, hs, ho, hby⟩, h1, h2, h3, h4⟩ := h
 exact ⟨⟨m, nn, bp, cp, bs, cs, D, (hb.block _ (lt_of_block hr)).trans hr, hp.below hb (Nat.le_refl _), hs.below hb (Nat.le_refl _), ownsMap_below ho hb, hby⟩, h1, h2, h3, h4⟩
theorem IsInts.cells {K : IntKind} {A : World} {b n c : Nat} {ys : List Int} (h : IsInts K A (.slice (some ⟨b, 0, none⟩) n c) ys) : ∀ j, j < ys.length → A.cell? ⟨b, j, none⟩ = some (.int K (ys.getD j 0)) := by
 rcases h with ⟨h, _⟩ | ⟨b', o', c', h, h1, h2⟩
 ·cases h
 ·simp only [Value.slice.injEq, Option.some.injEq, Addr.mk.injEq, and_true] at h
  obtain ⟨⟨rfl, rfl⟩, _, rfl⟩ := h
  intro j hj
  have := h2 j hj
  rwa [Nat.zero_add] at this
set_option maxRecDepth 100000 in
set_option maxHeartbeats 4000000 in
theorem ring_Owner (r : Nat) (pts : List Int) (ps : List (Nat × Nat)) (sh : List Int) (h : Nat) (hh : h < M64) (w : World) (hR : RingAt w r pts ps sh) (hB : InB ps) (hL : Least ps) (hlen : ps.length ≤ 1000000) :
  Calls Tryz.prog 92 #[.pointer (some ⟨r, 0, none⟩), .int .u64 (h : Int)] w fun e w' => e = .returned (.int .u32 (ownF ps h : Nat)) ∧ Below w.heap.size w w' := by
 obtain ⟨⟨m, nn, bp, cp, bs, cs, D, hr, hp, hs, ho, hby⟩, hsort, hnd, hmem, hne⟩ := hR
 have hpl := pts_length hnd hmem
 have hl0 : 0 < pts.length := List.length_pos_iff.2 hne
 have hpc := hp.cells
 have hcell : ∀ w', Below w.heap.size w w' → w'.cell? ⟨r, 0, none⟩ = some (.map (some m)) ∧ w'.cell? ⟨r, 1, none⟩ = some (.slice (some ⟨bp, 0, none⟩) pts.length cp) ∧ (∀ j, j < pts.length → w'.cell? ⟨bp, j, none⟩ = some (.int .u64 (pts.getD j 0))) := fun w' hb => by
  have h1 := (hb.block _ (lt_of_block hr)).trans hr
  exact ⟨cell_of h1 0, cell_of h1 1, fun j hj => (hb.cell (p := ⟨bp, j, none⟩) hp.lt).trans (hpc j hj)⟩
 have hsea := search64 pts (h : Int) bp 0 cp w hp.lt (fun i hi => by rw [Nat.zero_add]; exact hpc i hi) (by omega) hsort
 have hlook : ∀ (w' : World), Below w.heap.size w w' → ∀ p s : Nat, (Lit.int .u64 (p : Int)).wf = true → lastOf ps p = some s → (Instr.lookup 130 (.map (some m)) (.int .u64 (p : Int)) false).run Tryz.prog w' = .ok (.int .u32 (s : Int)) w' := fun w' hb p s hwf hs => by
  obtain ⟨c, hrun, hc, _⟩ := (ownsMap_below ho hb).lookup_int (int_keyed Tryz.underlying25) Tryz.underlying130 Tryz.underlying28 (by kernel_rfl) (keyOf_int_mk Tryz.underlying25 hwf)
  rw [hby.val p s hs] at hc
  cases hc
  exact hrun
 have hspot := fun i (hsp : Spot pts (h : Int) i) => spot_owner hB hL hsort hmem hne hh hsp
 obtain ⟨L, hLn⟩ : ∃ L, pts.length = L := ⟨_, rfl⟩
 rw [hLn] at hpl hl0 hcell hsea
 have HP := Lib.hid hpc; have HC := Lib.hid hcell; have HSE := Lib.hid hsea; have HLK := Lib.hid hlook; have HSP := Lib.hid hspot; have HLn := Lib.hid hLn; have HB := Lib.hid hB
 obtain ⟨c0, c1, _⟩ := hcell w (Below.refl _ _)
 have hL0 : ((L : Int) == 0) = false := by simp; omega
 clear hpc hcell hsea hlook hspot hLn hr hp hs ho hby hsort hnd hmem hne hL hB
 go_enter Tryz.func92, Tryz.ntmps92
 go_wp2_with fail
 refine HSE.out.mono ?_
 rintro e w1 ⟨i, f, rfl, hsp, hb1⟩
 obtain ⟨p, s, hp, hlo, how⟩ := HSP.out i hsp
 rw [HLn.out] at hp
 obtain ⟨d0, d1, d2⟩ := HC.out w1 hb1
 obtain ⟨j, hj⟩ : ∃ j, i % L = j := ⟨_, rfl⟩
 have hjl : j < L := hj ▸ Nat.mod_lt _ hl0
 rw [hj] at hp
 have d3 := d2 j hjl
 rw [hp] at d3
 have hrem : ((i : Int) % (L : Int)) = (j : Int) := by rw [← hj]; rfl
 have hL1 : ((L : Int) = 0) = False := by simp; omega
 have hj1 : ((j : Int) < (L : Int)) = True := by simp; omega
 have hpb : (Lit.int .u64 (p : Int)).wf = true := u64wf (HB.out _ (lastOf_mem hlo)).1
 have hlk := fun w' hb => HLK.out w' hb p s hpb hlo
 have hlkN := fun n => hlk (w1.drewN n) ⟨hb1.os, hb1.tape, hb1.output, hb1.size, hb1.block⟩
 clear HLK HSE HSP HP HLn HC HB hlk hpb hsp d2 hj hlo hlen hpl
 go_wp2_with fail
 go_big_quiet (fail)
 go_wp2_with fail
 go_ret
 exact ⟨by rw [how]; rfl, ⟨hb1.os, hb1.tape, hb1.output, hb1.size, hb1.block⟩⟩
set_option maxHeartbeats 1000000 in
theorem ring_Len (r : Nat) (pts : List Int) (ps : List (Nat × Nat)) (sh : List Int) (w : World) (hR : RingAt w r pts ps sh) :
  Calls Tryz.prog 90 #[.pointer (some ⟨r, 0, none⟩)] w fun e w' => e = .returned (.int .i64 (pts.length : Nat)) ∧ Below w.heap.size w w' := by
 obtain ⟨⟨m, nn, bp, cp, bs, cs, D, hr, hp, hs, ho, hby⟩, hsort, hnd, hmem, hne⟩ := hR
 have c1 : w.cell? ⟨r, 1, none⟩ = some (.slice (some ⟨bp, 0, none⟩) pts.length cp) := cell_of hr 1
 obtain ⟨L, hLn⟩ : ∃ L, pts.length = L := ⟨_, rfl⟩
 rw [hLn] at c1 ⊢
 clear hr hp hs ho hby hsort hnd hmem hne hLn
 go_enter Tryz.func90, Tryz.ntmps90
 go_wp2_with fail
 go_ret
 exact ⟨rfl, Below.refl _ _⟩
end Go.Proofs.YtggdkfijioeijaaGreatDoor
namespace Go.Proofs.YtggdkfijioeijaaGreatDoor
open Go Go.RowKit Go.Maps
def spV (sp : List (Nat × Nat)) : List Value := sp.flatMap (fun x => [.int .u64 (x.1 : Int), .int .u32 (x.2 : Int)])
theorem spV_length (sp : List (Nat × Nat)) : (spV sp).length = sp.length * 2 := by
 induction sp with
 | nil => rfl
 | cons x l ih => simp only [spV, List.flatMap_cons, List.length_append, List.length_cons, List.length_nil] at *; omega
theorem spV_at : ∀ (sp : List (Nat × Nat)) (i : Nat), i < sp.length → (spV sp)[i * 2]? = some (.int .u64 ((sp.getD i d0).1 : Int)) ∧ (spV sp)[i * 2 + 1]? = some (.int .u32 ((sp.getD i d0).2 : Int))
 | [], i, h => by simp at h
 | x :: t, 0, _ => by simp [spV]
 | x :: t, i + 1, h => by
  have := spV_at t i (by simpa using h)
  rw [show (i + 1) * 2 = i * 2 + 2 by omega]
  exact this
theorem spV_snoc (sp : List (Nat × Nat)) (c s : Nat) : spV (sp ++ [(c, s)]) = spV sp ++ [.int .u64 (c : Int), .int .u32 (s : Int)] := by simp [spV]
theorem infoSpan : (Tryz.prog.info? 99).map (fun i => (i.zero, i.size, i.bytes)) = some (some (.agg #[.int .u64 0, .int .u32 0]), 2, 16) := by kernel_rfl
theorem ownBelow {w w' : World} {B e n k : Nat} {v : Value} {xs : List Value} (h : w.ownsRow B e k v n xs) (hb : Below w.heap.size w w') : w'.ownsRow B e k v n xs := by
 refine ⟨h.1, ?_⟩
 rcases h.2 with hn | ⟨g, cap, cur, hv, hBg, hg, rest⟩
 ·exact Or.inl hn
 ·exact Or.inr ⟨g, cap, cur, hv, hBg, (hb.block g (lt_of_block hg)).trans hg, rest⟩
theorem ownsRow_base {w : World} {B e n k g c m : Nat} {xs : List Value} (h : w.ownsRow B e k (.slice (some ⟨g, 0, none⟩) m c) n xs) : B ≤ g := by
 rcases h.2 with ⟨hn, _⟩ | ⟨g', cap, cur, hv, hBg, _⟩
 ·cases hn
 ·cases hv; exact hBg
theorem ownsRow_lower {w : World} {B B' e n k : Nat} {v : Value} {xs : List Value} (h : w.ownsRow B e k v n xs) (hle : B' ≤ B) : w.ownsRow B' e k v n xs := by
 refine ⟨h.1, ?_⟩
 rcases h.2 with hn | ⟨g, cap, cur, hv, hBg, rest⟩
 ·exact Or.inl hn
 ·exact Or.inr ⟨g, cap, cur, hv, Nat.le_trans hle hBg, rest⟩
theorem KX.row {m n : Nat} {A B : World} {o : Option Nat} (h : A.grownBy B o) (hr : ∀ j, o = some j → n ≤ j) (hn : n ≤ A.heap.size) : KX m n A B := ⟨h.os, h.tape, h.output, h.size, fun j h1 _ => h.block j (by omega) (fun e => by have := hr j e.symm; omega)⟩
theorem KX.set (n : Nat) (A : World) (a : Addr) (v : Value) : KX a.block n A (A.setCell a v) := ⟨rfl, rfl, rfl, by show A.heap.size ≤ (A.heap.modify _ _).size; rw [Array.size_modify]; exact Nat.le_refl _, fun j _ h2 => Below.heap_setCell A a v j h2⟩
set_option maxRecDepth 100000 in
set_option maxHeartbeats 4000000 in
theorem spans_add0 (r B1 B2 base c s : Nat) (w : World) (_hB1 : B1 < base) (hB2 : B2 < base) (hbw : base ≤ w.heap.size) (c1 : w.cell? ⟨B1, 0, none⟩ = some (.pointer (some ⟨r, 0, none⟩))) (c2 : w.cell? ⟨B2, 0, none⟩ = some (.slice none 0 0)) (f2 : w.frozen? ⟨B2, 0, none⟩ = false)
  (hO : Calls Tryz.prog 92 #[.pointer (some ⟨r, 0, none⟩), .int .u64 (c : Int)] w fun e w' => e = .returned (.int .u32 (s : Int)) ∧ Below w.heap.size w w') :
  Calls Tryz.prog 91 #[.int .u64 (c : Int), .pointer (some ⟨B1, 0, none⟩), .pointer (some ⟨B2, 0, none⟩)] w fun e w' => ∃ g cp, e = .returned (.tuple #[]) ∧ w'.cell? ⟨B2, 0, none⟩ = some (.slice (some ⟨g, 0, none⟩) 1 cp) ∧ w'.frozen? ⟨B2, 0, none⟩ = false ∧
   w'.ownsRow base 99 2 (.slice (some ⟨g, 0, none⟩) 1 cp) 1 (spV [(c, s)]) ∧ KX B2 base w w' := by
 obtain ⟨i0, hi, hz0, hz1, hz2⟩ := info_parts infoSpan
 have HO := Lib.hid hO; clear hO
 go_enter Tryz.func91, Tryz.ntmps91
 go_wp2_with fail
 refine HO.out.mono ?_
 rintro e w1 ⟨rfl, hb1⟩
 have c2' := (hb1.cell (p := ⟨B2, 0, none⟩) (by show B2 < _; omega)).trans c2
 have f2' := (World.frozen?_of_block (w := w) (a := ⟨B2, 0, none⟩) (hb1.block B2 (by omega))).trans f2
 have hsz := hb1.size
 go_wp2_with (
  at_builtin
  refine wpList_append_lies _ rfl (.tmp 22) (.tmp 26) 83 rfl base 99 i0 (.agg #[.int .u64 0, .int .u32 0]) 2 16 Tryz.underlying83 hi hz0 hz1 hz2 rfl (by decide) _ 0 [] rfl (World.ownsRow_nil _ _ _ _) ⟨w1.heap.size, 0, none⟩ 1 1 [.int .u64 (c : Int), .int .u32 (s : Int)] rfl rfl (World.news_of_block (MapKept.heap_alloc _ _).1) (by intro u hu; simp only [List.mem_cons, List.mem_nil_iff, or_false] at hu; rcases hu with rfl | rfl <;> rfl) (by decide) (by unfold maxLen; omega) (by omega) (by simp; omega) (w1.heap.size + 1) (by simp) ?go
  intro g cp w8 hown8 hg8 _hat _hlt8
  replace hown8 : w8.ownsRow base 99 2 (.slice (some ⟨g, 0, none⟩) 1 cp) 1 (spV [(c, s)]) := hown8
  replace hg8 : (w1.alloc (.cells #[.int .u64 (c : Int), .int .u32 (s : Int)] 99)).grownBy w8 none := hg8
  have hk8 : KX B2 base w w8 := ((KX.of (hb1.mono hbw)).trans (KX.of ((Below.refl base w1).alloc (by omega) _))).trans (KX.row hg8 (fun j h => by cases h) (by simp; omega))
  have hb8 : w8.heap[B2]? = w1.heap[B2]? := (hg8.block B2 (by simp; omega) (by simp)).trans (Below.heap_alloc _ _ _ (by omega))
  have c8 := (World.cell?_of_block (w := w1) (a := ⟨B2, 0, none⟩) hb8).trans c2'
  have f8 := (World.frozen?_of_block (w := w1) (a := ⟨B2, 0, none⟩) hb8).trans f2'
  simp only [Nat.zero_add]
  clear hg8 _hat _hlt8 hb8)
 go_end0
 exact ⟨g, cp, rfl, World.cell?_setCell_same' _ _ _ (by rw [c8]; rfl), by rw [World.frozen?_setCell]; exact f8, ownsRow_setCell_below hown8 (by dsimp only; omega) _, hk8.trans (KX.set base w8 ⟨B2, 0, none⟩ _)⟩
def AddGives (B2 base c s s0 : Nat) (sp : List (Nat × Nat)) (w : World) (e : Ending) (w' : World) : Prop := ∃ g cp sp', e = .returned (.tuple #[]) ∧ (sp' = if s0 = s then sp else sp ++ [(c, s)]) ∧
   w'.cell? ⟨B2, 0, none⟩ = some (.slice (some ⟨g, 0, none⟩) sp'.length cp) ∧ w'.frozen? ⟨B2, 0, none⟩ = false ∧
   w'.ownsRow base 99 2 (.slice (some ⟨g, 0, none⟩) sp'.length cp) sp'.length (spV sp') ∧ KX B2 base w w'
set_option maxRecDepth 100000 in
set_option maxHeartbeats 4000000 in
theorem spans_add1 (r B1 B2 base c s : Nat) (sp : List (Nat × Nat)) (g0 cp0 : Nat) (w : World) (hl1 : 1 ≤ sp.length) (hl2 : sp.length ≤ 100000) (_hB1 : B1 < base) (hB2 : B2 < base) (hbw : base ≤ w.heap.size) (c1 : w.cell? ⟨B1, 0, none⟩ = some (.pointer (some ⟨r, 0, none⟩)))
  (c2 : w.cell? ⟨B2, 0, none⟩ = some (.slice (some ⟨g0, 0, none⟩) sp.length cp0)) (f2 : w.frozen? ⟨B2, 0, none⟩ = false) (hrow : w.ownsRow base 99 2 (.slice (some ⟨g0, 0, none⟩) sp.length cp0) sp.length (spV sp))
  (hO : Calls Tryz.prog 92 #[.pointer (some ⟨r, 0, none⟩), .int .u64 (c : Int)] w fun e w' => e = .returned (.int .u32 (s : Int)) ∧ Below w.heap.size w w') :
  Calls Tryz.prog 91 #[.int .u64 (c : Int), .pointer (some ⟨B1, 0, none⟩), .pointer (some ⟨B2, 0, none⟩)] w (AddGives B2 base c s (sp.getD (sp.length - 1) d0).2 sp w) := by
 obtain ⟨i0, hi, hz0, hz1, hz2⟩ := info_parts infoSpan
 have HO := Lib.hid hO; clear hO
 obtain ⟨n, hn⟩ : ∃ n, sp.length = n := ⟨_, rfl⟩
 obtain ⟨k, hk⟩ : ∃ k, n - 1 = k := ⟨_, rfl⟩
 obtain ⟨s0, hs0⟩ : ∃ s0, (sp.getD (sp.length - 1) d0).2 = s0 := ⟨_, rfl⟩
 have hlast : w.cell? ⟨g0, k * 2 + 1, none⟩ = some (.int .u32 (s0 : Int)) := by
  rw [World.ownsRow.cellAt hrow (k * 2 + 1) (by omega), (spV_at sp k (by omega)).2, ← hs0, hn, hk]
 rw [hs0]
 rw [hn] at c2 hrow hl1 hl2
 have hgl : g0 < w.heap.size := block_lt_of_cell hlast
 have HR := Lib.hid hrow; have HN := Lib.hid hn
 clear hrow hn hs0
 have hsub : ((n : Int) - 1) = (k : Int) := by omega
 have hkn : ((k : Int) < (n : Int)) = True := by simp; omega
 have hn0 : ((n : Int) == 0) = false := by simp; omega
 go_enter Tryz.func91, Tryz.ntmps91
 go_wp2_with fail
 refine HO.out.mono ?_
 rintro e w1 ⟨rfl, hb1⟩
 have c2' := (hb1.cell (p := ⟨B2, 0, none⟩) (by show B2 < _; omega)).trans c2
 have f2' := (World.frozen?_of_block (w := w) (a := ⟨B2, 0, none⟩) (hb1.block B2 (by omega))).trans f2
 have hlast' := (hb1.cell (p := ⟨g0, k * 2 + 1, none⟩) hgl).trans hlast
 have hsz := hb1.size
 have HB1 := Lib.hid hb1
 have HR1 := Lib.hid (ownBelow HR.out hb1)
 clear hb1 HR
 have hbg := ownsRow_base HR1.out
 by_cases he : s0 = s
 ·have heq : ((s0 : Int) != (s : Int)) = false := by simp [he]
  go_wp2_with fail
  go_end0
  exact ⟨g0, cp0, sp, rfl, (if_pos he).symm, by rw [HN.out]; exact c2', f2', by rw [HN.out]; exact HR1.out, KX.of (HB1.out.mono hbw)⟩
 ·have heq : ((s0 : Int) != (s : Int)) = true := by simp; omega
  go_wp2_with (
   at_builtin
   refine wpList_append_lies _ rfl (.tmp 22) (.tmp 26) 83 rfl base 99 i0 (.agg #[.int .u64 0, .int .u32 0]) 2 16 Tryz.underlying83 hi hz0 hz1 hz2 rfl (by decide) _ n (spV sp) rfl (ownBelow HR1.out ((Below.refl _ _).alloc (Nat.le_refl _) _)) ⟨w1.heap.size, 0, none⟩ 1 1 [.int .u64 (c : Int), .int .u32 (s : Int)] rfl rfl (World.news_of_block (MapKept.heap_alloc _ _).1) (by intro u hu; simp only [List.mem_cons, List.mem_nil_iff, or_false] at hu; rcases hu with rfl | rfl <;> rfl) (by decide) (by unfold maxLen; omega) (by omega) (by simp; omega) (w1.heap.size + 1) (by simp) ?go
   intro g cp w8 hown8 hg8 _hat _hlt8
   replace hown8 : w8.ownsRow base 99 2 (.slice (some ⟨g, 0, none⟩) (n + 1) cp) (n + 1) (spV (sp ++ [(c, s)])) := (by rw [spV_snoc]; exact hown8)
   replace hg8 : (w1.alloc (.cells #[.int .u64 (c : Int), .int .u32 (s : Int)] 99)).grownBy w8 (some g0) := hg8
   have hk8 : KX B2 base w w8 := ((KX.of (HB1.out.mono hbw)).trans (KX.of ((Below.refl base w1).alloc (by omega) _))).trans (KX.row hg8 (fun j h => by cases h; exact hbg) (by simp; omega))
   have hb8 : w8.heap[B2]? = w1.heap[B2]? := (hg8.block B2 (by simp; omega) (by simp; omega)).trans (Below.heap_alloc _ _ _ (by omega))
   have c8 := (World.cell?_of_block (w := w1) (a := ⟨B2, 0, none⟩) hb8).trans c2'
   have f8 := (World.frozen?_of_block (w := w1) (a := ⟨B2, 0, none⟩) hb8).trans f2'
   clear hg8 _hat _hlt8 hb8)
  go_end0
  have hlen : (sp ++ [(c, s)]).length = n + 1 := by rw [List.length_append, HN.out]; rfl
  refine ⟨g, cp, sp ++ [(c, s)], rfl, (if_neg he).symm, ?_, by rw [World.frozen?_setCell]; exact f8, ?_, hk8.trans (KX.set base w8 ⟨B2, 0, none⟩ _)⟩
  ·rw [hlen]; exact World.cell?_setCell_same' _ _ _ (by rw [c8]; rfl)
  ·rw [hlen]; exact ownsRow_setCell_below hown8 (by dsimp only; omega) _
def Pt (pts : List Int) (k : Nat) : Nat := (pts.getD k 0).toNat
def cand (pts : List Int) (k : Nat) : Nat := if k = 0 then 0 else Pt pts (k - 1) + 1
def nxt (pts : List Int) (k : Nat) : Nat := if k < pts.length then Pt pts k + 1 else M64
structure PtsOf (pts : List Int) (ps : List (Nat × Nat)) : Prop where
 is : ∀ k, k < pts.length → pts.getD k 0 = ((Pt pts k : Nat) : Int) ∧ Pt pts k < M64
 lt : ∀ i j, i < j → j < pts.length → Pt pts i < Pt pts j
 all : ∀ y ∈ ps, ∃ j, j < pts.length ∧ y.1 = Pt pts j
theorem ptsOf {pts : List Int} {ps : List (Nat × Nat)} (hB : InB ps) (hsort : pts.Pairwise (· ≤ ·)) (hnd : pts.Nodup) (hmem : ∀ x, x ∈ pts ↔ ∃ p : Nat, x = (p : Int) ∧ (lastOf ps p).isSome = true) : PtsOf pts ps := by
 have hgd : ∀ j, (hj : j < pts.length) → pts.getD j 0 = pts[j] := fun j hj => by rw [List.getD_eq_getElem?_getD, List.getElem?_eq_getElem hj]; rfl
 have his : ∀ k, k < pts.length → pts.getD k 0 = ((Pt pts k : Nat) : Int) ∧ Pt pts k < M64 := fun k hk => by
  obtain ⟨p, hp, h⟩ := (hmem (pts.getD k 0)).1 (by rw [hgd k hk]; exact List.getElem_mem _)
  obtain ⟨s, hs⟩ := Option.isSome_iff_exists.1 h
  have e : Pt pts k = p := by unfold Pt; rw [hp]; rfl
  rw [e]; exact ⟨hp, (hB _ (lastOf_mem hs)).1⟩
 refine ⟨his, fun i j hij hj => ?_, fun y hy => ?_⟩
 ·have h1 := List.pairwise_iff_getElem.1 hsort i j (by omega) hj hij
  have h2 := List.pairwise_iff_getElem.1 hnd i j (by omega) hj hij
  have e1 := (his i (by omega)).1
  have e2 := (his j hj).1
  rw [hgd i (by omega)] at e1; rw [hgd j hj] at e2
  rw [e1, e2] at h1 h2
  omega
 ·obtain ⟨t, ht⟩ := lastOf_ex (ps := ps) (p := y.1) (s := y.2) hy
  obtain ⟨j, hj, he⟩ := List.mem_iff_getElem.1 ((hmem (y.1 : Int)).2 ⟨y.1, rfl, by rw [ht]; rfl⟩)
  have e2 := (his j hj).1
  rw [hgd j hj, he] at e2
  exact ⟨j, hj, by omega⟩
theorem PtsOf.const {pts : List Int} {ps : List (Nat × Nat)} (hP : PtsOf pts ps) (hB : InB ps) (hne : ps ≠ []) (k : Nat) (hk : k ≤ pts.length) (h : Nat) (h1 : cand pts k ≤ h) (h2 : h < nxt pts k) : ownF ps h = ownF ps (cand pts k) := by
 have hh : h < M64 := by
  unfold nxt at h2
  split at h2
  ·rename_i hl; have := (hP.is k hl).2; omega
  ·exact h2
 refine ownF_const hB hne h1 hh (fun y hy ⟨a, b⟩ => ?_)
 obtain ⟨j, hj, e⟩ := hP.all y hy
 rw [e] at a b
 by_cases hjk : j < k
 ·unfold cand at a
  rw [if_neg (by omega)] at a
  by_cases e2 : j = k - 1
  ·subst e2; omega
  ·have := hP.lt j (k - 1) (by omega) (by omega); omega
 ·unfold nxt at h2
  rw [if_pos (by omega)] at h2
  by_cases e2 : j = k
  ·subst e2; omega
  ·have := hP.lt k j (by omega) hj; omega
theorem results_cell_one {P : Program} {fn : Func} {p : Tmp} {ty e : TypeId} (h : fn.results = #[.cell p ty]) (tmps : Array Value) (w : World) (g : Nat) (v : Value) (hp : tmps.getD p undef = .pointer (some ⟨g, 0, none⟩)) (hu : P.underlying ty = some (.slice e)) (hc : w.cell? ⟨g, 0, none⟩ = some v) :
  (results fn tmps).run P w = .ok v w := by
 have hp' : tmps[p]?.getD undef = .pointer (some ⟨g, 0, none⟩) := by simpa using hp
 have hagg : (isAgg ty).run P w = .ok false w := by
  unfold isAgg
  rw [Sem.run_bind, run_underlying hu w]; rfl
 simp [results, h, hp', asAddr, loadVar, Sem.run_bind, hagg, hc, Result.andThen]
def SpansGives (ps : List (Nat × Nat)) (w : World) (e : Ending) (w' : World) : Prop := ∃ g cp sp, e = .returned (.slice (some ⟨g, 0, none⟩) sp.length cp) ∧ w'.ownsRow w.heap.size 99 2 (.slice (some ⟨g, 0, none⟩) sp.length cp) sp.length (spV sp) ∧ SpI (ownF ps) sp M64 ∧ sp.length ≤ ps.length + 1 ∧ Below w.heap.size w w'
set_option maxRecDepth 100000 in
set_option maxHeartbeats 4000000 in
theorem ring_Spans (r : Nat) (pts : List Int) (ps : List (Nat × Nat)) (sh : List Int) (w : World) (hR : RingAt w r pts ps sh) (hB : InB ps) (hL : Least ps) (hlen : ps.length ≤ 10000) :
  Calls Tryz.prog 63 #[.pointer (some ⟨r, 0, none⟩)] w (SpansGives ps w) := by
 have hb2 : Below w.heap.size w ((w.alloc (.cells #[.pointer (some ⟨r, 0, none⟩)] 78)).alloc (.cells #[.slice none 0 0] 83)) := ((Below.refl _ _).alloc (Nat.le_refl _) _).alloc (by simp) _
 have c1 : ((w.alloc (.cells #[.pointer (some ⟨r, 0, none⟩)] 78)).alloc (.cells #[.slice none 0 0] 83)).cell? ⟨w.heap.size, 0, none⟩ = some (.pointer (some ⟨r, 0, none⟩)) := cell_of (two1 _ _ _) 0
 have c2 : ((w.alloc (.cells #[.pointer (some ⟨r, 0, none⟩)] 78)).alloc (.cells #[.slice none 0 0] 83)).cell? ⟨w.heap.size + 1, 0, none⟩ = some (.slice none 0 0) := cell_of (two2 _ _ _) 0
 have f2 : ((w.alloc (.cells #[.pointer (some ⟨r, 0, none⟩)] 78)).alloc (.cells #[.slice none 0 0] 83)).frozen? ⟨w.heap.size + 1, 0, none⟩ = false := frozen_of (two2 _ _ _) 0
 have hpl := pts_length hR.nodup hR.mem
 have hP := ptsOf hB hR.sorted hR.nodup hR.mem
 have hl0 : 0 < pts.length := List.length_pos_iff.2 hR.pos
 have hne : ps ≠ [] := by
  intro e; rw [e] at hpl; exact hR.pos (List.length_eq_zero_iff.1 (by simpa using hpl))
 have hcst := hP.const hB hne
 have hown := fun (h : Nat) (hh : h < M64) (w' : World) (hb : Below w.heap.size w w') => ring_Owner r pts ps sh h hh w' (hR.below hb) hB hL (by omega)
 have hlenR := fun (w' : World) (hb : Below w.heap.size w w') => ring_Len r pts ps sh w' (hR.below hb)
 have hcells : ∃ bp cp, ∀ (w' : World), Below w.heap.size w w' → w'.cell? ⟨r, 1, none⟩ = some (.slice (some ⟨bp, 0, none⟩) pts.length cp) ∧ ∀ k, k < pts.length → w'.cell? ⟨bp, k, none⟩ = some (.int .u64 ((Pt pts k : Nat) : Int)) := by
  obtain ⟨m, nn, bp, cp, bs, cs, D, hr, hp, hs, ho, hby⟩ := hR.ex
  exact ⟨bp, cp, fun w' hb => ⟨cell_of ((hb.block _ (lt_of_block hr)).trans hr) 1, fun k hk => ((hb.cell (p := ⟨bp, k, none⟩) hp.lt).trans (hp.cells k hk)).trans (by rw [(hP.is k hk).1])⟩⟩
 obtain ⟨bp, cp, hcells⟩ := hcells
 obtain ⟨L, hLn⟩ : ∃ L, pts.length = L := ⟨_, rfl⟩
 have hnx : ∀ k, k < L → nxt pts k = Pt pts k + 1 ∧ Pt pts k < M64 ∧ cand pts (k + 1) = Pt pts k + 1 := fun k hk => ⟨if_pos (by omega), (hP.is k (by omega)).2, by simp [cand]⟩
 have hnL : nxt pts L = M64 := if_neg (by omega)
 have hnx1 : ∀ k, k < L → Pt pts k + 1 < M64 → Pt pts k + 1 < nxt pts (k + 1) := fun k hk h1 => by
  unfold nxt
  split
  ·have := hP.lt k (k + 1) (by omega) (by omega); omega
  ·exact h1
 have hlast : ∀ k, k < L → Pt pts k + 1 = M64 → nxt pts (k + 1) = M64 := fun k hk h1 => by
  unfold nxt
  split
  ·have := hP.lt k (k + 1) (by omega) (by omega); have := (hP.is (k + 1) (by omega)).2; omega
  ·rfl
 rw [hLn] at hpl hl0 hcst hlenR hcells
 have HNX := Lib.hid hnx; have HNL := Lib.hid hnL; have HNX1 := Lib.hid hnx1; have HLAST := Lib.hid hlast; have HCST := Lib.hid hcst; have HOWN := Lib.hid hown; have HLEN := Lib.hid hlenR; have HCELLS := Lib.hid hcells
 clear hnx hnL hnx1 hlast hcst hown hlenR hcells hP hne hR hLn hB hL
 go_enter Tryz.func63, Tryz.ntmps63
 obtain ⟨W, hW⟩ : ∃ W, (w.alloc (.cells #[.pointer (some ⟨r, 0, none⟩)] 78)).alloc (.cells #[.slice none 0 0] 83) = W := ⟨_, rfl⟩
 rw [hW] at hb2 c1 c2 f2
 go_upto_region 1 with fail
 have hbW := hb2.size
 have hW2 : W.heap.size = w.heap.size + 2 := by rw [← hW]; simp
 clear hW
 go_wp2_with fail
 refine (HLEN.out W hb2).mono ?_
 rintro e w1 ⟨rfl, hb1⟩
 have HW2 := Lib.hid hW2
 have hB1 : Below w.heap.size w w1 := hb2.trans (hb1.mono hbW)
 have c1' := (hb1.cell (p := ⟨w.heap.size, 0, none⟩) (by dsimp only; omega)).trans c1
 have c2' := (hb1.cell (p := ⟨w.heap.size + 1, 0, none⟩) (by dsimp only; omega)).trans c2
 have f2' := (World.frozen?_of_block (w := W) (a := ⟨w.heap.size + 1, 0, none⟩) (hb1.block _ (by dsimp only; omega))).trans f2
 have hs1 := hb1.size
 have hadd0 := spans_add0 r w.heap.size (w.heap.size + 1) (w.heap.size + 2) 0 (ownF ps 0) w1 (by omega) (by omega) (by omega) c1' c2' f2' (HOWN.out 0 (by decide) w1 hB1)
 have HADD := Lib.hid hadd0
 have HK1 : Hid (KX (w.heap.size + 1) (w.heap.size + 2) W w1) := Lib.hid (KX.of (hb1.mono (by omega)))
 have HB1 := Lib.hid hB1
 have hL0 : ((L : Int) == 0) = false := by simp; omega
 clear hadd0 hb1 c1 c2 f2 hB1 hW2
 go_wp2_with fail
 refine HADD.out.mono ?_
 rintro e w2 ⟨g2, cp2, rfl, d2, df2, hrow2, hk2⟩
 have hKW : ∀ W', KX (w.heap.size + 1) (w.heap.size + 2) W W' → Below w.heap.size w W' := fun W' h => hb2.trans (h.below (by omega) (by omega))
 have hB1c : ∀ W', KX (w.heap.size + 1) (w.heap.size + 2) w1 W' → W'.cell? ⟨w.heap.size, 0, none⟩ = some (.pointer (some ⟨r, 0, none⟩)) := fun W' h => (World.cell?_of_block (w := w1) (a := ⟨w.heap.size, 0, none⟩) (h.same _ (by dsimp only; omega) (by dsimp only; omega))).trans c1'
 have d1 := hB1c w2 hk2
 obtain ⟨r1, r2⟩ := HCELLS.out w2 (hKW w2 (HK1.out.trans hk2))
 have hinit : ∃ g cp, ∃ sp : List (Nat × Nat), w2.cell? ⟨w.heap.size + 1, 0, none⟩ = some (.slice (some ⟨g, 0, none⟩) sp.length cp) ∧ w2.frozen? ⟨w.heap.size + 1, 0, none⟩ = false ∧ w2.ownsRow (w.heap.size + 2) 99 2 (.slice (some ⟨g, 0, none⟩) sp.length cp) sp.length (spV sp) ∧ SpI (ownF ps) sp (nxt pts 0) ∧ 1 ≤ sp.length ∧ sp.length ≤ 0 + 1 :=
  ⟨g2, cp2, [(0, ownF ps 0)], d2, df2, hrow2, SpI.start (by rw [(HNX.out 0 hl0).1]; omega) (fun h hh => HCST.out 0 (Nat.zero_le _) h (Nat.zero_le _) hh), by simp, by simp⟩
 have HINIT := Lib.hid hinit; have HKW := Lib.hid hKW; have HB1C := Lib.hid hB1c; have HK2 := Lib.hid hk2
 clear hinit hKW hB1c hk2 d2 df2 hrow2 c1' c2' f2' hb2 r2
 go_wp2_with fail
 go_loopw [17] (fun i wr => ∃ k : Nat, k ≤ L ∧ i = .int .i64 k ∧ Hid (∃ g cp, ∃ sp : List (Nat × Nat), wr.cell? ⟨w.heap.size + 1, 0, none⟩ = some (.slice (some ⟨g, 0, none⟩) sp.length cp) ∧ wr.frozen? ⟨w.heap.size + 1, 0, none⟩ = false ∧ wr.ownsRow (w.heap.size + 2) 99 2 (.slice (some ⟨g, 0, none⟩) sp.length cp) sp.length (spV sp) ∧ SpI (ownF ps) sp (nxt pts k) ∧ 1 ≤ sp.length ∧ sp.length ≤ k + 1) ∧ Hid (KX (w.heap.size + 1) (w.heap.size + 2) w1 wr)) (fun i _ => L - (intOf i).toNat)
 case atStart => exact ⟨0, Nat.zero_le _, rfl, HINIT, HK2⟩
 case round =>
  obtain ⟨k, hk, rfl, HI, HKX⟩ := hrel
  have HBw := Lib.hid (HKW.out wr (HK1.out.trans HKX.out))
  by_cases hlt : k < L
  ·obtain ⟨x, hx⟩ : ∃ x, Pt pts k = x := ⟨_, rfl⟩
   have rk := (HCELLS.out wr HBw.out).2 k hlt
   obtain ⟨n1, n2, n3⟩ := HNX.out k hlt
   rw [hx] at rk n1 n2 n3
   have b1 := HB1C.out wr HKX.out
   obtain ⟨g, cp, sp, e2, ef2, erow, hsp, l1, l2⟩ := HI.out
   have HROW := Lib.hid erow; have HSP := Lib.hid hsp
   clear erow hsp HI
   by_cases hm : x + 1 < M64
   ·have hw : IntKind.u64.wrap ((x : Int) + 1) = ((x + 1 : Nat) : Int) := by
     have hm' : x + 1 < 18446744073709551616 := hm
     rw [IntKind.wrap_u64]; omega
    have ht : (((x + 1 : Nat) : Int) != 0) = true := by simp; omega
    have hsz := HKX.out.size
    have hadd := spans_add1 r w.heap.size (w.heap.size + 1) (w.heap.size + 2) (x + 1) (ownF ps (x + 1)) sp g cp wr l1 (by omega) (by omega) (by omega) (by have := HK1.out.size; have := HW2.out; omega) b1 e2 ef2 HROW.out (HOWN.out (x + 1) hm wr HBw.out)
    have HADD1 := Lib.hid hadd
    clear hadd e2 ef2
    go_wp2_with fail
    refine HADD1.out.mono ?_
    rintro e w3 ⟨g3, cp3, sp3, rfl, hsp3, f3, ff3, frow, hk3⟩
    have hnew : SpI (ownF ps) sp3 (nxt pts (k + 1)) ∧ 1 ≤ sp3.length ∧ sp3.length ≤ k + 1 + 1 := by
     have hc := HSP.out
     rw [n1] at hc
     have ho : ∀ h, x + 1 ≤ h → h < nxt pts (k + 1) → ownF ps h = ownF ps (x + 1) := fun h h1 h2 => by
      have := HCST.out (k + 1) hlt h (by rw [n3]; exact h1) h2
      rwa [n3] at this
     have hx1 := HNX1.out k hlt (by rw [hx]; exact hm)
     rw [hx] at hx1
     by_cases he : (sp.getD (sp.length - 1) d0).2 = ownF ps (x + 1)
     ·rw [if_pos he] at hsp3; rw [hsp3]
      exact ⟨hc.skip (Nat.le_of_lt hx1) ho he, l1, by omega⟩
     ·rw [if_neg he] at hsp3; rw [hsp3]
      exact ⟨hc.add hx1 ho he, by simp, by rw [List.length_append]; simp; omega⟩
    have HNEW := Lib.hid hnew; have HF := Lib.hid (And.intro f3 (And.intro ff3 frow)); have HK3 := Lib.hid hk3
    clear hnew f3 ff3 frow hk3 hsp3
    go_wp2_with fail
    go_roundw
    case rel => exact ⟨k + 1, by omega, rfl, Lib.hid ⟨g3, cp3, sp3, HF.out.1, HF.out.2.1, HF.out.2.2, HNEW.out⟩, Lib.hid (HKX.out.trans HK3.out)⟩
    case measure => simp [intOf]; omega
   ·have hw : IntKind.u64.wrap ((x : Int) + 1) = 0 := by
     have hm' : ¬ x + 1 < 18446744073709551616 := hm
     have n2' : x < 18446744073709551616 := n2
     rw [show (x : Int) + 1 = 18446744073709551616 by omega]; decide
    have hnew : SpI (ownF ps) sp (nxt pts (k + 1)) := by
     have hc := HSP.out
     have he : x + 1 = M64 := by omega
     rw [n1, he] at hc
     rw [HLAST.out k hlt (by rw [hx]; exact he)]; exact hc
    have HNEW := Lib.hid hnew; have HF := Lib.hid (And.intro e2 ef2)
    clear hnew e2 ef2
    go_wp2_with fail
    go_roundw
    case rel => exact ⟨k + 1, by omega, rfl, Lib.hid ⟨g, cp, sp, HF.out.1, HF.out.2, HROW.out, HNEW.out, l1, by omega⟩, HKX⟩
    case measure => simp [intOf]; omega
  ·obtain rfl : k = L := by omega
   obtain ⟨g, cp, sp, e2, ef2, erow, hsp, l1, l2⟩ := HI.out
   have HROW := Lib.hid erow; have HSP := Lib.hid hsp
   clear erow hsp HI
   have hbF := HKW.out _ ((HK1.out.trans HKX.out).trans (KX.set (w.heap.size + 2) wr ⟨w.heap.size + 1, 0, none⟩ (.slice (some ⟨g, 0, none⟩) sp.length cp)))
   have hnew : SpI (ownF ps) sp M64 := by
    have hc := HSP.out
    rwa [HNL.out] at hc
   have HNEW := Lib.hid hnew; have HBF := Lib.hid hbF
   clear hnew hbF
   go_wp2_with fail
   refine bodyPost_ret (results_cell_one rfl _ _ (w.heap.size + 1) (.slice (some ⟨g, 0, none⟩) sp.length cp) rfl Tryz.underlying83 (World.cell?_setCell_same' _ _ _ (by rw [e2]; rfl))) rfl ⟨g, cp, sp, rfl, ?_, HNEW.out, by omega, HBF.out⟩
   exact ownsRow_lower (ownsRow_setCell_below HROW.out (by dsimp only; omega) _) (by omega)
end Go.Proofs.YtggdkfijioeijaaGreatDoor
namespace Go.Proofs.YtggdkfijioeijaaGreatDoor
open Go Go.RowKit Go.Maps
theorem point_lt (s i : Nat) : Sh.point s i < M64 := hash_lt _
theorem mem_puts {l : List Nat} {k : Nat} {x : Nat × Nat} : x ∈ puts l k ↔ ∃ s ∈ l, ∃ i, i < k ∧ x = (Sh.point s i, s) := by
 simp only [puts, puts1, List.mem_flatMap, List.mem_map, List.mem_range]
 constructor
 ·rintro ⟨s, hs, i, hi, rfl⟩; exact ⟨s, hs, i, hi, rfl⟩
 ·rintro ⟨s, hs, i, hi, rfl⟩; exact ⟨s, hs, i, hi, rfl⟩
theorem puts_inb {l : List Nat} {k : Nat} (h : ∀ s ∈ l, s < M32) : InB (puts l k) := by
 rintro x hx
 obtain ⟨s, hs, i, _, rfl⟩ := mem_puts.1 hx
 exact ⟨point_lt s i, h s hs⟩
theorem puts_ne {l : List Nat} {k : Nat} (h : 1 ≤ l.length) (hk : 1 ≤ k) : puts l k ≠ [] := by
 intro e
 have := puts_length l k
 rw [e] at this
 have h2 : 1 * 1 ≤ l.length * k := Nat.mul_le_mul h hk
 simp at this
 omega
theorem puts_mem {l m : List Nat} {k : Nat} (h : ∀ x, x ∈ l ↔ x ∈ m) (x : Nat × Nat) : x ∈ puts l k ↔ x ∈ puts m k := by
 rw [mem_puts, mem_puts]
 constructor
 ·rintro ⟨s, hs, r⟩; exact ⟨s, (h s).1 hs, r⟩
 ·rintro ⟨s, hs, r⟩; exact ⟨s, (h s).2 hs, r⟩
theorem puts_desc {k : Nat} : ∀ {l : List Nat}, l.Pairwise (fun a b => b ≤ a) → (puts l k).Pairwise (fun x y => y.2 ≤ x.2)
 | [], _ => by simp [puts]
 | a :: l, h => by
  rw [List.pairwise_cons] at h
  have he : puts (a :: l) k = puts1 a k ++ puts l k := rfl
  rw [he, List.pairwise_append]
  refine ⟨?_, puts_desc h.2, fun x hx y hy => ?_⟩
  ·rw [puts1, List.pairwise_map]
   exact List.pairwise_iff_getElem.2 (fun _ _ _ _ _ => Nat.le_refl _)
  ·obtain ⟨i, _, rfl⟩ := List.mem_map.1 hx
   obtain ⟨s, hs, j, _, rfl⟩ := mem_puts.1 hy
   exact h.1 s hs
structure IsRing (w : World) (r : Nat) (S : List Nat) (k : Nat) : Prop where
 ex : ∃ (srt : List Nat) (pts : List Int), srt.Perm S ∧ srt.Pairwise (· < ·) ∧ RingAt w r pts (puts srt.reverse k) (srt.map Int.ofNat)
 b32 : ∀ s ∈ S, 0 < s ∧ s < 4294967296
 nd : S.Nodup
 l1 : 1 ≤ S.length
 l16 : S.length ≤ 16
 k1 : 1 ≤ k
 k64 : k ≤ 64
noncomputable def ownS (S : List Nat) (k h : Nat) : Nat := ownF (puts S k) h
theorem IsRing.below {w w' : World} {r : Nat} {S : List Nat} {k : Nat} (h : IsRing w r S k) (hb : Below w.heap.size w w') : IsRing w' r S k := by
 obtain ⟨⟨srt, pts, h1, h2, h3⟩, h4, h5, h6, h7, h8, h9⟩ := h
 exact ⟨⟨srt, pts, h1, h2, h3.below hb⟩, h4, h5, h6, h7, h8, h9⟩
theorem perm_mem_rev {srt S : List Nat} (h : srt.Perm S) (x : Nat) : x ∈ srt.reverse ↔ x ∈ S := by rw [List.mem_reverse]; exact h.mem_iff
theorem rev_facts {srt S : List Nat} {k : Nat} (hp : srt.Perm S) (hs : srt.Pairwise (· < ·)) (hb : ∀ s ∈ S, 0 < s ∧ s < 4294967296) (hl : 1 ≤ S.length) (hl2 : S.length ≤ 16) (hk : 1 ≤ k) (hk2 : k ≤ 64) :
  InB (puts srt.reverse k) ∧ Least (puts srt.reverse k) ∧ (puts srt.reverse k).length = S.length * k ∧ (∀ h, ownF (puts srt.reverse k) h = ownS S k h) ∧ S.length * k ≤ 1024 := by
 have hB : InB (puts srt.reverse k) := puts_inb (fun s h => (hb s ((perm_mem_rev hp s).1 h)).2)
 refine ⟨hB, least_of _ (puts_desc ?_), ?_, fun h => ?_, Nat.mul_le_mul hl2 hk2⟩
 ·rw [List.pairwise_reverse]
  exact hs.imp (fun h => Nat.le_of_lt h)
 ·rw [puts_length, List.length_reverse, hp.length_eq]
 ·exact ownF_perm (fun x => puts_mem (fun y => (perm_mem_rev hp y).symm) x) (puts_ne hl hk) hB h
theorem ringNew (S : List Nat) (k : Nat) (b off cap : Nat) (w : World) (hb : b < w.heap.size) (hc : ∀ i, i < S.length → w.cell? ⟨b, off + i, none⟩ = some (.int .u32 ((S.getD i 0 : Nat) : Int)))
  (hk : 1 ≤ k) (hk2 : k ≤ 64) (hl : 1 ≤ S.length) (hl2 : S.length ≤ 16) (hnd : S.Nodup) (h0 : ∀ s ∈ S, 0 < s ∧ s < 4294967296) :
  Calls Tryz.prog 24 #[.int .i64 (k : Int), .slice (some ⟨b, off, none⟩) S.length cap] w fun e w' => ∃ r, e = .returned (.tuple #[.pointer (some ⟨r, 0, none⟩), .int .i64 0]) ∧ IsRing w' r S k ∧ Below w.heap.size w w' := by
 refine (ring_New S k b off cap w hb hc hk hk2 hl hl2 hnd h0).mono ?_
 rintro e w' ⟨r, srt, pts, rfl, hp, hs, hr, hbl⟩
 exact ⟨r, rfl, ⟨⟨srt, pts, hp, hs, hr⟩, h0, hnd, hl, hl2, hk, hk2⟩, hbl⟩
def SpansGivesS (S : List Nat) (k : Nat) (w : World) (e : Ending) (w' : World) : Prop := ∃ g cp sp, e = .returned (.slice (some ⟨g, 0, none⟩) sp.length cp) ∧ w'.ownsRow w.heap.size 99 2 (.slice (some ⟨g, 0, none⟩) sp.length cp) sp.length (spV sp) ∧ SpI (ownS S k) sp M64 ∧ sp.length ≤ S.length * k + 1 ∧ Below w.heap.size w w'
theorem ringSpans (r : Nat) (S : List Nat) (k : Nat) (w : World) (hR : IsRing w r S k) :
  Calls Tryz.prog 63 #[.pointer (some ⟨r, 0, none⟩)] w (SpansGivesS S k w) := by
 obtain ⟨⟨srt, pts, h1, h2, h3⟩, h4, h5, h6, h7, h8, h9⟩ := hR
 obtain ⟨f1, f2, f3, f4, f5⟩ := rev_facts h1 h2 h4 h6 h7 h8 h9
 refine (ring_Spans r pts _ _ w h3 f1 f2 (by omega)).mono ?_
 rintro e w' ⟨g, cp, sp, rfl, hrow, hsp, hl, hb⟩
 have he : ownF (puts srt.reverse k) = ownS S k := funext f4
 rw [he] at hsp
 exact ⟨g, cp, sp, rfl, hrow, hsp, by omega, hb⟩
end Go.Proofs.YtggdkfijioeijaaGreatDoor
