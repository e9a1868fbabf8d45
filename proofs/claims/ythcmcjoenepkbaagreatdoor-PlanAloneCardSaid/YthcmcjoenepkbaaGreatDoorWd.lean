/- Law 28: World, of no moves: a map of a ring of few shards, the program's and the document's. -/
import Derived.Test.YthcmcjoenepkbaaGreatDoorSmU
import Derived.Deep.AppendLies
namespace Go.Proofs.YthcmcjoenepkbaaGreatDoor
open Go Go.RowKit Go.Maps

/-- The document's map. -/
def DocAt (w : World) (m e : Nat) (sp : List (Nat × Nat)) : Prop := ∃ g c, w.heap[m]? = some (.cells #[.int .u64 (e : Int), .slice (some ⟨g, 0, none⟩) sp.length c] 88 (0, 0)) ∧ g < w.heap.size ∧ ∀ i, i < sp.length → w.cell? ⟨g, i * 2, none⟩ = some (.int .u64 ((sp.getD i d0).1 : Int)) ∧ w.cell? ⟨g, i * 2 + 1, none⟩ = some (.int .u32 ((sp.getD i d0).2 : Int))
theorem DocAt.below {w w' : World} {m e : Nat} {sp : List (Nat × Nat)} (h : DocAt w m e sp) (hb : Below w.heap.size w w') : DocAt w' m e sp := by
  obtain ⟨g, c, h1, h2, h3⟩ := h
  exact ⟨g, c, (hb.block _ (lt_of_block h1)).trans h1, Nat.lt_of_lt_of_le h2 hb.size, fun i hi => ⟨(hb.cell (p := ⟨g, i * 2, none⟩) h2).trans (h3 i hi).1, (hb.cell (p := ⟨g, i * 2 + 1, none⟩) h2).trans (h3 i hi).2⟩⟩
def fewS (n : Nat) : List Nat := upto (fun i => i + 1) n
theorem fewS_length (n : Nat) : (fewS n).length = n := upto_length _ _
theorem fewS_mem {n x : Nat} (h : x ∈ fewS n) : 1 ≤ x ∧ x ≤ n := by
  obtain ⟨i, hi, rfl⟩ := List.mem_map.1 h
  have := List.mem_range.1 hi
  omega
theorem fewS_nodup (n : Nat) : (fewS n).Nodup := by
  unfold fewS upto
  rw [List.nodup_iff_pairwise_ne, List.pairwise_map]
  exact List.nodup_range.imp (fun h e => h (by omega))
theorem fewS_succ (n : Nat) : fewS (n + 1) = fewS n ++ [n + 1] := upto_succ _ _
theorem cell_one_new32 (w : World) (v : Value) (T : TypeId) : ∀ j u, [v][j]? = some u → (w.alloc (.cells #[v] T)).cell? ((⟨w.heap.size, 0, none⟩ : Addr).add j) = some u := by
  intro j u hu
  have hj := (List.getElem?_eq_some_iff.1 hu).1
  obtain rfl : j = 0 := by simpa using hj
  obtain rfl : v = u := by simpa using hu
  exact cell_of (MapKept.heap_alloc w (.cells #[v] T)).1 0
/-- A place's owner is one of the shards. -/
theorem ownS_mem {S : List Nat} {k h : Nat} (hl : 1 ≤ S.length) (hk : 1 ≤ k) : ownS S k h ∈ S := by
  obtain ⟨p, hp, _⟩ := ownF_is (ps := puts S k) h (puts_ne hl hk)
  obtain ⟨s, hs, h2⟩ := List.mem_flatMap.1 hp
  obtain ⟨i, _, e⟩ := List.mem_map.1 h2
  have : s = ownS S k h := congrArg Prod.snd e
  exact this ▸ hs

set_option maxRecDepth 100000 in
set_option maxHeartbeats 4000000 in
theorem law28_world (p s : Nat) (hp : p < 256) (hs : s < 256) (w : World) :
    Calls Tryz.prog 9 #[.int .u8 (p : Int), .int .u8 (s : Int), .slice none 0 0] w fun e w' => ∃ m r sp, e = .returned (.tuple #[.pointer (some ⟨m, 0, none⟩), .pointer (some ⟨r, 0, none⟩)]) ∧ MapAt w' m 1 sp ∧ DocAt w' r 1 sp ∧ SpI (ownS (fewS (1 + s % 4)) (1 + p % 4)) sp M64 ∧ sp.length ≤ 25 ∧ Below w.heap.size w w' := by
  obtain ⟨i0, hi, hz0, hz1, hz2⟩ := info_parts infoW32
  obtain ⟨q, hq⟩ : ∃ q, s % 4 = q := ⟨_, rfl⟩
  obtain ⟨n, hn⟩ : ∃ n, 1 + s % 4 = n := ⟨_, rfl⟩
  obtain ⟨k, hk⟩ : ∃ k, 1 + p % 4 = k := ⟨_, rfl⟩
  have hqi : (s : Int) % 4 = (q : Int) := by omega
  have hq32 : IntKind.u32.wrap (q : Int) = (q : Int) := by rw [IntKind.wrap_u32]; omega
  have hki : (1 : Int) + (p : Int) % 4 = (k : Int) := by omega
  have hk1 : 1 ≤ k ∧ k ≤ 4 := by omega
  have hn1 : 1 ≤ n ∧ n ≤ 4 ∧ n ≤ q + 1 ∧ q < n := by omega
  rw [hn, hk]
  clear hq hn hk
  go_enter Tryz.func9, Tryz.ntmps9
  go_wp2_with fail
  go_loopw [8, 9] (fun v i wr => ∃ j : Nat, j ≤ n ∧ i = .int .u32 j ∧ (∃ a c, v = .slice a j c) ∧ Hid (wr.ownsRow w.heap.size 28 1 v j ((fewS j).map (fun s : Nat => Value.int .u32 (s : Int)))) ∧ Hid (Below w.heap.size w wr)) (fun _ i _ => n - (intOf i).toNat)
  case atStart => exact ⟨0, Nat.zero_le _, rfl, ⟨none, 0, rfl⟩, Lib.hid (World.ownsRow_nil _ _ _ _), Lib.hid (Below.refl _ _)⟩
  case round =>
    obtain ⟨j, hj, rfl, ⟨av, cv, rfl⟩, HROW, HB⟩ := hrel
    by_cases hlt : j < n
    · obtain ⟨j1, hj1⟩ : ∃ j1, j + 1 = j1 := ⟨_, rfl⟩
      have hji : (j : Int) + 1 = (j1 : Int) := by omega
      have hjw : IntKind.u32.wrap (j1 : Int) = (j1 : Int) := by rw [IntKind.wrap_u32]; omega
      have hle : ((j : Int) ≤ (q : Int)) = True := by simp; omega
      have HJ1 := Lib.hid hj1
      have hle' : (j : Int) ≤ (q : Int) := by omega
      clear hj1
      go_wp2_with (
        at_builtin
        refine wpList_append_lies _ rfl (.tmp 30) (.tmp 33) 64 rfl w.heap.size 28 i0 (.int .u32 0) 1 4 Tryz.underlying64 hi hz0 hz1 hz2 rfl (by decide) _ j ((fewS j).map (fun s : Nat => Value.int .u32 (s : Int))) rfl (HROW.out.alloc _) ⟨wr.heap.size, 0, none⟩ 1 1 [.int .u32 (j1 : Int)] rfl rfl (cell_one_new32 _ _ _) (few_one _) (by decide) (by unfold maxLen; omega) (by omega) (by have := HB.out.size; simp; omega) (wr.heap.size + 1) (by simp) ?go
        intro g cp w8 hown8 hg8 _hat _hlt8
        replace hown8 : w8.ownsRow w.heap.size 28 1 (.slice (some ⟨g, 0, none⟩) (j + 1) cp) (j + 1) ((fewS (j + 1)).map (fun s : Nat => Value.int .u32 (s : Int))) := (by rw [fewS_succ, List.map_append, show ([j + 1] : List Nat).map (fun s : Nat => Value.int .u32 (s : Int)) = [.int .u32 (j1 : Int)] by rw [HJ1.out]; rfl]; exact hown8)
        have hB8 : Below w.heap.size w w8 := (HB.out.alloc HB.out.size _).grown hg8 (by simp; have := HB.out.size; omega) (fun k hk => by have := own_above HROW.out k hk; omega)
        have HB8 := Lib.hid hB8; have HO8 := Lib.hid hown8
        clear hown8 hg8 _hat _hlt8 hB8)
      go_roundw
      case rel => exact ⟨j + 1, by omega, by rw [← hji]; rfl, ⟨_, _, rfl⟩, HO8, HB8⟩
      case measure => simp [intOf]; omega
    · obtain rfl : j = n := by omega
      have hle : ((j : Int) ≤ (q : Int)) = False := by simp; omega
      have hle' : ¬ (j : Int) ≤ (q : Int) := by omega
      obtain ⟨g, rfl⟩ : ∃ g, av = some ⟨g, 0, none⟩ := by
        rcases HROW.out.2 with ⟨h', hn0⟩ | ⟨g, cap, cur, h', _⟩
        · omega
        · simp only [Value.slice.injEq] at h'
          exact ⟨g, h'.1⟩
      have hfl := fewS_length j
      have hcell : ∀ i, i < j → wr.cell? ⟨g, i, none⟩ = some (.int .u32 (((fewS j).getD i 0 : Nat) : Int)) := fun i hi => by
        rw [World.ownsRow.cellAt HROW.out i (by omega), List.getElem?_map, List.getD_eq_getElem?_getD, List.getElem?_eq_getElem (by omega)]; rfl
      have hgl := block_lt_of_cell (hcell 0 (by omega))
      have hnew := ringNew (fewS j) k g 0 cv wr hgl (fun i hi => by rw [Nat.zero_add]; exact hcell i (by omega)) hk1.1 (by omega) (by omega) (by omega) (fewS_nodup j) (fun x hx => by have := fewS_mem hx; omega)
      have hspots := fun w' (h : Below wr.heap.size wr w') => ref26_Spots (fewS j) k g cv w' (by omega) (by omega) (fun x hx => by have := fewS_mem hx; omega) (fun i hi => (h.cell (p := ⟨g, i, none⟩) hgl).trans (hcell i (by omega)))
      have hpl : (puts (fewS j) k).length = j * k := by rw [puts_length, hfl]
      have hpl1 : 1 ≤ j * k := Nat.mul_pos (by omega) (by omega)
      have hpl2 : j * k ≤ 4 * 4 := Nat.mul_le_mul (by omega) (by omega)
      rw [hfl] at hnew hspots
      rw [hpl] at hspots
      obtain ⟨L, hL⟩ : ∃ L, j * k = L := ⟨_, rfl⟩
      rw [hL] at hspots hpl hpl1 hpl2
      have HSPOT := Lib.hid hspots; have HNEW := Lib.hid hnew; have HPL := Lib.hid hpl; have HFL := Lib.hid hfl
      clear hspots hnew hpl hL hcell HROW hfl
      go_wp2_with fail
      refine HNEW.out.mono ?_
      rintro e w1 ⟨r, rfl, hR, hb1⟩
      have HR := Lib.hid hR; have HB1 := Lib.hid hb1
      clear hR hb1
      go_wp2_with fail
      refine (map_New r (fewS j) k w1 HR.out).mono ?_
      rintro e w2 ⟨m, sp, rfl, hM, hsp, hl, hm, hb2⟩
      have HM := Lib.hid hM; have HSP := Lib.hid hsp; have HB2 := Lib.hid (HB1.out.trans (hb2.mono HB1.out.size))
      have HLL := Lib.hid hl
      clear hM hsp hl hb2
      go_wp2_with fail
      refine (HSPOT.out w2 HB2.out).mono ?_
      rintro e w3 ⟨v, rfl, hrow, hb3⟩
      obtain ⟨g3, c3, rfl, hc3⟩ : ∃ g3 c3, v = .slice (some ⟨g3, 0, none⟩) L c3 ∧ ∀ i, i < L → w3.cell? ⟨g3, i * 2, none⟩ = some (.int .u64 (((puts (fewS j) k).getD i d0).1 : Int)) ∧ w3.cell? ⟨g3, i * 2 + 1, none⟩ = some (.int .u32 (((puts (fewS j) k).getD i d0).2 : Int)) := by
        rcases hrow.2 with ⟨_, h0⟩ | ⟨g', cap', cur, rfl, _⟩
        · omega
        · refine ⟨g', cap', rfl, fun i hi => ?_⟩
          obtain ⟨s1, s2⟩ := spV_at (puts (fewS j) k) i (by rw [HPL.out]; exact hi)
          exact ⟨(World.ownsRow.cellAt hrow (i * 2) (by omega)).trans s1, (World.ownsRow.cellAt hrow (i * 2 + 1) (by omega)).trans s2⟩
      have hspans := ref26_Spans (puts (fewS j) k) g3 c3 w3 (puts_inb (fun x hx => by have := fewS_mem hx; show x < 4294967296; omega)) (by rw [HPL.out]; exact hpl1) (by rw [HPL.out]; omega) (fun i hi => hc3 i (by rw [← HPL.out]; exact hi))
      rw [HPL.out] at hspans
      have HSPANS := Lib.hid hspans; have HB3 := Lib.hid (HB2.out.trans (hb3.mono HB2.out.size))
      have HM3 := Lib.hid (HM.out.below hb3)
      clear hspans hb3 hrow hc3
      go_wp2_with fail
      refine HSPANS.out.mono ?_
      rintro e w4 ⟨g4, c4, sp4, rfl, hrow4, hsp4, hl4, hb4⟩
      obtain rfl := hsp4.uniq (b := sp) HSP.out
      have hcells := cells_of_row hrow4 rfl
      have hpos := List.length_pos_iff.2 HSP.out.ne
      have hg4 := block_lt_of_cell (hcells 0 hpos).1
      have HB4 := Lib.hid (HB3.out.trans (hb4.mono HB3.out.size))
      have HM4 := Lib.hid (HM3.out.below hb4)
      have HC4 := Lib.hid hcells
      clear hrow4 hsp4 hb4 hcells
      obtain ⟨l4, hl4e⟩ : ∃ l4, sp4.length = l4 := ⟨_, rfl⟩
      rw [hl4e]
      have HL4 := Lib.hid hl4e
      clear hl4e
      go_wp2_with fail
      obtain ⟨W5, hW5⟩ : ∃ W5, w4.alloc (.cells #[.int .u64 1, .slice (some ⟨g4, 0, none⟩) l4 c4] 88) = W5 := ⟨_, rfl⟩
      rw [hW5]
      have HW5 := Lib.hid hW5
      clear hW5
      go_loopw [13, 15, 16] (fun vm vd vi wr2 => vm = .pointer (some ⟨m, 0, none⟩) ∧ vd = .pointer (some ⟨w4.heap.size, 0, none⟩) ∧ vi = .int .i64 0 ∧ wr2 = W5) (fun _ _ _ _ => 0)
      case atStart => exact ⟨rfl, rfl, rfl, rfl⟩
      case round =>
        obtain ⟨rfl, rfl, rfl, rfl⟩ := hrel
        go_wp2_with fail
        go_ret2
        rw [← HW5.out]
        have hba := HB.out.trans (HB4.out.mono HB.out.size)
        refine ⟨m, w4.heap.size, sp4, rfl, HM4.out.below ((Below.refl _ _).alloc (Nat.le_refl _) _), ⟨g4, c4, ?_, by simp; omega, fun i hi => ?_⟩, HSP.out, by omega, hba.alloc hba.size _⟩
        · rw [HL4.out]; exact (MapKept.heap_alloc _ _).1
        · obtain ⟨a, b⟩ := HC4.out i hi
          exact ⟨(World.cell?_alloc_past _ _ _ hg4).trans a, (World.cell?_alloc_past _ _ _ hg4).trans b⟩
end Go.Proofs.YthcmcjoenepkbaaGreatDoor
