/- Contract: shardmap.Map's Shards: its shards, each once, rising. -/
import Derived.Test.YthcmcjoenepkbaaGreatSm9
import Derived.Test.YthcmcjoenepkbaaGreatFir
import Derived.Test.YthcmcjoenepkbaaGreatCmp
import Derived.Test.YthcmcjoenepkbaaGreatSrt32
namespace Go.Proofs.YthcmcjoenepkbaaGreat
open Go Go.RowKit Go.Maps

/-- What is left of a rising row: each once, rising. -/
theorem compact_rise (d : Array Int) (h : d.toList.Pairwise (· ≤ ·)) : ∀ m, m ≤ d.size → (Go.Lib.compactUpTo d m).Pairwise (· < ·) ∧ (∀ x ∈ Go.Lib.compactUpTo d m, (∃ j, j < m ∧ d[j]! = x) ∧ (0 < m → x ≤ d[m - 1]!)) ∧ (∀ j, j < m → d[j]! ∈ Go.Lib.compactUpTo d m) := by
  have hle : ∀ i j, i ≤ j → j < d.size → d[i]! ≤ d[j]! := fun i j hij hj => by
    by_cases e : i = j
    · subst e; exact Int.le_refl _
    · have := List.pairwise_iff_getElem.1 h i j (by simpa using (by omega : i < d.size)) (by simpa using hj) (by omega)
      rw [getElem!_pos d i (by omega), getElem!_pos d j hj]
      simpa using this
  intro m
  induction m with
  | zero => intro _; exact ⟨by simp [Go.Lib.compactUpTo], fun x hx => by simp [Go.Lib.compactUpTo] at hx, fun j hj => by omega⟩
  | succ m ih =>
    intro hm
    obtain ⟨h1, h2, h3⟩ := ih (by omega)
    rw [Go.Lib.compactUpTo_succ]
    by_cases hk : Go.Lib.keeps d m = true
    · rw [if_pos hk]
      have hlt : ∀ x ∈ Go.Lib.compactUpTo d m, x < d[m]! := fun x hx => by
        obtain ⟨⟨j, hj, _⟩, hx2⟩ := h2 x hx
        have hx3 := hx2 (by omega)
        have hne : d[m]! ≠ d[m - 1]! := by
          unfold Go.Lib.keeps at hk
          rcases of_decide_eq_true hk with h0 | h0
          · omega
          · exact h0
        have := hle (m - 1) m (by omega) (by omega)
        omega
      refine ⟨List.pairwise_append.2 ⟨h1, List.pairwise_singleton _ _, fun a ha b hb => ?_⟩, fun x hx => ?_, fun j hj => ?_⟩
      · obtain rfl : b = d[m]! := by simpa using hb
        exact hlt a ha
      · rcases List.mem_append.1 hx with hx | hx
        · obtain ⟨⟨j, hj, e⟩, _⟩ := h2 x hx
          exact ⟨⟨j, by omega, e⟩, fun _ => by rw [Nat.add_sub_cancel]; exact Int.le_of_lt (hlt x hx)⟩
        · obtain rfl : x = d[m]! := by simpa using hx
          exact ⟨⟨m, by omega, rfl⟩, fun _ => by rw [Nat.add_sub_cancel]; exact Int.le_refl _⟩
      · by_cases e : j = m
        · subst e; exact List.mem_append_right _ (by simp)
        · exact List.mem_append_left _ (h3 j (by omega))
    · rw [if_neg hk, List.append_nil]
      have hkk : m ≠ 0 ∧ d[m]! = d[m - 1]! := by
        have hf : ¬ (m = 0 ∨ d[m]! ≠ d[m - 1]!) := fun h => hk (by unfold Go.Lib.keeps; exact decide_eq_true h)
        exact ⟨fun h => hf (Or.inl h), Classical.byContradiction fun h => hf (Or.inr h)⟩
      refine ⟨h1, fun x hx => ?_, fun j hj => ?_⟩
      · obtain ⟨⟨j, hj, e⟩, hx2⟩ := h2 x hx
        exact ⟨⟨j, by omega, e⟩, fun _ => by rw [Nat.add_sub_cancel, hkk.2]; exact hx2 (by omega)⟩
      · by_cases e : j = m
        · subst e; rw [hkk.2]; exact h3 (j - 1) (by omega)
        · exact h3 j (by omega)
theorem below_putRow {w : World} {B g off : Nat} (enc : Int → Value) (d : Array Int) (hB : B ≤ g) : Below B w (Go.Sort.putRow enc w g off d) :=
  ⟨rfl, rfl, rfl, by rw [Go.Sort.size_putRow]; exact Nat.le_refl _, fun j hj => by
    show (w.heap.modify g _)[j]? = _
    rw [Array.getElem?_modify, if_neg (by omega)]⟩
theorem below_ahead {w : World} (B n : Nat) : Below B w (Go.Sort.ahead w n) := ⟨rfl, rfl, rfl, Nat.le_refl _, fun _ _ => rfl⟩
/-- What Shards leaves. -/
def ShardsG (sp : List (Nat × Nat)) (w : World) (e : Ending) (w' : World) : Prop := ∃ g cp, ∃ S : List Nat, e = .returned (.slice (some ⟨g, 0, none⟩) S.length cp) ∧ w.heap.size ≤ g ∧ g < w'.heap.size ∧ (∀ i, i < S.length → w'.cell? ⟨g, i, none⟩ = some (.int .u32 ((S.getD i 0 : Nat) : Int))) ∧
  S.Pairwise (· < ·) ∧ (∀ s, s ∈ S ↔ ∃ k, k < sp.length ∧ (sp.getD k d0).2 = s) ∧ S.length ≤ sp.length ∧ Below w.heap.size w w'
theorem ints_nats {C : List Int} {sh : List Nat} (h : ∀ x ∈ C, ∃ s ∈ sh, x = (s : Int)) : C = (C.map Int.toNat).map (fun s : Nat => (s : Int)) := by
  rw [List.map_map]
  conv => lhs; rw [← List.map_id C]
  refine List.map_congr_left fun x hx => ?_
  obtain ⟨s, _, rfl⟩ := h x hx
  simp

attribute [local go_sem] Oper.semAt_some
set_option maxRecDepth 100000 in
set_option maxHeartbeats 4000000 in
theorem map_Shards (m e : Nat) (sp : List (Nat × Nat)) (w : World) (hM : MapAt w m e sp) (hl : sp.length ≤ 100000) (O : Nat → Nat) (hS : SpI O sp M64) :
    Calls Tryz.prog 19 #[.pointer (some ⟨m, 0, none⟩)] w (ShardsG sp w) := by
  have hl1 : 1 ≤ sp.length := List.length_pos_iff.2 hS.ne
  obtain ⟨i0, hi, hz0i, hz1i, hz2i⟩ := info_parts infoW32
  refine (callsIn_wide (n := 14)).1 ?_
  refine callsIn_of_wp_marks Tryz.func19 rfl trivial ?_ rfl
  simp only [Tryz.ntmps19, List.size_toArray, List.length_cons, List.length_nil, Nat.reduceAdd, Nat.reduceSub, Array.replicate_succ, Array.replicate_zero, List.push_toArray, List.append_toArray, List.nil_append, List.cons_append]
  gi_wp2_with fail
  obtain ⟨W0, hW0⟩ : ∃ W0, w.alloc (.cells #[.slice none 0 0] 57) = W0 := ⟨_, rfl⟩
  obtain ⟨hz0', hc2, hB0⟩ := alloc_keep hW0
  have hz0 := Lib.hid hz0'
  rw [hW0]
  clear hW0
  refine ⟨trivial, (callsIn_wide.2 (map_ranges m W0)).mono ?_⟩
  rintro en w1 ⟨rfl, hw1⟩
  have hb1 : Below W0.heap.size W0 w1 := by rw [hw1]; exact (Below.refl _ _).alloc (Nat.le_refl _) _
  have hs1 : w1.heap.size = w.heap.size + 2 := by rw [hw1]; simp [hz0.out]
  have hbm : w1.cell? ⟨W0.heap.size, 0, none⟩ = some (.pointer (some ⟨m, 0, none⟩)) := by rw [hw1]; exact cell_of (MapKept.heap_alloc _ _).1 0
  have hB1 : Below w.heap.size w w1 := hB0.trans (hb1.mono hB0.size)
  have hc2' := (hb1.block w.heap.size (by have := hz0.out; omega)).trans hc2
  have hseq := ranges_stops 13 (by decide) W0.heap.size m e sp w.heap.size 0 w1 hl1 hl hS.rise hS.lt (hM.below hB1) hbm (by omega) (fun g o n c hc => by rw [cell_of hc2' 0] at hc; cases hc)
  have hL0 : LSt w.heap.size (w.heap.size + 2) 57 25 1 0 [] w1 := ⟨none, 0, hc2', World.ownsRow_nil _ _ _ _⟩
  have HSEQ := Lib.hid hseq; have HB1 := Lib.hid hB1; have HS1 := Lib.hid hs1; have HL0 := Lib.hid hL0
  clear hseq hB1 hs1 hc2' hw1 hb1 hbm hc2 hB0 hL0 hM hS hz0'
  gi_wp2_with fail
  apply wpIn_rangeFunc_ownH rfl (by decide) (gf := 52) (lb := #[.pointer (some ⟨W0.heap.size, 0, none⟩)]) rfl trivial (enters_of Tryz.func52 (by kernel_rfl) rfl)
    HSEQ.out (fun h h' => h.trans h') (fun W l o o' hl h1 h2 h3 => ?hkb) (Below.refl _ _) (fun _ => rfl)
    (fun pre W => LSt w.heap.size (w.heap.size + 2) 57 25 1 pre.length ((pre.map (fun x : Rg => (x.2.2 : Int))).map (Value.int .u32)) W ∧ KX w.heap.size (w.heap.size + 2) w1 W)
    (fun c pre W => False)
    (Ax := fun x a' W => a' = { tmps := #[.pointer (some ⟨m, 0, none⟩), undef, .pointer (some ⟨w.heap.size, 0, none⟩), undef, .int .u32 (x.2.2 : Int), .pointer (some ⟨m, 0, none⟩), .func (.func 52) #[] #[.pointer (some ⟨W0.heap.size, 0, none⟩)], .agg #[.int .u64 (x.1 : Int), .int .u64 (x.2.1 : Int)], .int .u32 (x.2.2 : Int), undef, undef, undef, undef, undef, undef, undef, undef], defers := [] })
  case hkb => exact KR.putObj o' h1 h2 (by have := HS1.out; omega)
  case hI =>
    rintro s A C row ⟨h1, h2⟩ hg hr
    exact ⟨h1.grown hg (fun r e => (hr r e).2), h2.trans (KX.row hg (fun j e => by have := (hr j e).1; have := HS1.out; omega) (by have := h2.size; have := HS1.out; omega))⟩
  case hIx => rintro c s A C row h; exact h.elim
  case h0 => exact ⟨HL0.out, KX.refl _ _ _⟩
  case hAx => rintro x a' s A C row h1 hg hr; exact h1
  case hassign =>
    rintro l pre x W K ⟨h1, h2⟩ hK
    obtain ⟨a0, cp0, hbk, hrw⟩ := id h1
    have hkk := hK { tmps := #[.pointer (some ⟨m, 0, none⟩), undef, .pointer (some ⟨w.heap.size, 0, none⟩), undef, .int .u32 (x.2.2 : Int), .pointer (some ⟨m, 0, none⟩), .func (.func 52) #[] #[.pointer (some ⟨W0.heap.size, 0, none⟩)], .agg #[.int .u64 (x.1 : Int), .int .u64 (x.2.1 : Int)], .int .u32 (x.2.2 : Int), undef, undef, undef, undef, undef, undef, undef, undef], defers := [] } W (KeepsFrom.refl _ _) (KR.below (Below.refl _ _) (lt_of_block hbk)) ⟨h1, h2⟩ rfl
    clear hrw hbk h1
    gi_wp2
    exact hkk
  case hbody =>
    rintro l pre x a' W hl hrec ⟨hL, hK⟩ rfl hpre
    have hwz : w.heap.size + 2 ≤ W.heap.size := by have := hK.size; have := HS1.out; omega
    obtain ⟨a, cp, hBb, hrow⟩ := hL
    obtain ⟨n, hn⟩ : ∃ n, pre.length = n := ⟨_, rfl⟩
    rw [hn] at hBb hrow hpre
    have r0 : W.cell? ⟨w.heap.size, 0, none⟩ = some (.slice a n cp) := cell_of hBb 0
    have q0 : W.frozen? ⟨w.heap.size, 0, none⟩ = false := frozen_of hBb 0
    obtain ⟨s1, hs1⟩ : ∃ z, x.2.2 = z := ⟨_, rfl⟩
    obtain ⟨xs, hxs⟩ : ∃ xs, (pre.map (fun x : Rg => (x.2.2 : Int))).map (Value.int .u32) = xs := ⟨_, rfl⟩
    rw [hxs] at hrow
    have HX := Lib.hid (show ((pre ++ [x]).map (fun x : Rg => (x.2.2 : Int))).map (Value.int .u32) = xs ++ [.int .u32 (s1 : Int)] by rw [← hxs, List.map_append, List.map_append, ← hs1]; rfl)
    rw [hs1]
    have HBB := Lib.hid hBb; have HROW := Lib.hid hrow; have HK := Lib.hid hK; have HN := Lib.hid hn
    clear hBb hrow hK hn hs1 hxs hrec
    gi_wp2_with (gi_at_builtin; refine wpListIn_append_own_at _ rfl _ _ 57 rfl (w.heap.size + 2) 25 i0 (.int .u32 0) 1 4 Tryz.underlying57 hi hz0i hz1i hz2i rfl (by decide) _ n xs rfl (HROW.out.alloc _) ⟨W.heap.size, 0, none⟩ 1 1 [.int .u32 (s1 : Int)] rfl rfl (cell_one_new32 _ _ _) (few_one _) (by unfold maxLen; omega) (by omega) (by simp; omega) ?_; intro v8 w8 hown8 hg8 _h8 hat8; obtain ⟨g8, cp8, rfl⟩ := ownsRow_succ hown8; obtain ⟨hl8, hst8, hb8⟩ := lst_of (by omega) hwz HBB.out HROW.out hg8 hat8 hown8; have hr8 : w8.cell? ⟨w.heap.size, 0, none⟩ = some (.slice a n cp) := (World.cell?_of_block (w := W) (a := ⟨w.heap.size, 0, none⟩) hb8).trans r0; have hq8 : w8.frozen? ⟨w.heap.size, 0, none⟩ = false := (World.frozen?_of_block (w := W) (a := ⟨w.heap.size, 0, none⟩) hb8).trans q0; have HL8 := Lib.hid hl8; have HST8 := Lib.hid hst8; clear hown8 hg8 _h8 hat8 hl8 hst8 hb8)
    refine ⟨keepsFrom_up HST8.out.kf (by have := HS1.out; omega), HST8.out.kr, ?_, HK.out.trans HST8.out.kx⟩
    rw [List.length_append, HN.out, HX.out]; exact HL8.out
  case hdone =>
    rintro D xs W hD rfl ⟨hL, hK⟩ hdef
    obtain ⟨sh, hsh⟩ : ∃ sh : List Int, (upto (nthRg sp) sp.length).map (fun x : Rg => (x.2.2 : Int)) = sh := ⟨_, rfl⟩
    have hshm : ∀ x : Int, x ∈ sh ↔ ∃ k, k < sp.length ∧ x = (((sp.getD k d0).2 : Nat) : Int) := fun x => by
      rw [← hsh]
      constructor
      · intro h
        obtain ⟨y, hy, rfl⟩ := List.mem_map.1 h
        obtain ⟨k, hk, rfl⟩ := List.mem_map.1 hy
        exact ⟨k, List.mem_range.1 hk, rfl⟩
      · rintro ⟨k, hk, rfl⟩
        exact List.mem_map.2 ⟨nthRg sp k, List.mem_map.2 ⟨k, List.mem_range.2 hk, rfl⟩, rfl⟩
    have hshl : sh.length = sp.length := by rw [← hsh, List.length_map, upto_length]
    rw [upto_length, hsh] at hL
    obtain ⟨n, hn⟩ : ∃ n, sp.length = n := ⟨_, rfl⟩
    rw [hn] at hL hshl hl1 hl
    obtain ⟨a, cp, hBb, hrow⟩ := hL
    obtain ⟨g, rfl, hbg, hcap, hgb⟩ : ∃ g, a = some ⟨g, 0, none⟩ ∧ w.heap.size + 2 ≤ g ∧ n ≤ cp ∧ ∃ C, W.heap[g]? = some (.cells C 25 (0, 0)) := by
      rcases hrow.2 with ⟨_, h⟩ | ⟨g', cap', cur, h', hB, hg, hc, _⟩
      · omega
      · simp only [Value.slice.injEq] at h'
        obtain ⟨h1, _, h3⟩ := h'
        exact ⟨g', h1, hB, by omega, cur, hg⟩
    obtain ⟨Cg, hgb⟩ := hgb
    have hsr := own_SR (g := g) (cap := cp) (l := sh) (K := .u32) (B := w.heap.size + 2) (e := 25) (w := W) (by rw [hshl]; exact hrow)
    have hgl := lt_of_block hgb
    have hDg : D ≠ g := fun e => by rw [e, hgb] at hdef; cases hdef
    have r0 : W.cell? ⟨w.heap.size, 0, none⟩ = some (.slice (some ⟨g, 0, none⟩) n cp) := cell_of hBb 0
    have HSORT := Lib.hid (uint32_Sort (S := fun k => k = g) (cap := cp) (N := n) rfl hgl hsr (by simpa using hshl) (by omega))
    have HSH := Lib.hid hshm; have HBB := Lib.hid hBb; have HK := Lib.hid hK; have HDEF := Lib.hid hdef; have HNN := Lib.hid hn; have HDG := Lib.hid hDg; have HGL := Lib.hid hgl
    clear hsh hshm hshl hn hBb hrow hK hdef hgb hsr hDg hgl
    gi_wp2_with fail
    refine ⟨trivial, (callsIn_wide.2 HSORT.out).mono ?_⟩
    rintro en W2 ⟨rfl, d', g1, g2, g3, g4⟩
    have hB2 : Below (w.heap.size + 2) W W2 := g4.but.below (fun k hk => by rw [hk]; exact hbg) (by have := HGL.out; omega)
    have hBb2 := (hB2.block w.heap.size (by omega)).trans HBB.out
    have r2 : W2.cell? ⟨w.heap.size, 0, none⟩ = some (.slice (some ⟨g, 0, none⟩) n cp) := cell_of hBb2 0
    have hcmp := Tryz.slices_Compact_u32 g 0 cp d' W2 g4.holds (by omega) (by omega)
    rw [g1] at hcmp
    have hdef2 : W2.heap[D]? = some (.deferred (some [])) := (g4.but.block D ((Array.getElem?_eq_some_iff.1 HDEF.out).1) HDG.out).trans HDEF.out
    have hgl2 : g < W2.heap.size := Nat.lt_of_lt_of_le HGL.out g4.but.size
    have hrise := compact_rise d' g3 n (by omega)
    have hmem : ∀ x : Int, x ∈ Go.Lib.compactUpTo d' n ↔ ∃ k, k < sp.length ∧ x = (((sp.getD k d0).2 : Nat) : Int) := fun x => by
      rw [← HSH.out x, ← g2.mem_iff]
      constructor
      · intro h
        obtain ⟨⟨j, hj, rfl⟩, _⟩ := hrise.2.1 x h
        rw [getElem!_pos d' j (by omega)]; simp
      · intro h
        obtain ⟨j, hj, rfl⟩ := List.mem_iff_getElem.1 h
        have hj' : j < d'.size := by simpa using hj
        have := hrise.2.2 j (by omega)
        rw [getElem!_pos d' j hj'] at this
        simpa using this
    have hclen : (Go.Lib.compactUpTo d' n).length ≤ n := by
      unfold Go.Lib.compactUpTo
      rw [List.length_map]
      exact Nat.le_trans (List.length_filter_le _ _) (by simp)
    obtain ⟨C, hC⟩ : ∃ C, Go.Lib.compactUpTo d' n = C := ⟨_, rfl⟩
    rw [hC] at hcmp hrise hmem hclen
    obtain ⟨cl, hcl⟩ : ∃ cl, C.length = cl := ⟨_, rfl⟩
    rw [hcl] at hcmp hclen
    have HCMP := Lib.hid hcmp; have HB2 := Lib.hid hB2; have HBB2 := Lib.hid hBb2; have HDEF2 := Lib.hid hdef2; have HRISE := Lib.hid hrise.1; have HMEM := Lib.hid hmem; have HG4 := Lib.hid g4.holds; have HG1 := Lib.hid g1; have HCL := Lib.hid hcl; have HGL2 := Lib.hid hgl2
    clear g1 g2 g3 g4 hB2 hBb2 hcmp hdef2 hrise hmem hC hcl hgl2 HSORT r0
    gi_wp2_with fail
    refine ⟨trivial, (callsIn_wide.2 HCMP.out).mono ?_⟩
    rintro en W3 ⟨rfl, nq, hW3⟩
    have hsz : (C ++ List.replicate (n - cl) 0).toArray.size = d'.size := by simp [HCL.out, HG1.out]; omega
    have hh3 := Go.Sort.holds_putRow (Value.int .u32) (Go.Sort.ahead W2 nq) g 0 d' (C ++ List.replicate (n - cl) 0).toArray HG4.out hsz
    rw [← hW3] at hh3
    have hB3 : Below (w.heap.size + 2) W2 W3 := by rw [hW3]; exact (below_ahead _ _).trans (below_putRow _ _ hbg)
    have hW3D : W3.heap[D]? = some (.deferred (some [])) := by
      rw [hW3]
      show (W2.heap.modify g _)[D]? = _
      rw [Array.getElem?_modify, if_neg (fun e => HDG.out e.symm)]
      exact HDEF2.out
    have hBb3 := (hB3.block w.heap.size (by omega)).trans HBB2.out
    have hgl3 : g < W3.heap.size := Nat.lt_of_lt_of_le HGL2.out hB3.size
    have hcell3 : ∀ i, i < cl → W3.cell? ⟨g, i, none⟩ = some (.int .u32 (C.getD i 0)) := fun i hi => by
      have h1 := (hh3 i (by simp [HCL.out]; omega)).1
      rw [Nat.zero_add] at h1
      rw [h1]
      have hi' : i < C.length := by rw [HCL.out]; exact hi
      rw [getElem!_pos _ i (by simp [HCL.out]; omega)]
      simp [List.getElem_append_left, hi', List.getD_eq_getElem?_getD]
    have r3 : W3.cell? ⟨w.heap.size, 0, none⟩ = some (.slice (some ⟨g, 0, none⟩) n cp) := cell_of hBb3 0
    have q3 : W3.frozen? ⟨w.heap.size, 0, none⟩ = false := frozen_of hBb3 0
    have HB3 := Lib.hid hB3; have HC3 := Lib.hid hcell3; have HD3 := Lib.hid hW3D; have HGL3 := Lib.hid hgl3
    clear hsz hh3 hB3 hW3D hBb3 hcell3 hW3 hgl3 r2
    gi_wp2_with fail
    obtain ⟨W4, hW4⟩ : ∃ W4, W3.setCell ⟨w.heap.size, 0, none⟩ (.slice (some ⟨g, 0, none⟩) cl cp) = W4 := ⟨_, rfl⟩
    rw [hW4]
    have hk4 : ∀ k, k ≠ w.heap.size → W4.heap[k]? = W3.heap[k]? := fun k h => by rw [← hW4]; exact Below.heap_setCell W3 ⟨w.heap.size, 0, none⟩ _ k h
    have hc4 : W4.cell? ⟨w.heap.size, 0, none⟩ = some (.slice (some ⟨g, 0, none⟩) cl cp) := by rw [← hW4]; exact World.cell?_setCell_same' _ _ _ (by rw [r3]; rfl)
    have hb4 : Below w.heap.size W3 W4 := by rw [← hW4]; exact below_set _ _ (Nat.le_refl _)
    have hdef4 : W4.heap[D]? = some (.deferred (some [])) := (hk4 D (by have := HS1.out; omega)).trans HD3.out
    have hpb : Below (w.heap.size + 2) W4 (W4.putObj D (.deferred none)) := belowK_b (w := w1) (by have := HS1.out; omega) W4 D _ _ hD hdef4 rfl rfl
    have hfin : Below w.heap.size w (W4.putObj D (.deferred none)) := (((HB1.out.trans (HK.out.below (by omega) (Nat.le_refl _))).trans ((HB2.out.mono (by omega)).trans (HB3.out.mono (by omega)))).trans hb4).trans (hpb.mono (by omega))
    have hgD : (W4.putObj D (.deferred none)).heap[g]? = W3.heap[g]? := ((grownBy_putObj' W4 D (.deferred none)).block g (by have := hb4.size; have := HGL3.out; omega) (fun e => by cases e; exact HDG.out rfl)).trans (hk4 g (by omega))
    have hnat := ints_nats (C := C) (sh := sp.map (·.2)) (fun x hx => by
      obtain ⟨k, hk, rfl⟩ := (HMEM.out x).1 hx
      refine ⟨_, List.mem_map.2 ⟨sp.getD k d0, ?_, rfl⟩, rfl⟩
      rw [List.getD_eq_getElem?_getD, List.getElem?_eq_getElem hk]; exact List.getElem_mem _)
    refine ⟨by simp, .inl ⟨_, _, rfl, run_takeDeferred hdef4, ?_⟩⟩
    have hlS : (C.map Int.toNat).length = cl := by rw [List.length_map, HCL.out]
    refine ⟨_, results_cell_one rfl _ _ w.heap.size _ rfl Tryz.underlying57 ((hpb.cell (p := ⟨w.heap.size, 0, none⟩) (by dsimp only; omega)).trans hc4), g, cp, C.map Int.toNat, by rw [hlS], by omega, by have := hpb.size; have := hb4.size; have := HGL3.out; omega, fun i hi => ?_, ?_, fun s => ?_, by rw [hlS, HNN.out]; exact hclen, hfin⟩
    · rw [hlS] at hi
      refine (World.cell?_of_block (w := W3) (a := ⟨g, i, none⟩) hgD).trans ((HC3.out i hi).trans ?_)
      have hi' : i < C.length := by rw [HCL.out]; exact hi
      obtain ⟨k, hk, hx⟩ := (HMEM.out C[i]).1 (List.getElem_mem _)
      simp only [List.getD_eq_getElem?_getD, List.getElem?_map, List.getElem?_eq_getElem hi', Option.getD_some, Option.map_some]
      rw [hx]; simp
    · have h1 := HRISE.out
      rw [hnat, List.pairwise_map] at h1
      exact h1.imp (fun h => by omega)
    · constructor
      · intro h
        obtain ⟨x, hx, rfl⟩ := List.mem_map.1 h
        obtain ⟨k, hk, rfl⟩ := (HMEM.out x).1 hx
        exact ⟨k, hk, by simp⟩
      · rintro ⟨k, hk, rfl⟩
        exact List.mem_map.2 ⟨_, (HMEM.out _).2 ⟨k, hk, rfl⟩, by simp⟩
  case hstop =>
    rintro D c pre W _ _ h _
    exact h.elim
end Go.Proofs.YthcmcjoenepkbaaGreat
