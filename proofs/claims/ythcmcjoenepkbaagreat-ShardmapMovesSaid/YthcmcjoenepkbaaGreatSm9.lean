/- Contract: shardmap.Map's Ranges. -/
import Derived.Test.YthcmcjoenepkbaaGreatSm8
import Derived.Maps.OwnIn
namespace Go.Proofs.YthcmcjoenepkbaaGreat
open Go Go.RowKit Go.Maps

/-- A cell of one's own that holds a row of one's own. -/
def LSt (nb base : Nat) (Tl Te : TypeId) (k n : Nat) (xs : List Value) (W : World) : Prop := ∃ a cp, W.heap[nb]? = some (.cells #[.slice a n cp] Tl (0, 0)) ∧ W.ownsRow base Te k (.slice a n cp) n xs
theorem LSt.grown {nb base k n : Nat} {Tl Te : TypeId} {xs : List Value} {W W' : World} {row : Option Nat} (h : LSt nb base Tl Te k n xs W) (hg : W.grownBy W' row) (hr : ∀ r, row = some r → ∃ o : Obj, W.heap[r]? = some o ∧ o.isCells = false) : LSt nb base Tl Te k n xs W' := by
  obtain ⟨a, cp, h1, h2⟩ := h
  have hne : ∀ j, (∃ C T F, W.heap[j]? = some (.cells C T F)) → some j ≠ row := fun j ⟨C, T, F, hj⟩ e => by
    obtain ⟨o, ho, hc⟩ := hr j e.symm
    rw [hj] at ho; cases ho; cases hc
  refine ⟨a, cp, (hg.block nb (lt_of_block h1) (hne nb ⟨_, _, _, h1⟩)).trans h1, h2.kept hg ?_⟩
  cases e : (Value.slice a n cp).ownBlock with
  | none => exact Or.inl rfl
  | some j => exact Or.inr (hne j (own_cells h2 j e))
theorem LSt.below {nb base k n : Nat} {Tl Te : TypeId} {xs : List Value} {W W' : World} (h : LSt nb base Tl Te k n xs W) (hb : Below W.heap.size W W') : LSt nb base Tl Te k n xs W' := h.grown (below_grown hb) (fun r e => by cases e)
theorem own_slice {w : World} {base k n cp : Nat} {Te : TypeId} {a : Option Addr} {xs : List Value} (h : w.ownsRow base Te k (.slice a n cp) n xs) : a = none ∨ ∃ g0, a = some ⟨g0, 0, none⟩ := by
  rcases h.2 with ⟨h', _⟩ | ⟨g', cap', cur, h', _⟩
  · simp only [Value.slice.injEq] at h'; exact Or.inl h'.1
  · simp only [Value.slice.injEq] at h'; exact Or.inr ⟨g', h'.1⟩
theorem LSt.fresh {nb base k n : Nat} {Tl Te : TypeId} {xs : List Value} {W : World} (h : LSt nb base Tl Te k n xs W) {C : Array Value} {T : TypeId} : Fr nb 0 (W.alloc (.cells C T)) W.heap.size := by
  obtain ⟨a, cp, h1, h2⟩ := h
  have hl := lt_of_block h1
  refine ⟨by omega, ⟨_, _, _, (MapKept.heap_alloc _ _).1⟩, fun g o n' c hc => ?_⟩
  rw [World.cell?_alloc_past _ _ _ hl, cell_of h1 0] at hc
  simp only [List.getElem?_toArray, List.getElem?_cons_zero, Option.some.injEq, Value.slice.injEq] at hc
  obtain ⟨rfl, _⟩ := hc
  obtain ⟨g', hg'⟩ : ∃ g0, some (⟨g, o, none⟩ : Addr) = some ⟨g0, 0, none⟩ := (own_slice h2).resolve_left (by simp)
  cases hg'
  obtain ⟨C', T', F', h3⟩ := own_cells h2 g rfl
  have := lt_of_block h3
  omega
/-- What a body that appends to the cell's row leaves. -/
structure LStep (nb base : Nat) (w w' : World) : Prop where
  kx : KX nb base w w'
  kr : KR nb 0 w w'
  kf : KeepsFrom base w w'
theorem lst_of {w w8 : World} {nb base k n cp : Nat} {Tl Te : TypeId} {a : Option Addr} {o : Obj} {v' : Value} {xs xs' : List Value} (hnb : nb < base) (hbw : base ≤ w.heap.size) (hB : w.heap[nb]? = some (.cells #[.slice a n cp] Tl (0, 0))) (hrow : w.ownsRow base Te k (.slice a n cp) n xs)
    (hg : (w.alloc o).grownBy w8 (Value.slice a n cp).ownBlock) (hat : v'.ownBlock = (Value.slice a n cp).ownBlock ∨ v'.ownBlock = some (w.alloc o).heap.size) (hown : w8.ownsRow base Te k v' (n + 1) xs') :
    LSt nb base Tl Te k (n + 1) xs' (w8.setCell ⟨nb, 0, none⟩ v') ∧ LStep nb base w (w8.setCell ⟨nb, 0, none⟩ v') ∧ w8.heap[nb]? = w.heap[nb]? := by
  obtain ⟨g8, cp8, rfl⟩ := ownsRow_succ hown
  have hbA : Below w.heap.size w (w.alloc o) := (Below.refl _ _).alloc (Nat.le_refl _) _
  have hA := hbA.size
  have hab := own_above2 hrow
  have ha := own_slice hrow
  have hcl := own_cells hrow
  have hb8 : w8.heap[nb]? = w.heap[nb]? := (hg.block nb (by omega) (fun e => by have := hab nb e.symm; omega)).trans (hbA.block nb (by omega))
  have c2 : w.cell? ⟨nb, 0, none⟩ = some (.slice a n cp) := cell_of hB 0
  have c8 := (World.cell?_of_block (w := w) (a := ⟨nb, 0, none⟩) hb8).trans c2
  have hs8 : w.heap.size ≤ (w8.setCell ⟨nb, 0, none⟩ (.slice (some ⟨g8, 0, none⟩) (n + 1) cp8)).heap.size := by
    rw [setCell_size]; have := hg.size; omega
  have hcn : (w8.setCell ⟨nb, 0, none⟩ (.slice (some ⟨g8, 0, none⟩) (n + 1) cp8)).cell? ⟨nb, 0, none⟩ = some (.slice (some ⟨g8, 0, none⟩) (n + 1) cp8) := World.cell?_setCell_same' _ _ _ (by rw [c8]; rfl)
  refine ⟨⟨_, _, setCell_block (hb8.trans hB) _, ownsRow_setCell_below hown (by dsimp only; omega) _⟩, ⟨?_, ⟨hs8, fun k hk => ?_, fun g o' m c' hc => ?_⟩, hs8, fun k o1 _ hk hc => ?_⟩, hb8⟩
  · exact ((KX.of (hbA.mono hbw)).trans (KX.row hg (fun j h => hab j h) (by omega))).trans (KX.set base w8 ⟨nb, 0, none⟩ _)
  · have h1 : (w8.setCell ⟨nb, 0, none⟩ (.slice (some ⟨g8, 0, none⟩) (n + 1) cp8)).heap[k]? = w8.heap[k]? := Below.heap_setCell w8 _ _ k hk.1
    refine h1.trans ((hg.block k (by have := hk.lt; omega) (fun e => ?_)).trans (hbA.block k hk.lt))
    rcases ha with rfl | ⟨g0, rfl⟩
    · cases e
    · cases e
      exact hk.2.2 g0 0 n cp c2 rfl
  · rw [hcn] at hc
    simp only [Option.some.injEq, Value.slice.injEq, Addr.mk.injEq] at hc
    obtain ⟨⟨rfl, _⟩, _⟩ := hc
    rcases hat with h | h
    · rcases ha with rfl | ⟨g0, rfl⟩
      · cases h
      · cases h
        exact Or.inr ⟨0, n, cp, c2⟩
    · cases h
      exact Or.inl hA
  · have hkn : k ≠ nb := fun e => by subst e; rw [hB] at hk; cases hk; cases hc
    have hkl := (Array.getElem?_eq_some_iff.1 hk).1
    refine (Below.heap_setCell w8 _ _ k hkn).trans ((hg.block k (by omega) (fun e => ?_)).trans ((hbA.block k hkl).trans hk))
    obtain ⟨C, T, F, h⟩ := hcl k e.symm
    rw [h] at hk; cases hk; cases hc

def rgV (L : List Rg) : List Value := L.flatMap (fun x => [.int .u64 (x.1 : Int), .int .u64 (x.2.1 : Int)])
theorem rgV_snoc (L : List Rg) (x : Rg) : rgV (L ++ [x]) = rgV L ++ [.int .u64 (x.1 : Int), .int .u64 (x.2.1 : Int)] := by simp [rgV]
def rgOf (s : Nat) (xs : List Rg) : List Rg := xs.filter (fun x => x.2.2 == s)
theorem rgOf_snoc (s : Nat) (xs : List Rg) (x : Rg) : rgOf s (xs ++ [x]) = if x.2.2 = s then rgOf s xs ++ [x] else rgOf s xs := by
  unfold rgOf
  rw [List.filter_append]
  by_cases e : x.2.2 = s <;> simp [List.filter_cons, e]
theorem infoRg : (Tryz.prog.info? 24).map (fun i => (i.zero, i.size, i.bytes)) = some (some (.agg #[.int .u64 0, .int .u64 0]), 2, 16) := by kernel_rfl
/-- What Ranges leaves. -/
def RangesG (sp : List (Nat × Nat)) (s : Nat) (w : World) (e : Ending) (w' : World) : Prop := ∃ a cp, e = .returned (.slice a (rgOf s (upto (nthRg sp) sp.length)).length cp) ∧ w'.ownsRow w.heap.size 24 2 (.slice a (rgOf s (upto (nthRg sp) sp.length)).length cp) (rgOf s (upto (nthRg sp) sp.length)).length (rgV (rgOf s (upto (nthRg sp) sp.length))) ∧ Below w.heap.size w w'
theorem two_rg (x : Rg) : ∀ u ∈ ([.int .u64 (x.1 : Int), .int .u64 (x.2.1 : Int)] : List Value), u.oneCell' = true := by
  intro u hu
  simp only [List.mem_cons, List.mem_nil_iff, or_false] at hu
  rcases hu with rfl | rfl <;> rfl

attribute [local go_sem] Oper.semAt_some
set_option maxRecDepth 100000 in
set_option maxHeartbeats 4000000 in
theorem map_Ranges (m e s : Nat) (sp : List (Nat × Nat)) (w : World) (hM : MapAt w m e sp) (hl : sp.length ≤ 100000) (O : Nat → Nat) (hS : SpI O sp M64) :
    Calls Tryz.prog 20 #[.pointer (some ⟨m, 0, none⟩), .int .u32 (s : Int)] w (RangesG sp s w) := by
  have hl1 : 1 ≤ sp.length := List.length_pos_iff.2 hS.ne
  obtain ⟨i0, hi, hz0i, hz1i, hz2i⟩ := info_parts infoRg
  refine (callsIn_wide (n := 14)).1 ?_
  refine callsIn_of_wp_marks Tryz.func20 rfl trivial ?_ rfl
  simp only [Tryz.ntmps20, List.size_toArray, List.length_cons, List.length_nil, Nat.reduceAdd, Nat.reduceSub, Array.replicate_succ, Array.replicate_zero, List.push_toArray, List.append_toArray, List.nil_append, List.cons_append]
  gi_wp2_with fail
  obtain ⟨W0, hW0⟩ : ∃ W0, (w.alloc (.cells #[.int .u32 (s : Int)] 25)).alloc (.cells #[.slice none 0 0] 59) = W0 := ⟨_, rfl⟩
  have hB0 : Below w.heap.size w W0 := by rw [← hW0]; exact ((Below.refl _ _).alloc (Nat.le_refl _) _).alloc (by simp) _
  have hz0 : Hid (W0.heap.size = w.heap.size + 2) := Lib.hid (by rw [← hW0]; simp)
  have hc1 : W0.heap[w.heap.size]? = some (.cells #[.int .u32 (s : Int)] 25) := by rw [← hW0]; exact two1 _ _ _
  have hc2 : W0.heap[w.heap.size + 1]? = some (.cells #[.slice none 0 0] 59) := by rw [← hW0]; exact two2 _ _ _
  rw [hW0]
  clear hW0
  refine ⟨trivial, (callsIn_wide.2 (map_ranges m W0)).mono ?_⟩
  rintro en w1 ⟨rfl, hw1⟩
  have hb1 : Below W0.heap.size W0 w1 := by rw [hw1]; exact (Below.refl _ _).alloc (Nat.le_refl _) _
  have hs1 : w1.heap.size = w.heap.size + 3 := by rw [hw1]; simp [hz0.out]
  have hbm : w1.cell? ⟨W0.heap.size, 0, none⟩ = some (.pointer (some ⟨m, 0, none⟩)) := by rw [hw1]; exact cell_of (MapKept.heap_alloc _ _).1 0
  have hB1 : Below w.heap.size w w1 := hB0.trans (hb1.mono hB0.size)
  have hc1' := (hb1.block w.heap.size (by have := hz0.out; omega)).trans hc1
  have hc2' := (hb1.block (w.heap.size + 1) (by have := hz0.out; omega)).trans hc2
  have hseq := ranges_stops 13 (by decide) W0.heap.size m e sp (w.heap.size + 1) 0 w1 hl1 hl hS.rise hS.lt (hM.below hB1) hbm (by omega) (fun g o n c hc => by rw [cell_of hc2' 0] at hc; cases hc)
  have hL0 : LSt (w.heap.size + 1) (w.heap.size + 3) 59 24 2 0 [] w1 := ⟨none, 0, hc2', World.ownsRow_nil _ _ _ _⟩
  have HSEQ := Lib.hid hseq; have HB1 := Lib.hid hB1; have HS1 := Lib.hid hs1; have HC1 := Lib.hid hc1'; have HL0 := Lib.hid hL0
  clear hseq hB1 hs1 hc1' hc2' hw1 hb1 hbm hc1 hc2 hB0 hL0 hM hS
  gi_wp2_with fail
  apply wpIn_rangeFunc_ownH rfl (by decide) (gf := 52) (lb := #[.pointer (some ⟨W0.heap.size, 0, none⟩)]) rfl trivial (enters_of Tryz.func52 (by kernel_rfl) rfl)
    HSEQ.out (fun h h' => h.trans h') (fun W l o o' hl h1 h2 h3 => ?hkb) (Below.refl _ _) (fun _ => rfl)
    (fun pre W => LSt (w.heap.size + 1) (w.heap.size + 3) 59 24 2 (rgOf s pre).length (rgV (rgOf s pre)) W ∧ KX (w.heap.size + 1) (w.heap.size + 3) w1 W)
    (fun c pre W => False)
    (Ax := fun x a' W => ∃ Bk, a' = { tmps := #[.pointer (some ⟨m, 0, none⟩), .int .u32 (s : Int), undef, .pointer (some ⟨w.heap.size, 0, none⟩), .pointer (some ⟨w.heap.size + 1, 0, none⟩), .pointer (some ⟨Bk, 0, none⟩), .int .u32 (x.2.2 : Int), .pointer (some ⟨m, 0, none⟩), .func (.func 52) #[] #[.pointer (some ⟨W0.heap.size, 0, none⟩)], .agg #[.int .u64 (x.1 : Int), .int .u64 (x.2.1 : Int)], .int .u32 (x.2.2 : Int), undef, undef, undef, undef, undef, undef, undef, undef], defers := [] } ∧ w.heap.size + 3 ≤ Bk ∧ W.heap[Bk]? = some (.cells #[.int .u64 (x.1 : Int), .int .u64 (x.2.1 : Int)] 24 (0, 0)) ∧ Fr (w.heap.size + 1) 0 W Bk ∧ ∃ C T F, W.heap[w.heap.size + 1]? = some (.cells C T F))
  case hkb => exact KR.putObj o' h1 h2 (by have := HS1.out; omega)
  case hI =>
    rintro s A C row ⟨h1, h2⟩ hg hr
    exact ⟨h1.grown hg (fun r e => (hr r e).2), h2.trans (KX.row hg (fun j e => by have := (hr j e).1; have := HS1.out; omega) (by have := h2.size; have := HS1.out; omega))⟩
  case hIx => rintro c s A C row h; exact h.elim
  case h0 => exact ⟨HL0.out, KX.refl _ _ _⟩
  case hAx =>
    rintro x a' s A C row ⟨Bk, h1, h2, h3, h4, C0, T0, F0, h5⟩ hg hr
    have hne : ∀ k C' T' F', A.heap[k]? = some (Obj.cells C' T' F') → C.heap[k]? = A.heap[k]? := fun k C' T' F' hk => hg.block k (lt_of_block hk) (fun e => by
      obtain ⟨_, o, ho, hc⟩ := hr _ e.symm
      rw [hk] at ho; cases ho; cases hc)
    exact ⟨Bk, h1, h2, (hne _ _ _ _ h3).trans h3, fr_grown h4 ⟨_, _, _, h5⟩ hg (fun r e => (hr r e).2), C0, T0, F0, (hne _ _ _ _ h5).trans h5⟩
  case hassign =>
    rintro l pre x W K ⟨h1, h2⟩ hK
    have hbA : Below W.heap.size W (W.alloc (.cells #[.int .u64 (x.1 : Int), .int .u64 (x.2.1 : Int)] 24)) := (Below.refl _ _).alloc (Nat.le_refl _) _
    have hws : w.heap.size + 3 ≤ W.heap.size := by have := h2.size; have := HS1.out; omega
    obtain ⟨a0, cp0, hbk, hrw⟩ := id h1
    have hkk := hK { tmps := #[.pointer (some ⟨m, 0, none⟩), .int .u32 (s : Int), undef, .pointer (some ⟨w.heap.size, 0, none⟩), .pointer (some ⟨w.heap.size + 1, 0, none⟩), .pointer (some ⟨W.heap.size, 0, none⟩), .int .u32 (x.2.2 : Int), .pointer (some ⟨m, 0, none⟩), .func (.func 52) #[] #[.pointer (some ⟨W0.heap.size, 0, none⟩)], .agg #[.int .u64 (x.1 : Int), .int .u64 (x.2.1 : Int)], .int .u32 (x.2.2 : Int), undef, undef, undef, undef, undef, undef, undef, undef], defers := [] } _ (keepsFrom_below hbA (Nat.le_refl _)) (KR.below hbA (lt_of_block hbk)) ⟨h1.below hbA, h2.trans (KX.of (hbA.mono hws))⟩ ⟨W.heap.size, rfl, hws, (MapKept.heap_alloc _ _).1, h1.fresh, _, _, _, (hbA.block _ (lt_of_block hbk)).trans hbk⟩
    clear hrw hbk h1
    gi_wp2
    exact hkk
  case hbody =>
    rintro l pre x a' W hl hrec ⟨hL, hK⟩ ⟨Bk, rfl, hB, hBc, hFr, hnbc⟩ hpre
    have b0 : W.cell? ⟨Bk, 0, none⟩ = some (.int .u64 (x.1 : Int)) := cell_of hBc 0
    have b1 : W.cell? ⟨Bk, 1, none⟩ = some (.int .u64 (x.2.1 : Int)) := cell_of hBc 1
    have c0 : W.cell? ⟨w.heap.size, 0, none⟩ = some (.int .u32 (s : Int)) := cell_of ((hK.same _ (by omega) (by omega)).trans HC1.out) 0
    have hsn := rgOf_snoc s pre x
    have hwz : w.heap.size + 3 ≤ W.heap.size := by have := hK.size; have := HS1.out; omega
    have hlf : (rgOf s pre).length ≤ 100000 := by
      have : (rgOf s pre).length ≤ pre.length := List.length_filter_le _ _
      omega
    obtain ⟨a, cp, hBb, hrow⟩ := hL
    obtain ⟨F, hF⟩ : ∃ F, rgOf s pre = F := ⟨_, rfl⟩
    rw [hF] at hsn hBb hrow hlf
    obtain ⟨n, hn⟩ : ∃ n, F.length = n := ⟨_, rfl⟩
    rw [hn] at hBb hrow hlf
    have r0 : W.cell? ⟨w.heap.size + 1, 0, none⟩ = some (.slice a n cp) := cell_of hBb 0
    have q0 : W.frozen? ⟨w.heap.size + 1, 0, none⟩ = false := frozen_of hBb 0
    obtain ⟨x1, hx1⟩ : ∃ z, x.1 = z := ⟨_, rfl⟩
    obtain ⟨x2, hx2⟩ : ∃ z, x.2.1 = z := ⟨_, rfl⟩
    obtain ⟨s1, hs1⟩ : ∃ z, x.2.2 = z := ⟨_, rfl⟩
    rw [hs1] at hsn ⊢
    rw [hx1] at b0; rw [hx2] at b1
    have HSN := Lib.hid hsn; have HBB := Lib.hid hBb; have HROW := Lib.hid hrow; have HK := Lib.hid hK; have HN := Lib.hid hn
    have HX := Lib.hid (show rgV (F ++ [x]) = rgV F ++ [.int .u64 (x1 : Int), .int .u64 (x2 : Int)] by rw [rgV_snoc, hx1, hx2])
    clear hsn hBb hrow hK hn hx1 hx2 hs1 hF hBc hFr hnbc hrec
    by_cases e1 : s1 = s
    · have heb : ((s1 : Int) == (s : Int)) = true := by simp [e1]
      have HSE := Lib.hid (HSN.out.trans (if_pos e1))
      clear e1
      gi_wp2_with (gi_at_builtin; refine wpListIn_append_own_at _ rfl _ _ 59 rfl (w.heap.size + 3) 24 i0 (.agg #[.int .u64 0, .int .u64 0]) 2 16 Tryz.underlying59 hi hz0i hz1i hz2i rfl (by decide) _ n (rgV F) rfl (HROW.out.alloc _) ⟨W.heap.size, 0, none⟩ 1 1 [.int .u64 (x1 : Int), .int .u64 (x2 : Int)] rfl rfl (World.news_of_block (MapKept.heap_alloc _ _).1) (two_rg (x1, x2, 0)) (by unfold maxLen; omega) (by omega) (by simp; omega) ?_; intro v8 w8 hown8 hg8 _h8 hat8; obtain ⟨g8, cp8, rfl⟩ := ownsRow_succ hown8; obtain ⟨hl8, hst8, hb8⟩ := lst_of (by omega) hwz HBB.out HROW.out hg8 hat8 hown8; have hr8 : w8.cell? ⟨w.heap.size + 1, 0, none⟩ = some (.slice a n cp) := (World.cell?_of_block (w := W) (a := ⟨w.heap.size + 1, 0, none⟩) hb8).trans r0; have hq8 : w8.frozen? ⟨w.heap.size + 1, 0, none⟩ = false := (World.frozen?_of_block (w := W) (a := ⟨w.heap.size + 1, 0, none⟩) hb8).trans q0; have HL8 := Lib.hid hl8; have HST8 := Lib.hid hst8; clear hown8 hg8 _h8 hat8 hl8 hst8 hb8)
      refine ⟨keepsFrom_up HST8.out.kf (by have := HS1.out; omega), HST8.out.kr, ?_, HK.out.trans HST8.out.kx⟩
      rw [HSE.out, List.length_append, HN.out, HX.out]; exact HL8.out
    · have heb : ((s1 : Int) == (s : Int)) = false := by simp; omega
      have HSE := Lib.hid (HSN.out.trans (if_neg e1))
      clear e1
      gi_wp2_with fail
      exact ⟨KeepsFrom.refl _ _, KR.below (Below.refl _ _) (by omega), by rw [HSE.out, HN.out]; exact ⟨_, _, HBB.out, HROW.out⟩, HK.out⟩
  case hdone =>
    rintro D xs W hD rfl ⟨hL, hK⟩ hdef
    obtain ⟨F, hF⟩ : ∃ F, rgOf s (upto (nthRg sp) sp.length) = F := ⟨_, rfl⟩
    rw [hF] at hL
    obtain ⟨a, cp, hBb, hrow⟩ := hL
    obtain ⟨n, hn⟩ : ∃ n, F.length = n := ⟨_, rfl⟩
    rw [hn] at hBb hrow
    have r0 : W.cell? ⟨w.heap.size + 1, 0, none⟩ = some (.slice a n cp) := cell_of hBb 0
    have q0 : W.frozen? ⟨w.heap.size + 1, 0, none⟩ = false := frozen_of hBb 0
    have HF := Lib.hid hF; have HN := Lib.hid hn; have HBB := Lib.hid hBb; have HROW := Lib.hid hrow; have HK := Lib.hid hK; have HDEF := Lib.hid hdef
    clear hF hn hBb hrow hK hdef
    gi_wp2_with fail
    obtain ⟨W1, hW1⟩ : ∃ W1, W.setCell ⟨w.heap.size + 1, 0, none⟩ (.slice a n cp) = W1 := ⟨_, rfl⟩
    rw [hW1]
    have hk1 : ∀ k, k ≠ w.heap.size + 1 → W1.heap[k]? = W.heap[k]? := fun k h => by rw [← hW1]; exact Below.heap_setCell W ⟨w.heap.size + 1, 0, none⟩ _ k h
    have hc1 : W1.cell? ⟨w.heap.size + 1, 0, none⟩ = some (.slice a n cp) := by rw [← hW1]; exact World.cell?_setCell_same' _ _ _ (by rw [r0]; rfl)
    have hrow1 := ownsRow_setCell_below HROW.out (a := ⟨w.heap.size + 1, 0, none⟩) (by dsimp only; omega) (.slice a n cp)
    have hb1 : Below w.heap.size W W1 := by rw [← hW1]; exact below_set _ _ (by show w.heap.size ≤ w.heap.size + 1; omega)
    rw [hW1] at hrow1
    have hdef1 : W1.heap[D]? = some (.deferred (some [])) := (hk1 D (by have := HS1.out; omega)).trans HDEF.out
    have hpb : Below (w.heap.size + 3) W1 (W1.putObj D (.deferred none)) := belowK_b (w := w1) (by have := HS1.out; omega) W1 D _ _ hD hdef1 rfl rfl
    have hfin : Below w.heap.size w (W1.putObj D (.deferred none)) := ((HB1.out.trans (HK.out.below (by omega) (by omega))).trans hb1).trans (hpb.mono (by omega))
    refine ⟨by simp, .inl ⟨_, _, rfl, run_takeDeferred hdef1, ?_⟩⟩
    refine ⟨_, results_cell_one rfl _ _ (w.heap.size + 1) _ rfl Tryz.underlying59 ((hpb.cell (p := ⟨w.heap.size + 1, 0, none⟩) (by dsimp only; omega)).trans hc1), a, cp, by rw [HF.out, HN.out], ?_, hfin⟩
    rw [HF.out, HN.out]
    exact ownsRow_lower (ownsRow_putObj hrow1 _ hdef1 rfl) (by omega)
  case hstop =>
    rintro D c pre W _ _ h _
    exact h.elim
end Go.Proofs.YthcmcjoenepkbaaGreat
