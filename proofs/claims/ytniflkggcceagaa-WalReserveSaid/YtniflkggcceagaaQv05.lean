/- Contract: frame.Scan. Contracts: segment.Head where it refuses; wire's Reader of one number; segment.Parse. Contracts: wire's Reader of one number below 128. -/
import Derived.Test.YtniflkggcceagaaQv03
import Derived.Test.YtniflkggcceagaaQv04
namespace Go.Proofs.Ytniflkggcceagaa
open Go Go.RowKit
def recV (n : Nat) : List (List UInt8) → List Value
  | [] => []
  | t :: r => .int .u64 (n : Int) :: .string (bs t) :: recV (n + 1) r
theorem recV_snoc (n : Nat) (l : List (List UInt8)) (t : List UInt8) : recV n (l ++ [t]) = recV n l ++ [.int .u64 ((n + l.length : Nat) : Int), .string (bs t)] := by
  induction l generalizing n with
  | nil => simp [recV]
  | cons x r ih => simp only [List.cons_append, recV, ih, List.length_cons, show n + 1 + r.length = n + (r.length + 1) by omega]
theorem infoRec : (Try.prog.info? 93).map (fun i => (i.zero, i.size, i.bytes)) = some (some (.agg #[.int .u64 0, .string ⟨#[]⟩]), 2, 24) := by kernel_rfl
def Gd (first : Nat) (l : List Fe) : Prop := ∀ i x, l[i]? = some x → x.er = 0 ∧ x.n = first + i
theorem Gd.nil (first : Nat) : Gd first [] := fun i x h => by simp at h
theorem Gd.snoc {first : Nat} {l : List Fe} {x : Fe} (h : Gd first l) (h1 : x.er = 0) (h2 : x.n = first + l.length) : Gd first (l ++ [x]) := fun i y hy => by
  rcases Nat.lt_trichotomy i l.length with hi | hi | hi
  · rw [List.getElem?_append_left hi] at hy; exact h i y hy
  · subst hi; simp at hy; subst hy; exact ⟨h1, h2⟩
  · rw [List.getElem?_append_right (by omega)] at hy
    rw [List.getElem?_eq_none (by simp; omega)] at hy; cases hy
theorem Gd.tail {first : Nat} {x : Fe} {l : List Fe} (h : Gd first (x :: l)) : Gd (first + 1) l := fun i y hy => by
  obtain ⟨a, b⟩ := h (i + 1) y (by simpa using hy)
  exact ⟨a, by omega⟩
theorem scan_none (f n : Nat) (s : List UInt8) (h : Wl.dec sumF s = none) : Wl.scan sumF f n s = [] := by
  cases f with
  | zero => rfl
  | succ f => simp only [Wl.scan, h]
theorem fes_length : ∀ (f p : Nat) (s : List UInt8), (fes f p s).length ≤ s.length
  | 0, _, _ => Nat.zero_le _
  | f + 1, p, s => by
    cases hd : Wl.dec sumF s with
    | none =>
      cases s with
      | nil => exact Nat.zero_le _
      | cons c r => rw [fes_none f p _ (by simp) hd]; simp
    | some x =>
      obtain ⟨n, t, u⟩ := x
      have hu := Wl.dec_used sumF hd
      have h := fes_length f (p + u) (s.drop u)
      rw [fes_some f p _ hd, List.length_cons]
      rw [List.length_drop] at h; omega
theorem scan_done : ∀ (f p first g : Nat) (s : List UInt8), s.length < f → s.length < g → Gd first (fes f p s) → Wl.scan sumF g first s = (fes f p s).map Fe.t
  | 0, _, _, _, _, h, _, _ => by omega
  | f + 1, p, first, g, s, hf, hg, hG => by
    cases hd : Wl.dec sumF s with
    | none =>
      rw [scan_none _ _ _ hd]
      cases s with
      | nil => rfl
      | cons c r =>
        rw [fes_none f p _ (by simp) hd] at hG
        exact absurd (hG 0 _ rfl).1 (decErr_ne _)
    | some x =>
      obtain ⟨n, t, u⟩ := x
      rw [fes_some f p _ hd] at hG ⊢
      obtain ⟨g, rfl⟩ : ∃ k, g = k + 1 := ⟨g - 1, by omega⟩
      have hu := Wl.dec_used sumF hd
      have hn : n = first := (hG 0 _ rfl).2
      simp only [Wl.scan, hd, if_pos hn, List.map_cons]
      rw [scan_done f (p + u) (first + 1) g (s.drop u) (by rw [List.length_drop]; omega) (by rw [List.length_drop]; omega) hG.tail]
theorem scan_stop : ∀ (f p first g : Nat) (s : List UInt8) (d r : List Fe) (x : Fe), s.length < f → s.length < g → fes f p s = d ++ x :: r → Gd first d → (x.er ≠ 0 ∨ x.n ≠ first + d.length) → Wl.scan sumF g first s = d.map Fe.t
  | 0, _, _, _, _, _, _, _, h, _, _, _, _ => by omega
  | f + 1, p, first, g, s, d, r, x, hf, hg, hE, hG, hx => by
    cases hd : Wl.dec sumF s with
    | none =>
      rw [scan_none _ _ _ hd]
      cases s with
      | nil => rw [fes_nil] at hE; simp at hE
      | cons c q =>
        rw [fes_none f p _ (by simp) hd] at hE
        cases d with
        | nil => rfl
        | cons y d => simp at hE
    | some y =>
      obtain ⟨n, t, u⟩ := y
      rw [fes_some f p _ hd] at hE
      obtain ⟨g, rfl⟩ : ∃ k, g = k + 1 := ⟨g - 1, by omega⟩
      have hu := Wl.dec_used sumF hd
      cases d with
      | nil =>
        simp only [List.nil_append, List.cons.injEq] at hE
        obtain ⟨rfl, _⟩ := hE
        rcases hx with hx | hx
        · exact absurd rfl hx
        · simp only [Wl.scan, hd, List.map_nil]
          rw [if_neg (by simpa using hx)]
      | cons y d =>
        simp only [List.cons_append, List.cons.injEq] at hE
        obtain ⟨rfl, hE⟩ := hE
        have hn : n = first := (hG 0 _ rfl).2
        simp only [Wl.scan, hd, if_pos hn, List.map_cons]
        rw [scan_stop f (p + u) (first + 1) g (s.drop u) d r x (by rw [List.length_drop]; omega) (by rw [List.length_drop]; omega) hE hG.tail (by rcases hx with h | h; (· exact Or.inl h); (· right; simp only [List.length_cons] at h; omega))]

def ScanG (S : List UInt8) (first : Nat) (w : World) (e : Ending) (w' : World) : Prop :=
  ∃ a cp used er, e = .returned (.tuple #[.slice a (Wl.scan sumF (S.length + 1) first S).length cp, used, er]) ∧ w'.ownsRow w.heap.size 93 2 (.slice a (Wl.scan sumF (S.length + 1) first S).length cp) (Wl.scan sumF (S.length + 1) first S).length (recV first (Wl.scan sumF (S.length + 1) first S)) ∧ Below w.heap.size w w'
structure ScI (S : List UInt8) (first b : Nat) (w1 : World) (ts : List (List UInt8)) (W : World) : Prop where
  l : ∃ a cp, Bx W (b + 1) 105 (.slice a ts.length cp) ∧ W.ownsRow (b + 5) 93 2 (.slice a ts.length cp) ts.length (recV first ts)
  u : ∃ v : Int, Bx W (b + 2) 3 (.int .i64 v)
  e : ∃ v : Int, Bx W (b + 3) 36 (.int .i64 v)
  f : Bx W b 31 (.int .u64 (first : Int))
  s : Bx W (b + 4) 9 (.string (bs S))
  k : ButS (fun k => k = b + 1 ∨ k = b + 2 ∨ k = b + 3 ∨ b + 5 ≤ k) w1 W
theorem ScI.grown {S : List UInt8} {first b : Nat} {w1 A B : World} {ts : List (List UInt8)} {row : Option Nat} (h : ScI S first b w1 ts A) (hg : A.grownBy B row) (hr : ∀ r, row = some r → ∃ o : Obj, A.heap[r]? = some o ∧ o.isCells = false) (hb : ∀ r, row = some r → b + 5 ≤ r) : ScI S first b w1 ts B := by
  obtain ⟨⟨a, cp, h1, h2⟩, ⟨v, h3⟩, ⟨v2, h4⟩, h5, h6, h7⟩ := h
  exact ⟨⟨a, cp, h1.grown hg (notCells hr h1), own_kept h2 hg hr⟩, ⟨v, h3.grown hg (notCells hr h3)⟩, ⟨v2, h4.grown hg (notCells hr h4)⟩, h5.grown hg (notCells hr h5), h6.grown hg (notCells hr h6), h7.trans (ButS.row hg (fun j e => Or.inr (Or.inr (Or.inr (hb j e)))))⟩
theorem ScI.below {S : List UInt8} {first b : Nat} {w1 A B : World} {ts : List (List UInt8)} (h : ScI S first b w1 ts A) (hb : Below A.heap.size A B) : ScI S first b w1 ts B := h.grown (below_grown hb) (fun r e => by cases e) (fun r e => by cases e)

theorem ScI.setl {S : List UInt8} {first b : Nat} {w1 W : World} {ts : List (List UInt8)} (h : ScI S first b w1 ts W) {v : Value} (hc : W.cell? ⟨b + 1, 0, none⟩ = some v) : ScI S first b w1 ts (W.setCell ⟨b + 1, 0, none⟩ v) := by
  obtain ⟨⟨a, cp, h1, h2⟩, ⟨v1, h3⟩, ⟨v2, h4⟩, h5, h6, h7⟩ := h
  rw [h1.c] at hc
  cases hc
  exact ⟨⟨a, cp, h1.set _, ownsRow_setCell_below h2 (by dsimp only; omega) _⟩, ⟨v1, h3.far (by dsimp only; omega) _⟩, ⟨v2, h4.far (by dsimp only; omega) _⟩, h5.far (by dsimp only; omega) _, h6.far (by dsimp only; omega) _, h7.trans (ButS.set W (p := ⟨b + 1, 0, none⟩) (Or.inl rfl) _)⟩
theorem ScI.setu {S : List UInt8} {first b : Nat} {w1 W : World} {ts : List (List UInt8)} (h : ScI S first b w1 ts W) (v : Int) : ScI S first b w1 ts (W.setCell ⟨b + 2, 0, none⟩ (.int .i64 v)) := by
  obtain ⟨⟨a, cp, h1, h2⟩, ⟨v1, h3⟩, ⟨v2, h4⟩, h5, h6, h7⟩ := h
  exact ⟨⟨a, cp, h1.far (by dsimp only; omega) _, ownsRow_setCell_below h2 (by dsimp only; omega) _⟩, ⟨v, h3.set _⟩, ⟨v2, h4.far (by dsimp only; omega) _⟩, h5.far (by dsimp only; omega) _, h6.far (by dsimp only; omega) _, h7.trans (ButS.set W (p := ⟨b + 2, 0, none⟩) (Or.inr (Or.inl rfl)) _)⟩
theorem ScI.sete {S : List UInt8} {first b : Nat} {w1 W : World} {ts : List (List UInt8)} (h : ScI S first b w1 ts W) (v : Int) : ScI S first b w1 ts (W.setCell ⟨b + 3, 0, none⟩ (.int .i64 v)) := by
  obtain ⟨⟨a, cp, h1, h2⟩, ⟨v1, h3⟩, ⟨v2, h4⟩, h5, h6, h7⟩ := h
  exact ⟨⟨a, cp, h1.far (by dsimp only; omega) _, ownsRow_setCell_below h2 (by dsimp only; omega) _⟩, ⟨v1, h3.far (by dsimp only; omega) _⟩, ⟨v, h4.set _⟩, h5.far (by dsimp only; omega) _, h6.far (by dsimp only; omega) _, h7.trans (ButS.set W (p := ⟨b + 3, 0, none⟩) (Or.inr (Or.inr (Or.inl rfl))) _)⟩
theorem ScI.drew {S : List UInt8} {first b : Nat} {w1 W : World} {ts : List (List UInt8)} (h : ScI S first b w1 ts W) : ScI S first b w1 ts W.drew := h.below ⟨rfl, rfl, rfl, Nat.le_refl _, fun _ _ => rfl⟩
theorem ScI.app {S : List UInt8} {first b n m : Nat} {w1 W W2 w8 : World} {ts : List (List UInt8)} {t : List UInt8} {a : Option Addr} {cp : Nat} {v' : Value} (h : ScI S first b w1 ts W) (hw : b + 5 ≤ W.heap.size) (hb : Below W.heap.size W W2) (_hc : W.cell? ⟨b + 1, 0, none⟩ = some (.slice a n cp))
    (hrow : W.ownsRow (b + 5) 93 2 (.slice a n cp) n (recV first ts)) (hg : W2.grownBy w8 (Value.slice a n cp).ownBlock) (hm : m = (ts ++ [t]).length) (hown : w8.ownsRow (b + 5) 93 2 v' m (recV first (ts ++ [t]))) :
    ScI S first b w1 (ts ++ [t]) (w8.setCell ⟨b + 1, 0, none⟩ v') ∧ (∀ k o, k < W.heap.size → (Value.slice a n cp).ownBlock ≠ some k → w8.cell? ⟨k, o, none⟩ = W.cell? ⟨k, o, none⟩ ∧ w8.frozen? ⟨k, o, none⟩ = W.frozen? ⟨k, o, none⟩) ∧ KeepsFrom w1.heap.size W w8 ∧ b + 5 ≤ w8.heap.size := by
  subst hm
  obtain ⟨a', cp', rfl⟩ := ownShape hown
  have hab := ownAbove hrow
  have hs2 := hb.size
  have hold : ∀ k, k < W.heap.size → (Value.slice a n cp).ownBlock ≠ some k → w8.heap[k]? = W.heap[k]? := fun k hk hn => (hg.block k (by omega) (fun e => hn e.symm)).trans (hb.block k hk)
  obtain ⟨⟨a0, cp0, h1, _⟩, ⟨v1, h3⟩, ⟨v2, h4⟩, h5, h6, h7⟩ := h
  have bx : ∀ k T v, k < b + 5 → Bx W k T v → Bx w8 k T v := fun k T v hk hx => (hold k (by omega) (fun e => by have := hab k e; omega)).trans hx
  refine ⟨⟨⟨a', cp', (bx _ _ _ (by omega) h1).set _, ownsRow_setCell_below hown (by dsimp only; omega) _⟩, ⟨v1, (bx _ _ _ (by omega) h3).far (by dsimp only; omega) _⟩, ⟨v2, (bx _ _ _ (by omega) h4).far (by dsimp only; omega) _⟩, (bx _ _ _ (by omega) h5).far (by dsimp only; omega) _, (bx _ _ _ (by omega) h6).far (by dsimp only; omega) _, ?_⟩, fun k o hk hn => ?_, ⟨by have := hg.size; omega, fun k o h1 h2 h3 => ?_⟩, by have := hg.size; omega⟩
  · refine h7.trans (ButS.trans ?_ (ButS.set w8 (p := ⟨b + 1, 0, none⟩) (Or.inl rfl) _))
    exact ⟨hg.os.trans hb.os, hg.tape.trans hb.tape, hg.output.trans hb.output, by have := hg.size; omega, fun k hk hn => hold k hk (fun e => hn (Or.inr (Or.inr (Or.inr (hab k e)))))⟩
  · have := hold k hk hn
    exact ⟨World.cell?_of_block (w := W) (a := ⟨k, o, none⟩) this, World.frozen?_of_block (w := W) (a := ⟨k, o, none⟩) this⟩
  · have hk := (Array.getElem?_eq_some_iff.1 h2).1
    refine (hold k hk (fun e => ?_)).trans h2
    obtain ⟨C, T, F, hc⟩ := own_cells hrow k e
    rw [hc] at h2; cases h2; cases h3
theorem keepsFrom_set {lo : Nat} (A : World) {p : Addr} (hp : p.block < lo) (v : Value) : KeepsFrom lo A (A.setCell p v) := ⟨by rw [setCell_size]; exact Nat.le_refl _, fun k o hk h _ => (Below.heap_setCell A p v k (by omega)).trans h⟩
theorem keepsFrom_drew {lo : Nat} {A B : World} (h : KeepsFrom lo A B) : KeepsFrom lo A B.drew := ⟨h.1, h.2⟩

attribute [local go_sem] Oper.semAt_some
set_option maxRecDepth 100000 in
set_option maxHeartbeats 4000000 in
theorem frame_Scan (S : List UInt8) (first : Nat) (w : World) (hl : S.length ≤ 1000000) (hf : first ≤ 9223372036854775808) :
    Calls Try.prog 70 #[.string (bs S), .int .u64 (first : Int)] w (ScanG S first w) := by
  obtain ⟨i0, hi, hz0i, hz1i, hz2i⟩ := info_parts infoRec
  refine (callsIn_wide (n := 14)).1 ?_
  refine callsIn_of_wp_marks Try.func70 rfl trivial ?_ rfl
  simp only [Try.ntmps70, List.size_toArray, List.length_cons, List.length_nil, Nat.reduceAdd, Nat.reduceSub, Array.replicate_succ, Array.replicate_zero, List.push_toArray, List.append_toArray, List.nil_append, List.cons_append]
  gi_wp2_with fail
  obtain ⟨W0, hW0⟩ : ∃ W0, (((w.alloc (.cells #[.int .u64 (first : Int)] 31)).alloc (.cells #[.slice none 0 0] 105)).alloc (.cells #[.int .i64 0] 3)).alloc (.cells #[.int .i64 0] 36) = W0 := ⟨_, rfl⟩
  obtain ⟨hB0, hz0, hc0, hc1, hc2, hc3⟩ : Below w.heap.size w W0 ∧ W0.heap.size = w.heap.size + 4 ∧ Bx W0 w.heap.size 31 (.int .u64 (first : Int)) ∧ Bx W0 (w.heap.size + 1) 105 (.slice none 0 0) ∧ Bx W0 (w.heap.size + 2) 3 (.int .i64 0) ∧ Bx W0 (w.heap.size + 3) 36 (.int .i64 0) := by
    rw [← hW0]; exact boxes4 _ _ _ _ _ _ _ _ _
  rw [hW0]
  have HZ0 := Lib.hid hz0
  have HB0 := Lib.hid hB0; have HC0 := Lib.hid (And.intro hc0 (And.intro hc1 (And.intro hc2 hc3)))
  clear hW0 hc0 hc1 hc2 hc3 hB0 hz0
  refine ⟨trivial, (callsIn_wide.2 (frame_frames S W0)).mono ?_⟩
  rintro en w1 ⟨rfl, hw1⟩
  have hb1 : Below W0.heap.size W0 w1 := by rw [hw1]; exact (Below.refl _ _).alloc (Nat.le_refl _) _
  have hs1 : w1.heap.size = w.heap.size + 5 := by rw [hw1]; simp [HZ0.out]
  have hbm : Bx w1 (w.heap.size + 4) 9 (.string (bs S)) := by rw [hw1, ← HZ0.out]; exact (MapKept.heap_alloc _ _).1
  have hI0 : ScI S first w.heap.size w1 [] w1 := by
    obtain ⟨a, b, c, d⟩ := HC0.out
    exact ⟨⟨none, 0, b.below hb1, World.ownsRow_nil _ _ _ _⟩, ⟨0, c.below hb1⟩, ⟨0, d.below hb1⟩, a.below hb1, hbm, ButS.refl _⟩
  have hseq := frames_stops 13 (by decide) W0.heap.size S hl w1 (by rw [HZ0.out]; exact hbm.c)
  have HEL : Hid ((fes (S.length + 1) 0 S).length ≤ 1000000) := Lib.hid (Nat.le_trans (fes_length _ _ _) hl)
  have HSEQ := Lib.hid hseq; have HI0 := Lib.hid hI0; have HS1 := Lib.hid hs1; have HB1 := Lib.hid (HB0.out.trans (hb1.mono HB0.out.size))
  clear hseq hI0 hs1 hbm hw1 hb1
  gi_wp2_with fail
  apply wpIn_rangeFunc_ownH rfl (by decide) (gf := 84) (lb := #[.pointer (some ⟨W0.heap.size, 0, none⟩)]) rfl trivial (enters_of Try.func84 (by kernel_rfl) rfl)
    HSEQ.out (fun h h' => h'.trans h) (fun W l o o' hl h1 h2 h3 => ?hkb) (Below.refl _ _) (fun _ => rfl)
    (fun pre W => Gd first pre ∧ ScI S first w.heap.size w1 (pre.map Fe.t) W)
    (fun c pre W => c = .ret ∧ ∃ p x, pre = p ++ [x] ∧ Gd first p ∧ (x.er ≠ 0 ∨ x.n ≠ first + p.length) ∧ ScI S first w.heap.size w1 (p.map Fe.t) W)
    (Ax := fun x a' W => ∃ Bk, a' = { tmps := #[.string (bs S), .int .u64 (first : Int), undef, .pointer (some ⟨w.heap.size, 0, none⟩), .pointer (some ⟨w.heap.size + 1, 0, none⟩), .pointer (some ⟨w.heap.size + 1 + 1, 0, none⟩), .pointer (some ⟨w.heap.size + 1 + 1 + 1, 0, none⟩), .pointer (some ⟨Bk, 0, none⟩), .pointer (some ⟨Bk + 1, 0, none⟩), .string (bs S), .func (.func 84) #[] #[.pointer (some ⟨W0.heap.size, 0, none⟩)], .agg #[.int .u64 (x.n : Int), .string (bs x.t)], .agg #[.int .i64 (x.at_ : Int), .int .i64 x.er], undef, undef, undef, undef, undef, undef, undef, undef, undef, undef, undef, undef, undef, undef, undef, undef, undef, undef, undef, undef, undef, undef, undef, undef, undef, undef, undef], defers := [] } ∧ w.heap.size + 5 ≤ Bk ∧ W.heap[Bk]? = some (.cells #[.int .u64 (x.n : Int), .string (bs x.t)] 93 (0, 0)) ∧ W.heap[Bk + 1]? = some (.cells #[.int .i64 (x.at_ : Int), .int .i64 x.er] 134 (0, 0)) ∧ (∃ v, Bx W (w.heap.size + 1) 105 v ∧ ∀ g, v.ownBlock = some g → Bk ≠ g ∧ Bk + 1 ≠ g))
  case hkb =>
    show (W.putObj l o').cell? ⟨W0.heap.size, 0, none⟩ = W.cell? ⟨W0.heap.size, 0, none⟩
    exact World.cell?_of_block (w := W) (a := ⟨W0.heap.size, 0, none⟩) (World.putObj_heap_other (by have := HS1.out; have := HZ0.out; dsimp only; omega))
  case hI =>
    rintro s A B row ⟨h1, h2⟩ hg hr
    exact ⟨h1, h2.grown hg (fun r e => (hr r e).2) (fun r e => by have := (hr r e).1; have := HS1.out; omega)⟩
  case hIx =>
    rintro c s A B row ⟨rfl, p, x, h1, h2, h3, h4⟩ hg hr
    exact ⟨rfl, p, x, h1, h2, h3, h4.grown hg (fun r e => (hr r e).2) (fun r e => by have := (hr r e).1; have := HS1.out; omega)⟩
  case h0 => exact ⟨Gd.nil _, HI0.out⟩
  case hAx =>
    rintro x a' s A B row ⟨Bk, h1, h2, h3, h4, v, h5, h6⟩ hg hr
    have hr' := fun r e => (hr r e).2
    exact ⟨Bk, h1, h2, (hg.block Bk (lt_of_block h3) (fun e => notCells hr' h3 e.symm)).trans h3, (hg.block (Bk + 1) (lt_of_block h4) (fun e => notCells hr' h4 e.symm)).trans h4, v, h5.grown hg (notCells hr' h5), h6⟩
  case hassign =>
    rintro l pre x W K ⟨h1, h2⟩ hK
    have hbA : Below W.heap.size W (W.alloc (.cells #[.int .u64 (x.n : Int), .string (bs x.t)] 93)) := (Below.refl _ _).alloc (Nat.le_refl _) _
    have hbB : Below W.heap.size W ((W.alloc (.cells #[.int .u64 (x.n : Int), .string (bs x.t)] 93)).alloc (.cells #[.int .i64 (x.at_ : Int), .int .i64 x.er] 134)) := hbA.alloc hbA.size _
    have hws : w.heap.size + 5 ≤ W.heap.size := by have := h2.k.size; have := HS1.out; omega
    have hkk := hK { tmps := #[.string (bs S), .int .u64 (first : Int), undef, .pointer (some ⟨w.heap.size, 0, none⟩), .pointer (some ⟨w.heap.size + 1, 0, none⟩), .pointer (some ⟨w.heap.size + 1 + 1, 0, none⟩), .pointer (some ⟨w.heap.size + 1 + 1 + 1, 0, none⟩), .pointer (some ⟨W.heap.size, 0, none⟩), .pointer (some ⟨W.heap.size + 1, 0, none⟩), .string (bs S), .func (.func 84) #[] #[.pointer (some ⟨W0.heap.size, 0, none⟩)], .agg #[.int .u64 (x.n : Int), .string (bs x.t)], .agg #[.int .i64 (x.at_ : Int), .int .i64 x.er], undef, undef, undef, undef, undef, undef, undef, undef, undef, undef, undef, undef, undef, undef, undef, undef, undef, undef, undef, undef, undef, undef, undef, undef, undef, undef, undef], defers := [] } _ (keepsFrom_below hbB (Nat.le_refl _)) (hbB.cell (p := ⟨W0.heap.size, 0, none⟩) (by have := HZ0.out; show W0.heap.size < _; omega)) ⟨h1, h2.below hbB⟩ ⟨W.heap.size, rfl, hws, ?_, ?_, ?_⟩
    · gi_wp2
      exact hkk
    · exact (Below.heap_alloc _ _ _ (by simp)).trans (MapKept.heap_alloc _ _).1
    · have := (MapKept.heap_alloc (W.alloc (.cells #[.int .u64 (x.n : Int), .string (bs x.t)] 93)) (.cells #[.int .i64 (x.at_ : Int), .int .i64 x.er] 134)).1
      rw [show (W.alloc (.cells #[.int .u64 (x.n : Int), .string (bs x.t)] 93)).heap.size = W.heap.size + 1 by simp] at this
      exact this
    · obtain ⟨a, cp, g1, g2⟩ := h2.l
      exact ⟨_, g1.below hbB, fun g hg => by obtain ⟨C, T, F, hc⟩ := own_cells g2 g hg; have := lt_of_block hc; omega⟩
  case hbody =>
    rintro l pre x a' W hl hrec ⟨hG, hI⟩ ⟨Bk, rfl, hB, hBc, hBd, vl, hvl, hne⟩ hpre
    obtain ⟨⟨a, cp, hl1, hrow⟩, ⟨v2, hu⟩, ⟨v3, he⟩, hf0, hs0, hk⟩ := id hI
    have c4 := hl1.c; have q4 := hl1.f
    have c5 : W.cell? ⟨w.heap.size + 1 + 1, 0, none⟩ = some (.int .i64 v2) := hu.c
    have q5 : W.frozen? ⟨w.heap.size + 1 + 1, 0, none⟩ = false := hu.f
    have c6 : W.cell? ⟨w.heap.size + 1 + 1 + 1, 0, none⟩ = some (.int .i64 v3) := he.c
    have q6 : W.frozen? ⟨w.heap.size + 1 + 1 + 1, 0, none⟩ = false := he.f
    have c3 := hf0.c
    have r0 : W.cell? ⟨Bk, 0, none⟩ = some (.int .u64 (x.n : Int)) := cell_of hBc 0
    have r1 : W.cell? ⟨Bk, 1, none⟩ = some (.string (bs x.t)) := cell_of hBc 1
    have a0 : W.cell? ⟨Bk + 1, 0, none⟩ = some (.int .i64 (x.at_ : Int)) := cell_of hBd 0
    have a1 : W.cell? ⟨Bk + 1, 1, none⟩ = some (.int .i64 x.er) := cell_of hBd 1
    have hvl2 := hvl.c.symm.trans hl1.c
    cases hvl2
    have hlB := lt_of_block hBc; have hlB2 := lt_of_block hBd
    obtain ⟨er, her⟩ : ∃ z, x.er = z := ⟨_, rfl⟩
    obtain ⟨xn, hxn⟩ : ∃ z, x.n = z := ⟨_, rfl⟩
    obtain ⟨xt, hxt⟩ : ∃ z, x.t = z := ⟨_, rfl⟩
    obtain ⟨xa, hxa⟩ : ∃ z, x.at_ = z := ⟨_, rfl⟩
    obtain ⟨n, hn⟩ : ∃ n, (pre.map Fe.t).length = n := ⟨_, rfl⟩
    rw [hn] at c4 hrow hne
    rw [her] at a1 ⊢; rw [hxn] at r0 ⊢; rw [hxt] at r1 ⊢; rw [hxa] at a0 ⊢
    have HER := Lib.hid her; have HXN := Lib.hid hxn; have HXT := Lib.hid hxt; have HXA := Lib.hid hxa; have HN := Lib.hid hn
    have HI := Lib.hid hI; have HG := Lib.hid hG; have HROW := Lib.hid hrow; have HNE := Lib.hid hne; have HHF := Lib.hid hf
    have HREC := Lib.hid hrec; have HPRE := Lib.hid hpre; have HBk := Lib.hid hB
    clear hl1 hrow hu he hf0 hs0 hk hI hG hne hvl her hxn hxt hxa hn hBc hBd hrec hpre
    have HWS : Hid (w.heap.size + 5 ≤ W.heap.size) := Lib.hid (by have := HI.out.k.size; have := HS1.out; omega)
    have hnl : n ≤ 1000000 := by
      have := HPRE.out; have := HN.out; have := HEL.out
      rw [List.length_map] at *; omega
    by_cases h0 : er = 0
    · have hb : (er != 0) = false := by simp [h0]
      have hnw : IntKind.u64.wrap (n : Int) = n := by rw [IntKind.wrap_u64]; omega
      obtain ⟨fn, hfn⟩ : ∃ k, first + n = k := ⟨_, rfl⟩
      have hfi : (first : Int) + (n : Int) = (fn : Int) := by omega
      have hfw : IntKind.u64.wrap (fn : Int) = fn := by rw [IntKind.wrap_u64]; omega
      by_cases hmm : xn = fn
      · have hb2 : ((xn : Int) != (fn : Int)) = false := by simp [hmm]
        have HEQ : Hid (first + n = xn) := Lib.hid (by omega)
        have HER0 : Hid (x.er = 0) := Lib.hid (HER.out.trans h0)
        clear h0 hmm hfn
        gi_wp2_with fail
        have HBA : Hid (Below W.heap.size W (W.alloc (.cells #[.int .u64 (xn : Int), .string (bs xt)] 93)).drew) := Lib.hid (Below.drew ((Below.refl _ _).alloc (Nat.le_refl _) _))
        have HNEWS : Hid (∀ j u, ([.int .u64 (xn : Int), .string (bs xt)] : List Value)[j]? = some u → (W.alloc (.cells #[.int .u64 (xn : Int), .string (bs xt)] 93)).drew.cell? ((⟨W.heap.size, 0, none⟩ : Addr).add j) = some u) := Lib.hid (World.news_of_block (MapKept.heap_alloc W (.cells #[.int .u64 (xn : Int), .string (bs xt)] 93)).1)
        refine wpIn_region_held (S := fun w' => w'.cell? ⟨Bk, 0, none⟩ = some (.int .u64 (xn : Int)) ∧ w'.cell? ⟨Bk, 1, none⟩ = some (.string (bs xt)) ∧ w'.cell? ⟨Bk + 1, 0, none⟩ = some (.int .i64 (xa : Int))) rfl ?nd8 ?lo8 ⟨r0, r1, a0⟩ (fun hS => ?go8)
        case nd8 =>
          intro i o h c hc
          rcases i with _ | _ | _ | _ | _ | _ | _ | _ | _ | i <;> simp at h <;> subst h <;> cases hc
        case lo8 =>
          rintro ⟨_, _, h⟩
          exact h
        case go8 =>
          refine wpAnyH_take (i := 1) (v := .agg #[.int .u64 (xn : Int), .string (bs xt)]) rfl (by kernel_rfl) (by kernel_rfl) (by kernel_rfl) (fun _ _ _ h => h) (Or.inl ⟨by rfl, fun w' hw => ?_⟩) hS ?_
          · obtain ⟨h1, h2, h3⟩ := hw
            go_simp
          go_frame
          refine wpAnyH_take (i := 4) (v := .pointer (some ⟨Bk + 1, 0, none⟩)) rfl (by kernel_rfl) (by kernel_rfl) (by kernel_rfl) (fun _ _ _ h => h) (Or.inl ⟨by rfl, fun w' hw => ?_⟩) hS ?_
          · obtain ⟨h1, h2, h3⟩ := hw
            go_simp
          go_frame
          refine wpAnyH_take (i := 5) (v := .int .i64 (xa : Int)) rfl (by kernel_rfl) (by kernel_rfl) (by kernel_rfl) (fun _ _ _ h => h) (Or.inl ⟨by rfl, fun w' hw => ?_⟩) hS ?_
          · obtain ⟨h1, h2, h3⟩ := hw
            go_simp
          go_frame
          refine wpAnyH_ready (rs := [0, 2]) (by kernel_rfl) (by simp) ?_
          refine AllReadyH.cons rfl (fun K hK => ?_) (AllReadyH.cons rfl (fun K hK => ?_) AllReadyH.nil)
          · rw [if_pos (by rfl)]
            go_simp
            refine hK.out _ _ hS (fun _ => ?_)
            clear hK
            refine wpAnyH_ready (rs := [2]) (by kernel_rfl) (by simp) ?_
            refine AllReadyH.cons rfl (fun K hK => ?_) AllReadyH.nil
            rw [if_pos (by rfl)]
            go_simp
            have q0 := (HBA.out.cell (p := ⟨Bk, 0, none⟩) hlB).trans r0
            have q1 := (HBA.out.cell (p := ⟨Bk, 1, none⟩) hlB).trans r1
            have q3 := (HBA.out.cell (p := ⟨w.heap.size + 1, 0, none⟩) (by have := HWS.out; show w.heap.size + 1 < _; omega)).trans c4
            have q2 := (HBA.out.cell (p := ⟨Bk + 1, 0, none⟩) hlB2).trans a0
            generalize (W.alloc (.cells #[.int .u64 (xn : Int), .string (bs xt)] 93)).drew = W2 at HBA HNEWS q0 q1 q2 q3 ⊢
            refine hK.out _ _ ⟨q0, q1, q2⟩ (fun hS => ?_)
            clear hK
            refine wpAnyH_ready (rs := [3]) (by kernel_rfl) (by simp) ?_
            refine AllReadyH.cons rfl (fun K hK => ?_) AllReadyH.nil
            refine step_append_lies _ rfl (.tmp 32) (.tmp 34) 105 rfl (w.heap.size + 5) 93 i0 (.agg #[.int .u64 0, .string ⟨#[]⟩]) 2 24 Try.underlying105 hi hz0i hz1i hz2i rfl (by decide) _ n (recV first (pre.map Fe.t)) rfl (ownBelow HROW.out HBA.out) ⟨W.heap.size, 0, none⟩ 1 1 [.int .u64 (xn : Int), .string (bs xt)] rfl rfl HNEWS.out (by intro u hu; simp only [List.mem_cons, List.mem_nil_iff, or_false] at hu; rcases hu with rfl | rfl <;> rfl) (by decide) (by unfold maxLen; omega) (by omega) (by have := HBA.out.size; omega) _ rfl ?_
            intro g8 cp8 w8 hown8 hg8 _ _
            rw [show recV first (pre.map Fe.t) ++ [.int .u64 (xn : Int), .string (bs xt)] = recV first (pre.map Fe.t ++ [xt]) by rw [recV_snoc, HN.out, HEQ.out]] at hown8
            obtain ⟨J1, J2, J3, J4⟩ := HI.out.app HWS.out HBA.out c4 HROW.out hg8 (by rw [List.length_append, HN.out]; rfl) hown8
            have HJ1 := Lib.hid J1; have HJ3 := Lib.hid J3
            have d4 := (J2 (w.heap.size + 1) 0 (by have := HWS.out; omega) (fun e => by have := ownAbove HROW.out _ e; omega)).1.trans c4
            have p4 := (J2 (w.heap.size + 1) 0 (by have := HWS.out; omega) (fun e => by have := ownAbove HROW.out _ e; omega)).2.trans q4
            have d5 := (J2 (w.heap.size + 1 + 1) 0 (by have := HWS.out; omega) (fun e => by have := ownAbove HROW.out _ e; omega)).1.trans c5
            have p5 := (J2 (w.heap.size + 1 + 1) 0 (by have := HWS.out; omega) (fun e => by have := ownAbove HROW.out _ e; omega)).2.trans q5
            have s0 := (J2 Bk 0 hlB (fun e => (HNE.out _ e).1 rfl)).1.trans r0
            have s1 := (J2 Bk 1 hlB (fun e => (HNE.out _ e).1 rfl)).1.trans r1
            have s2 := (J2 (Bk + 1) 0 hlB2 (fun e => (HNE.out _ e).2 rfl)).1.trans a0
            clear J1 J2 J3 hown8 hg8
            refine hK.out _ _ ⟨s0, s1, s2⟩ (fun _ => ?_)
            clear hK
            go_frame
            refine wpAnyH_ready (rs := [6]) (by kernel_rfl) (by simp) ?_
            refine AllReadyH.cons rfl (fun K hK => ?_) AllReadyH.nil
            rw [if_pos (by rfl)]
            go_simp
            have y0 := (World.cell?_setCell_far w8 ⟨w.heap.size + 1, 0, none⟩ ⟨Bk, 0, none⟩ (.slice (some ⟨g8, 0, none⟩) (n + 1) cp8) (by have := HBk.out; dsimp only; omega)).trans s0
            have y1 := (World.cell?_setCell_far w8 ⟨w.heap.size + 1, 0, none⟩ ⟨Bk, 1, none⟩ (.slice (some ⟨g8, 0, none⟩) (n + 1) cp8) (by have := HBk.out; dsimp only; omega)).trans s1
            have y2 := (World.cell?_setCell_far w8 ⟨w.heap.size + 1, 0, none⟩ ⟨Bk + 1, 0, none⟩ (.slice (some ⟨g8, 0, none⟩) (n + 1) cp8) (by have := HBk.out; dsimp only; omega)).trans s2
            have z5 := (World.cell?_setCell_far w8 ⟨w.heap.size + 1, 0, none⟩ ⟨w.heap.size + 1 + 1, 0, none⟩ (.slice (some ⟨g8, 0, none⟩) (n + 1) cp8) (by dsimp only; omega)).trans d5
            have zf : (w8.setCell ⟨w.heap.size + 1, 0, none⟩ (.slice (some ⟨g8, 0, none⟩) (n + 1) cp8)).frozen? ⟨w.heap.size + 1 + 1, 0, none⟩ = false := by rw [World.frozen?_setCell]; exact p5
            have HK9 : Hid (KeepsFrom w1.heap.size W (w8.setCell ⟨w.heap.size + 1, 0, none⟩ (.slice (some ⟨g8, 0, none⟩) (n + 1) cp8))) := Lib.hid (HJ3.out.trans (keepsFrom_set w8 (p := ⟨w.heap.size + 1, 0, none⟩) (by have := HS1.out; dsimp only; omega) _))
            generalize w8.setCell ⟨w.heap.size + 1, 0, none⟩ (.slice (some ⟨g8, 0, none⟩) (n + 1) cp8) = w9 at y0 y1 y2 z5 zf HK9 HJ1 ⊢
            refine hK.out _ _ ⟨y0, y1, y2⟩ (fun _ => ?_)
            clear hK
            refine wpAnyH_ready (rs := [7]) (by kernel_rfl) (by simp) ?_
            refine AllReadyH.cons rfl (fun K hK => ?_) AllReadyH.nil
            rw [if_pos (by rfl)]
            go_simp
            refine hK.out _ _ ⟨?_, ?_, ?_⟩ (fun _ => ?_)
            · exact (World.cell?_setCell_far w9 ⟨w.heap.size + 1 + 1, 0, none⟩ ⟨Bk, 0, none⟩ _ (by have := HBk.out; dsimp only; omega)).trans y0
            · exact (World.cell?_setCell_far w9 ⟨w.heap.size + 1 + 1, 0, none⟩ ⟨Bk, 1, none⟩ _ (by have := HBk.out; dsimp only; omega)).trans y1
            · exact (World.cell?_setCell_far w9 ⟨w.heap.size + 1 + 1, 0, none⟩ ⟨Bk + 1, 0, none⟩ _ (by have := HBk.out; dsimp only; omega)).trans y2
            refine wpAnyH_done (by kernel_rfl) ?_ _
            gi_wp2_with fail
            have I9 := HJ1.out.setu (xa : Int)
            exact ⟨HK9.out.trans (keepsFrom_set w9 (p := ⟨w.heap.size + 1 + 1, 0, none⟩) (by have := HS1.out; dsimp only; omega) _), by rw [HZ0.out]; exact I9.s.c.trans HI.out.s.c.symm, HG.out.snoc HER0.out (by rw [HXN.out, ← HEQ.out, ← HN.out, List.length_map]), by rw [List.map_append, List.map_singleton, HXT.out]; exact I9⟩
          · rw [if_pos (by rfl)]
            go_simp
            have q0 := (HBA.out.cell (p := ⟨Bk, 0, none⟩) hlB).trans r0
            have q1 := (HBA.out.cell (p := ⟨Bk, 1, none⟩) hlB).trans r1
            have q3 := (HBA.out.cell (p := ⟨w.heap.size + 1, 0, none⟩) (by have := HWS.out; show w.heap.size + 1 < _; omega)).trans c4
            have q2 := (HBA.out.cell (p := ⟨Bk + 1, 0, none⟩) hlB2).trans a0
            generalize (W.alloc (.cells #[.int .u64 (xn : Int), .string (bs xt)] 93)).drew = W2 at HBA HNEWS q0 q1 q2 q3 ⊢
            refine hK.out _ _ ⟨q0, q1, q2⟩ (fun hS => ?_)
            clear hK
            refine wpAnyH_ready (rs := [0]) (by kernel_rfl) (by simp) ?_
            refine AllReadyH.cons rfl (fun K hK => ?_) AllReadyH.nil
            rw [if_pos (by rfl)]
            go_simp
            refine hK.out _ _ hS (fun _ => ?_)
            clear hK
            refine wpAnyH_ready (rs := [3]) (by kernel_rfl) (by simp) ?_
            refine AllReadyH.cons rfl (fun K hK => ?_) AllReadyH.nil
            refine step_append_lies _ rfl (.tmp 32) (.tmp 34) 105 rfl (w.heap.size + 5) 93 i0 (.agg #[.int .u64 0, .string ⟨#[]⟩]) 2 24 Try.underlying105 hi hz0i hz1i hz2i rfl (by decide) _ n (recV first (pre.map Fe.t)) rfl (ownBelow HROW.out HBA.out) ⟨W.heap.size, 0, none⟩ 1 1 [.int .u64 (xn : Int), .string (bs xt)] rfl rfl HNEWS.out (by intro u hu; simp only [List.mem_cons, List.mem_nil_iff, or_false] at hu; rcases hu with rfl | rfl <;> rfl) (by decide) (by unfold maxLen; omega) (by omega) (by have := HBA.out.size; omega) _ rfl ?_
            intro g8 cp8 w8 hown8 hg8 _ _
            rw [show recV first (pre.map Fe.t) ++ [.int .u64 (xn : Int), .string (bs xt)] = recV first (pre.map Fe.t ++ [xt]) by rw [recV_snoc, HN.out, HEQ.out]] at hown8
            obtain ⟨J1, J2, J3, J4⟩ := HI.out.app HWS.out HBA.out c4 HROW.out hg8 (by rw [List.length_append, HN.out]; rfl) hown8
            have HJ1 := Lib.hid J1; have HJ3 := Lib.hid J3
            have d4 := (J2 (w.heap.size + 1) 0 (by have := HWS.out; omega) (fun e => by have := ownAbove HROW.out _ e; omega)).1.trans c4
            have p4 := (J2 (w.heap.size + 1) 0 (by have := HWS.out; omega) (fun e => by have := ownAbove HROW.out _ e; omega)).2.trans q4
            have d5 := (J2 (w.heap.size + 1 + 1) 0 (by have := HWS.out; omega) (fun e => by have := ownAbove HROW.out _ e; omega)).1.trans c5
            have p5 := (J2 (w.heap.size + 1 + 1) 0 (by have := HWS.out; omega) (fun e => by have := ownAbove HROW.out _ e; omega)).2.trans q5
            have s0 := (J2 Bk 0 hlB (fun e => (HNE.out _ e).1 rfl)).1.trans r0
            have s1 := (J2 Bk 1 hlB (fun e => (HNE.out _ e).1 rfl)).1.trans r1
            have s2 := (J2 (Bk + 1) 0 hlB2 (fun e => (HNE.out _ e).2 rfl)).1.trans a0
            clear J1 J2 J3 hown8 hg8
            refine hK.out _ _ ⟨s0, s1, s2⟩ (fun _ => ?_)
            clear hK
            go_frame
            refine wpAnyH_ready (rs := [6]) (by kernel_rfl) (by simp) ?_
            refine AllReadyH.cons rfl (fun K hK => ?_) AllReadyH.nil
            rw [if_pos (by rfl)]
            go_simp
            have y0 := (World.cell?_setCell_far w8 ⟨w.heap.size + 1, 0, none⟩ ⟨Bk, 0, none⟩ (.slice (some ⟨g8, 0, none⟩) (n + 1) cp8) (by have := HBk.out; dsimp only; omega)).trans s0
            have y1 := (World.cell?_setCell_far w8 ⟨w.heap.size + 1, 0, none⟩ ⟨Bk, 1, none⟩ (.slice (some ⟨g8, 0, none⟩) (n + 1) cp8) (by have := HBk.out; dsimp only; omega)).trans s1
            have y2 := (World.cell?_setCell_far w8 ⟨w.heap.size + 1, 0, none⟩ ⟨Bk + 1, 0, none⟩ (.slice (some ⟨g8, 0, none⟩) (n + 1) cp8) (by have := HBk.out; dsimp only; omega)).trans s2
            have z5 := (World.cell?_setCell_far w8 ⟨w.heap.size + 1, 0, none⟩ ⟨w.heap.size + 1 + 1, 0, none⟩ (.slice (some ⟨g8, 0, none⟩) (n + 1) cp8) (by dsimp only; omega)).trans d5
            have zf : (w8.setCell ⟨w.heap.size + 1, 0, none⟩ (.slice (some ⟨g8, 0, none⟩) (n + 1) cp8)).frozen? ⟨w.heap.size + 1 + 1, 0, none⟩ = false := by rw [World.frozen?_setCell]; exact p5
            have HK9 : Hid (KeepsFrom w1.heap.size W (w8.setCell ⟨w.heap.size + 1, 0, none⟩ (.slice (some ⟨g8, 0, none⟩) (n + 1) cp8))) := Lib.hid (HJ3.out.trans (keepsFrom_set w8 (p := ⟨w.heap.size + 1, 0, none⟩) (by have := HS1.out; dsimp only; omega) _))
            generalize w8.setCell ⟨w.heap.size + 1, 0, none⟩ (.slice (some ⟨g8, 0, none⟩) (n + 1) cp8) = w9 at y0 y1 y2 z5 zf HK9 HJ1 ⊢
            refine hK.out _ _ ⟨y0, y1, y2⟩ (fun _ => ?_)
            clear hK
            refine wpAnyH_ready (rs := [7]) (by kernel_rfl) (by simp) ?_
            refine AllReadyH.cons rfl (fun K hK => ?_) AllReadyH.nil
            rw [if_pos (by rfl)]
            go_simp
            refine hK.out _ _ ⟨?_, ?_, ?_⟩ (fun _ => ?_)
            · exact (World.cell?_setCell_far w9 ⟨w.heap.size + 1 + 1, 0, none⟩ ⟨Bk, 0, none⟩ _ (by have := HBk.out; dsimp only; omega)).trans y0
            · exact (World.cell?_setCell_far w9 ⟨w.heap.size + 1 + 1, 0, none⟩ ⟨Bk, 1, none⟩ _ (by have := HBk.out; dsimp only; omega)).trans y1
            · exact (World.cell?_setCell_far w9 ⟨w.heap.size + 1 + 1, 0, none⟩ ⟨Bk + 1, 0, none⟩ _ (by have := HBk.out; dsimp only; omega)).trans y2
            refine wpAnyH_done (by kernel_rfl) ?_ _
            gi_wp2_with fail
            have I9 := HJ1.out.setu (xa : Int)
            exact ⟨HK9.out.trans (keepsFrom_set w9 (p := ⟨w.heap.size + 1 + 1, 0, none⟩) (by have := HS1.out; dsimp only; omega) _), by rw [HZ0.out]; exact I9.s.c.trans HI.out.s.c.symm, HG.out.snoc HER0.out (by rw [HXN.out, ← HEQ.out, ← HN.out, List.length_map]), by rw [List.map_append, List.map_singleton, HXT.out]; exact I9⟩
      · have hb2 : ((xn : Int) != (fn : Int)) = true := by simp; omega
        rw [← hfn] at hmm
        have hmm : xn ≠ first + pre.length := by rw [← HN.out, List.length_map] at hmm; exact hmm
        clear hfn
        gi_wp2_with fail
        refine wpIn_region_held (S := fun w' => w'.cell? ⟨w.heap.size + 1, 0, none⟩ = some (.slice a n cp) ∧ w'.cell? ⟨w.heap.size + 1 + 1, 0, none⟩ = some (.int .i64 v2)) rfl ?nd7 ?lo7 ⟨c4, c5⟩ (fun hS => ?go7)
        case nd7 =>
          intro i o h c hc
          rcases i with _ | _ | _ | _ | _ | i <;> simp at h <;> subst h <;> cases hc
        case lo7 =>
          rintro ⟨_, _, h⟩
          exact h
        case go7 =>
          refine wpAnyH_take (i := 0) (v := .slice a n cp) rfl (by kernel_rfl) (by kernel_rfl) (by kernel_rfl) (fun _ _ _ h => h) (Or.inl ⟨by rfl, fun w' hw => ?_⟩) hS ?_
          · obtain ⟨h1, h2⟩ := hw
            go_simp
          go_frame
          refine wpAnyH_take (i := 1) (v := .int .i64 v2) rfl (by kernel_rfl) (by kernel_rfl) (by kernel_rfl) (fun _ _ _ h => h) (Or.inl ⟨by rfl, fun w' hw => ?_⟩) hS ?_
          · obtain ⟨h1, h2⟩ := hw
            go_simp
          go_frame
          refine wpAnyH_ready (rs := [2]) (by kernel_rfl) (by simp) ?_
          refine AllReadyH.cons rfl (fun K hK => ?_) AllReadyH.nil
          rw [if_pos (by rfl)]
          go_simp
          have I4 := Lib.hid ((HI.out.setl c4).drew)
          have k4 : Hid (KeepsFrom w1.heap.size W (W.setCell ⟨w.heap.size + 1, 0, none⟩ (.slice a n cp)).drew) := Lib.hid (keepsFrom_drew (keepsFrom_set (lo := w1.heap.size) W (p := ⟨w.heap.size + 1, 0, none⟩) (by have := HS1.out; dsimp only; omega) _))
          have far4 : ∀ (o : Nat) (b' : Nat), b' ≠ w.heap.size + 1 → (W.setCell ⟨w.heap.size + 1, 0, none⟩ (.slice a n cp)).drew.cell? ⟨b', o, none⟩ = W.cell? ⟨b', o, none⟩ := fun o b' h => World.cell?_setCell_far W ⟨w.heap.size + 1, 0, none⟩ ⟨b', o, none⟩ _ (fun e => h e.symm)
          have d4 : (W.setCell ⟨w.heap.size + 1, 0, none⟩ (.slice a n cp)).drew.cell? ⟨w.heap.size + 1, 0, none⟩ = some (.slice a n cp) := World.cell?_setCell_same' _ _ _ (by rw [c4]; rfl)
          have d5 := (far4 0 (w.heap.size + 1 + 1) (by omega)).trans c5
          have d6 := (far4 0 (w.heap.size + 1 + 1 + 1) (by omega)).trans c6
          have p5 : (W.setCell ⟨w.heap.size + 1, 0, none⟩ (.slice a n cp)).drew.frozen? ⟨w.heap.size + 1 + 1, 0, none⟩ = false := by show World.frozen? (W.setCell _ _) _ = false; rw [World.frozen?_setCell]; exact q5
          have p6 : (W.setCell ⟨w.heap.size + 1, 0, none⟩ (.slice a n cp)).drew.frozen? ⟨w.heap.size + 1 + 1 + 1, 0, none⟩ = false := by show World.frozen? (W.setCell _ _) _ = false; rw [World.frozen?_setCell]; exact q6
          generalize (W.setCell ⟨w.heap.size + 1, 0, none⟩ (.slice a n cp)).drew = W4 at I4 k4 far4 d4 d5 d6 p5 p6 ⊢
          clear far4
          refine hK.out _ _ ⟨d4, d5⟩ (fun _ => ?_)
          clear hK
          refine wpAnyH_ready (rs := [3]) (by kernel_rfl) (by simp) ?_
          refine AllReadyH.cons rfl (fun K hK => ?_) AllReadyH.nil
          rw [if_pos (by rfl)]
          go_simp
          have I5 := Lib.hid (I4.out.setu v2)
          have k5 : Hid (KeepsFrom w1.heap.size W (W4.setCell ⟨w.heap.size + 1 + 1, 0, none⟩ (.int .i64 v2))) := Lib.hid (k4.out.trans (keepsFrom_set W4 (p := ⟨w.heap.size + 1 + 1, 0, none⟩) (by have := HS1.out; dsimp only; omega) _))
          have x4 : (W4.setCell ⟨w.heap.size + 1 + 1, 0, none⟩ (.int .i64 v2)).cell? ⟨w.heap.size + 1, 0, none⟩ = some (.slice a n cp) := (World.cell?_setCell_far W4 ⟨w.heap.size + 1 + 1, 0, none⟩ ⟨w.heap.size + 1, 0, none⟩ _ (by dsimp only; omega)).trans d4
          have x5 : (W4.setCell ⟨w.heap.size + 1 + 1, 0, none⟩ (.int .i64 v2)).cell? ⟨w.heap.size + 1 + 1, 0, none⟩ = some (.int .i64 v2) := World.cell?_setCell_same' _ _ _ (by rw [d5]; rfl)
          have x6 : (W4.setCell ⟨w.heap.size + 1 + 1, 0, none⟩ (.int .i64 v2)).cell? ⟨w.heap.size + 1 + 1 + 1, 0, none⟩ = some (.int .i64 v3) := (World.cell?_setCell_far W4 ⟨w.heap.size + 1 + 1, 0, none⟩ ⟨w.heap.size + 1 + 1 + 1, 0, none⟩ _ (by dsimp only; omega)).trans d6
          have xf : (W4.setCell ⟨w.heap.size + 1 + 1, 0, none⟩ (.int .i64 v2)).frozen? ⟨w.heap.size + 1 + 1 + 1, 0, none⟩ = false := by rw [World.frozen?_setCell]; exact p6
          generalize W4.setCell ⟨w.heap.size + 1 + 1, 0, none⟩ (.int .i64 v2) = W5 at I5 k5 x4 x5 x6 xf ⊢
          refine hK.out _ _ ⟨x4, x5⟩ (fun _ => ?_)
          clear hK
          refine wpAnyH_ready (rs := [4]) (by kernel_rfl) (by simp) ?_
          refine AllReadyH.cons rfl (fun K hK => ?_) AllReadyH.nil
          rw [if_pos (by rfl)]
          go_simp
          refine hK.out _ _ ⟨?_, ?_⟩ (fun _ => ?_)
          · exact (World.cell?_setCell_far W5 ⟨w.heap.size + 1 + 1 + 1, 0, none⟩ ⟨w.heap.size + 1, 0, none⟩ _ (by dsimp only; omega)).trans x4
          · exact (World.cell?_setCell_far W5 ⟨w.heap.size + 1 + 1 + 1, 0, none⟩ ⟨w.heap.size + 1 + 1, 0, none⟩ _ (by dsimp only; omega)).trans x5
          refine wpAnyH_done (by kernel_rfl) ?_ _
          gi_wp2_with fail
          exact ⟨k5.out.trans (keepsFrom_set W5 (p := ⟨w.heap.size + 1 + 1 + 1, 0, none⟩) (by have := HS1.out; dsimp only; omega) _), rfl, pre, x, rfl, HG.out, Or.inr (by rw [HXN.out]; exact hmm), I5.out.sete 7⟩
    · have hb : (er != 0) = true := by simpa using h0
      gi_wp2_with fail
      refine wpIn_region_held (S := fun w' => w'.cell? ⟨w.heap.size + 1, 0, none⟩ = some (.slice a n cp) ∧ w'.cell? ⟨w.heap.size + 1 + 1, 0, none⟩ = some (.int .i64 v2) ∧ w'.cell? ⟨Bk + 1, 1, none⟩ = some (.int .i64 er)) rfl ?nd1 ?lo1 ⟨c4, c5, a1⟩ (fun hS => ?go1)
      case nd1 =>
        intro i o h c hc
        rcases i with _ | _ | _ | _ | _ | _ | _ | _ | i <;> simp at h <;> subst h <;> cases hc
      case lo1 =>
        rintro ⟨_, _, h⟩
        exact h
      case go1 =>
        refine wpAnyH_take (i := 0) (v := .slice a n cp) rfl (by kernel_rfl) (by kernel_rfl) (by kernel_rfl) (fun _ _ _ h => h) (Or.inl ⟨by rfl, fun w' hw => ?_⟩) hS ?_
        · obtain ⟨h1, h2, h3⟩ := hw
          go_simp
        go_frame
        refine wpAnyH_take (i := 1) (v := .int .i64 v2) rfl (by kernel_rfl) (by kernel_rfl) (by kernel_rfl) (fun _ _ _ h => h) (Or.inl ⟨by rfl, fun w' hw => ?_⟩) hS ?_
        · obtain ⟨h1, h2, h3⟩ := hw
          go_simp
        go_frame
        refine wpAnyH_take (i := 2) (v := .pointer (some ⟨Bk + 1, 1, none⟩)) rfl (by kernel_rfl) (by kernel_rfl) (by kernel_rfl) (fun _ _ _ h => h) (Or.inl ⟨by rfl, fun w' hw => ?_⟩) hS ?_
        · obtain ⟨h1, h2, h3⟩ := hw
          go_simp
        go_frame
        refine wpAnyH_take (i := 3) (v := .int .i64 er) rfl (by kernel_rfl) (by kernel_rfl) (by kernel_rfl) (fun _ _ _ h => h) (Or.inl ⟨by rfl, fun w' hw => ?_⟩) hS ?_
        · obtain ⟨h1, h2, h3⟩ := hw
          go_simp
        go_frame
        refine wpAnyH_ready (rs := [4]) (by kernel_rfl) (by simp) ?_
        refine AllReadyH.cons rfl (fun K hK => ?_) AllReadyH.nil
        rw [if_pos (by rfl)]
        go_simp
        have I4 := Lib.hid ((HI.out.setl c4).drew)
        have k4 : Hid (KeepsFrom w1.heap.size W (W.setCell ⟨w.heap.size + 1, 0, none⟩ (.slice a n cp)).drew) := Lib.hid (keepsFrom_drew (keepsFrom_set (lo := w1.heap.size) W (p := ⟨w.heap.size + 1, 0, none⟩) (by have := HS1.out; dsimp only; omega) _))
        have far4 : ∀ (o : Nat) (b' : Nat), b' ≠ w.heap.size + 1 → (W.setCell ⟨w.heap.size + 1, 0, none⟩ (.slice a n cp)).drew.cell? ⟨b', o, none⟩ = W.cell? ⟨b', o, none⟩ := fun o b' h => World.cell?_setCell_far W ⟨w.heap.size + 1, 0, none⟩ ⟨b', o, none⟩ _ (fun e => h e.symm)
        have d4 : (W.setCell ⟨w.heap.size + 1, 0, none⟩ (.slice a n cp)).drew.cell? ⟨w.heap.size + 1, 0, none⟩ = some (.slice a n cp) := World.cell?_setCell_same' _ _ _ (by rw [c4]; rfl)
        have d5 := (far4 0 (w.heap.size + 1 + 1) (by omega)).trans c5
        have d6 := (far4 0 (w.heap.size + 1 + 1 + 1) (by omega)).trans c6
        have e1 := (far4 1 (Bk + 1) (by have := HBk.out; omega)).trans a1
        have p5 : (W.setCell ⟨w.heap.size + 1, 0, none⟩ (.slice a n cp)).drew.frozen? ⟨w.heap.size + 1 + 1, 0, none⟩ = false := by show World.frozen? (W.setCell _ _) _ = false; rw [World.frozen?_setCell]; exact q5
        have p6 : (W.setCell ⟨w.heap.size + 1, 0, none⟩ (.slice a n cp)).drew.frozen? ⟨w.heap.size + 1 + 1 + 1, 0, none⟩ = false := by show World.frozen? (W.setCell _ _) _ = false; rw [World.frozen?_setCell]; exact q6
        generalize (W.setCell ⟨w.heap.size + 1, 0, none⟩ (.slice a n cp)).drew = W4 at I4 k4 far4 d4 d5 d6 e1 p5 p6 ⊢
        clear far4
        refine hK.out _ _ ⟨d4, d5, e1⟩ (fun _ => ?_)
        clear hK
        refine wpAnyH_ready (rs := [5]) (by kernel_rfl) (by simp) ?_
        refine AllReadyH.cons rfl (fun K hK => ?_) AllReadyH.nil
        rw [if_pos (by rfl)]
        go_simp
        have I5 := Lib.hid (I4.out.setu v2)
        have k5 : Hid (KeepsFrom w1.heap.size W (W4.setCell ⟨w.heap.size + 1 + 1, 0, none⟩ (.int .i64 v2))) := Lib.hid (k4.out.trans (keepsFrom_set W4 (p := ⟨w.heap.size + 1 + 1, 0, none⟩) (by have := HS1.out; dsimp only; omega) _))
        have x4 : (W4.setCell ⟨w.heap.size + 1 + 1, 0, none⟩ (.int .i64 v2)).cell? ⟨w.heap.size + 1, 0, none⟩ = some (.slice a n cp) := (World.cell?_setCell_far W4 ⟨w.heap.size + 1 + 1, 0, none⟩ ⟨w.heap.size + 1, 0, none⟩ _ (by dsimp only; omega)).trans d4
        have x5 : (W4.setCell ⟨w.heap.size + 1 + 1, 0, none⟩ (.int .i64 v2)).cell? ⟨w.heap.size + 1 + 1, 0, none⟩ = some (.int .i64 v2) := World.cell?_setCell_same' _ _ _ (by rw [d5]; rfl)
        have x6 : (W4.setCell ⟨w.heap.size + 1 + 1, 0, none⟩ (.int .i64 v2)).cell? ⟨w.heap.size + 1 + 1 + 1, 0, none⟩ = some (.int .i64 v3) := (World.cell?_setCell_far W4 ⟨w.heap.size + 1 + 1, 0, none⟩ ⟨w.heap.size + 1 + 1 + 1, 0, none⟩ _ (by dsimp only; omega)).trans d6
        have xe : (W4.setCell ⟨w.heap.size + 1 + 1, 0, none⟩ (.int .i64 v2)).cell? ⟨Bk + 1, 1, none⟩ = some (.int .i64 er) := (World.cell?_setCell_far W4 ⟨w.heap.size + 1 + 1, 0, none⟩ ⟨Bk + 1, 1, none⟩ _ (by have := HBk.out; dsimp only; omega)).trans e1
        have xf : (W4.setCell ⟨w.heap.size + 1 + 1, 0, none⟩ (.int .i64 v2)).frozen? ⟨w.heap.size + 1 + 1 + 1, 0, none⟩ = false := by rw [World.frozen?_setCell]; exact p6
        generalize W4.setCell ⟨w.heap.size + 1 + 1, 0, none⟩ (.int .i64 v2) = W5 at I5 k5 x4 x5 x6 xe xf ⊢
        refine hK.out _ _ ⟨x4, x5, xe⟩ (fun _ => ?_)
        clear hK
        refine wpAnyH_ready (rs := [6]) (by kernel_rfl) (by simp) ?_
        refine AllReadyH.cons rfl (fun K hK => ?_) AllReadyH.nil
        rw [if_pos (by rfl)]
        go_simp
        refine hK.out _ _ ⟨?_, ?_, ?_⟩ (fun _ => ?_)
        · exact (World.cell?_setCell_far W5 ⟨w.heap.size + 1 + 1 + 1, 0, none⟩ ⟨w.heap.size + 1, 0, none⟩ _ (by dsimp only; omega)).trans x4
        · exact (World.cell?_setCell_far W5 ⟨w.heap.size + 1 + 1 + 1, 0, none⟩ ⟨w.heap.size + 1 + 1, 0, none⟩ _ (by dsimp only; omega)).trans x5
        · exact (World.cell?_setCell_far W5 ⟨w.heap.size + 1 + 1 + 1, 0, none⟩ ⟨Bk + 1, 1, none⟩ _ (by have := HBk.out; dsimp only; omega)).trans xe
        refine wpAnyH_done (by kernel_rfl) ?_ _
        gi_wp2_with fail
        exact ⟨k5.out.trans (keepsFrom_set W5 (p := ⟨w.heap.size + 1 + 1 + 1, 0, none⟩) (by have := HS1.out; dsimp only; omega) _), rfl, pre, x, rfl, HG.out, Or.inl (by rw [HER.out]; exact h0), I5.out.sete er⟩
  case hdone =>
    rintro D xs W hD rfl ⟨hG, hI⟩ hdef
    have hsc := scan_done (S.length + 1) 0 first (S.length + 1) S (by omega) (by omega) hG
    obtain ⟨⟨a, cp, hl1, hrow⟩, ⟨v2, hu⟩, ⟨v3, he⟩, hf0, hs0, hk⟩ := id hI
    rw [← hsc] at hl1 hrow hI
    obtain ⟨T, hT⟩ : ∃ T, Wl.scan sumF (S.length + 1) first S = T := ⟨_, rfl⟩
    rw [hT] at hl1 hrow hI
    obtain ⟨n, hn⟩ : ∃ n, T.length = n := ⟨_, rfl⟩
    rw [hn] at hl1 hrow
    have c4 := hl1.c; have q4 := hl1.f
    have c5 : W.cell? ⟨w.heap.size + 1 + 1, 0, none⟩ = some (.int .i64 v2) := hu.c
    have q5 : W.frozen? ⟨w.heap.size + 1 + 1, 0, none⟩ = false := hu.f
    have c6 : W.cell? ⟨w.heap.size + 1 + 1 + 1, 0, none⟩ = some (.int .i64 v3) := he.c
    have q6 : W.frozen? ⟨w.heap.size + 1 + 1 + 1, 0, none⟩ = false := he.f
    have HI := Lib.hid hI; have HT := Lib.hid hT; have HN := Lib.hid hn; have HDEF := Lib.hid hdef
    clear hG hsc hl1 hrow hu he hf0 hs0 hk hI hT hn hdef
    have hDb : w.heap.size + 5 ≤ D := by have := HS1.out; omega
    gi_wp2_with fail
    refine wpIn_normal _ ?_ (fun _ _ h => h)
    refine wpIn_region_heldW (S := fun w' => w'.cell? ⟨w.heap.size + 1, 0, none⟩ = some (.slice a n cp) ∧ w'.cell? ⟨w.heap.size + 1 + 1, 0, none⟩ = some (.int .i64 v2)) rfl ?lo9 ⟨c4, c5⟩ (fun hS => ?go9)
    case lo9 =>
      rintro ⟨_, _, h⟩
      exact h
    case go9 =>
      refine wpAnyH_take (i := 0) (v := .slice a n cp) rfl (by kernel_rfl) (by kernel_rfl) (by kernel_rfl) (fun _ _ _ h => h) (Or.inl ⟨by rfl, fun w' hw => ?_⟩) hS ?_
      · obtain ⟨h1, h2⟩ := hw
        go_simp
      go_frame
      refine wpAnyH_take (i := 1) (v := .int .i64 v2) rfl (by kernel_rfl) (by kernel_rfl) (by kernel_rfl) (fun _ _ _ h => h) (Or.inl ⟨by rfl, fun w' hw => ?_⟩) hS ?_
      · obtain ⟨h1, h2⟩ := hw
        go_simp
      go_frame
      refine wpAnyH_ready (rs := [2]) (by kernel_rfl) (by simp) ?_
      refine AllReadyH.cons rfl (fun K hK => ?_) AllReadyH.nil
      rw [if_pos (by rfl)]
      go_simp
      have I4 := Lib.hid ((HI.out.setl c4).drew)
      have far4 : ∀ (o : Nat) (b' : Nat), b' ≠ w.heap.size + 1 → (W.setCell ⟨w.heap.size + 1, 0, none⟩ (.slice a n cp)).drew.cell? ⟨b', o, none⟩ = W.cell? ⟨b', o, none⟩ := fun o b' h => World.cell?_setCell_far W ⟨w.heap.size + 1, 0, none⟩ ⟨b', o, none⟩ _ (fun e => h e.symm)
      have d4 : (W.setCell ⟨w.heap.size + 1, 0, none⟩ (.slice a n cp)).drew.cell? ⟨w.heap.size + 1, 0, none⟩ = some (.slice a n cp) := World.cell?_setCell_same' _ _ _ (by rw [c4]; rfl)
      have d5 := (far4 0 (w.heap.size + 1 + 1) (by omega)).trans c5
      have d6 := (far4 0 (w.heap.size + 1 + 1 + 1) (by omega)).trans c6
      have p5 : (W.setCell ⟨w.heap.size + 1, 0, none⟩ (.slice a n cp)).drew.frozen? ⟨w.heap.size + 1 + 1, 0, none⟩ = false := by show World.frozen? (W.setCell _ _) _ = false; rw [World.frozen?_setCell]; exact q5
      have p6 : (W.setCell ⟨w.heap.size + 1, 0, none⟩ (.slice a n cp)).drew.frozen? ⟨w.heap.size + 1 + 1 + 1, 0, none⟩ = false := by show World.frozen? (W.setCell _ _) _ = false; rw [World.frozen?_setCell]; exact q6
      have hd4 : (W.setCell ⟨w.heap.size + 1, 0, none⟩ (.slice a n cp)).drew.heap[D]? = some (.deferred (some [])) := (Below.heap_setCell W _ _ D (by dsimp only; omega)).trans HDEF.out
      have HD4 := Lib.hid hd4
      clear hd4
      generalize (W.setCell ⟨w.heap.size + 1, 0, none⟩ (.slice a n cp)).drew = W4 at I4 far4 d4 d5 d6 p5 p6 HD4 ⊢
      clear far4
      refine hK.out _ _ ⟨d4, d5⟩ (fun _ => ?_)
      clear hK
      refine wpAnyH_ready (rs := [3]) (by kernel_rfl) (by simp) ?_
      refine AllReadyH.cons rfl (fun K hK => ?_) AllReadyH.nil
      rw [if_pos (by rfl)]
      go_simp
      have I5 := Lib.hid (I4.out.setu v2)
      have x4 : (W4.setCell ⟨w.heap.size + 1 + 1, 0, none⟩ (.int .i64 v2)).cell? ⟨w.heap.size + 1, 0, none⟩ = some (.slice a n cp) := (World.cell?_setCell_far W4 ⟨w.heap.size + 1 + 1, 0, none⟩ ⟨w.heap.size + 1, 0, none⟩ _ (by dsimp only; omega)).trans d4
      have x5 : (W4.setCell ⟨w.heap.size + 1 + 1, 0, none⟩ (.int .i64 v2)).cell? ⟨w.heap.size + 1 + 1, 0, none⟩ = some (.int .i64 v2) := World.cell?_setCell_same' _ _ _ (by rw [d5]; rfl)
      have x6 : (W4.setCell ⟨w.heap.size + 1 + 1, 0, none⟩ (.int .i64 v2)).cell? ⟨w.heap.size + 1 + 1 + 1, 0, none⟩ = some (.int .i64 v3) := (World.cell?_setCell_far W4 ⟨w.heap.size + 1 + 1, 0, none⟩ ⟨w.heap.size + 1 + 1 + 1, 0, none⟩ _ (by dsimp only; omega)).trans d6
      have xf : (W4.setCell ⟨w.heap.size + 1 + 1, 0, none⟩ (.int .i64 v2)).frozen? ⟨w.heap.size + 1 + 1 + 1, 0, none⟩ = false := by rw [World.frozen?_setCell]; exact p6
      have HD5 : Hid ((W4.setCell ⟨w.heap.size + 1 + 1, 0, none⟩ (.int .i64 v2)).heap[D]? = some (.deferred (some []))) := Lib.hid ((Below.heap_setCell W4 _ _ D (by dsimp only; omega)).trans HD4.out)
      generalize W4.setCell ⟨w.heap.size + 1 + 1, 0, none⟩ (.int .i64 v2) = W5 at I5 x4 x5 x6 xf HD5 ⊢
      refine hK.out _ _ ⟨x4, x5⟩ (fun _ => ?_)
      clear hK
      refine wpAnyH_ready (rs := [4]) (by kernel_rfl) (by simp) ?_
      refine AllReadyH.cons rfl (fun K hK => ?_) AllReadyH.nil
      rw [if_pos (by rfl)]
      go_simp
      have I6 := Lib.hid (I5.out.sete 0)
      have y4 := (World.cell?_setCell_far W5 ⟨w.heap.size + 1 + 1 + 1, 0, none⟩ ⟨w.heap.size + 1, 0, none⟩ (.int .i64 0) (by dsimp only; omega)).trans x4
      have y5 := (World.cell?_setCell_far W5 ⟨w.heap.size + 1 + 1 + 1, 0, none⟩ ⟨w.heap.size + 1 + 1, 0, none⟩ (.int .i64 0) (by dsimp only; omega)).trans x5
      have HD6 : Hid ((W5.setCell ⟨w.heap.size + 1 + 1 + 1, 0, none⟩ (.int .i64 0)).heap[D]? = some (.deferred (some []))) := Lib.hid ((Below.heap_setCell W5 _ _ D (by dsimp only; omega)).trans HD5.out)
      generalize W5.setCell ⟨w.heap.size + 1 + 1 + 1, 0, none⟩ (.int .i64 0) = W6 at I6 y4 y5 HD6 ⊢
      refine hK.out _ _ ⟨y4, y5⟩ (fun _ => ?_)
      refine wpAnyH_done (by kernel_rfl) ?_ _
      clear hK hS
      gi_wp2_with fail
      obtain ⟨⟨a', cp', hl1, hrow⟩, ⟨v2', hu⟩, ⟨v3', he⟩, hf0, hs0, hk⟩ := I6.out
      have HB1k := HB1.out.trans (hk.below (B := w.heap.size + 1) (fun k hk => by rcases hk with h | h | h | h <;> omega) (by have := HS1.out; omega) |>.mono (by omega))
      have hpb : Below (w.heap.size + 5) W6 (W6.putObj D (.deferred none)) := belowK_b (w := w1) (by have := HS1.out; omega) W6 D _ _ hD HD6.out rfl rfl
      refine ⟨by simp, .inl ⟨_, _, rfl, run_takeDeferred HD6.out, ?_⟩⟩
      have d4 := (hpb.cell (p := ⟨w.heap.size + 1, 0, none⟩) (by show w.heap.size + 1 < w.heap.size + 5; omega)).trans hl1.c
      have d5 : (W6.putObj D (.deferred none)).cell? ⟨w.heap.size + 1 + 1, 0, none⟩ = some (.int .i64 v2') := (hpb.cell (p := ⟨w.heap.size + 1 + 1, 0, none⟩) (by show w.heap.size + 1 + 1 < w.heap.size + 5; omega)).trans hu.c
      have d6 : (W6.putObj D (.deferred none)).cell? ⟨w.heap.size + 1 + 1 + 1, 0, none⟩ = some (.int .i64 v3') := (hpb.cell (p := ⟨w.heap.size + 1 + 1 + 1, 0, none⟩) (by show w.heap.size + 1 + 1 + 1 < w.heap.size + 5; omega)).trans he.c
      unfold ScanG
      rw [HT.out]
      refine ⟨.tuple #[.slice a' T.length cp', .int .i64 v2', .int .i64 v3'], by simp [results, Try.results70, go_sem, d4, d5, d6], ⟨a', cp', _, _, rfl, ?_, HB1k.trans (hpb.mono (by omega))⟩⟩
      exact ownsRow_lower (ownsRow_putObj hrow _ HD6.out rfl) (by omega)
  case hstop =>
    rintro D c pre W hD ⟨d, y, r, hE, rfl⟩ ⟨rfl, p, x, hp, hG, hx, hI⟩ hdef
    obtain ⟨rfl, rfl⟩ : d = p ∧ y = x := by
      have h2 := List.append_inj_right' hp rfl
      exact ⟨List.append_inj_left' hp rfl, by simpa using h2⟩
    have hsc := scan_stop (S.length + 1) 0 first (S.length + 1) S d r y (by omega) (by omega) hE hG hx
    obtain ⟨⟨a, cp, hl1, hrow⟩, ⟨v2, hu⟩, ⟨v3, he⟩, hf0, hs0, hk⟩ := id hI
    rw [← hsc] at hl1 hrow hI
    have HB1k := HB1.out.trans (hk.below (B := w.heap.size + 1) (fun k hk => by rcases hk with h | h | h | h <;> omega) (by have := HS1.out; omega) |>.mono (by omega))
    gi_wp2_with fail
    have hpb : Below (w.heap.size + 5) W (W.putObj D (.deferred none)) := belowK_b (w := w1) (by have := HS1.out; omega) W D _ _ hD hdef rfl rfl
    refine ⟨by simp, .inl ⟨_, _, rfl, run_takeDeferred hdef, ?_⟩⟩
    have d4 := (hpb.cell (p := ⟨w.heap.size + 1, 0, none⟩) (by show w.heap.size + 1 < w.heap.size + 5; omega)).trans hl1.c
    have d5 : (W.putObj D (.deferred none)).cell? ⟨w.heap.size + 1 + 1, 0, none⟩ = some (.int .i64 v2) := (hpb.cell (p := ⟨w.heap.size + 1 + 1, 0, none⟩) (by show w.heap.size + 1 + 1 < w.heap.size + 5; omega)).trans hu.c
    have d6 : (W.putObj D (.deferred none)).cell? ⟨w.heap.size + 1 + 1 + 1, 0, none⟩ = some (.int .i64 v3) := (hpb.cell (p := ⟨w.heap.size + 1 + 1 + 1, 0, none⟩) (by show w.heap.size + 1 + 1 + 1 < w.heap.size + 5; omega)).trans he.c
    refine ⟨.tuple #[.slice a (Wl.scan sumF (S.length + 1) first S).length cp, .int .i64 v2, .int .i64 v3], by simp [results, Try.results70, go_sem, d4, d5, d6], ⟨a, cp, _, _, rfl, ?_, HB1k.trans (hpb.mono (by omega))⟩⟩
    exact ownsRow_lower (ownsRow_putObj hrow _ hdef rfl) (by omega)
end Go.Proofs.Ytniflkggcceagaa

namespace Go.Proofs.Ytniflkggcceagaa
open Go Go.RowKit
set_option maxRecDepth 100000 in
set_option maxHeartbeats 4000000 in
theorem seg_Head_no (k g n : Nat) (t : List UInt8) (h : ¬ okH k g n t) (hk8 : k < 256) (w : World) :
    Calls Try.prog 39 #[.int .u8 (k : Int), .int .u64 (g : Int), .int .u64 (n : Int), .string (bs t)] w fun e w' => e = .returned (.tuple #[.string ⟨#[]⟩, .int .i64 2]) ∧ w' = w := by
  have hN1 := fun w => seg_number g w
  have hN2 := fun w => seg_number n w
  go_enter Try.func39, Try.ntmps39
  by_cases h1 : k ≤ 1
  · have k1 : ¬ (k : Int) > 1 := by omega
    have k2 : decide ((k : Int) > 1) = false := by simp; omega
    have k3 : ¬ (1 : Int) < (k : Int) := by omega
    by_cases h2 : 1 ≤ g ∧ g ≤ 281474976710656
    · rw [decide_eq_true h2] at hN1
      by_cases h3 : 1 ≤ n ∧ n ≤ 281474976710656
      · rw [decide_eq_true h3] at hN2
        have h4 : k = 0 ∧ t ≠ [] := by
          refine Classical.byContradiction fun hc => h ⟨h1, h2, h3, fun hk => Classical.byContradiction fun ht => hc ⟨hk, ht⟩⟩
        have hkb : ((k : Int) == 0) = true := by simp [h4.1]
        have htb : (bs t).toList.isEmpty = false := by
          have h5 := h4.2
          cases t with
          | nil => exact absurd rfl h5
          | cons c r => simp [bs]
        clear h4 h
        go_wp2_with fail
        refine (hN1 w).mono ?_
        rintro e w1 ⟨rfl, hw⟩
        subst w1
        go_wp2_with fail
        refine (hN2 w).mono ?_
        rintro e w1 ⟨rfl, hw⟩
        subst w1
        go_wp2_with fail
        go_ret2
        exact ⟨rfl, rfl⟩
      · rw [decide_eq_false h3] at hN2
        go_wp2_with fail
        refine (hN1 w).mono ?_
        rintro e w1 ⟨rfl, hw⟩
        subst w1
        go_wp2_with fail
        refine (hN2 w).mono ?_
        rintro e w1 ⟨rfl, hw⟩
        subst w1
        go_wp2_with fail
        go_ret2
        exact ⟨rfl, rfl⟩
    · rw [decide_eq_false h2] at hN1
      go_wp2_with fail
      refine (hN1 w).mono ?_
      rintro e w1 ⟨rfl, hw⟩
      subst w1
      go_wp2_with fail
      go_ret2
      exact ⟨rfl, rfl⟩
  · have k1 : (k : Int) > 1 := by omega
    have k2 : decide ((k : Int) > 1) = true := by simp; omega
    have k3 : (1 : Int) < (k : Int) := by omega
    go_wp2_with fail
    go_ret2
    exact ⟨rfl, rfl⟩

theorem wire_number (g : UInt8) (t : List UInt8) (hg : g.toNat < 128) (hl : t.length ≤ 1000000) (w : World) :
    Calls Try.prog 81 #[.string (bs (g :: t))] w fun e w' => e = .returned (.tuple #[.int .u64 (g.toNat : Int), .int .i64 1, .int .i64 0]) ∧ w' = w := by
  obtain ⟨L, hL⟩ : ∃ L, (bs (g :: t)).size = L := ⟨_, rfl⟩
  have hLp : 0 < L := by rw [← hL, bs_size]; simp
  have hLi : (0 : Int) < (L : Int) := by omega
  have hLm : L ≤ 1000001 := by rw [← hL, bs_size]; simpa using hl
  obtain ⟨x, hx⟩ : ∃ x, g.toNat = x := ⟨_, rfl⟩
  rw [hx] at hg ⊢
  have hget : ∀ h, (bs (g :: t))[0]'h = g := fun h => by simp [bs]; rfl
  have hwx : IntKind.u64.wrap ((x : Nat) : Int) = (x : Int) := by rw [IntKind.wrap_u64]; omega
  have hbn := bits_nat .u64 8 (by decide) (fun n h0 h1 => by rw [IntKind.wrap_u64]; omega)
  have e1 : bits .and .u64 (x : Int) 127 = (x : Int) := by
    have h1 := (hbn x 127 (by omega) (by decide)).1
    have h2 : x &&& 127 = x := by
      have := Nat.and_two_pow_sub_one_eq_mod x 7
      rw [show (127 : Nat) = 2 ^ 7 - 1 from rfl, this]; omega
    rw [h2] at h1
    exact h1
  have e2 : bits .or .u64 0 (x : Int) = (x : Int) := by
    have h1 := (hbn 0 x (by decide) (by omega)).2
    rw [Nat.zero_or] at h1
    exact h1
  have e3 : (x : Int) < 128 := by omega
  have hb1 : ∀ h, IntKind.u64.wrap (((bs (g :: t))[0]'h).toNat : Int) = (x : Int) := fun h => by rw [hget h, hx]; exact hwx
  clear hbn
  go_enter Try.func81, Try.ntmps81
  go_wp2_with fail
  go_loopw [2, 8] (fun z i wr => z = .int .u64 0 ∧ i = .int .i64 0 ∧ wr = w) (fun _ _ _ => 0)
  case atStart => exact ⟨rfl, rfl, rfl⟩
  case round =>
    obtain ⟨rfl, rfl, hw⟩ := hrel
    subst wr
    go_wp2_with fail
    exact bodyPost_ret (v := .tuple #[.int .u64 (x : Int), .int .i64 1, .int .i64 0]) (by simp [results, Try.results81, go_sem]) rfl ⟨rfl, rfl⟩
theorem wire_number_end (w : World) :
    Calls Try.prog 81 #[.string ⟨#[]⟩] w fun e w' => e = .returned (.tuple #[.int .u64 0, .int .i64 0, .int .i64 6]) ∧ w' = w := by
  go_enter Try.func81, Try.ntmps81
  go_wp2_with fail
  go_loopw [8] (fun i wr => i = .int .i64 0 ∧ wr = w) (fun _ _ => 0)
  case atStart => exact ⟨rfl, rfl⟩
  case round =>
    obtain ⟨rfl, hw⟩ := hrel
    subst wr
    go_wp2_with fail
    exact bodyPost_ret (v := .tuple #[.int .u64 0, .int .i64 0, .int .i64 6]) (by simp [results, Try.results81, go_sem]) rfl ⟨rfl, rfl⟩
end Go.Proofs.Ytniflkggcceagaa

namespace Go.Proofs.Ytniflkggcceagaa
open Go Go.RowKit
abbrev rdC (s : List UInt8) (e : Int) : Array Value := #[.string (bs s), .int .i64 e, .bool true]
theorem wire_New (s : List UInt8) (w : World) : Calls Try.prog 66 #[.string (bs s)] w fun e w' => e = .returned (.pointer (some ⟨w.heap.size, 0, none⟩)) ∧ One w.heap.size (rdC s 0) w' ∧ Below w.heap.size w w' := by
  go_enter Try.func66, Try.ntmps66
  go_wp2_with fail
  go_ret
  exact ⟨rfl, One.of _ _ _, (Below.refl _ _).alloc (Nat.le_refl _) _⟩
theorem wire_Err (s : List UInt8) (er : Int) (r : Nat) (w : World) (h : One r (rdC s er) w) : Calls Try.prog 68 #[.pointer (some ⟨r, 0, none⟩)] w fun e w' => e = .returned (.int .i64 er) ∧ w' = w := by
  have c0 := h.c 0; have c1 := h.c 1; have c2 := h.c 2
  simp at c0 c1 c2
  clear h
  go_enter Try.func68, Try.ntmps68
  go_wp2_with fail
  go_ret
  exact ⟨rfl, rfl⟩
theorem wire_Left (s : List UInt8) (er : Int) (r : Nat) (w : World) (h : One r (rdC s er) w) : Calls Try.prog 69 #[.pointer (some ⟨r, 0, none⟩)] w fun e w' => e = .returned (.int .i64 (s.length : Int)) ∧ w' = w := by
  have c0 := h.c 0; have c1 := h.c 1; have c2 := h.c 2
  simp at c0 c1 c2
  clear h
  obtain ⟨n, hn⟩ : ∃ n, s.length = n := ⟨_, rfl⟩
  have hsz : (bs s).size = n := by rw [bs_size, hn]
  rw [hn]
  clear hn
  go_enter Try.func69, Try.ntmps69
  go_wp2_with fail
  go_ret
  exact ⟨rfl, rfl⟩
set_option maxRecDepth 100000 in
theorem uint1_ok (g : UInt8) (t : List UInt8) (hg : g.toNat < 128) (hl : t.length ≤ 1000000) (bx bm most : Nat) (v : Value) (w : World) (hm : 128 ≤ most) (h1 : w.cell? ⟨bx, 0, none⟩ = some v) (hf : w.frozen? ⟨bx, 0, none⟩ = false) (h2 : w.cell? ⟨bm, 0, none⟩ = some (.int .u64 (most : Int))) (hne : bx ≠ bm) :
    Calls Try.prog 80 #[.string (bs (g :: t)), .pointer (some ⟨bx, 0, none⟩), .pointer (some ⟨bm, 0, none⟩)] w fun e w' => e = .returned (.tuple #[.int .i64 1, .int .i64 0]) ∧ w' = w.setCell ⟨bx, 0, none⟩ (.int .u64 (g.toNat : Int)) := by
  have HN := Lib.hid (wire_number g t hg hl w)
  obtain ⟨x, hx⟩ : ∃ x, g.toNat = x := ⟨_, rfl⟩
  rw [hx] at HN hg ⊢
  have h3 : (w.setCell ⟨bx, 0, none⟩ (.int .u64 (x : Int))).cell? ⟨bm, 0, none⟩ = some (.int .u64 (most : Int)) := (World.cell?_setCell_far w ⟨bx, 0, none⟩ ⟨bm, 0, none⟩ _ hne).trans h2
  have h4 : (w.setCell ⟨bx, 0, none⟩ (.int .u64 (x : Int))).cell? ⟨bx, 0, none⟩ = some (.int .u64 (x : Int)) := World.cell?_setCell_same' _ _ _ (by rw [h1]; rfl)
  have h5 : ¬ (most : Int) < (x : Int) := by omega
  go_enter Try.func80, Try.ntmps80
  go_wp2_with fail
  refine HN.out.mono ?_
  rintro e w1 ⟨rfl, hw⟩
  subst w1
  go_wp2_with fail
  go_ret2
  exact ⟨rfl, rfl⟩
set_option maxRecDepth 100000 in
theorem uint1_end (bx bm : Nat) (v : Value) (w : World) (h1 : w.cell? ⟨bx, 0, none⟩ = some v) (hf : w.frozen? ⟨bx, 0, none⟩ = false) :
    Calls Try.prog 80 #[.string (bs []), .pointer (some ⟨bx, 0, none⟩), .pointer (some ⟨bm, 0, none⟩)] w fun e w' => e = .returned (.tuple #[.int .i64 0, .int .i64 6]) ∧ w' = w.setCell ⟨bx, 0, none⟩ (.int .u64 0) := by
  have HN := Lib.hid (wire_number_end w)
  have e0 : bs [] = (⟨#[]⟩ : ByteArray) := rfl
  rw [e0]
  go_enter Try.func80, Try.ntmps80
  go_wp2_with fail
  refine HN.out.mono ?_
  rintro e w1 ⟨rfl, hw⟩
  subst w1
  go_wp2_with fail
  go_ret2
  exact ⟨rfl, rfl⟩
set_option maxRecDepth 100000 in
set_option maxHeartbeats 1000000 in
theorem take_ok (g : UInt8) (t : List UInt8) (hg : g.toNat < 128) (hl : t.length ≤ 1000000) (r bx bm most : Nat) (v : Value) (w : World) (hr : One r (rdC (g :: t) 0) w) (hm : 128 ≤ most) (h1 : w.cell? ⟨bx, 0, none⟩ = some v) (hf : w.frozen? ⟨bx, 0, none⟩ = false) (h2 : w.cell? ⟨bm, 0, none⟩ = some (.int .u64 (most : Int))) (hne : bx ≠ bm) (hrx : r ≠ bx) :
    Calls Try.prog 79 #[.pointer (some ⟨r, 0, none⟩), .func (.func 80) #[] #[.pointer (some ⟨bx, 0, none⟩), .pointer (some ⟨bm, 0, none⟩)]] w fun e w' => e = .returned (.bool true) ∧ w' = (w.setCell ⟨bx, 0, none⟩ (.int .u64 (g.toNat : Int))).setCell ⟨r, 0, none⟩ (.string (bs t)) := by
  have HU := Lib.hid (uint1_ok g t hg hl bx bm most v w hm h1 hf h2 hne)
  have c0 := hr.c 0; have c1 := hr.c 1; have c2 := hr.c 2
  simp at c0 c1 c2
  have HO := Lib.hid (hr.far (p := ⟨bx, 0, none⟩) (fun e => hrx e.symm) (.int .u64 (g.toNat : Int)))
  obtain ⟨W2, hW2⟩ : ∃ W2, w.setCell ⟨bx, 0, none⟩ (.int .u64 (g.toNat : Int)) = W2 := ⟨_, rfl⟩
  rw [hW2] at HU HO ⊢
  have d0 := HO.out.c 0
  have f0 := HO.out.f 0
  simp at d0
  obtain ⟨L, hL⟩ : ∃ L, (bs (g :: t)).size = L := ⟨_, rfl⟩
  have hLp : (1 : Int) ≤ (L : Int) := by have : 1 ≤ L := by rw [← hL, bs_size]; simp
                                         omega
  have hLn : ¬ (L : Int) < 1 := by omega
  have hx : (bs (g :: t)).extract 1 L = bs t := by rw [bs_extract, ← hL, bs_size]; simp
  clear hW2 hr
  go_enter Try.func79, Try.ntmps79
  go_wp2_with fail
  refine HU.out.mono ?_
  rintro e w1 ⟨rfl, hw⟩
  subst w1
  go_wp2_with fail
  go_ret
  exact ⟨rfl, rfl⟩
set_option maxRecDepth 100000 in
set_option maxHeartbeats 1000000 in
theorem take_end (r bx bm : Nat) (v : Value) (w : World) (hr : One r (rdC [] 0) w) (h1 : w.cell? ⟨bx, 0, none⟩ = some v) (hf : w.frozen? ⟨bx, 0, none⟩ = false) (hrx : r ≠ bx) :
    Calls Try.prog 79 #[.pointer (some ⟨r, 0, none⟩), .func (.func 80) #[] #[.pointer (some ⟨bx, 0, none⟩), .pointer (some ⟨bm, 0, none⟩)]] w fun e w' => e = .returned (.bool false) ∧ w' = (w.setCell ⟨bx, 0, none⟩ (.int .u64 0)).setCell ⟨r, 1, none⟩ (.int .i64 6) := by
  have HU := Lib.hid (uint1_end bx bm v w h1 hf)
  have c0 := hr.c 0; have c1 := hr.c 1; have c2 := hr.c 2
  simp at c0 c1 c2
  have HO := Lib.hid (hr.far (p := ⟨bx, 0, none⟩) (fun e => hrx e.symm) (.int .u64 0))
  obtain ⟨W2, hW2⟩ : ∃ W2, w.setCell ⟨bx, 0, none⟩ (.int .u64 0) = W2 := ⟨_, rfl⟩
  rw [hW2] at HU HO ⊢
  have d1 := HO.out.c 1
  have f1 := HO.out.f 1
  simp at d1
  clear hW2 hr
  go_enter Try.func79, Try.ntmps79
  go_wp2_with fail
  refine HU.out.mono ?_
  rintro e w1 ⟨rfl, hw⟩
  subst w1
  go_wp2_with fail
  go_ret
  exact ⟨rfl, rfl⟩
def UintG (s : List UInt8) (r : Nat) (w : World) (e : Ending) (w' : World) : Prop :=
  ((s = [] ∧ e = .returned (.int .u64 0) ∧ One r (rdC [] 6) w') ∨ (∃ g t, s = g :: t ∧ g.toNat < 128 ∧ e = .returned (.int .u64 (g.toNat : Int)) ∧ One r (rdC t 0) w')) ∧ ButS (fun k => k = r) w w'
set_option maxRecDepth 100000 in
set_option maxHeartbeats 1000000 in
theorem wire_Uint (s : List UInt8) (hs : s = [] ∨ ∃ g t, s = g :: t ∧ g.toNat < 128) (hl : s.length ≤ 1000000) (r : Nat) (w : World) (hr : One r (rdC s 0) w) :
    Calls Try.prog 67 #[.pointer (some ⟨r, 0, none⟩), .int .u64 281474976710656] w (UintG s r w) := by
  obtain ⟨W0, hW0⟩ : ∃ W0, (w.alloc (.cells #[.int .u64 281474976710656] 31)).alloc (.cells #[.int .u64 0] 31) = W0 := ⟨_, rfl⟩
  have hb0 : Below w.heap.size w W0 := by rw [← hW0]; exact ((Below.refl _ _).alloc (Nat.le_refl _) _).alloc (by simp) _
  have hm0 : Bx W0 w.heap.size 31 (.int .u64 281474976710656) := by rw [← hW0]; exact (Bx.new _ _ _).alloc _
  have hx0 : Bx W0 (w.heap.size + 1) 31 (.int .u64 0) := by
    rw [← hW0]
    have := Bx.new (w.alloc (.cells #[.int .u64 281474976710656] 31)) 31 (.int .u64 0)
    rw [show (w.alloc (.cells #[.int .u64 281474976710656] 31)).heap.size = w.heap.size + 1 by simp] at this
    exact this
  have hrl := hr.lt
  have hr0 := hr.step hb0
  go_enter Try.func67, Try.ntmps67
  go_upto_region 1 with fail
  have HB0 := Lib.hid hb0
  clear hW0 hb0 hr
  rcases hs with rfl | ⟨g, t, rfl, hg⟩
  · have HT := Lib.hid (take_end r (w.heap.size + 1) w.heap.size _ W0 hr0 hx0.c hx0.f (by omega))
    have HX := Lib.hid hx0; have HR := Lib.hid hr0
    clear hx0 hr0
    go_wp2_with fail
    refine HT.out.mono ?_
    rintro e w1 ⟨rfl, hw1⟩
    have hx1 : Bx w1 (w.heap.size + 1) 31 (.int .u64 0) := by rw [hw1]; exact (HX.out.set _).far (by dsimp only; omega) _
    have hr1 : One r (rdC [] 6) w1 := by rw [hw1]; exact (HR.out.far (p := ⟨w.heap.size + 1, 0, none⟩) (by dsimp only; omega) _).set (i := 1) (by simp) (.int .i64 6)
    have hb1 : ButS (fun k => k = r) w w1 := by
      rw [hw1]
      exact (ButS.of ((HB0.out.setCell (p := ⟨w.heap.size + 1, 0, none⟩) (by dsimp only; omega) _))).trans (ButS.set (S := fun k => k = r) _ (p := ⟨r, 1, none⟩) rfl _)
    have c0 := hx1.c; have f0 := hx1.f
    have HX1 := Lib.hid hx1; have HR1 := Lib.hid hr1; have HB1 := Lib.hid hb1
    clear hw1 hx1 hr1 hb1
    go_wp2_with fail
    have hx2 := HX1.out.set (.int .u64 0)
    have p0 := hx2.c
    refine bodyPost_ret (v := .int .u64 0) (by simp [results, Try.results67, go_sem, p0]) rfl ⟨Or.inl ⟨rfl, rfl, HR1.out.far (p := ⟨w.heap.size + 1, 0, none⟩) (by dsimp only; omega) _⟩, ?_⟩
    have h2 : ButS (fun k => k = w.heap.size + 1) w1 (w1.setCell ⟨w.heap.size + 1, 0, none⟩ (.int .u64 0)) := ButS.set (S := fun k => k = w.heap.size + 1) _ (p := ⟨w.heap.size + 1, 0, none⟩) rfl _
    exact ⟨h2.os.trans HB1.out.os, h2.tape.trans HB1.out.tape, h2.output.trans HB1.out.output, Nat.le_trans HB1.out.size h2.size, fun k hk hn => (h2.block k (by have := HB1.out.size; omega) (by omega)).trans (HB1.out.block k hk hn)⟩
  · have HT := Lib.hid (take_ok g t hg (by simp at hl; omega) r (w.heap.size + 1) w.heap.size 281474976710656 _ W0 hr0 (by decide) hx0.c hx0.f hm0.c (by omega) (by omega))
    have HX := Lib.hid hx0; have HR := Lib.hid hr0
    clear hx0 hr0
    go_wp2_with fail
    refine HT.out.mono ?_
    rintro e w1 ⟨rfl, hw1⟩
    have hx1 : Bx w1 (w.heap.size + 1) 31 (.int .u64 (g.toNat : Int)) := by rw [hw1]; exact (HX.out.set _).far (by dsimp only; omega) _
    have hr1 : One r (rdC t 0) w1 := by rw [hw1]; exact (HR.out.far (p := ⟨w.heap.size + 1, 0, none⟩) (by dsimp only; omega) _).set (i := 0) (by simp) (.string (bs t))
    have hb1 : ButS (fun k => k = r) w w1 := by
      rw [hw1]
      exact (ButS.of ((HB0.out.setCell (p := ⟨w.heap.size + 1, 0, none⟩) (by dsimp only; omega) _))).trans (ButS.set (S := fun k => k = r) _ (p := ⟨r, 0, none⟩) rfl _)
    have c0 := hx1.c; have f0 := hx1.f
    have HX1 := Lib.hid hx1; have HR1 := Lib.hid hr1; have HB1 := Lib.hid hb1
    clear hw1 hx1 hr1 hb1
    go_wp2_with fail
    have hx2 := HX1.out.set (.int .u64 (g.toNat : Int))
    have p0 := hx2.c
    refine bodyPost_ret (v := .int .u64 (g.toNat : Int)) (by simp [results, Try.results67, go_sem, p0]) rfl ⟨Or.inr ⟨g, t, rfl, hg, rfl, HR1.out.far (p := ⟨w.heap.size + 1, 0, none⟩) (by dsimp only; omega) _⟩, ?_⟩
    have h2 : ButS (fun k => k = w.heap.size + 1) w1 (w1.setCell ⟨w.heap.size + 1, 0, none⟩ (.int .u64 (g.toNat : Int))) := ButS.set (S := fun k => k = w.heap.size + 1) _ (p := ⟨w.heap.size + 1, 0, none⟩) rfl _
    exact ⟨h2.os.trans HB1.out.os, h2.tape.trans HB1.out.tape, h2.output.trans HB1.out.output, Nat.le_trans HB1.out.size h2.size, fun k hk hn => (h2.block k (by have := HB1.out.size; omega) (by omega)).trans (HB1.out.block k hk hn)⟩
end Go.Proofs.Ytniflkggcceagaa
