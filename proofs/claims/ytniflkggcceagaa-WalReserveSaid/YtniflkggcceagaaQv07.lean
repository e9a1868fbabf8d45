/- What wal.Open has under way in its loop over segments: the log, what is kept, the map, the rows, the closures; and how it turns. What wal.Open finds in files: segments, in memory; and what it makes of a row of them (plainly). A drawn region that stores into cells which it has loaded: a load ahead of the store may be taken first, though the store turns its cell: the class of worlds has a part that holds up to the store s alone. (The kit's OrdersHeld and RegionHeld, with that part.). For wal.Open: what is told of files that are segments; the start of its loop. For wal.Open, plainly: the cuts that it does to its disk, and what they leave. -/
import Derived.Test.YtniflkggcceagaaQv00
import Derived.Test.YtniflkggcceagaaQv06
namespace Go.Proofs.Ytniflkggcceagaa
open Go Go.RowKit
def knd (W : World) (k : Nat) : Option TypeId := match W.heap[k]? with | some (.cells _ T _) => some T | _ => none
def Cz (W : World) (b : Nat) (T : TypeId) (C : Array Value) : Prop := W.heap[b]? = some (.cells C T (0, 0))
section
variable {W W' : World} {b : Nat} {T : TypeId} {C : Array Value} {X : Nat → Prop} {K : Option TypeId}
theorem Cz.c (h : Cz W b T C) (j : Nat) : W.cell? ⟨b, j, none⟩ = C[j]? := cell_of h j
theorem Cz.f (h : Cz W b T C) (j : Nat) : W.frozen? ⟨b, j, none⟩ = false := frozen_of h j
theorem Cz.lt (h : Cz W b T C) : b < W.heap.size := (Array.getElem?_eq_some_iff.1 h).1
theorem Cz.k (h : Cz W b T C) : knd W b = some T := by unfold knd; rw [show W.heap[b]? = _ from h]
theorem Cz.set (h : Cz W b T C) (i : Nat) (v : Value) : Cz (W.setCell ⟨b, i, none⟩ v) b T (C.setIfInBounds i v) := setCell_block h v
theorem Cz.new (W : World) (C : Array Value) (T : TypeId) : Cz (W.alloc (.cells C T)) W.heap.size T C := (MapKept.heap_alloc _ _).1
theorem Cz.step (h : Cz W b T C) (hb : Below W.heap.size W W') : Cz W' b T C := (hb.block b h.lt).trans h
theorem Cz.kn (h : Cz W b T C) (hb : ButS X W W') (hX : ∀ k, X k → knd W k = K) (hK : K ≠ some T) : Cz W' b T C :=
  (hb.block b h.lt (fun hx => hK ((hX b hx).symm.trans h.k))).trans h
theorem own_k {B e n k : Nat} {v : Value} {xs : List Value} (h : W.ownsRow B e k v n xs) : ∀ g, v.ownBlock = some g → g < W.heap.size ∧ knd W g = some e := by
  intro g hg
  rcases h.2 with ⟨rfl, _⟩ | ⟨g', cap, cur, rfl, _, h3, _⟩
  · cases hg
  · cases hg
    exact ⟨(Array.getElem?_eq_some_iff.1 h3).1, by unfold knd; simp only []; rw [h3]⟩
theorem own_but {B e n k : Nat} {v : Value} {xs : List Value} (h : W.ownsRow B e k v n xs) (hb : ButS X W W') (hX : ∀ g, v.ownBlock = some g → ¬ X g) : W'.ownsRow B e k v n xs :=
  own_same h (fun g hg => hb.block g (own_k h g hg).1 (hX g hg))
theorem own_kn {B e n k : Nat} {v : Value} {xs : List Value} (h : W.ownsRow B e k v n xs) (hb : ButS X W W') (hX : ∀ k, X k → knd W k = K) (hK : K ≠ some e) : W'.ownsRow B e k v n xs :=
  own_but h hb (fun g hg hx => hK ((hX g hx).symm.trans (own_k h g hg).2))
theorem ByF.kn {N bm : Nat} {G : Nat → Option Value} (h : ByF N bm W G) (hb : ButS X W W') (hX : ∀ k, X k → knd W k = K) (hK : K ≠ none) : ByF N bm W' G := by
  obtain ⟨es, c, ho⟩ := h.obj
  exact h.same (hb.block bm h.lt (fun hx => hK ((hX bm hx).symm.trans (by unfold knd; rw [ho]))))
theorem Cz.bx {v : Value} (h : Cz W b T #[v]) : Bx W b T v := h
end
def ClB (B : Nat) (W : World) (fv sv : Value) (b0 : Nat) (v : Value) (c : Dc) : Prop :=
  (∃ b1 b2 n C, ∃ fl : Int, v = .func (.func 48) #[] #[.pointer (some ⟨b0, 0, none⟩), .pointer (some ⟨b1, 0, none⟩), .pointer (some ⟨b2, 0, none⟩)] ∧ c = .cut fl n ∧ Cz W b1 3 #[.int .i64 fl] ∧ Cz W b2 84 C ∧ C[5]? = some (.int .i64 ((n : Nat) : Int)) ∧ fv.ownBlock ≠ some b1 ∧ sv.ownBlock ≠ some b1 ∧ B ≤ b1 ∧ B ≤ b2) ∨
  (∃ b1, ∃ fl : Int, v = .func (.func 49) #[] #[.pointer (some ⟨b0, 0, none⟩), .pointer (some ⟨b1, 0, none⟩)] ∧ c = .cut fl 0 ∧ Cz W b1 3 #[.int .i64 fl] ∧ fv.ownBlock ≠ some b1 ∧ sv.ownBlock ≠ some b1 ∧ B ≤ b1)
theorem ClB.but {B b0 : Nat} {W W' : World} {fv sv fv' sv' v : Value} {c : Dc} {X : Nat → Prop} (h : ClB B W fv sv b0 v c) (hb : ButS X W W') (h1 : ∀ b C, Cz W b 3 C → fv.ownBlock ≠ some b → sv.ownBlock ≠ some b → ¬ X b) (h2 : ∀ b C, Cz W b 84 C → ¬ X b)
    (h3 : ∀ b, b < W.heap.size → fv.ownBlock ≠ some b → sv.ownBlock ≠ some b → fv'.ownBlock ≠ some b ∧ sv'.ownBlock ≠ some b) : ClB B W' fv' sv' b0 v c := by
  rcases h with ⟨b1, b2, n, C, fl, q1, q2, q3, q4, q5, q6, q7, q8, q9⟩ | ⟨b1, fl, q1, q2, q3, q4, q5, q6⟩
  · obtain ⟨e1, e2⟩ := h3 b1 q3.lt q6 q7
    exact Or.inl ⟨b1, b2, n, C, fl, q1, q2, (hb.block b1 q3.lt (h1 b1 _ q3 q6 q7)).trans q3, (hb.block b2 q4.lt (h2 b2 _ q4)).trans q4, q5, e1, e2, q8, q9⟩
  · obtain ⟨e1, e2⟩ := h3 b1 q3.lt q4 q5
    exact Or.inr ⟨b1, fl, q1, q2, (hb.block b1 q3.lt (h1 b1 _ q3 q4 q5)).trans q3, e1, e2, q6⟩
theorem ClB.kn {B b0 : Nat} {W W' : World} {fv sv v : Value} {c : Dc} {X : Nat → Prop} {K : Option TypeId} (h : ClB B W fv sv b0 v c) (hb : ButS X W W') (hX : ∀ k, X k → knd W k = K) (k1 : K ≠ some 3) (k2 : K ≠ some 84) : ClB B W' fv sv b0 v c :=
  h.but hb (fun b _C hz _ _ hx => k1 ((hX b hx).symm.trans hz.k)) (fun b _C hz hx => k2 ((hX b hx).symm.trans hz.k)) (fun _b _ a1 a2 => ⟨a1, a2⟩)
structure Lq where
  g : Nat
  f : Nat
  n : Nat
  text : List UInt8
  first : Nat
  F : List Nat
  Z : List Nat
  R : List (List UInt8)
  cs : List Dc
  C : Nat → Option Value
abbrev walC (d g f n : Nat) (fv sv : Value) : Array Value := #[.pointer (some ⟨d, 0, none⟩), .int .i64 3, .int .i64 100, .int .i64 60, .int .u64 (g : Int), .int .u64 (f : Int), .int .u64 (n : Int), fv, sv, .int .i64 0, .int .i64 0]
abbrev kepC (t : List UInt8) (f : Nat) (rv : Value) : Array Value := #[.string (bs t), .int .u64 (f : Int), rv]
def strsV (l : List (List UInt8)) : List Value := l.map (fun t => .string (bs t))
structure LpF (w0 : World) (d b0 x kb m q : Nat) (L : Lq) (fv sv rv cv : Value) (cvs : List Value) (W : World) : Prop where
  be : Below w0.heap.size w0 W
  hx : Cz W x 62 (walC d L.g L.f L.n fv sv)
  hk : Cz W kb 45 (kepC L.text L.first rv)
  hm : ByF q m W L.C
  fr : W.ownsRow w0.heap.size 3 1 fv L.F.length (natsV L.F)
  zr : W.ownsRow w0.heap.size 3 1 sv L.Z.length (natsV L.Z)
  rr : W.ownsRow w0.heap.size 9 1 rv L.R.length (strsV L.R)
  cr : W.ownsRow w0.heap.size 41 1 cv cvs.length cvs
  ne : ∀ b, fv.ownBlock = some b → sv.ownBlock ≠ some b
  h0 : Cz W b0 26 #[.pointer (some ⟨d, 0, none⟩)]
  ln : cvs.length = L.cs.length
  bx : ∀ (i : Nat) (v : Value) (c : Dc), cvs[i]? = some v → L.cs[i]? = some c → ClB w0.heap.size W fv sv b0 v c
  lx : w0.heap.size ≤ x
  lk : w0.heap.size ≤ kb
  lm : w0.heap.size ≤ m
section
variable {w0 : World} {d b0 x kb m q : Nat} {L : Lq} {fv sv rv cv : Value} {cvs : List Value} {W W' : World}
theorem LpF.step (h : LpF w0 d b0 x kb m q L fv sv rv cv cvs W) (hb : Below W.heap.size W W') : LpF w0 d b0 x kb m q L fv sv rv cv cvs W' :=
  have b2 : ButS (fun _ => False) W W' := ButS.of hb
  have n : ∀ k, (fun _ : Nat => False) k → knd W k = none := fun _ h => h.elim
  ⟨h.be.trans (hb.mono h.be.size), h.hx.step hb, h.hk.step hb, h.hm.same (hb.block m h.hm.lt), ownBelow h.fr hb, ownBelow h.zr hb, ownBelow h.rr hb, ownBelow h.cr hb, h.ne, h.h0.step hb, h.ln, fun i v c hv hc => (h.bx i v c hv hc).kn b2 n (by decide) (by decide), h.lx, h.lk, h.lm⟩
theorem LpF.turnX (h : LpF w0 d b0 x kb m q L fv sv rv cv cvs W) (i : Nat) (v : Value) {L' : Lq} (hL : walC d L'.g L'.f L'.n fv sv = (walC d L.g L.f L.n fv sv).setIfInBounds i v) (e1 : L'.text = L.text) (e2 : L'.first = L.first) (e3 : L'.F = L.F) (e4 : L'.Z = L.Z) (e5 : L'.R = L.R) (e6 : L'.cs = L.cs) (e7 : L'.C = L.C) :
    LpF w0 d b0 x kb m q L' fv sv rv cv cvs (W.setCell ⟨x, i, none⟩ v) := by
  have hb : ButS (fun k => k = x) W (W.setCell ⟨x, i, none⟩ v) := ButS.set (S := fun k => k = x) W (p := ⟨x, i, none⟩) rfl v
  have n : ∀ k, k = x → knd W k = some 62 := fun k e => by rw [e]; exact h.hx.k
  have bl : Below w0.heap.size W (W.setCell ⟨x, i, none⟩ v) := hb.below (fun k e => by rw [e]; exact h.lx) h.be.size
  refine ⟨h.be.trans bl, by rw [hL]; exact h.hx.set i v, by rw [e1, e2]; exact h.hk.kn hb n (by decide), by rw [e7]; exact h.hm.kn hb n (by decide), by rw [e3]; exact own_kn h.fr hb n (by decide), by rw [e4]; exact own_kn h.zr hb n (by decide), by rw [e5]; exact own_kn h.rr hb n (by decide), own_kn h.cr hb n (by decide), h.ne, h.h0.kn hb n (by decide), by rw [e6]; exact h.ln, fun i v c hv hc => (h.bx i v c hv (by rw [← e6]; exact hc)).kn hb n (by decide) (by decide), h.lx, h.lk, h.lm⟩
theorem LpF.setG (h : LpF w0 d b0 x kb m q L fv sv rv cv cvs W) (g : Nat) : LpF w0 d b0 x kb m q { L with g := g } fv sv rv cv cvs (W.setCell ⟨x, 4, none⟩ (.int .u64 (g : Int))) := h.turnX 4 _ rfl rfl rfl rfl rfl rfl rfl rfl
theorem LpF.setF (h : LpF w0 d b0 x kb m q L fv sv rv cv cvs W) (g : Nat) : LpF w0 d b0 x kb m q { L with f := g } fv sv rv cv cvs (W.setCell ⟨x, 5, none⟩ (.int .u64 (g : Int))) := h.turnX 5 _ rfl rfl rfl rfl rfl rfl rfl rfl
theorem LpF.setN (h : LpF w0 d b0 x kb m q L fv sv rv cv cvs W) (g : Nat) : LpF w0 d b0 x kb m q { L with n := g } fv sv rv cv cvs (W.setCell ⟨x, 6, none⟩ (.int .u64 (g : Int))) := h.turnX 6 _ rfl rfl rfl rfl rfl rfl rfl rfl
theorem LpF.put (h : LpF w0 d b0 x kb m q L fv sv rv cv cvs W) {N : Nat} {C' : Nat → Option Value} (hm : ByF N m W' C') (hg : W.grownBy W' (some m)) : LpF w0 d b0 x kb m N { L with C := C' } fv sv rv cv cvs W' := by
  have hb : ButS (fun k => k = m) W W' := ButS.row hg (fun j e => by cases e; rfl)
  have n : ∀ k, k = m → knd W k = none := fun k e => by
    obtain ⟨es, c, ho⟩ := h.hm.obj
    rw [e]; unfold knd; rw [ho]
  have bl : Below w0.heap.size W W' := hb.below (fun k e => by rw [e]; exact h.lm) h.be.size
  exact ⟨h.be.trans bl, h.hx.kn hb n (by decide), h.hk.kn hb n (by decide), hm, own_kn h.fr hb n (by decide), own_kn h.zr hb n (by decide), own_kn h.rr hb n (by decide), own_kn h.cr hb n (by decide), h.ne, h.h0.kn hb n (by decide), h.ln, fun i v c hv hc => (h.bx i v c hv hc).kn hb n (by decide) (by decide), h.lx, h.lk, h.lm⟩
theorem LpF.recs (h : LpF w0 d b0 x kb m q L fv sv rv cv cvs W) {rv' : Value} {R' : List (List UInt8)} (ho : W'.ownsRow w0.heap.size 9 1 rv' R'.length (strsV R')) (hg : W.grownBy W' rv.ownBlock) :
    LpF w0 d b0 x kb m q { L with R := R' } fv sv rv' cv cvs (W'.setCell ⟨kb, 2, none⟩ rv') := by
  have hb : ButS (fun k => rv.ownBlock = some k) W W' := ButS.row hg (fun j e => e)
  have n : ∀ k, rv.ownBlock = some k → knd W k = some 9 := fun k e => (own_k h.rr k e).2
  have hk1 : Cz W' kb 45 (kepC L.text L.first rv) := h.hk.kn hb n (by decide)
  have hb2 : ButS (fun k => k = kb) W' (W'.setCell ⟨kb, 2, none⟩ rv') := ButS.set (S := fun k => k = kb) W' (p := ⟨kb, 2, none⟩) rfl rv'
  have n2 : ∀ k, k = kb → knd W' k = some 45 := fun k e => by rw [e]; exact hk1.k
  have bl : Below w0.heap.size W W' := hb.below (fun k e => by have := ownAbove h.rr k e; omega) h.be.size
  have bl2 : Below w0.heap.size W' (W'.setCell ⟨kb, 2, none⟩ rv') := hb2.below (fun k e => by rw [e]; exact h.lk) (by have := h.be.size; have := bl.size; omega)
  exact ⟨(h.be.trans bl).trans bl2, (h.hx.kn hb n (by decide)).kn hb2 n2 (by decide), hk1.set 2 rv', (h.hm.kn hb n (by decide)).kn hb2 n2 (by decide), own_kn (own_kn h.fr hb n (by decide)) hb2 n2 (by decide), own_kn (own_kn h.zr hb n (by decide)) hb2 n2 (by decide), own_kn ho hb2 n2 (by decide), own_kn (own_kn h.cr hb n (by decide)) hb2 n2 (by decide), h.ne, (h.h0.kn hb n (by decide)).kn hb2 n2 (by decide), h.ln, fun i v c hv hc => ((h.bx i v c hv hc).kn hb n (by decide) (by decide)).kn hb2 n2 (by decide) (by decide), h.lx, h.lk, h.lm⟩
theorem LpF.calls (h : LpF w0 d b0 x kb m q L fv sv rv cv cvs W) {cv' v : Value} {c : Dc} (ho : W'.ownsRow w0.heap.size 41 1 cv' (cvs ++ [v]).length (cvs ++ [v])) (hg : W.grownBy W' cv.ownBlock) (hc : ClB w0.heap.size W fv sv b0 v c) :
    LpF w0 d b0 x kb m q { L with cs := L.cs ++ [c] } fv sv rv cv' (cvs ++ [v]) W' := by
  have hb : ButS (fun k => cv.ownBlock = some k) W W' := ButS.row hg (fun j e => e)
  have n : ∀ k, cv.ownBlock = some k → knd W k = some 41 := fun k e => (own_k h.cr k e).2
  have bl : Below w0.heap.size W W' := hb.below (fun k e => by have := ownAbove h.cr k e; omega) h.be.size
  refine ⟨h.be.trans bl, h.hx.kn hb n (by decide), h.hk.kn hb n (by decide), h.hm.kn hb n (by decide), own_kn h.fr hb n (by decide), own_kn h.zr hb n (by decide), own_kn h.rr hb n (by decide), ho, h.ne, h.h0.kn hb n (by decide), by simp [h.ln], fun i v' c' hv hc' => ?_, h.lx, h.lk, h.lm⟩
  refine ClB.kn (W := W) ?_ hb n (by decide) (by decide)
  by_cases hi : i < cvs.length
  · rw [List.getElem?_append_left hi] at hv
    have hc2 : (L.cs ++ [c])[i]? = some c' := hc'
    rw [List.getElem?_append_left (by rw [← h.ln]; exact hi)] at hc2
    exact h.bx i v' c' hv hc2
  · have hc2 : (L.cs ++ [c])[i]? = some c' := hc'
    rw [List.getElem?_append_right (by omega)] at hv
    rw [List.getElem?_append_right (by rw [← h.ln]; omega), ← h.ln] at hc2
    have h0 : i - cvs.length = 0 := by have := (List.getElem?_eq_some_iff.1 hv).1; simpa using this
    rw [h0] at hv hc2
    simp only [List.getElem?_cons_zero, Option.some.injEq] at hv hc2
    subst hv; subst hc2
    exact hc
structure A2 (B : Nat) (W : World) (fv sv : Value) (v1 : Value) (l1 : List Nat) (v2 : Value) (l2 : List Nat) (W' : World) : Prop where
  r1 : W'.ownsRow B 3 1 v1 l1.length (natsV l1)
  r2 : W'.ownsRow B 3 1 v2 l2.length (natsV l2)
  ne : ∀ b, v1.ownBlock = some b → v2.ownBlock ≠ some b
  bu : ButS (fun k => fv.ownBlock = some k ∨ sv.ownBlock = some k) W W'
  o1 : ∀ b, v1.ownBlock = some b → fv.ownBlock = some b ∨ W.heap.size ≤ b
  o2 : ∀ b, v2.ownBlock = some b → sv.ownBlock = some b ∨ W.heap.size ≤ b
theorem A2.step {B : Nat} {v1 v2 : Value} {l1 l2 : List Nat} {W'' : World} (h : A2 B W fv sv v1 l1 v2 l2 W') (hb : Below W'.heap.size W' W'') : A2 B W fv sv v1 l1 v2 l2 W'' :=
  ⟨ownBelow h.r1 hb, ownBelow h.r2 hb, h.ne, h.bu.trans (ButS.of hb), h.o1, h.o2⟩
theorem A2.one {B : Nat} {v1 v2 v' : Value} {l1 l2 l' : List Nat} {W'' : World} (h : A2 B W fv sv v1 l1 v2 l2 W') (_hB : B ≤ W'.heap.size) (ho : W''.ownsRow B 3 1 v' l'.length (natsV l')) (hg : W'.grownBy W'' v1.ownBlock) (hat : v'.ownBlock = v1.ownBlock ∨ v'.ownBlock = some W'.heap.size) : A2 B W fv sv v' l' v2 l2 W'' := by
  have hb : ButS (fun k => v1.ownBlock = some k) W' W'' := ButS.row hg (fun j e => e)
  have hs := h.bu.size
  refine ⟨ho, own_but h.r2 hb (fun g hg h2 => h.ne g h2 hg), fun b hv h2 => ?_, ⟨hg.os.trans h.bu.os, hg.tape.trans h.bu.tape, hg.output.trans h.bu.output, Nat.le_trans hs hg.size, fun k hk hn => ?_⟩, fun b hv => ?_, h.o2⟩
  · rcases hat with e | e
    · exact h.ne b (e.symm.trans hv) h2
    · rw [e] at hv; cases hv
      have := (own_k h.r2 _ h2).1; omega
  · refine (hb.block k (by omega) (fun h1 => ?_)).trans (h.bu.block k hk hn)
    rcases h.o1 k h1 with e | e
    · exact hn (Or.inl e)
    · omega
  · rcases hat with e | e
    · exact h.o1 b (e.symm.trans hv)
    · rw [e] at hv; cases hv; exact Or.inr hs
theorem A2.swap {B : Nat} {v1 v2 : Value} {l1 l2 : List Nat} (h : A2 B W fv sv v1 l1 v2 l2 W') : A2 B W sv fv v2 l2 v1 l1 W' :=
  ⟨h.r2, h.r1, fun b h1 h2 => h.ne b h2 h1, h.bu.mono (fun _k hk => hk.symm), h.o2, h.o1⟩
theorem LpF.a2 (h : LpF w0 d b0 x kb m q L fv sv rv cv cvs W) : A2 w0.heap.size W fv sv fv L.F sv L.Z W := ⟨h.fr, h.zr, h.ne, ButS.refl _, fun _ h => Or.inl h, fun _ h => Or.inl h⟩
theorem A2.far {B : Nat} {v1 v2 : Value} {l1 l2 : List Nat} (h : A2 B W fv sv v1 l1 v2 l2 W') : ∀ b, b < W.heap.size → fv.ownBlock ≠ some b → sv.ownBlock ≠ some b → v1.ownBlock ≠ some b ∧ v2.ownBlock ≠ some b := fun b hb n1 n2 =>
  ⟨fun e => (h.o1 b e).elim n1 (fun h => by omega), fun e => (h.o2 b e).elim n2 (fun h => by omega)⟩
theorem LpF.two (h : LpF w0 d b0 x kb m q L fv sv rv cv cvs W) {v1 v2 : Value} {F' Z' : List Nat} (ha : A2 w0.heap.size W fv sv v1 F' v2 Z' W') :
    LpF w0 d b0 x kb m q { L with F := F', Z := Z' } v1 v2 rv cv cvs ((W'.setCell ⟨x, 7, none⟩ v1).setCell ⟨x, 8, none⟩ v2) := by
  have hb := ha.bu
  have n : ∀ k, (fv.ownBlock = some k ∨ sv.ownBlock = some k) → knd W k = some 3 := fun k e => e.elim (fun e => (own_k h.fr k e).2) (fun e => (own_k h.zr k e).2)
  have hx1 : Cz W' x 62 (walC d L.g L.f L.n fv sv) := h.hx.kn hb n (by decide)
  have hb2 : ButS (fun k => k = x) W' ((W'.setCell ⟨x, 7, none⟩ v1).setCell ⟨x, 8, none⟩ v2) := (ButS.set (S := fun k => k = x) W' (p := ⟨x, 7, none⟩) rfl v1).trans (ButS.set (S := fun k => k = x) _ (p := ⟨x, 8, none⟩) rfl v2)
  have n2 : ∀ k, k = x → knd W' k = some 62 := fun k e => by rw [e]; exact hx1.k
  have bl : Below w0.heap.size W W' := hb.below (fun k e => e.elim (fun e => ownAbove h.fr k e) (fun e => ownAbove h.zr k e)) h.be.size
  have bl2 : Below w0.heap.size W' ((W'.setCell ⟨x, 7, none⟩ v1).setCell ⟨x, 8, none⟩ v2) := hb2.below (fun k e => by rw [e]; exact h.lx) (by have := h.be.size; have := bl.size; omega)
  exact ⟨(h.be.trans bl).trans bl2, (hx1.set 7 v1).set 8 v2, (h.hk.kn hb n (by decide)).kn hb2 n2 (by decide), (h.hm.kn hb n (by decide)).kn hb2 n2 (by decide), own_kn ha.r1 hb2 n2 (by decide), own_kn ha.r2 hb2 n2 (by decide), own_kn (own_kn h.rr hb n (by decide)) hb2 n2 (by decide), own_kn (own_kn h.cr hb n (by decide)) hb2 n2 (by decide), ha.ne, (h.h0.kn hb n (by decide)).kn hb2 n2 (by decide), h.ln,
    fun i v c hv hc => ClB.kn (W := W') ((h.bx i v c hv hc).but hb (fun b C hz e1 e2 e => e.elim e1 e2) (fun b C hz e => by have := (n b e).symm.trans hz.k; exact absurd this (by decide)) ha.far) hb2 n2 (by decide) (by decide), h.lx, h.lk, h.lm⟩
end
end Go.Proofs.Ytniflkggcceagaa

namespace Go.Proofs.Ytniflkggcceagaa
open Go Go.RowKit
def psF (g : Nat → List UInt8) : Nat → List (Nat × Wl.Sg)
  | 0 => []
  | k + 1 => psF g k ++ (match Wl.parse sumF (g k) with | some x => [(k, x)] | none => [])
theorem psF_some {g : Nat → List UInt8} {k : Nat} {x : Wl.Sg} (h : Wl.parse sumF (g k) = some x) : psF g (k + 1) = psF g k ++ [(k, x)] := by
  show psF g k ++ _ = _; rw [h]
theorem psF_none {g : Nat → List UInt8} {k : Nat} (h : Wl.parse sumF (g k) = none) : psF g (k + 1) = psF g k := by
  show psF g k ++ _ = _; rw [h]; simp
theorem psF_mem {g : Nat → List UInt8} : ∀ {k : Nat} {y : Nat × Wl.Sg}, y ∈ psF g k → y.1 < k ∧ Wl.parse sumF (g y.1) = some y.2
  | 0, y, h => by cases h
  | k + 1, y, h => by
    cases hp : Wl.parse sumF (g k) with
    | none => rw [psF_none hp] at h; have := psF_mem h; exact ⟨by omega, this.2⟩
    | some x =>
      rw [psF_some hp] at h
      rcases List.mem_append.1 h with h | h
      · have := psF_mem h; exact ⟨by omega, this.2⟩
      · simp only [List.mem_singleton] at h; subst h; exact ⟨by simp, hp⟩
theorem psF_length (g : Nat → List UInt8) : ∀ k, (psF g k).length ≤ k
  | 0 => Nat.le_refl _
  | k + 1 => by
    have := psF_length g k
    cases hp : Wl.parse sumF (g k) with
    | none => rw [psF_none hp]; omega
    | some x => rw [psF_some hp]; simp; omega
theorem psF_nodup (g : Nat → List UInt8) : ∀ k, ((psF g k).map (·.1)).Nodup
  | 0 => List.nodup_nil
  | k + 1 => by
    have := psF_nodup g k
    cases hp : Wl.parse sumF (g k) with
    | none => rw [psF_none hp]; exact this
    | some x =>
      rw [psF_some hp, List.map_append]
      refine List.nodup_append.2 ⟨this, by simp, fun a ha b hb => ?_⟩
      simp only [List.map_cons, List.map_nil, List.mem_singleton] at hb
      obtain ⟨y, hy, rfl⟩ := List.mem_map.1 ha
      have := (psF_mem hy).1; omega
abbrev Sm := Nat × Wl.Sg × Value
def sgV (t : Sm) : List Value := (sgC t.2.1.kind t.2.1.gen t.2.1.first t.2.1.text t.2.2 t.2.1.used t.2.1.whole).toList
def allF (T : List Sm) : List Value := T.flatMap sgV
theorem sgV_length (t : Sm) : (sgV t).length = 7 := rfl
theorem allF_snoc (T : List Sm) (t : Sm) : allF (T ++ [t]) = allF T ++ sgV t := by unfold allF; simp
theorem allF_at : ∀ (T : List Sm) (i : Nat) (t : Sm), T[i]? = some t → ∀ j u, (sgV t)[j]? = some u → (allF T)[i * 7 + j]? = some u
  | [], i, t, h, j, u, hu => by cases h
  | a :: r, 0, t, h, j, u, hu => by
    have e : t = a := by simpa using h.symm
    rw [e] at hu
    have : j < (sgV a).length := (List.getElem?_eq_some_iff.1 hu).1
    unfold allF
    rw [List.flatMap_cons, List.getElem?_append_left (by omega)]
    simpa using hu
  | a :: r, i + 1, t, h, j, u, hu => by
    unfold allF
    rw [List.flatMap_cons, List.getElem?_append_right (by rw [sgV_length]; omega), sgV_length]
    have := allF_at r i t (by simpa using h) j u hu
    unfold allF at this
    rw [← this]; congr 1; omega
def smP (t : Sm) : Nat × Wl.Sg := (t.1, t.2.1)
def RecAt (B : Nat) (W : World) (t : Sm) : Prop := ∃ a cp, t.2.2 = .slice a t.2.1.recs.length cp ∧ W.ownsRow B 9 1 t.2.2 t.2.1.recs.length (strsV t.2.1.recs)
structure LpA (w0 : World) (T : List Sm) (va vf : Value) (W : World) : Prop where
  be : Below w0.heap.size w0 W
  ar : W.ownsRow w0.heap.size 84 7 va T.length (allF T)
  fr : W.ownsRow w0.heap.size 3 1 vf T.length (natsV (T.map (·.1)))
  rs : ∀ t ∈ T, RecAt w0.heap.size W t
section
variable {w0 : World} {T : List Sm} {va vf : Value} {W W1 W2 W3 : World}
theorem RecAt.step {B : Nat} {t : Sm} (h : RecAt B W t) (hb : Below W.heap.size W W1) : RecAt B W1 t := by
  obtain ⟨a, cp, h1, h2⟩ := h; exact ⟨a, cp, h1, ownBelow h2 hb⟩
theorem RecAt.kn {B : Nat} {t : Sm} {X : Nat → Prop} {K : Option TypeId} (h : RecAt B W t) (hb : ButS X W W1) (hX : ∀ k, X k → knd W k = K) (hK : K ≠ some 9) : RecAt B W1 t := by
  obtain ⟨a, cp, h1, h2⟩ := h; exact ⟨a, cp, h1, own_kn h2 hb hX hK⟩
theorem LpA.step (h : LpA w0 T va vf W) (hb : Below W.heap.size W W1) : LpA w0 T va vf W1 :=
  ⟨h.be.trans (hb.mono h.be.size), ownBelow h.ar hb, ownBelow h.fr hb, fun t ht => (h.rs t ht).step hb⟩
theorem LpA.nil (w0 : World) : LpA w0 [] (.slice none 0 0) (.slice none 0 0) w0 :=
  ⟨Below.refl _ _, World.ownsRow_nil _ _ _ _, World.ownsRow_nil _ _ _ _, fun t ht => by cases ht⟩
theorem LpA.fr1 (h : LpA w0 T va vf W) (hg : W.grownBy W1 va.ownBlock) (hb : Below W1.heap.size W1 W2) : W2.ownsRow w0.heap.size 3 1 vf T.length (natsV (T.map (·.1))) :=
  ownBelow (own_kn h.fr (ButS.row hg (S := fun k => va.ownBlock = some k) (fun j e => e)) (fun k e => (own_k h.ar k e).2) (by decide)) hb
theorem LpA.push (h : LpA w0 T va vf W) {t : Sm} {va' vf' : Value} (ht : RecAt w0.heap.size W t) (ho1 : W1.ownsRow w0.heap.size 84 7 va' (T.length + 1) (allF T ++ sgV t)) (hg1 : W.grownBy W1 va.ownBlock) (hb : Below W1.heap.size W1 W2)
    (ho2 : W3.ownsRow w0.heap.size 3 1 vf' (T.length + 1) (natsV (T.map (·.1)) ++ [.int .i64 (t.1 : Int)])) (hg2 : W2.grownBy W3 vf.ownBlock) : LpA w0 (T ++ [t]) va' vf' W3 := by
  have b1 : ButS (fun k => va.ownBlock = some k) W W1 := ButS.row hg1 (fun j e => e)
  have n1 : ∀ k, va.ownBlock = some k → knd W k = some 84 := fun k e => (own_k h.ar k e).2
  have hf2 := h.fr1 hg1 hb
  have b2 : ButS (fun k => vf.ownBlock = some k) W2 W3 := ButS.row hg2 (fun j e => e)
  have n2 : ∀ k, vf.ownBlock = some k → knd W2 k = some 3 := fun k e => (own_k hf2 k e).2
  have l1 : Below w0.heap.size W W1 := b1.below (fun k e => ownAbove h.ar k e) h.be.size
  have l2 : Below w0.heap.size W2 W3 := b2.below (fun k e => ownAbove hf2 k e) (by have := h.be.size; have := l1.size; have := hb.size; omega)
  have l12 : Below w0.heap.size w0 W2 := (h.be.trans l1).trans (hb.mono (by have := h.be.size; have := l1.size; omega))
  refine ⟨l12.trans l2, ?_, ?_, fun u hu => ?_⟩
  · rw [allF_snoc, List.length_append]; exact own_kn (ownBelow ho1 hb) b2 n2 (by decide)
  · rw [List.length_append, List.map_append]; unfold natsV at ho2 ⊢; rw [List.map_append]; exact ho2
  · have hu2 : RecAt w0.heap.size W u := by
      rcases List.mem_append.1 hu with hu | hu
      · exact h.rs u hu
      · simp only [List.mem_singleton] at hu; subst hu; exact ht
    exact ((hu2.kn b1 n1 (by decide)).step hb).kn b2 n2 (by decide)
end
def SgsAt (W : World) (v : Value) (T : List Sm) : Prop := ∃ g cp, v = .slice (some ⟨g, 0, none⟩) T.length cp ∧ g < W.heap.size ∧ ∀ (i : Nat) (t : Sm), T[i]? = some t → (∃ a cp, t.2.2 = .slice a t.2.1.recs.length cp) ∧ ∀ (j : Nat) (u : Value), (sgV t)[j]? = some u → W.cell? ⟨g, i * 7 + j, none⟩ = some u
theorem LpA.sgs {w0 W : World} {T : List Sm} {va vf : Value} (h : LpA w0 T va vf W) (hT : 1 ≤ T.length) : SgsAt W va T := by
  obtain ⟨a, c, rfl⟩ := ownShape h.ar
  rcases h.ar.2 with ⟨h1, h2⟩ | ⟨g, cap, cur, h1, h2, h3, _⟩
  · omega
  · simp only [Value.slice.injEq] at h1
    obtain ⟨rfl, _, rfl⟩ := h1
    refine ⟨g, _, rfl, (Array.getElem?_eq_some_iff.1 h3).1, fun i t ht => ⟨?_, fun j u hu => ?_⟩⟩
    · obtain ⟨a, cp, h5, _⟩ := h.rs t (List.mem_of_getElem? ht)
      exact ⟨a, cp, h5⟩
    · have := World.ownsRow.cells h.ar (g := g) rfl _ _ (allF_at T i t ht j u hu)
      rwa [Addr.add_lit, Nat.zero_add] at this
def RowG (rw : List Nat) (w : World) (e : Ending) (w' : World) : Prop := ∃ a cp, e = .returned (.tuple #[.slice a rw.length cp, .int .i64 0]) ∧ w'.ownsRow w.heap.size 3 1 (.slice a rw.length cp) rw.length (natsV rw) ∧ Below w.heap.size w w'
def lqOf (t0 : List UInt8) (f0 : Nat) (G : List (Nat × Wl.Sg)) : Lq where
  g := (G.getLast?.map (·.2.gen)).getD 0
  f := 0
  n := (G.getLast?.map (fun y => y.2.first + y.2.recs.length)).getD 0
  text := t0
  first := f0
  F := G.map (·.1)
  Z := G.map (·.2.used)
  R := G.flatMap (·.2.recs)
  cs := (G.filter (fun y => !y.2.whole)).map (fun y => .cut (y.1 : Int) y.2.used)
  C := fun z => if z ∈ G.map (·.1) then some (.int .i64 1) else none
theorem lqOf_snoc (t0 : List UInt8) (f0 : Nat) (G : List (Nat × Wl.Sg)) (y : Nat × Wl.Sg) : lqOf t0 f0 (G ++ [y]) = ⟨y.2.gen, 0, y.2.first + y.2.recs.length, t0, f0, (lqOf t0 f0 G).F ++ [y.1], (lqOf t0 f0 G).Z ++ [y.2.used], (lqOf t0 f0 G).R ++ y.2.recs, (lqOf t0 f0 G).cs ++ (if y.2.whole then [] else [.cut (y.1 : Int) y.2.used]), fun z => if z = y.1 then some (.int .i64 1) else (lqOf t0 f0 G).C z⟩ := by
  unfold lqOf
  simp only [List.getLast?_append, List.getLast?_singleton, Option.some_or, Option.map_some, Option.getD_some, List.map_append, List.map_cons, List.map_nil, List.flatMap_append, List.flatMap_cons, List.flatMap_nil, List.append_nil, List.filter_append, List.filter_cons, List.filter_nil, List.mem_append, List.mem_singleton, Lq.mk.injEq, true_and]
  refine ⟨?_, ?_⟩
  · cases y.2.whole <;> simp
  · funext z
    by_cases h1 : z = y.1
    · simp [h1]
    · rw [if_neg h1]
      by_cases h2 : z ∈ G.map (·.1)
      · rw [if_pos (Or.inl h2), if_pos h2]
      · rw [if_neg (fun h => h.elim h2 h1), if_neg h2]
end Go.Proofs.Ytniflkggcceagaa

namespace Go.Proofs.Ytniflkggcceagaa
open Go Go.RowKit
def SL (s : Nat) (A B : World → Prop) (l : Array Bool) (w : World) : Prop := (l.getD s true = false → A w) ∧ B w
section
variable {P : Program} {ops : Array Oper} {Q : Exit → Act → World → Prop} {md : Region.Mode} {s : Nat} {A B : World → Prop}
theorem SL.all {l : Array Bool} {w : World} (a : A w) (b : B w) : SL s A B l w := ⟨fun _ => a, b⟩
theorem SL.late {l : Array Bool} {w : World} (h : l.getD s true = true) (b : B w) : SL s A B l w := ⟨fun e => absurd (h.symm.trans e) (by decide), b⟩
def wpAnyL (P : Program) (md : Region.Mode) (ops : Array Oper) (Q : Exit → Act → World → Prop) (s : Nat) (A B : World → Prop) : Nat → Array Bool → Act → World → Prop
  | 0, listed, a, w => Region.ready md ops listed = [] ∧ Q .normal a w
  | fuel + 1, listed, a, w =>
    (Region.ready md ops listed = [] → Q .normal a w) ∧
    ∀ i ∈ Region.ready md ops listed, wpOp P ops Q i (fun a' w' => SL s A B (listed.setIfInBounds i true) w' ∧ wpAnyL P md ops Q s A B fuel (listed.setIfInBounds i true) a' w') a w
theorem wpAny_of_L : ∀ (fuel : Nat) (listed : Array Bool) (a : Act) (w : World), wpAnyL P md ops Q s A B fuel listed a w → wpAny P md ops Q fuel listed a w
  | 0, _, _, _, h => h
  | fuel + 1, _, _, _, h => ⟨h.1, fun i hi => wpOp_mono (fun a' w' h' => wpAny_of_L fuel _ a' w' h'.2) (h.2 i hi)⟩
theorem not_on {i _j : Nat} {listed : Array Bool} {oj : Oper} (hr : i ∈ Region.ready md ops listed) (hall : ∀ e ∈ oj.after, Region.binds md e = true → listed.getD e.on false = true) : ∀ e ∈ oj.after, Region.binds md e = true → e.on ≠ i := fun e he hb heq => by
  have h1 := hall e he hb
  have h0 := (mem_ready.1 hr).1
  rw [heq] at h1
  rcases Nat.lt_or_ge i listed.size with h' | h'
  · simp [h'] at h0 h1; rw [h0] at h1; cases h1
  · simp [Array.getElem?_eq_none h'] at h1
theorem wpAnyL_first {i : Nat} {oi : Oper} {v : Value} (hi : ops[i]? = some oi) (hsel : ∀ (j : Nat) (o : Oper) cs b, ops[j]? = some o → o.op ≠ .select cs b)
    (hQ : ∀ c a w, Q (.panic c) (a.put oi.dst v) w → Q (.panic c) a w) (hdep : ∀ os, ops[s]? = some os → ∃ e ∈ os.after, Region.binds md e = true ∧ e.on = i) (hne : i ≠ s) :
    ∀ (fuel : Nat) (listed : Array Bool) (a : Act) (w : World),
      (∀ j oj, ops[j]? = some oj → j ≠ i → listed.getD j true = false → (∀ e ∈ oj.after, Region.binds md e = true → e.on ≠ i) → oi.apart ops oj = true) →
      i ∈ Region.ready md ops listed → YieldsIf P ops (fun w => A w ∧ B w) oi v a → listed.getD s true = false → A w → B w →
      wpAnyL P md ops Q s A B fuel (listed.setIfInBounds i true) (a.put oi.dst v) w → wpAnyL P md ops Q s A B (fuel + 1) listed a w := by
  intro fuel
  induction fuel with
  | zero =>
    intro listed a w _ hr hy hl hA hB H
    refine ⟨fun h => (by rw [h] at hr; cases hr), fun j hj => ?_⟩
    by_cases hji : j = i
    · subst hji; exact hy.wpOp hi ⟨hA, hB⟩ ⟨SL.all hA hB, H⟩
    · have := ready_mono hj hji
      rw [H.1] at this
      cases this
  | succ fuel ih =>
    intro listed a w hfree hr hy hl hA hB H
    refine ⟨fun h => (by rw [h] at hr; cases hr), fun j hj => ?_⟩
    by_cases hji : j = i
    · subst hji; exact hy.wpOp hi ⟨hA, hB⟩ ⟨SL.all hA hB, H⟩
    · have h1 := H.2 j (ready_mono hj hji)
      obtain ⟨hjun, oj, hoj, hall⟩ := mem_ready.1 hj
      have hnot : ∀ e ∈ oj.after, Region.binds md e = true → e.on ≠ i := not_on (_j := j) hr hall
      have hjs : j ≠ s := fun e => by
        subst e
        obtain ⟨e, he, hb, hon⟩ := hdep oj hoj
        exact hnot e he hb hon
      have h2 := wpOp_putIf hoj (hfree j oj hoj hji hjun hnot) (fun cs b => hsel i oi cs b hi) (fun cs b => hsel j oj cs b hoj) hQ hy h1
      have hfree' : ∀ k ok, ops[k]? = some ok → k ≠ i → (listed.setIfInBounds j true).getD k true = false →
          (∀ e ∈ ok.after, Region.binds md e = true → e.on ≠ i) → oi.apart ops ok = true := fun k ok hk hki hun hno => by
        refine hfree k ok hk hki ?_ hno
        by_cases hjk : j = k
        · subst hjk; exact hjun
        · rw [getD_set_ne true hjk] at hun; exact hun
      have hl' : (listed.setIfInBounds j true).getD s true = false := by rw [getD_set_ne true hjs]; exact hl
      refine wpOp_mono (fun a' w' h3 => ?_) h2
      have hA' : A w' := h3.2.1.1 (by rw [getD_set_ne true hjs, getD_set_ne true hne]; exact hl)
      refine ⟨SL.all hA' h3.2.1.2, ih (listed.setIfInBounds j true) a' w' hfree' (ready_mono hr (Ne.symm hji)) h3.1 hl' hA' h3.2.1.2 ?_⟩
      rw [Array.setIfInBounds_comm _ _ hji]
      exact h3.2.2
theorem wpAnyL_firstB {i : Nat} {oi : Oper} {v : Value} (hi : ops[i]? = some oi) (hsel : ∀ (j : Nat) (o : Oper) cs b, ops[j]? = some o → o.op ≠ .select cs b)
    (hQ : ∀ c a w, Q (.panic c) (a.put oi.dst v) w → Q (.panic c) a w) (hne : i ≠ s) :
    ∀ (fuel : Nat) (listed : Array Bool) (a : Act) (w : World),
      (∀ j oj, ops[j]? = some oj → j ≠ i → listed.getD j true = false → (∀ e ∈ oj.after, Region.binds md e = true → e.on ≠ i) → oi.apart ops oj = true) →
      i ∈ Region.ready md ops listed → YieldsIf P ops B oi v a → SL s A B listed w →
      wpAnyL P md ops Q s A B fuel (listed.setIfInBounds i true) (a.put oi.dst v) w → wpAnyL P md ops Q s A B (fuel + 1) listed a w := by
  intro fuel
  induction fuel with
  | zero =>
    intro listed a w _ hr hy hS H
    refine ⟨fun h => (by rw [h] at hr; cases hr), fun j hj => ?_⟩
    by_cases hji : j = i
    · subst hji; exact hy.wpOp hi hS.2 ⟨⟨fun h => hS.1 (by rw [getD_set_ne true hne] at h; exact h), hS.2⟩, H⟩
    · have := ready_mono hj hji
      rw [H.1] at this
      cases this
  | succ fuel ih =>
    intro listed a w hfree hr hy hS H
    refine ⟨fun h => (by rw [h] at hr; cases hr), fun j hj => ?_⟩
    by_cases hji : j = i
    · subst hji; exact hy.wpOp hi hS.2 ⟨⟨fun h => hS.1 (by rw [getD_set_ne true hne] at h; exact h), hS.2⟩, H⟩
    · have h1 := H.2 j (ready_mono hj hji)
      obtain ⟨hjun, oj, hoj, hall⟩ := mem_ready.1 hj
      have hnot : ∀ e ∈ oj.after, Region.binds md e = true → e.on ≠ i := not_on (_j := j) hr hall
      have h2 := wpOp_putIf hoj (hfree j oj hoj hji hjun hnot) (fun cs b => hsel i oi cs b hi) (fun cs b => hsel j oj cs b hoj) hQ hy h1
      have hfree' : ∀ k ok, ops[k]? = some ok → k ≠ i → (listed.setIfInBounds j true).getD k true = false →
          (∀ e ∈ ok.after, Region.binds md e = true → e.on ≠ i) → oi.apart ops ok = true := fun k ok hk hki hun hno => by
        refine hfree k ok hk hki ?_ hno
        by_cases hjk : j = k
        · subst hjk; exact hjun
        · rw [getD_set_ne true hjk] at hun; exact hun
      refine wpOp_mono (fun a' w' h3 => ?_) h2
      have hS' : SL s A B (listed.setIfInBounds j true) w' := ⟨fun h => h3.2.1.1 (by rw [Array.setIfInBounds_comm _ _ (Ne.symm hji), getD_set_ne true hne]; exact h), h3.2.1.2⟩
      refine ⟨hS', ih (listed.setIfInBounds j true) a' w' hfree' (ready_mono hr (Ne.symm hji)) h3.1 hS' ?_⟩
      rw [Array.setIfInBounds_comm _ _ hji]
      exact h3.2.2
def depOn (md : Region.Mode) (ops : Array Oper) (s i : Nat) : Bool := match ops[s]? with | some o => o.after.any (fun e => Region.binds md e && e.on == i) | none => true
theorem depOn_spec {i : Nat} (h : depOn md ops s i = true) : ∀ os, ops[s]? = some os → ∃ e ∈ os.after, Region.binds md e = true ∧ e.on = i := by
  intro os ho
  unfold depOn at h
  rw [ho] at h
  simp only [] at h
  rw [Array.any_eq_true] at h
  obtain ⟨k, hk, h2⟩ := h
  rw [Bool.and_eq_true] at h2
  exact ⟨os.after[k], Array.getElem_mem hk, h2.1, beq_iff_eq.1 h2.2⟩
theorem wpAnyL_take {i : Nat} {oi : Oper} {v : Value} {fuel : Nat} {listed : Array Bool} {a : Act} {w : World} (hi : ops[i]? = some oi)
    (hs : Region.noSelect ops = true) (hf : Region.free md ops listed i = true) (hr : (Region.ready md ops listed).contains i = true)
    (hQ : ∀ c a w, Q (.panic c) (a.put oi.dst v) w → Q (.panic c) a w) (hd : (depOn md ops s i && i != s && !(listed.getD s true)) = true) (hy : YieldsIf P ops (fun w => A w ∧ B w) oi v a) (hS : SL s A B listed w)
    (h : SL s A B (listed.setIfInBounds i true) w → wpAnyL P md ops Q s A B fuel (listed.setIfInBounds i true) (a.put oi.dst v) w) : wpAnyL P md ops Q s A B (fuel + 1) listed a w := by
  simp only [Bool.and_eq_true, bne_iff_ne, ne_eq, Bool.not_eq_true'] at hd
  exact wpAnyL_first hi (Region.noSelect_spec hs) hQ (depOn_spec hd.1.1) hd.1.2 fuel listed a w (Region.free_spec hi hf) (by simpa using hr) hy hd.2 (hS.1 hd.2) hS.2 (h (SL.all (hS.1 hd.2) hS.2))
theorem wpAnyL_takeB {i : Nat} {oi : Oper} {v : Value} {fuel : Nat} {listed : Array Bool} {a : Act} {w : World} (hi : ops[i]? = some oi)
    (hs : Region.noSelect ops = true) (hf : Region.free md ops listed i = true) (hr : (Region.ready md ops listed).contains i = true)
    (hQ : ∀ c a w, Q (.panic c) (a.put oi.dst v) w → Q (.panic c) a w) (hd : (i != s) = true) (hy : YieldsIf P ops B oi v a) (hS : SL s A B listed w)
    (h : SL s A B (listed.setIfInBounds i true) w → wpAnyL P md ops Q s A B fuel (listed.setIfInBounds i true) (a.put oi.dst v) w) : wpAnyL P md ops Q s A B (fuel + 1) listed a w := by
  have hd' : i ≠ s := bne_iff_ne.1 hd
  exact wpAnyL_firstB hi (Region.noSelect_spec hs) hQ hd' fuel listed a w (Region.free_spec hi hf) (by simpa using hr) hy hS (h ⟨fun h => hS.1 (by rw [getD_set_ne true hd'] at h; exact h), hS.2⟩)
theorem wpAnyL_done {listed : Array Bool} {a : Act} {w : World} (hr : Region.ready md ops listed = []) (h : Q .normal a w) : ∀ fuel, wpAnyL P md ops Q s A B fuel listed a w
  | 0 => ⟨hr, h⟩
  | _ + 1 => ⟨fun _ => h, by rw [hr]; simp⟩
def AllReadyL (P : Program) (md : Region.Mode) (ops : Array Oper) (Q : Exit → Act → World → Prop) (s : Nat) (A B : World → Prop) (fuel : Nat) (listed : Array Bool) (a : Act) (w : World) (rs : List Nat) : Prop :=
  ∀ i ∈ rs, wpOp P ops Q i (fun a' w' => SL s A B (listed.setIfInBounds i true) w' ∧ wpAnyL P md ops Q s A B fuel (listed.setIfInBounds i true) a' w') a w
theorem AllReadyL.nil {fuel : Nat} {listed : Array Bool} {a : Act} {w : World} : AllReadyL P md ops Q s A B fuel listed a w [] := fun _ h => by cases h
theorem AllReadyL.cons {fuel : Nat} {listed : Array Bool} {a : Act} {w : World} {i : Nat} {o : Oper} {rs : List Nat} (ho : ops[i]? = some o)
    (h : ∀ K' : Act → World → Prop, Shut (∀ a w, SL s A B (listed.setIfInBounds i true) w → (SL s A B (listed.setIfInBounds i true) w → wpAnyL P md ops Q s A B fuel (listed.setIfInBounds i true) a w) → K' a w) → if Region.wanted o (yielded ops a.tmps) = true then Oper.wp P o a w K' Q else K' (a.put o.dst undef) w)
    (hs : AllReadyL P md ops Q s A B fuel listed a w rs) : AllReadyL P md ops Q s A B fuel listed a w (i :: rs) := fun j hj => by
  rcases List.mem_cons.1 hj with rfl | hj
  · exact wpOp_step ho (fun K' hK => h K' (fun a w hS hW => hK a w ⟨hS, hW hS⟩))
  · exact hs j hj
theorem wpAnyL_ready {rs : List Nat} {fuel : Nat} {listed : Array Bool} {a : Act} {w : World} (hr : Region.ready md ops listed = rs) (hne : rs ≠ [])
    (h : AllReadyL P md ops Q s A B fuel listed a w rs) : wpAnyL P md ops Q s A B (fuel + 1) listed a w := ⟨fun h0 => absurd (hr ▸ h0) hne, hr ▸ h⟩
theorem wp_region_L {id : Nat} {a : Act} {w : World} (s : Nat) (A B : World → Prop) (hm : P.follows .mixedOrders = true) (hS : SL s A B (Array.replicate ops.size false) w.drew)
    (h : SL s A B (Array.replicate ops.size false) w.drew → wpAnyL P .any ops Q s A B ops.size (Array.replicate ops.size false) a w.drew) : (Code.region id ops true).wp P Q a w :=
  wp_region_any hm (wpAny_of_L _ _ _ _ (h hS))
end
end Go.Proofs.Ytniflkggcceagaa

namespace Go.Proofs.Ytniflkggcceagaa
open Go Go.RowKit
theorem parse_bound {s : List UInt8} {x : Wl.Sg} (h : Wl.parse sumF s = some x) (hT : Txt s) : x.first + x.recs.length ≤ 281474976710656 ∧ x.used ≤ s.length ∧ x.recs.length ≤ s.length := by
  unfold Wl.parse at h
  cases hd : Wl.dec sumF s with
  | none => rw [hd] at h; cases h
  | some z =>
    obtain ⟨n, t, u⟩ := z
    rw [hd] at h
    have h1 := (hT n t u hd).1
    have h3 := Wl.dec_used sumF hd
    cases t with
    | nil => cases h
    | cons k r =>
      cases r with
      | nil => cases h
      | cons g t =>
        dsimp only at h
        by_cases hc : k.toNat ≤ 1 ∧ 1 ≤ g.toNat ∧ 1 ≤ n ∧ n ≤ 281474976710656 ∧ (k.toNat = 0 → t = [])
        · rw [if_pos hc] at h
          cases h
          have h2 := scan_lens (s.length + 1) n (s.drop u)
          rw [List.length_drop] at h2
          dsimp only
          omega
        · rw [if_neg hc] at h; cases h
def sgZ : Wl.Sg := ⟨0, 0, 0, [], [], 0, false⟩
def gsOf (P : List (Nat × Wl.Sg)) (rw : List Nat) : List (Nat × Wl.Sg) := rw.map (fun i => P.getD i (0, sgZ))
theorem gsOf_take (P : List (Nat × Wl.Sg)) (rw : List Nat) (q : Nat) (h : q < rw.length) : gsOf P (rw.take (q + 1)) = gsOf P (rw.take q) ++ [P.getD (rw.getD q 0) (0, sgZ)] := by
  unfold gsOf
  rw [take_snoc rw 0 q h, List.map_append]; rfl
theorem gsOf_new {P : List (Nat × Wl.Sg)} {rw : List Nat} (hP : (P.map (·.1)).Nodup) (hnd : rw.Nodup) (hlt : ∀ i ∈ rw, i < P.length) (q : Nat) (h : q < rw.length) : (P.getD (rw.getD q 0) (0, sgZ)).1 ∉ (gsOf P (rw.take q)).map (·.1) := by
  intro hm
  obtain ⟨y, hy, he⟩ := List.mem_map.1 hm
  unfold gsOf at hy
  obtain ⟨j, hj, rfl⟩ := List.mem_map.1 hy
  obtain ⟨p, hp, hpj⟩ := List.mem_iff_getElem.1 hj
  rw [List.length_take] at hp
  rw [List.getElem_take] at hpj
  have hq : rw.getD q 0 = rw[q] := by rw [List.getD_eq_getElem?_getD, List.getElem?_eq_getElem h]; rfl
  have hpr : p < rw.length := by omega
  have hjl := hlt j (by rw [← hpj]; exact List.getElem_mem hpr)
  have hql := hlt rw[q] (List.getElem_mem h)
  rw [hq] at he
  rw [List.getD_eq_getElem?_getD, List.getElem?_eq_getElem hjl, List.getD_eq_getElem?_getD, List.getElem?_eq_getElem hql] at he
  have he2 : (P.map (·.1))[j]'(by simpa using hjl) = (P.map (·.1))[rw[q]]'(by simpa using hql) := by simpa using he
  have h1 := (List.getElem_inj hP).1 he2
  have h3 : rw[p] = rw[q] := by rw [hpj]; exact h1
  have h2 := (List.getElem_inj hnd).1 h3
  omega
theorem zeroInt (w : World) : (zeroValue 3).run Try.prog w = .ok (.int .i64 0) w := by kernel_rfl
theorem Cz.put7 {n : Nat} {T : TypeId} {w : World} {a0 a1 a2 a3 a4 a5 a6 : Value} (h : Cz w n T #[a0, a1, a2, a3, a4, a5, a6]) (b0 b1 b2 b3 b4 b5 b6 : Value) :
    Cz (((((((w.setCell ⟨n, 0, none⟩ b0).setCell ⟨n, 1, none⟩ b1).setCell ⟨n, 2, none⟩ b2).setCell ⟨n, 3, none⟩ b3).setCell ⟨n, 4, none⟩ b4).setCell ⟨n, 5, none⟩ b5).setCell ⟨n, 6, none⟩ b6) n T #[b0, b1, b2, b3, b4, b5, b6] := by
  have := ((((((h.set 0 b0).set 1 b1).set 2 b2).set 3 b3).set 4 b4).set 5 b5).set 6 b6
  simpa using this
theorem Cz.but {W W' : World} {b : Nat} {T : TypeId} {C : Array Value} {X : Nat → Prop} (h : Cz W b T C) (hb : ButS X W W') (hn : ¬ X b) : Cz W' b T C := (hb.block b h.lt hn).trans h
theorem LpF.start {w0 : World} {d b0 x kb : Nat} {t0 : List UInt8} {f0 : Nat} {W : World} (be : Below w0.heap.size w0 W) (hx : Cz W x 62 (walC d 0 0 0 (.slice none 0 0) (.slice none 0 0))) (hk : Cz W kb 45 (kepC t0 f0 (.slice none 0 0))) (h0 : Cz W b0 26 #[.pointer (some ⟨d, 0, none⟩)]) (lx : w0.heap.size ≤ x) (lk : w0.heap.size ≤ kb) :
    LpF w0 d b0 x kb W.heap.size 0 (lqOf t0 f0 []) (.slice none 0 0) (.slice none 0 0) (.slice none 0 0) (.slice none 0 0) [] (W.alloc (.map #[] 0)) := by
  have hb : Below W.heap.size W (W.alloc (.map #[] 0)) := (Below.refl _ _).alloc (Nat.le_refl _) _
  exact ⟨be.trans (hb.mono be.size), hx.step hb, hk.step hb, ByF.made W, World.ownsRow_nil _ _ _ _, World.ownsRow_nil _ _ _ _, World.ownsRow_nil _ _ _ _, World.ownsRow_nil _ _ _ _, fun b h => (by cases h), h0.step hb, rfl, fun i v c hv hc => (by cases hv), lx, lk, be.size⟩
theorem infoInt0 : (Try.prog.info? 3).map (fun i => (i.zero, i.size, i.bytes)) = some (some (.int .i64 0), 1, 8) := by kernel_rfl
theorem wp_appI {o : Oper} {a : Act} {w : World} {K : Act → World → Prop} {Q : Exit → Act → World → Prop} (s x : Operand) (ho : o.op = .call { callee := .builtin .append, args := #[s, x], argTypes := #[60, 60] })
    {B : Nat} {v : Value} {l : List Nat} (hs : a.eval s = v) (hown : w.ownsRow B 3 1 v l.length (natsV l)) {g z : Nat} (hx : a.eval x = .slice (some ⟨g, 0, none⟩) 1 1) (hz : Cz w g 3 #[.int .i64 (z : Int)]) (hl : l.length ≤ 1000000) (hB : B ≤ w.heap.size)
    (h : ∀ v' w', w'.ownsRow B 3 1 v' (l ++ [z]).length (natsV (l ++ [z])) → w.grownBy w' v.ownBlock → (v'.ownBlock = v.ownBlock ∨ v'.ownBlock = some w.heap.size) → K (a.put o.dst v') w') : o.wp Try.prog a w K Q := by
  obtain ⟨j0, hj, hjz, hjs, hjb⟩ := info_parts infoInt0
  obtain ⟨v', w', hr, h2, h3, h4, h5⟩ := run_append_own_at (P := Try.prog) w B 60 o.type 3 j0 (.int .i64 0) 1 8 Try.underlying60 hj hjz hjs hjb rfl (by decide) v l.length (natsV l) hown ⟨g, 0, none⟩ 1 1 [.int .i64 (z : Int)] rfl (World.news_of_block hz) (by intro u hu; simp only [List.mem_cons, List.mem_nil_iff, or_false] at hu; rcases hu with rfl; rfl) (by unfold maxLen; omega) (by omega) hB
  unfold Oper.wp execOp
  simp only [ho, resolve, invoke, builtin, Sem.run_bind, Sem.run_pure, Result.andThen_ok, List.map_toArray, List.map_cons, List.map_nil, hs, hx, hr]
  exact h v' w' (by rw [List.length_append]; unfold natsV at h2 ⊢; rw [List.map_append]; exact h2) h3 h5
theorem ByF.knd {N bm : Nat} {w : World} {G : Nat → Option Value} (h : ByF N bm w G) : knd w bm = none := by
  obtain ⟨es, c, ho⟩ := h.obj
  unfold Go.Proofs.Ytniflkggcceagaa.knd; rw [ho]
end Go.Proofs.Ytniflkggcceagaa

namespace Go.Proofs.Ytniflkggcceagaa
open Go Go.RowKit
def restC (F : List Nat) (g : Nat → List UInt8) : Nat → List (Nat × Nat)
  | 0 => []
  | k + 1 => restC F g k ++ (if k ∈ F ∨ g k = [] then [] else [(k, 0)])
def cutAll (g : Nat → List UInt8) : List (Nat × Nat) → (Nat → List UInt8)
  | [] => g
  | y :: r => cutAll (upd g y.1 ((g y.1).take y.2)) r
def cutD (l : List (Nat × Nat)) : List Dc := l.map (fun y => .cut (y.1 : Int) y.2)
theorem steps_cons {c : Dc} {r : List Dc} {D D' : Dk} (h : D.do c = (0, D')) : Dk.steps (c :: r) D = Dk.steps r D' := by
  show (if (D.do c).1 = 0 then Dk.steps r (D.do c).2 else D.do c) = _
  rw [h]; rfl
theorem cuts_steps : ∀ (l : List (Nat × Nat)) (D : Dk), D.fuse < 0 → (∀ y ∈ l, y.1 < D.n) → Dk.steps (cutD l ++ [.sync]) D = (0, { D with now := cutAll D.now l, sure := cutAll D.now l, loose := [] })
  | [], D, h, _ => by
    show Dk.steps [.sync] D = _
    rw [steps_cons (c := .sync) (sync_neg h)]; rfl
  | y :: r, D, h, hl => by
    have h1 := cut_neg h (f := y.1) (n := y.2) (hl y (by simp))
    show Dk.steps (.cut (y.1 : Int) y.2 :: (cutD r ++ [.sync])) D = _
    rw [steps_cons (c := .cut (y.1 : Int) y.2) h1]
    have h2 := cuts_steps r (D.cutF (y.1 : Int) y.2).2 (by rw [h1]; exact h) (fun z hz => by rw [h1]; exact hl z (List.mem_cons_of_mem _ hz))
    rw [h1] at h2
    exact h2
theorem cuts_fits : ∀ (l : List (Nat × Nat)) (D : Dk), D.fuse < 0 → (∀ y ∈ l, y.1 < D.n ∧ y.2 ≤ (D.now y.1).length) → (l.map (·.1)).Nodup → fitsS (cutD l ++ [.sync]) D
  | [], D, h, _, _ => ⟨trivial, fun _ => trivial⟩
  | y :: r, D, h, hl, hn => by
    have hy := hl y (by simp)
    have h1 := cut_neg h (f := y.1) (n := y.2) hy.1
    rw [List.map_cons, List.nodup_cons] at hn
    refine ⟨by show y.2 ≤ (D.now ((y.1 : Nat) : Int).toNat).length; simpa using hy.2, fun _ => ?_⟩
    show fitsS (cutD r ++ [.sync]) (D.cutF (y.1 : Int) y.2).2
    rw [h1]
    refine cuts_fits r _ h (fun z hz => ?_) hn.2
    have hz2 := hl z (List.mem_cons_of_mem _ hz)
    refine ⟨hz2.1, ?_⟩
    have hne : z.1 ≠ y.1 := fun e => hn.1 (e ▸ List.mem_map.2 ⟨z, hz, rfl⟩)
    show z.2 ≤ (upd D.now y.1 _ z.1).length
    unfold upd
    rw [if_neg hne]; exact hz2.2
theorem cutAll_not : ∀ (l : List (Nat × Nat)) (g : Nat → List UInt8) (i : Nat), i ∉ l.map (·.1) → cutAll g l i = g i
  | [], _, _, _ => rfl
  | y :: r, g, i, h => by
    rw [List.map_cons, List.mem_cons, not_or] at h
    show cutAll _ r i = _
    rw [cutAll_not r _ i h.2]
    unfold upd
    rw [if_neg h.1]
theorem cutAll_at : ∀ (l : List (Nat × Nat)) (g : Nat → List UInt8) (y : Nat × Nat), (l.map (·.1)).Nodup → y ∈ l → cutAll g l y.1 = (g y.1).take y.2
  | [], _, _, _, h => by cases h
  | z :: r, g, y, hn, h => by
    rw [List.map_cons, List.nodup_cons] at hn
    show cutAll _ r y.1 = _
    rcases List.mem_cons.1 h with e | h
    · subst e
      rw [cutAll_not r _ _ hn.1]
      unfold upd
      rw [if_pos rfl]
    · rw [cutAll_at r _ y hn.2 h]
      have hne : y.1 ≠ z.1 := fun e => hn.1 (e ▸ List.mem_map.2 ⟨y, h, rfl⟩)
      unfold upd
      rw [if_neg hne]
theorem restC_mem (F : List Nat) (g : Nat → List UInt8) : ∀ (k : Nat) (y : Nat × Nat), y ∈ restC F g k ↔ (y.1 < k ∧ y.1 ∉ F ∧ g y.1 ≠ [] ∧ y.2 = 0)
  | 0, y => by simp [restC]
  | k + 1, y => by
    show y ∈ restC F g k ++ _ ↔ _
    rw [List.mem_append, restC_mem F g k y]
    obtain ⟨a, b⟩ := y
    by_cases h : k ∈ F ∨ g k = []
    · rw [if_pos h]
      constructor
      · rintro (⟨h1, h2⟩ | h1)
        · exact ⟨by dsimp only at h1 ⊢; omega, h2⟩
        · cases h1
      · rintro ⟨h1, h2, h3, h4⟩
        dsimp only at h1 h2 h3
        have : a ≠ k := by
          rintro rfl
          rcases h with h | h
          · exact h2 h
          · exact h3 h
        exact Or.inl ⟨by dsimp only; omega, h2, h3, h4⟩
    · rw [if_neg h]
      rw [not_or] at h
      constructor
      · rintro (⟨h1, h2⟩ | h1)
        · exact ⟨by dsimp only at h1 ⊢; omega, h2⟩
        · simp only [List.mem_singleton, Prod.mk.injEq] at h1
          obtain ⟨rfl, rfl⟩ := h1
          exact ⟨by dsimp only; omega, h.1, h.2, rfl⟩
      · rintro ⟨h1, h2, h3, h4⟩
        dsimp only at h1 h4
        by_cases e : a = k
        · subst e; subst h4; exact Or.inr (by simp)
        · exact Or.inl ⟨by dsimp only; omega, h2, h3, h4⟩
theorem restC_nodup (F : List Nat) (g : Nat → List UInt8) : ∀ k, ((restC F g k).map (·.1)).Nodup
  | 0 => List.nodup_nil
  | k + 1 => by
    show ((restC F g k ++ _).map _).Nodup
    by_cases h : k ∈ F ∨ g k = []
    · rw [if_pos h, List.append_nil]; exact restC_nodup F g k
    · rw [if_neg h, List.map_append]
      refine List.nodup_append.2 ⟨restC_nodup F g k, by simp, fun a ha b hb => ?_⟩
      simp only [List.map_cons, List.map_nil, List.mem_singleton] at hb
      obtain ⟨y, hy, rfl⟩ := List.mem_map.1 ha
      have := ((restC_mem F g k y).1 hy).1
      omega
theorem restC_len (F : List Nat) (g : Nat → List UInt8) : ∀ k, (restC F g k).length ≤ k
  | 0 => Nat.le_refl _
  | k + 1 => by
    show (restC F g k ++ _).length ≤ _
    have := restC_len F g k
    rw [List.length_append]
    by_cases h : k ∈ F ∨ g k = []
    · rw [if_pos h]; simp; omega
    · rw [if_neg h]; simp; omega
def tornC (G : List (Nat × Wl.Sg)) : List (Nat × Nat) := (G.filter (fun y => !y.2.whole)).map (fun y => (y.1, y.2.used))
def cutsL (G : List (Nat × Wl.Sg)) (g : Nat → List UInt8) : List (Nat × Nat) := tornC G ++ restC (G.map (·.1)) g 3
theorem tornC_cs (t : List UInt8) (f : Nat) (G : List (Nat × Wl.Sg)) : (lqOf t f G).cs = cutD (tornC G) := by
  unfold cutD tornC lqOf
  rw [List.map_map]; rfl
theorem tornC_fst (G : List (Nat × Wl.Sg)) : ∀ z ∈ (tornC G).map (·.1), z ∈ G.map (·.1) := fun z hz => by
  obtain ⟨y, hy, rfl⟩ := List.mem_map.1 hz
  unfold tornC at hy
  obtain ⟨x, hx, rfl⟩ := List.mem_map.1 hy
  exact List.mem_map.2 ⟨x, (List.mem_filter.1 hx).1, rfl⟩
theorem tornC_nodup {G : List (Nat × Wl.Sg)} (h : (G.map (·.1)).Nodup) : ((tornC G).map (·.1)).Nodup := by
  unfold tornC
  rw [List.map_map]
  exact h.sublist (show List.Sublist _ (G.map (·.1)) from List.Sublist.map _ List.filter_sublist)
theorem cutsL_nodup {G : List (Nat × Wl.Sg)} (h : (G.map (·.1)).Nodup) (g : Nat → List UInt8) : ((cutsL G g).map (·.1)).Nodup := by
  unfold cutsL
  rw [List.map_append]
  refine List.nodup_append.2 ⟨tornC_nodup h, restC_nodup _ _ _, fun a ha b hb e => ?_⟩
  subst e
  obtain ⟨y, hy, rfl⟩ := List.mem_map.1 hb
  exact ((restC_mem _ _ _ y).1 hy).2.1 (tornC_fst G _ ha)
theorem gsOf_nodup {P : List (Nat × Wl.Sg)} {rw : List Nat} (hP : (P.map (·.1)).Nodup) (hnd : rw.Nodup) (hlt : ∀ i ∈ rw, i < P.length) : ((gsOf P rw).map (·.1)).Nodup := by
  unfold gsOf
  rw [List.map_map]
  refine List.pairwise_map.2 (List.Pairwise.imp_of_mem (fun {a b} ha hb hab he => hab ?_) hnd)
  have hal := hlt a ha
  have hbl := hlt b hb
  simp only [Function.comp] at he
  rw [List.getD_eq_getElem?_getD, List.getElem?_eq_getElem hal, List.getD_eq_getElem?_getD, List.getElem?_eq_getElem hbl] at he
  have he2 : (P.map (·.1))[a]'(by simpa using hal) = (P.map (·.1))[b]'(by simpa using hbl) := by simpa using he
  exact (List.getElem_inj hP).1 he2
theorem gsOf_mem {P : List (Nat × Wl.Sg)} {rw : List Nat} (hlt : ∀ i ∈ rw, i < P.length) {y : Nat × Wl.Sg} (h : y ∈ gsOf P rw) : y ∈ P := by
  unfold gsOf at h
  obtain ⟨j, hj, rfl⟩ := List.mem_map.1 h
  have hjl := hlt j hj
  rw [List.getD_eq_getElem?_getD, List.getElem?_eq_getElem hjl]
  exact List.getElem_mem hjl
theorem cutsL_ok {g : Nat → List UInt8} {G : List (Nat × Wl.Sg)} (h : ∀ y ∈ G, y.1 < 3 ∧ y.2.used ≤ (g y.1).length) : ∀ y ∈ cutsL G g, y.1 < 3 ∧ y.2 ≤ (g y.1).length := fun y hy => by
  unfold cutsL at hy
  rcases List.mem_append.1 hy with hy | hy
  · unfold tornC at hy
    obtain ⟨x, hx, rfl⟩ := List.mem_map.1 hy
    exact h x (List.mem_filter.1 hx).1
  · have := (restC_mem _ _ _ y).1 hy
    exact ⟨this.1, by rw [this.2.2.2]; exact Nat.zero_le _⟩
def opW (G : List (Nat × Wl.Sg)) (f0 : Nat) : Wa := ⟨(lqOf [] 0 G).g, f0, (lqOf [] 0 G).n, (G.map (·.1)).map (fun k : Nat => (k : Int)), (lqOf [] 0 G).Z, 0, 0⟩
def opD (G : List (Nat × Wl.Sg)) (D : Dk) : Dk := { D with now := cutAll D.now (cutsL G D.now), sure := cutAll D.now (cutsL G D.now), loose := [] }
theorem opD_steps {G : List (Nat × Wl.Sg)} {D : Dk} (hf : D.fuse < 0) (hn : 3 ≤ D.n) (hG : ∀ y ∈ G, y.1 < 3 ∧ y.2.used ≤ (D.now y.1).length) (hnd : (G.map (·.1)).Nodup) :
    Dk.steps (cutD (cutsL G D.now) ++ [.sync]) D = (0, opD G D) ∧ fitsS (cutD (cutsL G D.now) ++ [.sync]) D :=
  have h := cutsL_ok hG
  ⟨cuts_steps _ _ hf (fun y hy => by have := (h y hy).1; omega), cuts_fits _ _ hf (fun y hy => ⟨by have := (h y hy).1; omega, (h y hy).2⟩) (cutsL_nodup hnd _)⟩
theorem natsI (F : List Nat) : natsV F = intsV (F.map (fun k : Nat => (k : Int))) := by unfold natsV intsV; rw [List.map_map]; rfl
structure LpE (B d x kb : Nat) (L : Lq) (fv sv rv : Value) (W : World) : Prop where
  hx : Cz W x 62 (walC d L.g L.f L.n fv sv)
  hk : Cz W kb 45 (kepC L.text L.first rv)
  fr : W.ownsRow B 3 1 fv L.F.length (natsV L.F)
  zr : W.ownsRow B 3 1 sv L.Z.length (natsV L.Z)
  rr : W.ownsRow B 9 1 rv L.R.length (strsV L.R)
  ne : ∀ b, fv.ownBlock = some b → sv.ownBlock ≠ some b
  lx : B ≤ x
  lk : B ≤ kb
section
variable {w0 : World} {B d b0 x kb m q : Nat} {L : Lq} {fv sv rv cv : Value} {cvs : List Value} {W W' : World}
theorem LpE.but {S : Nat → Prop} (h : LpE B d x kb L fv sv rv W) (hb : ButS S W W') (hS : ∀ k, S k → k < B) : LpE B d x kb L fv sv rv W' :=
  have n : ∀ {e n k : Nat} {v : Value} {xs : List Value}, W.ownsRow B e k v n xs → ∀ g, v.ownBlock = some g → ¬ S g := fun h g hg hs => by have := ownAbove h g hg; have := hS g hs; omega
  ⟨h.hx.but hb (fun hs => by have := hS x hs; have := h.lx; omega), h.hk.but hb (fun hs => by have := hS kb hs; have := h.lk; omega), own_but h.fr hb (n h.fr), own_but h.zr hb (n h.zr), own_but h.rr hb (n h.rr), h.ne, h.lx, h.lk⟩
theorem LpE.step (h : LpE B d x kb L fv sv rv W) (hb : Below W.heap.size W W') : LpE B d x kb L fv sv rv W' := h.but (S := fun _ => False) (ButS.of hb) (fun _ h => h.elim)
theorem LpF.grow (h : LpF w0 d b0 x kb m q L fv sv rv cv cvs W) (hg : W.grownBy W' cv.ownBlock) :
    LpE w0.heap.size d x kb L fv sv rv W' ∧ Below w0.heap.size W W' ∧ Cz W' b0 26 #[.pointer (some ⟨d, 0, none⟩)] ∧ ∀ (i : Nat) (v : Value) (c : Dc), cvs[i]? = some v → L.cs[i]? = some c → ClB w0.heap.size W' fv sv b0 v c := by
  have hb : ButS (fun k => cv.ownBlock = some k) W W' := ButS.row hg (fun j e => e)
  have n : ∀ k, cv.ownBlock = some k → knd W k = some 41 := fun k e => (own_k h.cr k e).2
  have bl : Below w0.heap.size W W' := hb.below (fun k e => by have := ownAbove h.cr k e; omega) h.be.size
  exact ⟨⟨h.hx.kn hb n (by decide), h.hk.kn hb n (by decide), own_kn h.fr hb n (by decide), own_kn h.zr hb n (by decide), own_kn h.rr hb n (by decide), h.ne, h.lx, h.lk⟩, bl, h.h0.kn hb n (by decide), fun i v c hv hc => (h.bx i v c hv hc).kn hb n (by decide) (by decide)⟩
def opT (x : Nat) (fv sv : Value) : Nat → Prop := fun k => k = x ∨ fv.ownBlock = some k ∨ sv.ownBlock = some k
theorem LpE.wal (h : LpE B d x kb L fv sv rv W) : WalAt W (opT x fv sv) x d ⟨L.g, L.f, L.n, L.F.map (fun k : Nat => (k : Int)), L.Z, 0, 0⟩ := by
  have kx := h.hx.k
  have nf : ∀ b, fv.ownBlock = some b → b ≠ x := fun b hb e => by have := (own_k h.fr b hb).2; rw [e, kx] at this; exact absurd this (by decide)
  have ns : ∀ b, sv.ownBlock = some b → b ≠ x := fun b hb e => by have := (own_k h.zr b hb).2; rw [e, kx] at this; exact absurd this (by decide)
  refine ⟨fun k hk => ?_, Or.inl rfl, h.hx.c 0, h.hx.c 1, h.hx.c 2, h.hx.c 3, h.hx.c 4, h.hx.c 5, h.hx.c 6, h.hx.c 9, h.hx.c 10, h.hx.f, fv, sv, h.hx.c 7, h.hx.c 8, ?_, ownsRow_lower h.zr (Nat.zero_le _), fun b hb => ⟨Or.inr (Or.inl hb), nf b hb, h.ne b hb⟩, fun b hb => ⟨Or.inr (Or.inr hb), ns b hb⟩⟩
  · rcases hk with rfl | hk | hk
    · exact h.hx.lt
    · exact (own_k h.fr k hk).1
    · exact (own_k h.zr k hk).1
  · show W.ownsRow 0 _ 1 fv (L.F.map _).length (intsV (L.F.map _))
    rw [List.length_map, ← natsI]
    exact ownsRow_lower h.fr (Nat.zero_le _)
theorem LpE.tB (h : LpE B d x kb L fv sv rv W) : ∀ k, opT x fv sv k → B ≤ k := fun k hk => by
  rcases hk with rfl | hk | hk
  · exact h.lx
  · exact ownAbove h.fr k hk
  · exact ownAbove h.zr k hk
theorem LpE.rvN (h : LpE B d x kb L fv sv rv W) : ∀ b, rv.ownBlock = some b → ¬ opT x fv sv b := fun b hb hk => by
  have e := (own_k h.rr b hb).2
  rcases hk with rfl | hk | hk
  · rw [h.hx.k] at e; exact absurd e (by decide)
  · rw [(own_k h.fr b hk).2] at e; exact absurd e (by decide)
  · rw [(own_k h.zr b hk).2] at e; exact absurd e (by decide)
theorem ClB.doer {S : Nat → Prop} {v : Value} {c : Dc} (h : ClB B W fv sv b0 v c) (h0 : Cz W b0 26 #[.pointer (some ⟨d, 0, none⟩)]) (hS : ∀ k, S k → k < B) (hS0 : ¬ S b0) : Doer S W d v c := by
  rcases h with ⟨b1, b2, n, C, fl, rfl, rfl, q3, q4, q5, q6, q7, q8, q9⟩ | ⟨b1, fl, rfl, rfl, q3, q4, q5, q6⟩
  · exact doer_open1 hS0 (fun hs => by have := hS _ hs; omega) (fun hs => by have := hS _ hs; omega) (h0.c 0) (q3.c 0) ((q4.c 5).trans q5)
  · exact doer_open2 hS0 (fun hs => by have := hS _ hs; omega) (h0.c 0) (q3.c 0)
end
end Go.Proofs.Ytniflkggcceagaa
