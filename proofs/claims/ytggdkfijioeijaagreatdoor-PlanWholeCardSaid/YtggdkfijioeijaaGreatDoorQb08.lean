/- Contract: ring.New where a ring may be. Plain: whose a place is, by spots (points and shards); what a spot more turns; spans. -/
import Derived.Test.YtggdkfijioeijaaGreatDoorQb04
import Derived.Test.YtggdkfijioeijaaGreatDoorQb07
namespace Go.Proofs.YtggdkfijioeijaaGreatDoor
open Go Go.RowKit Go.Maps Go.Sort Go.Shelf
attribute [local go_sem] Oper.semAt_some
def puts1 (s : Nat) (k : Nat) : List (Nat × Nat) := (List.range k).map (fun i => (Sh.point s i, s))
def puts (l : List Nat) (k : Nat) : List (Nat × Nat) := l.flatMap (fun s => puts1 s k)
theorem puts_snoc (l : List Nat) (s k : Nat) : puts (l ++ [s]) k = puts l k ++ puts1 s k := by simp [puts]
theorem puts1_succ (s k : Nat) : puts1 s (k + 1) = puts1 s k ++ [(Sh.point s k, s)] := by simp [puts1, List.range_succ]
theorem puts_length (l : List Nat) (k : Nat) : (puts l k).length = l.length * k := by
 induction l with
 | nil => simp [puts]
 | cons s l ih =>
  have : puts (s :: l) k = puts1 s k ++ puts l k := by simp [puts]
  rw [this, List.length_append, ih]; simp [puts1, Nat.succ_mul, Nat.add_comm]
structure KX (m n : Nat) (W W' : World) : Prop where
 os : W'.os = W.os
 tape : W'.tape = W.tape
 output : W'.output = W.output
 size : W.heap.size ≤ W'.heap.size
 same : ∀ j, j < n → j ≠ m → W'.heap[j]? = W.heap[j]?
theorem KX.refl (m n : Nat) (W : World) : KX m n W W := ⟨rfl, rfl, rfl, Nat.le_refl _, fun _ _ _ => rfl⟩
theorem KX.trans {m n : Nat} {A B C : World} (h : KX m n A B) (k : KX m n B C) : KX m n A C := ⟨k.os.trans h.os, k.tape.trans h.tape, k.output.trans h.output, Nat.le_trans h.size k.size, fun j h1 h2 => (k.same j h1 h2).trans (h.same j h1 h2)⟩
theorem KX.of {m n : Nat} {A B : World} (h : Below n A B) : KX m n A B := ⟨h.os, h.tape, h.output, h.size, fun j h1 _ => h.block j h1⟩
theorem KX.below {m n n' : Nat} {A B : World} (h : KX m n A B) (h1 : n' ≤ n) (h2 : n' ≤ m) : Below n' A B := ⟨h.os, h.tape, h.output, h.size, fun j hj => h.same j (by omega) (by omega)⟩
theorem KX.grown {m n : Nat} {A B : World} (h : A.grownBy B (some m)) (hn : n ≤ A.heap.size) : KX m n A B := ⟨h.os, h.tape, h.output, h.size, fun j h1 h2 => h.block j (by omega) (by simpa using h2)⟩
structure RingAt (W : World) (r : Nat) (pts : List Int) (by_ : List (Nat × Nat)) (sh : List Int) : Prop where
 ex : ∃ (m nn bp cp bs cs : Nat) (D : DataW (TypeId × Value)), W.heap[r]? = some (.cells #[.map (some m), .slice (some ⟨bp, 0, none⟩) pts.length cp, .slice (some ⟨bs, 0, none⟩) sh.length cs] 132 (0, 0)) ∧
  IsInts .u64 W (.slice (some ⟨bp, 0, none⟩) pts.length cp) pts ∧ IsInts .u32 W (.slice (some ⟨bs, 0, none⟩) sh.length cs) sh ∧ W.ownsMap Tryz.prog 25 (plainElem Tryz.prog 28) m nn D ∧ ByM D by_
 sorted : pts.Pairwise (· ≤ ·)
 nodup : pts.Nodup
 mem : ∀ x, x ∈ pts ↔ ∃ p : Nat, x = (p : Int) ∧ (lastOf by_ p).isSome = true
 pos : pts ≠ []
theorem keepsFrom_below {A B : World} {n lo : Nat} (h : Below n A B) (hn : A.heap.size ≤ n) : KeepsFrom lo A B := ⟨h.size, fun k o _ hk _ => (h.block k (by have := (Array.getElem?_eq_some_iff.1 hk).1; omega)).trans hk⟩
theorem keepsFrom_grown {A B : World} {m lo : Nat} (h : A.grownBy B (some m)) (hm : m < lo) : KeepsFrom lo A B := ⟨h.size, fun k o hl hk _ => (h.block k (Array.getElem?_eq_some_iff.1 hk).1 (by simp; omega)).trans hk⟩
theorem ownsMap_below {H : Type} {P : Program} {kt : TypeId} {R : Value → Option (DataW H × List MemPlace)} {A B : World} {b n : Nat} {D : DataW H} (h : A.ownsMap P kt R b n D) (hb : Below A.heap.size A B) : B.ownsMap P kt R b n D := by
 have hbl := h.lt
 obtain ⟨es, clock, hbk, Ft, hs, hD⟩ := h
 exact ⟨es, clock, (hb.block _ hbl).trans hbk, Ft, hs, hD⟩
theorem u64wf {q : Nat} (h : q < 18446744073709551616) : (Lit.int .u64 (q : Int)).wf = true := by
 simp [Lit.wf, IntKind.min, IntKind.max, IntKind.signed, IntKind.bits]; omega
theorem u32wf {q : Nat} (h : q < 4294967296) : (Lit.int .u32 (q : Int)).wf = true := by
 simp [Lit.wf, IntKind.min, IntKind.max, IntKind.signed, IntKind.bits]; omega
set_option maxHeartbeats 1000000 in
theorem points_sorted (_W W1 : World) (b Bm nn : Nat) (D : DataW (TypeId × Value)) (hown : W1.ownsMap Tryz.prog 25 (plainElem Tryz.prog 28) b nn D) (hn : nn ≤ 1000000) (hne : ∃ x, has D (kN x) = true) (hBm : Bm < W1.heap.size) (hc : W1.cell? ⟨Bm, 0, none⟩ = some (.map (some b))) :
  Calls Tryz.prog 61 #[.func (.func 89) #[] #[.pointer (some ⟨Bm, 0, none⟩)]] W1 fun e W' => ∃ (bp cp : Nat) (ys : List Int), e = .returned (.slice (some ⟨bp, 0, none⟩) ys.length cp) ∧ ys.Nodup ∧ (∀ x, x ∈ ys ↔ has D (kN x) = true) ∧ ys.Pairwise (· ≤ ·) ∧ W1.heap.size ≤ bp ∧ IsInts .u64 W' (.slice (some ⟨bp, 0, none⟩) ys.length cp) ys ∧ Below W1.heap.size W1 W' := by
 have hk := keys_stops 9 (by decide) Bm b nn D W1 hBm hc hown
 refine (uint64_sorted (enters_of Tryz.func89 (by kernel_rfl) rfl) hk walksK_t (fun W l o o' hl h h1 h2 => walksK_b (w := W1) W l o o' hl h h1 h2) (fun _ _ h _ => h.walks) (by have := hown.size_le; omega) (fun xs hx => ?_)).mono ?_
 ·obtain ⟨x, hx'⟩ := hne
  have := hown.size_le
  exact ⟨fun e => (by have := (hx.2.1 x).2 hx'; rw [e] at this; cases this), by have := hx.2.2; omega⟩
 ·rintro e W' ⟨bp, cp, xs, ys, rfl, ⟨h1, h2, h3⟩, hp, hs, hb, hi, hbel⟩
  exact ⟨bp, cp, ys, rfl, hp.nodup_iff.2 h1, fun x => (hp.mem_iff).trans (h2 x), hs, hb, hi, hbel⟩
def vN (m s j q : Nat) (i : Nat) : Value := match i with | 0 => .pointer (some ⟨m + 1, 0, none⟩) | 1 => .pointer (some ⟨m + 1, 0, none⟩) | 2 => .pointer (some ⟨m + 1, 0, none⟩) | 3 => .map (some m) | 4 => .int .u32 (s : Int) | 5 => .int .i64 (j : Int) | 6 => .int .u64 (q : Int) | _ => .int .u32 (s : Int)
structure InvN (m s j q : Nat) (Wr : World) (Post : World → Prop) (base : Array Value) (l : Nat → Bool) (t : Array Value) (W' : World) : Prop where
 size : base.size = 76
 e7 : base.getD 7 undef = .pointer (some ⟨m + 1 + 1, 0, none⟩)
 e9 : base.getD 9 undef = .int .u32 (s : Int)
 e10 : base.getD 10 undef = .int .i64 (j : Int)
 ex : ∃ f, t = Fs base 57 65 f ∧ ∀ i, i < 8 → l i = true → f (57 + i) = vN m s j q i
 w : if l 8 = true then Post W' else Below Wr.heap.size Wr W'
theorem InvN.put {m s j q : Nat} {Wr : World} {Post : World → Prop} {base : Array Value} {l : Nat → Bool} {f : Nat → Value} {W' : World} (hsz : base.size = 76) (e7 : base.getD 7 undef = .pointer (some ⟨m + 1 + 1, 0, none⟩))
  (e9 : base.getD 9 undef = .int .u32 (s : Int)) (e10 : base.getD 10 undef = .int .i64 (j : Int)) (hv : ∀ i, i < 8 → l i = true → f (57 + i) = vN m s j q i) (i : Nat) (hi : i < 8) (hw : if l 8 = true then Post W' else Below Wr.heap.size Wr W') :
  InvN m s j q Wr Post base (fun x => if x = i then true else l x) ((Fs base 57 65 f).setIfInBounds (57 + i) (vN m s j q i)) W' := by
 refine ⟨hsz, e7, e9, e10, ⟨_, Fs_set (by omega) (by omega), fun i' hi' hl => ?_⟩, ?_⟩
 ·by_cases e : i' = i
  ·subst e; simp
  ·simp only [if_neg e] at hl
   simp only [if_neg (show ¬ 57 + i' = 57 + i by omega)]
   exact hv i' hi' hl
 ·simpa [show ¬ 8 = i by omega] using hw
theorem IsInts.same {K : IntKind} {A B : World} {b n c : Nat} {ys : List Int} (h : IsInts K A (.slice (some ⟨b, 0, none⟩) n c) ys) (hs : B.heap[b]? = A.heap[b]?) (hz : A.heap.size ≤ B.heap.size) : IsInts K B (.slice (some ⟨b, 0, none⟩) n c) ys := by
 rcases h with ⟨h, _⟩ | ⟨b', o', c', h, h1, h2⟩
 ·cases h
 ·simp only [Value.slice.injEq, Option.some.injEq, Addr.mk.injEq, and_true] at h
  obtain ⟨⟨rfl, rfl⟩, rfl, rfl⟩ := h
  exact Or.inr ⟨_, _, _, rfl, by omega, fun j hj => (World.cell?_of_block (w := A) (a := ⟨b, 0 + j, none⟩) hs).trans (h2 j hj)⟩
theorem IsInts.lt {K : IntKind} {A : World} {b n c : Nat} {ys : List Int} (h : IsInts K A (.slice (some ⟨b, 0, none⟩) n c) ys) : b < A.heap.size := by
 rcases h with ⟨h, _⟩ | ⟨b', o', c', h, h1, h2⟩
 ·cases h
 ·cases h; exact h1
theorem ownsMap_same {H : Type} {P : Program} {kt : TypeId} {R : Value → Option (DataW H × List MemPlace)} {A B : World} {b n : Nat} {D : DataW H} (h : A.ownsMap P kt R b n D) (hb : B.heap[b]? = A.heap[b]?) : B.ownsMap P kt R b n D := by
 obtain ⟨es, clock, hbk, Ft, hs, hD⟩ := h
 exact ⟨es, clock, hb.trans hbk, Ft, hs, hD⟩
theorem ring_done {w w6 W wk ws : World} {m D b1 N cap1 bp cp nn k : Nat} {pts ys : List Int} {srt : List Nat} {D' : DataW (TypeId × Value)} (hmw : w.heap.size < m) (hb1 : b1 < m) (h6 : w6.heap.size = m + 4) (hB6 : Below w.heap.size w w6) (hI6 : IsInts .u32 w6 (.slice (some ⟨b1, 0, none⟩) N cap1) ys)
  (hys : ys = srt.map Int.ofNat) (hN : ys.length = N) (_hN1 : 1 ≤ N) (_hk1 : 1 ≤ k) (hD : w6.heap.size ≤ D) (hDl : D < W.heap.size) (hdef : W.heap[D]? = some (.deferred (some []))) (hby : ByM D' (puts srt.reverse k)) (how : W.ownsMap Tryz.prog 25 (plainElem Tryz.prog 28) m nn D') (hK : KX m (m + 4) w6 W)
  (hrr : W.heap[m + 1]? = some (.cells #[.map (some m), .slice none 0 0, .slice (some ⟨b1, 0, none⟩) N cap1] 132 (0, 0))) (hbk : Below W.heap.size W wk) (r1 : pts.Nodup) (r2 : ∀ x : Int, x ∈ pts ↔ has D' (kN x) = true) (r3 : pts.Pairwise (· ≤ ·)) (r4 : wk.heap.size ≤ bp)
  (r5 : IsInts .u64 ws (.slice (some ⟨bp, 0, none⟩) pts.length cp) pts) (hbs : Below wk.heap.size wk ws) (hex : ∃ x, has D' (kN x) = true) :
  (ws.setCell ⟨m + 1, 1, none⟩ (.slice (some ⟨bp, 0, none⟩) pts.length cp)).heap[D]? = some (.deferred (some [])) ∧
  RingAt ((ws.setCell ⟨m + 1, 1, none⟩ (.slice (some ⟨bp, 0, none⟩) pts.length cp)).putObj D (.deferred none)) (m + 1) pts (puts srt.reverse k) (srt.map Int.ofNat) ∧
  Below w.heap.size w ((ws.setCell ⟨m + 1, 1, none⟩ (.slice (some ⟨bp, 0, none⟩) pts.length cp)).putObj D (.deferred none)) := by
 have hb : Below W.heap.size W ws := hbk.trans (hbs.mono hbk.size)
 have hr : ws.heap[m + 1]? = _ := (hb.block _ (lt_of_block hrr)).trans hrr
 have hset := setCell_eq_setRow ws (m + 1) 1 _ _ _ (.slice (some ⟨bp, 0, none⟩) pts.length cp) hr
 have hKs := hK.size
 rw [hset]
 obtain ⟨W2, hW2⟩ : ∃ W2, ws.setRow (m + 1) ((#[.map (some m), .slice none 0 0, .slice (some ⟨b1, 0, none⟩) N cap1] : Array Value).setIfInBounds 1 (.slice (some ⟨bp, 0, none⟩) pts.length cp)) = W2 := ⟨_, rfl⟩
 have g1 : W2.heap[m + 1]? = some (.cells #[.map (some m), .slice (some ⟨bp, 0, none⟩) pts.length cp, .slice (some ⟨b1, 0, none⟩) N cap1] 132 (0, 0)) := by
  rw [← hW2]; exact setRow_heap _ _ _ _ _ _ hr
 have g2 : ∀ j, j ≠ m + 1 → W2.heap[j]? = ws.heap[j]? := fun j hj => by rw [← hW2]; exact setRow_other _ _ _ _ hj
 have g3 : ws.heap.size ≤ W2.heap.size := by rw [← hW2]; exact Nat.le_of_eq (by simp)
 rw [hW2]
 have hbW := hb.size
 have p0 : ∀ j, j ≠ D → (W2.putObj D (.deferred none)).heap[j]? = W2.heap[j]? := fun j hj => World.putObj_heap_other hj
 have p1 : (W2.putObj D (.deferred none)).heap.size = W2.heap.size := by simp
 have hold : ∀ j, j < m + 4 → j ≠ m + 1 → j ≠ m → (W2.putObj D (.deferred none)).heap[j]? = w6.heap[j]? := fun j h1 h2 h3 => by
  rw [p0 j (by omega), g2 j h2, hb.block j (by omega), hK.same j h1 h3]
 refine ⟨?_, ⟨⟨m, nn, bp, cp, b1, cap1, D', ?_, ?_, ?_, ?_, hby⟩, r3, r1, fun x => ?_, fun e => (by obtain ⟨x, hx⟩ := hex; have := (r2 x).2 hx; rw [e] at this; cases this)⟩, ?_⟩
 ·rw [g2 D (by omega), hb.block D hDl]; exact hdef
 ·rw [p0 _ (by omega), g1, List.length_map, show srt.length = N from by rw [← hN, hys, List.length_map]]
 ·have := hbk.size
  exact r5.same (by rw [p0 _ (by omega), g2 _ (by omega)]) (by rw [p1]; exact g3)
 ·rw [List.length_map, show srt.length = N from by rw [← hN, hys, List.length_map], ← hys]
  exact hI6.same (hold _ (by omega) (by omega) (by omega)) (by rw [p1]; omega)
 ·refine ownsMap_same how ?_
  rw [p0 _ (by omega), g2 _ (by omega), hb.block _ (by omega)]
 ·rw [r2]
  refine ⟨fun h => ?_, ?_⟩
  ·have hx := hby.neg x h
   obtain ⟨p, rfl⟩ := Int.eq_ofNat_of_zero_le hx
   exact ⟨p, rfl, by rw [← hby.has]; exact h⟩
  ·rintro ⟨p, rfl, h⟩
   rw [hby.has]; exact h
 ·have e1 := ((hB6.trans (hK.below (by omega) (by omega))).trans (hb.mono (by have := hB6.size; omega)))
  have e2 : Below w.heap.size w W2 := by rw [← hW2]; exact below_setRow e1 (by omega) _
  have hd2 : W2.heap[D]? = some (.deferred (some [])) := by rw [g2 D (by omega), hb.block D hDl]; exact hdef
  exact e2.trans (belowK_b (w := w) (Nat.le_refl _) W2 D _ _ (by have := hB6.size; omega) hd2 rfl rfl)
set_option maxRecDepth 100000 in
set_option maxHeartbeats 8000000 in
theorem ring_New (sh : List Nat) (k : Nat) (b off cap : Nat) (w : World) (hb : b < w.heap.size) (hc : ∀ i, i < sh.length → w.cell? ⟨b, off + i, none⟩ = some (.int .u32 ((sh.getD i 0 : Nat) : Int)))
    (hk : 1 ≤ k) (hk2 : k ≤ 64) (hl : 1 ≤ sh.length) (hl2 : sh.length ≤ 16) (hnd : sh.Nodup) (h0 : ∀ s ∈ sh, 0 < s ∧ s < 4294967296) :
    Calls Tryz.prog 24 #[.int .i64 (k : Int), .slice (some ⟨b, off, none⟩) sh.length cap] w fun e w' => ∃ (r : Nat) (srt : List Nat) (pts : List Int), e = .returned (.tuple #[.pointer (some ⟨r, 0, none⟩), .int .i64 0]) ∧ srt.Perm sh ∧ srt.Pairwise (· < ·) ∧
      RingAt w' r pts (puts srt.reverse k) (srt.map Int.ofNat) ∧ Below w.heap.size w w' := by
  refine (callsIn_wide (n := 14)).1 ?_
  refine callsIn_of_wp_marks Tryz.func24 rfl trivial ?_ rfl
  simp only [Tryz.ntmps24, List.size_toArray, List.length_cons, List.length_nil, Nat.reduceAdd, Nat.reduceSub, Array.replicate_succ, Array.replicate_zero, List.push_toArray, List.append_toArray, List.nil_append, List.cons_append]
  have hmm := @run_makeMap Tryz.prog
  gi_wp2_with fail
  obtain ⟨zs, hzs⟩ : ∃ zs : List Int, sh.map Int.ofNat = zs := ⟨_, rfl⟩
  have hzl : zs.length = sh.length := by rw [← hzs, List.length_map]
  have hzg : ∀ i, i < sh.length → zs.getD i 0 = ((sh.getD i 0 : Nat) : Int) := fun i hi => by
    rw [← hzs, List.getD_eq_getElem?_getD, List.getElem?_map, List.getD_eq_getElem?_getD, List.getElem?_eq_getElem hi]; rfl
  obtain ⟨W0, hW0⟩ : ∃ W0, w.alloc (.cells #[.int .i64 (k : Int)] 3) = W0 := ⟨_, rfl⟩
  have hB0 : Below w.heap.size w W0 := by rw [← hW0]; exact (Below.refl _ _).alloc (Nat.le_refl _) _
  have hP0 : Boxed W0 w.heap.size 3 (.int .i64 (k : Int)) := by rw [← hW0]; exact Boxed.new w _ _
  have hz0 : Hid (W0.heap.size = w.heap.size + 1) := Lib.hid (by rw [← hW0]; simp)
  rw [hW0]
  clear hW0
  refine ⟨trivial, (callsIn_wide.2 (values_call (some ⟨b, off, none⟩) sh.length cap W0)).mono ?_⟩
  rintro e w1 ⟨rfl, rfl⟩
  have hv := values_stops 9 (by decide) W0.heap.size (W0.heap.size + 1) b off cap zs (by omega) (W0.alloc (.cells #[.slice (some ⟨b, off, none⟩) sh.length cap] 64)) (by simp) (by simp) (by have := hz0.out; omega)
    (by rw [hzl]; exact (Boxed.new W0 _ _).cell) (fun j hj => by
      rw [hzg j (by omega), World.cell?_alloc_past _ _ _ (by have := hz0.out; omega), hB0.cell (p := ⟨b, off + j, none⟩) (by show b < _; omega)]
      exact hc j (by omega))
  have hs := uint32_sorted (enters_of Tryz.func84 (by kernel_rfl) rfl) hv belowK_t (fun W l o o' hl h h1 h2 => belowK_b (w := W0.alloc (.cells #[.slice (some ⟨b, off, none⟩) sh.length cap] 64)) (by simp) W l o o' hl h h1 h2) (fun W W' _ h => h.mono (by simp)) (by omega)
    (fun xs hx => by rw [hx]; exact ⟨fun h => by rw [h] at hzl; simp at hzl; omega, by omega⟩)
  have HS := Lib.hid hs
  clear hs hv
  gi_wp2_with fail
  refine ⟨trivial, (callsIn_wide.2 HS.out).mono ?_⟩
  rintro e w2 ⟨b1, cap1, xs, ys, rfl, rfl, hperm, hsort, hb1, hints, hbel⟩
  clear HS
  have hB2 : Below w.heap.size w w2 := (hB0.trans ((Below.refl w.heap.size W0).alloc (by have := hz0.out; omega) _)).trans (hbel.mono (by simp; have := hz0.out; omega))
  have hP2 : w2.cell? ⟨w.heap.size, 0, none⟩ = some (.int .i64 (k : Int)) := by
    rw [hbel.cell (p := ⟨w.heap.size, 0, none⟩) (by simp; have := hz0.out; omega), World.cell?_alloc_past _ _ _ hP0.lt]; exact hP0.cell
  obtain ⟨N, hN⟩ : ∃ N, ys.length = N := ⟨_, rfl⟩
  have hNs : N = sh.length := by rw [← hN, hperm.length_eq, hzl]
  have hyc : ∀ i, i < N → w2.cell? ⟨b1, i, none⟩ = some (.int .u32 (ys.getD i 0)) := by
    intro i hi
    rcases hints with ⟨h, _⟩ | ⟨b', o', c', h, _, h2⟩
    · cases h
    · simp only [Value.slice.injEq, Option.some.injEq, Addr.mk.injEq, and_true] at h
      obtain ⟨⟨rfl, rfl⟩, _, rfl⟩ := h
      have := h2 i (by omega)
      rwa [Nat.zero_add] at this
  have hb1l : b1 < w2.heap.size := by
    rcases hints with ⟨h, _⟩ | ⟨b', o', c', h, h1, h2⟩
    · cases h
    · cases h; exact h1
  obtain ⟨srt, hsrt⟩ : ∃ srt : List Nat, ys.map Int.toNat = srt := ⟨_, rfl⟩
  have hys : ys = srt.map Int.ofNat := by
    rw [← hsrt, List.map_map]
    conv => lhs; rw [← List.map_id ys]
    refine List.map_congr_left (fun x hx => ?_)
    have := hperm.mem_iff.1 hx
    rw [← hzs] at this
    obtain ⟨y, _, rfl⟩ := List.mem_map.1 this
    rfl
  have hpsrt : srt.Perm sh := by
    have := hperm.map Int.toNat
    rw [hsrt, ← hzs, List.map_map] at this
    rwa [show (Int.toNat ∘ Int.ofNat) = id from by funext x; simp, List.map_id] at this
  have hlt : srt.Pairwise (· < ·) := by
    have h1 : srt.Pairwise (· ≤ ·) := by
      rw [hys, List.pairwise_map] at hsort
      exact hsort.imp (fun h => by simpa using h)
    have h2 : srt.Nodup := hpsrt.nodup_iff.2 hnd
    exact (h1.and h2).imp (fun ⟨a, b⟩ => by omega)
  have hpos : ∀ s ∈ srt, 0 < s ∧ s < 4294967296 := fun s hs => h0 s (hpsrt.mem_iff.1 hs)
  have hsl : srt.length = N := by rw [← hN, hys]; simp
  have hyg : ∀ i, i < N → ys.getD i 0 = ((srt.getD i 0 : Nat) : Int) := fun i hi => by
    rw [hys, List.getD_eq_getElem?_getD, List.getElem?_map, List.getD_eq_getElem?_getD, List.getElem?_eq_getElem (by omega)]; rfl
  have c0 := hyc 0 (by omega)
  obtain ⟨y0, hy0⟩ : ∃ y0 : Nat, srt.getD 0 0 = y0 := ⟨_, rfl⟩
  have hy0p : 0 < y0 := by
    rw [← hy0]
    refine (hpos _ ?_).1
    rw [List.getD_eq_getElem?_getD, List.getElem?_eq_getElem (by omega)]; exact List.getElem_mem _
  rw [hyg 0 (by omega), hy0] at c0
  have hy0b : ((y0 : Int) == 0) = false := by simp; omega
  have hclone := clone32 ys b1 0 cap1 w2 hb1l (fun i hi => by rw [Nat.zero_add]; exact hyc i (by omega)) (by omega)
  have hdist : ∀ i, i + 1 < N → ys.getD (i + 1) 0 ≠ ys.getD i 0 := fun i hi => by
    rw [hyg _ hi, hyg _ (by omega)]
    have := List.pairwise_iff_getElem.1 hlt i (i + 1) (by omega) (by omega) (by omega)
    rw [List.getD_eq_getElem?_getD, List.getD_eq_getElem?_getD, List.getElem?_eq_getElem (by omega), List.getElem?_eq_getElem (by omega)]
    simp only [Option.getD_some]; omega
  rw [hN] at hclone ⊢
  have HCL := Lib.hid hclone; have HYC := Lib.hid hyc; have HDI := Lib.hid hdist; have HN := Lib.hid hN; have HSL := Lib.hid hsl; have HYS := Lib.hid hys; have HLT := Lib.hid hlt; have HPS := Lib.hid hpsrt; have HPOS := Lib.hid hpos; have HB2 := Lib.hid hB2; have HB1L := Lib.hid hb1l
  have HI := Lib.hid hints; have HB1 := Lib.hid hb1; have HYG := Lib.hid hyg
  have hN1 : 1 ≤ N := by omega
  have hN2 : N ≤ 16 := by omega
  have g1 : ((k : Int) < 1) = False := by simp; omega
  have g2 : ((64 : Int) < (k : Int)) = False := by simp; omega
  have g3 : ((N : Int) < 1) = False := by simp; omega
  have g4 : ((16 : Int) < (N : Int)) = False := by simp; omega
  clear hclone hyc hdist hN hsl hys hlt hpsrt hpos hB2 hb1l hints hsort hperm hzs hzl hzg hy0 hsrt hbel hb1 hyg hc h0 hnd hNs hB0 hP0
  gi_wp2_with fail
  refine ⟨trivial, (callsIn_wide.2 HCL.out).mono ?_⟩
  rintro e w3 ⟨v3, rfl, hown3, hb3⟩
  obtain ⟨b3, cap3, rfl, hb3l⟩ : ∃ b3 cap3, v3 = .slice (some ⟨b3, 0, none⟩) N cap3 ∧ b3 < w3.heap.size := by
    rcases hown3.2 with ⟨_, hl⟩ | ⟨g, cap, cur, hv, hB, hg, _⟩
    · omega
    · exact ⟨g, cap, hv, lt_of_block hg⟩
  have hcc : ∀ i, i < N → w3.cell? ⟨b3, 0 + i, none⟩ = some (.int .u32 (ys.getD i 0)) := fun i hi => by
    rw [Nat.zero_add, World.ownsRow.cellAt hown3 i (by omega), List.getElem?_map, List.getD_eq_getElem?_getD, List.getElem?_eq_getElem (by rw [HN.out]; exact hi)]; rfl
  have hcomp := compact_none ys N b3 0 cap3 HN.out w3 hb3l hcc (by omega) HDI.out
  have HCOMP := Lib.hid hcomp
  have HB3 := Lib.hid (HB2.out.trans (hb3.mono HB2.out.size))
  have HI3 := Lib.hid (HI.out.below hb3 (Nat.le_refl _))
  have hP3 := (hb3.cell (p := ⟨w.heap.size, 0, none⟩) (block_lt_of_cell hP2)).trans hP2
  clear hcomp hcc hown3 HCL hb3 hb3l hP2 c0 HDI HYC HI HB2 HB1L
  gi_wp2_with fail
  refine ⟨trivial, (callsIn_wide.2 HCOMP.out).mono ?_⟩
  rintro e w4 ⟨rfl, hb4⟩
  have HB4 := Lib.hid (HB3.out.trans (hb4.mono HB3.out.size))
  have HI4 := Lib.hid (HI3.out.below hb4 (Nat.le_refl _))
  have hP4 := (hb4.cell (p := ⟨w.heap.size, 0, none⟩) (block_lt_of_cell hP3)).trans hP3
  clear HCOMP HB3 HI3 hP3 hb4
  gi_wp2_with fail
  obtain ⟨m, hm⟩ : ∃ m, w4.heap.size = m := ⟨_, rfl⟩
  obtain ⟨W5, hW5⟩ : ∃ W5, (((w4.alloc (.map #[] 0)).alloc (.cells #[.map (some m), .slice none 0 0, .slice (some ⟨b1, 0, none⟩) N cap1] 132)).alloc (.cells #[.pointer (some ⟨m + 1, 0, none⟩)] 78)) = W5 := ⟨_, rfl⟩
  have hs5 : W5.heap.size = m + 3 := by rw [← hW5, ← hm]; simp
  have hb5 : Below w4.heap.size w4 W5 := by rw [← hW5]; exact (((Below.refl _ _).alloc (Nat.le_refl _) _).alloc (by simp) _).alloc (by simp; omega) _
  have ho5 : W5.ownsMap Tryz.prog 25 (plainElem Tryz.prog 28) m 0 (.map [] : DataW (TypeId × Value)) := by
    have h := World.ownsMap_made (H := TypeId × Value) w4 Tryz.prog 25 (plainElem Tryz.prog 28)
    rw [hm] at h
    obtain ⟨es, clock, hbk, Ft, hs, hD⟩ := h
    refine ⟨es, clock, ?_, Ft, hs, hD⟩
    rw [← hW5, Below.heap_alloc _ _ _ (by simp; omega), Below.heap_alloc _ _ _ (by simp; omega)]; exact hbk
  have hr5 : W5.heap[m + 1]? = some (.cells #[.map (some m), .slice none 0 0, .slice (some ⟨b1, 0, none⟩) N cap1] 132 (0, 0)) := by
    rw [← hW5, Below.heap_alloc _ _ _ (by simp; omega)]
    have h := (MapKept.heap_alloc (w4.alloc (.map #[] 0)) (.cells #[.map (some m), .slice none 0 0, .slice (some ⟨b1, 0, none⟩) N cap1] 132)).1
    rw [World.size_alloc, hm] at h; exact h
  have hp5 : Boxed W5 (m + 2) 78 (.pointer (some ⟨m + 1, 0, none⟩)) := by
    have h := Boxed.new ((w4.alloc (.map #[] 0)).alloc (.cells #[.map (some m), .slice none 0 0, .slice (some ⟨b1, 0, none⟩) N cap1] 132)) 78 (.pointer (some ⟨m + 1, 0, none⟩))
    rw [World.size_alloc, World.size_alloc, hm, hW5] at h; exact h
  rw [hm, hW5]
  have hP5 : W5.cell? ⟨w.heap.size, 0, none⟩ = some (.int .i64 (k : Int)) := (hb5.cell (p := ⟨w.heap.size, 0, none⟩) (block_lt_of_cell hP4)).trans hP4
  have hb1m : Hid (b1 < m) := Lib.hid (by
    rcases HI4.out with ⟨h, _⟩ | ⟨b', o', c', h, h1, h2⟩
    · cases h
    · cases h; rw [← hm]; exact h1)
  have hi5 := HI4.out.below hb5 (Nat.le_refl _)
  have hB5 : Below w.heap.size w W5 := HB4.out.trans (hb5.mono HB4.out.size)
  have HS5 := Lib.hid hs5; have HO5 := Lib.hid ho5; have HR5 := Lib.hid hr5; have HP5 := Lib.hid hp5; have HPP5 := Lib.hid hP5; have HI5 := Lib.hid hi5; have HB5 := Lib.hid hB5
  have hmw : Hid (w.heap.size < m) := Lib.hid (by have := block_lt_of_cell hP4; rw [hm] at this; exact this)
  clear hs5 hb5 ho5 hr5 hp5 hP5 hi5 hB5 hW5 hm HI4 HB4 hP4 g1 g2 g3 g4 hy0b hy0p
  refine ⟨trivial, (callsIn_wide.2 (backward_call (some ⟨b1, 0, none⟩) N cap1 W5)).mono ?_⟩
  rintro e w6 ⟨rfl, hw6⟩
  have hb6 : Below W5.heap.size W5 w6 := by rw [hw6]; exact (Below.refl _ _).alloc (Nat.le_refl _) _
  have hs6 : w6.heap.size = m + 4 := by rw [hw6]; simp [HS5.out]
  have hbx : w6.cell? ⟨m + 3, 0, none⟩ = some (.slice (some ⟨b1, 0, none⟩) N cap1) := by rw [hw6, ← HS5.out]; exact (Boxed.new W5 _ _).cell
  rw [HS5.out]
  have hb1' : b1 < W5.heap.size := by
    rcases HI5.out with ⟨h, _⟩ | ⟨b', o', c', h, h1, h2⟩
    · cases h
    · cases h; exact h1
  have hc6 : ∀ i, i < N → w6.cell? ⟨b1, i, none⟩ = some (.int .u32 (ys.getD i 0)) := fun i hi => by
    rw [hb6.cell (p := ⟨b1, i, none⟩) hb1']
    rcases HI5.out with ⟨h, _⟩ | ⟨b', o', c', h, _, h2⟩
    · cases h
    · simp only [Value.slice.injEq, Option.some.injEq, Addr.mk.injEq, and_true] at h
      obtain ⟨⟨rfl, rfl⟩, _, rfl⟩ := h
      have := h2 i (by rw [HN.out]; exact hi)
      rwa [Nat.zero_add] at this
  obtain ⟨ls, hls⟩ : ∃ ls : List { s : Nat // s < 4294967296 }, ls.map (·.1) = srt := ⟨srt.attach.map (fun x => ⟨x.1, (HPOS.out x.1 x.2).2⟩), by simp⟩
  have hlsl : ls.length = N := by rw [← HSL.out, ← hls, List.length_map]
  have hseq := backward_stops 13 (by decide) (m + 3) b1 0 cap1 N (nthSd ls N) (fun j _ => rfl) (by omega) w6 (KX m (m + 4)) (by omega) (by rw [hs6]; have := HS5.out; omega)
    (fun A B h p hp => World.cell?_of_block (w := A) (h.same p.block (by have := HS5.out; rcases hp with hp | hp <;> omega) (by have := hb1m.out; rcases hp with hp | hp <;> omega))) hbx (fun j hj => by
      rw [Nat.zero_add, hc6 _ (by omega), HYG.out _ (by omega), ← hls]
      simp only [nthSd]
      rw [List.getD_eq_getElem?_getD, List.getElem?_map, List.getD_eq_getElem?_getD, List.getElem?_eq_getElem (by omega)]; rfl)
  have HSEQ := Lib.hid hseq
  have hP6 := (hb6.cell (p := ⟨w.heap.size, 0, none⟩) (block_lt_of_cell HPP5.out)).trans HPP5.out
  have hr6 := (hb6.block _ (lt_of_block HR5.out)).trans HR5.out
  have hp6 : w6.heap[m + 2]? = some (.cells #[.pointer (some ⟨m + 1, 0, none⟩)] 78 (0, 0)) := (hb6.block _ HP5.out.lt).trans HP5.out
  have ho6 : w6.ownsMap Tryz.prog 25 (plainElem Tryz.prog 28) m 0 (.map [] : DataW (TypeId × Value)) := by
    have hbl := HO5.out.lt
    obtain ⟨es, clock, hbk, Ft, hs, hD⟩ := HO5.out
    exact ⟨es, clock, (hb6.block m hbl).trans hbk, Ft, hs, hD⟩
  have hB6 := HB5.out.trans (hb6.mono HB5.out.size)
  have HS6 := Lib.hid hs6; have HP6 := Lib.hid hP6; have HR6 := Lib.hid hr6; have HQ6 := Lib.hid hp6; have HO6 := Lib.hid ho6; have HB6 := Lib.hid hB6
  have HI6 := Lib.hid (HI5.out.below hb6 (Nat.le_refl _))
  have HLS := Lib.hid hls; have HLSL := Lib.hid hlsl
  clear hseq hw6 hb6 hs6 hbx hb1' hc6 hlsl hls hP6 hr6 hp6 ho6 hB6 HPP5 HR5 HP5 HO5 HB5 HI5
  gi_wp2_with fail
  apply wpIn_rangeFunc_ownG rfl (by decide) (gf := 85) (lb := #[.pointer (some ⟨m + 3, 0, none⟩)]) rfl trivial (enters_of Tryz.func85 (by kernel_rfl) rfl)
    HSEQ.out (fun h h' => h.trans h') (fun W l o o' hl h _ _ => KX.of (belowK_b (w := w6) (n₀ := m + 4) (Nat.le_of_eq HS6.out.symm) W l o o' hl h (by assumption) (by assumption))) (Below.refl _ _) (fun _ => rfl)
    (fun pre W => (∃ (D : DataW (TypeId × Value)) (nn : Nat), W.ownsMap Tryz.prog 25 (plainElem Tryz.prog 28) m nn D ∧ ByM D (puts (pre.map (fun x => x.2.1)) k) ∧ nn ≤ pre.length * k) ∧ KX m (m + 4) w6 W)
    (fun _ _ _ => False)
  case hI =>
    rintro s A B row ⟨⟨D, nn, ho, hby, hn⟩, hK⟩ hg hr
    refine ⟨⟨D, nn, ho.kept hg (fun e => by have := (hr _ e.symm).1; have := HS6.out; omega), hby, hn⟩, hK.trans ⟨hg.os, hg.tape, hg.output, hg.size, fun j h1 h2 => hg.block j (by have := hK.size; have := HS6.out; omega) (fun e => by have := (hr _ e.symm).1; have := HS6.out; omega)⟩⟩
  case hIx => exact fun _ _ _ _ _ hs _ _ => hs
  case h0 => exact ⟨⟨_, 0, HO6.out, ByM.nil, by simp⟩, KX.refl _ _ _⟩
  case hassign =>
    intro l x W K hK
    gi_wp2
    exact hK
  case hbody =>
    rintro l pre x W ⟨⟨D, nn, ho, hby, hn⟩, hK⟩ hpre
    have hcP := (World.cell?_of_block (w := w6) (a := ⟨w.heap.size, 0, none⟩) (hK.same w.heap.size (by have := hmw.out; omega) (by have := hmw.out; omega))).trans HP6.out
    have hO := Lib.hid ho; have HBY := Lib.hid hby; have HK := Lib.hid hK
    clear ho hby hK
    obtain ⟨s, hs⟩ : ∃ s, x.2.1 = s := ⟨_, rfl⟩
    have hsl : s < 4294967296 := hs ▸ x.2.2
    have HSX := Lib.hid hs
    rw [hs]
    clear hs
    gi_wp2_with fail
    gi_loopw [54] (fun i wr => ∃ j : Nat, j ≤ k ∧ i = .int .i64 j ∧ Hid (∃ (D : DataW (TypeId × Value)) (nn : Nat), wr.ownsMap Tryz.prog 25 (plainElem Tryz.prog 28) m nn D ∧ ByM D (puts (pre.map (fun x => x.2.1)) k ++ puts1 s j) ∧ nn ≤ pre.length * k + j) ∧ Hid (KX m (m + 4) W wr) ∧ Hid (KeepsFrom w6.heap.size W wr)) (fun i _ => k - (intOf i).toNat)
    case atStart => exact ⟨0, Nat.zero_le _, rfl, Lib.hid ⟨D, nn, hO.out, by simpa [puts1] using HBY.out, by omega⟩, Lib.hid (KX.refl _ _ _), Lib.hid (KeepsFrom.refl _ _)⟩
    case round =>
      clear hO HBY hn
      obtain ⟨j, hj, rfl, HM, HKX, HKF⟩ := hrel
      by_cases hlt : j < k
      · obtain ⟨D1, n1, ho1, hby1, hn1⟩ := HM.out
        have hKw := HK.out.trans HKX.out
        have hfr : ∀ W', Below wr.heap.size wr W' → W'.cell? ⟨m + 1 + 1, 0, none⟩ = some (.pointer (some ⟨m + 1, 0, none⟩)) ∧ W'.cell? ⟨m + 1, 0, none⟩ = some (.map (some m)) := fun W' hb' => by
          have h1 : wr.heap[m + 1 + 1]? = _ := (hKw.same (m + 2) (by omega) (by omega)).trans HQ6.out
          have h2 := (hKw.same (m + 1) (by omega) (by omega)).trans HR6.out
          exact ⟨cell_of ((hb'.block _ (lt_of_block h1)).trans h1) 0, cell_of ((hb'.block _ (lt_of_block h2)).trans h2) 0⟩
        obtain ⟨p1, p2⟩ := hfr wr (Below.refl _ _)
        have hpt := fun w => ring_Point s j hsl (by omega) w
        obtain ⟨q, hq⟩ : ∃ q, Sh.point s j = q := ⟨_, rfl⟩
        have hql : q < 18446744073709551616 := hq ▸ hash_lt _
        rw [hq] at hpt
        have hup : ∀ W', Below wr.heap.size wr W' → ∃ w2, (Instr.mapUpdate 130 (.map (some m)) (.int .u64 (q : Int)) (.int .u32 (s : Int))).run Tryz.prog W' = .ok () w2 ∧ (∃ (D : DataW (TypeId × Value)) (nn : Nat), w2.ownsMap Tryz.prog 25 (plainElem Tryz.prog 28) m nn D ∧ ByM D (puts (pre.map (fun x => x.2.1)) k ++ puts1 s (j + 1)) ∧ nn ≤ pre.length * k + (j + 1)) ∧ KX m (m + 4) W w2 ∧ KeepsFrom w6.heap.size W w2 := fun W' hb' => by
          have hoW := ownsMap_below ho1 hb'
          have hnb : pre.length * k ≤ 16 * 64 := Nat.mul_le_mul (by omega) hk2
          obtain ⟨w2, hrun, ho2, hg2⟩ := hoW.update (int_keyed Tryz.underlying25) Tryz.underlying130 (by unfold maxLen; omega) (keyOf_int_mk Tryz.underlying25 (u64wf hql)) (plainElem_int Tryz.underlying28 (u32wf hsl))
          have hbk := KX.of (m := m) (n := m + 4) (hb'.mono (by have := hKw.size; have := HS6.out; omega))
          refine ⟨w2, hrun, ⟨_, _, ho2, ?_, by omega⟩, (HKX.out.trans hbk).trans (KX.grown hg2 (by have := hKw.size; have := HS6.out; have := hb'.size; omega)), (HKF.out.trans (keepsFrom_below hb' (Nat.le_refl _))).trans (keepsFrom_grown hg2 (by have := HS6.out; omega))⟩
          rw [puts1_succ, hq, ← List.append_assoc]
          exact hby1.put ho1.isMap _ _
        have HFR := Lib.hid hfr; have HPT := Lib.hid hpt; have HUP := Lib.hid hup
        clear hfr hpt hup hq hql ho1 hby1 hn1 hKw
        gi_wp2_with fail
        obtain ⟨Post, hPost⟩ : ∃ Post : World → Prop, Post = fun w2 => (∃ (D : DataW (TypeId × Value)) (nn : Nat), w2.ownsMap Tryz.prog 25 (plainElem Tryz.prog 28) m nn D ∧ ByM D (puts (pre.map (fun x => x.2.1)) k ++ puts1 s (j + 1)) ∧ nn ≤ pre.length * k + (j + 1)) ∧ KX m (m + 4) W w2 ∧ KeepsFrom w6.heap.size W w2 := ⟨_, rfl⟩
        have HUP2 : Hid (∀ W', Below wr.heap.size wr W' → ∃ w2, (Instr.mapUpdate 130 (.map (some m)) (.int .u64 (q : Int)) (.int .u32 (s : Int))).run Tryz.prog W' = .ok () w2 ∧ Post w2) := Lib.hid (by rw [hPost]; exact HUP.out)
        refine wpIn_region_each rfl ?nd (fun base l t W' => InvN m s j q wr Post base l t W') ?lex ?start ?step ?fin
        case nd =>
          intro i o h c hc
          rcases i with _ | _ | _ | _ | _ | _ | _ | _ | _ | i <;> simp at h <;> subst h <;> cases hc
        case lex =>
          intro i o h
          rcases i with _ | _ | _ | _ | _ | _ | _ | _ | _ | i <;> simp at h <;> subst h <;> simp
        case start =>
          refine ⟨rfl, rfl, rfl, rfl, ⟨_, Fs_self _ 57 65, fun i _ h => ?_⟩, (Below.refl _ _).drew⟩
          cases h
        case step =>
          intro l t W' i o hI ho hli hdep hcl K Q hK
          have g8 : l 8 = true → l 0 = true ∧ l 1 = true ∧ l 2 = true ∧ l 3 = true ∧ l 4 = true ∧ l 5 = true ∧ l 6 = true ∧ l 7 = true := fun h => by
            have a3 := hcl 8 _ rfl h ⟨3, .data⟩ (by simp) rfl
            have a6 := hcl 8 _ rfl h ⟨6, .data⟩ (by simp) rfl
            have a7 := hcl 8 _ rfl h ⟨7, .data⟩ (by simp) rfl
            have a2 := hcl 3 _ rfl a3 ⟨2, .data⟩ (by simp) rfl
            have a1 := hcl 2 _ rfl a2 ⟨1, .data⟩ (by simp) rfl
            exact ⟨hcl 1 _ rfl a1 ⟨0, .data⟩ (by simp) rfl, a1, a2, a3, hcl 6 _ rfl a6 ⟨4, .data⟩ (by simp) rfl, hcl 6 _ rfl a6 ⟨5, .data⟩ (by simp) rfl, a6, a7⟩
          clear HUP HK HKX HKF HM HSX hcP p1 p2 hPost hcl
          obtain ⟨hsz, e7, e9, e10, ⟨f, rfl, hv⟩, hw⟩ := hI
          generalize hbase : (Act.tmps _) = base at hsz e7 e9 e10 hK ⊢
          clear hbase
          have hw8 : ∀ i, i < 8 → l i = false → Below wr.heap.size wr W' := fun i hi hf => by
            have : l 8 = false := by
              cases h : l 8 with
              | false => rfl
              | true =>
                obtain ⟨a0, a1, a2, a3, a4, a5, a6, a7⟩ := g8 h
                rcases i with _ | _ | _ | _ | _ | _ | _ | _ | i <;> first | omega | (simp_all; done)
            rw [if_neg (by rw [this]; simp)] at hw; exact hw
          rcases i with _ | _ | _ | _ | _ | _ | _ | _ | _ | i <;> simp only [List.getElem?_toArray, List.getElem?_cons_zero, List.getElem?_cons_succ, List.getElem?_nil, Option.some.injEq, reduceCtorEq, Nat.reduceAdd] at ho
          · subst ho
            refine ⟨rfl, ?_⟩
            have hc := (HFR.out W' (hw8 0 (by omega) hli)).1
            have e7' := (Fs_out (base := base) (lo := 57) (hi := 65) (f := f) (k := 7) (by omega)).trans e7
            go_simp
            exact hK _ _ (InvN.put hsz e7 e9 e10 hv 0 (by omega) hw)
          · subst ho
            refine ⟨rfl, ?_⟩
            have h0 := hv 0 (by omega) (hdep ⟨0, .data⟩ (by simp) rfl)
            have e7' : (Fs base 57 65 f).getD 57 undef = .pointer (some ⟨m + 1, 0, none⟩) := (Fs_in (by omega) (by omega) (by omega)).trans h0
            go_simp
            exact hK _ _ (InvN.put hsz e7 e9 e10 hv 1 (by omega) hw)
          · subst ho
            refine ⟨rfl, ?_⟩
            have h0 := hv 1 (by omega) (hdep ⟨1, .data⟩ (by simp) rfl)
            have e7' : (Fs base 57 65 f).getD 58 undef = .pointer (some ⟨m + 1, 0, none⟩) := (Fs_in (by omega) (by omega) (by omega)).trans h0
            go_simp
            exact hK _ _ (InvN.put hsz e7 e9 e10 hv 2 (by omega) hw)
          · subst ho
            refine ⟨rfl, ?_⟩
            have hc := (HFR.out W' (hw8 3 (by omega) hli)).2
            have h0 := hv 2 (by omega) (hdep ⟨2, .data⟩ (by simp) rfl)
            have e7' : (Fs base 57 65 f).getD 59 undef = .pointer (some ⟨m + 1, 0, none⟩) := (Fs_in (by omega) (by omega) (by omega)).trans h0
            go_simp
            exact hK _ _ (InvN.put hsz e7 e9 e10 hv 3 (by omega) hw)
          · subst ho
            refine ⟨rfl, ?_⟩
            have e7' := (Fs_out (base := base) (lo := 57) (hi := 65) (f := f) (k := 9) (by omega)).trans e9
            go_simp
            exact hK _ _ (InvN.put hsz e7 e9 e10 hv 4 (by omega) hw)
          · subst ho
            refine ⟨rfl, ?_⟩
            have e7' := (Fs_out (base := base) (lo := 57) (hi := 65) (f := f) (k := 10) (by omega)).trans e10
            go_simp
            exact hK _ _ (InvN.put hsz e7 e9 e10 hv 5 (by omega) hw)
          · subst ho
            refine ⟨rfl, ?_⟩
            have h0 := hv 4 (by omega) (hdep ⟨4, .data⟩ (by simp) rfl)
            have h1 := hv 5 (by omega) (hdep ⟨5, .data⟩ (by simp) rfl)
            have e7' : (Fs base 57 65 f).getD 61 undef = .int .u32 (s : Int) := (Fs_in (by omega) (by omega) (by omega)).trans h0
            have e8' : (Fs base 57 65 f).getD 62 undef = .int .i64 (j : Int) := (Fs_in (by omega) (by omega) (by omega)).trans h1
            have hb6 := hw8 6 (by omega) hli
            have h8 : l 8 = false := by
              cases h : l 8 with
              | false => rfl
              | true => rw [(g8 h).2.2.2.2.2.2.1] at hli; cases hli
            refine op_call (f := 60) (args := #[.int .u32 (s : Int), .int .i64 (j : Int)]) (w' := W') (by go_simp) ((HPT.out W').mono ?_)
            rintro e W2 ⟨rfl, hb2⟩
            refine ⟨_, rfl, hK _ _ (InvN.put hsz e7 e9 e10 hv 6 (by omega) ?_)⟩
            rw [if_neg (by rw [h8]; simp)]
            exact hb6.trans (hb2.mono hb6.size)
          · subst ho
            refine ⟨rfl, ?_⟩
            have e7' := (Fs_out (base := base) (lo := 57) (hi := 65) (f := f) (k := 9) (by omega)).trans e9
            go_simp
            exact hK _ _ (InvN.put hsz e7 e9 e10 hv 7 (by omega) hw)
          · subst ho
            refine ⟨rfl, ?_⟩
            have h0 := hv 3 (by omega) (hdep ⟨3, .data⟩ (by simp) rfl)
            have h1 := hv 6 (by omega) (hdep ⟨6, .data⟩ (by simp) rfl)
            have h2 := hv 7 (by omega) (hdep ⟨7, .data⟩ (by simp) rfl)
            have e7' : (Fs base 57 65 f).getD 60 undef = .map (some m) := (Fs_in (by omega) (by omega) (by omega)).trans h0
            have e8' : (Fs base 57 65 f).getD 63 undef = .int .u64 (q : Int) := (Fs_in (by omega) (by omega) (by omega)).trans h1
            have e9' : (Fs base 57 65 f).getD 64 undef = .int .u32 (s : Int) := (Fs_in (by omega) (by omega) (by omega)).trans h2
            rw [if_neg (by rw [hli]; simp)] at hw
            obtain ⟨w2, hrun, hp⟩ := HUP2.out W' hw
            go_simp
            refine hK _ _ ⟨hsz, e7, e9, e10, ⟨f, rfl, fun i hi hl => hv i hi ?_⟩, ?_⟩
            · simpa [show ¬ i = 8 by omega] using hl
            · simpa using hp
        case fin =>
          intro l t W' hall hI
          obtain ⟨_, _, _, _, ⟨f, rfl, hv⟩, hw⟩ := hI
          rw [if_pos (hall 8 (by decide)), hPost] at hw
          obtain ⟨hM', hX', hF'⟩ := hw
          simp only [Fs_succ _ (show 57 ≤ 57 from by decide), Fs_succ _ (show 57 ≤ 58 from by decide), Fs_succ _ (show 57 ≤ 59 from by decide), Fs_succ _ (show 57 ≤ 60 from by decide), Fs_succ _ (show 57 ≤ 61 from by decide), Fs_succ _ (show 57 ≤ 62 from by decide), Fs_succ _ (show 57 ≤ 63 from by decide), Fs_succ _ (show 57 ≤ 64 from by decide), Fs_nil, List.setIfInBounds_toArray, List.set_cons_succ, List.set_cons_zero]
          have HM' := Lib.hid hM'; have HX' := Lib.hid hX'; have HF' := Lib.hid hF'
          clear hM' hX' hF'
          gi_wp2_with fail
          go_roundw
          case rel => exact ⟨j + 1, by omega, rfl, HM', HX', HF'⟩
          case measure => simp [intOf]; omega
      · obtain rfl : j = k := by omega
        gi_wp2_with fail
        obtain ⟨D1, n1, ho1, hby1, hn1⟩ := HM.out
        refine ⟨HKF.out, HKX.out, ⟨D1, n1, ho1, ?_, by simp [Nat.succ_mul]; omega⟩, HK.out.trans HKX.out⟩
        rw [List.map_append, List.map_cons, List.map_nil, puts_snoc, HSX.out]; exact hby1
  case hdone =>
    rintro D xs W hD rfl ⟨⟨D', nn, ho, hby, hn⟩, hK⟩ hdef
    rw [← HLSL.out, upto_rev, HLS.out] at hby
    have hnn : nn ≤ 1000000 := by
      have : N * k ≤ 16 * 64 := Nat.mul_le_mul hN2 hk2
      rw [upto_length] at hn; omega
    have hKs := hK.size
    have hWs := HS6.out
    have hq2 : W.heap[m + 1 + 1]? = _ := (hK.same (m + 2) (by omega) (by omega)).trans HQ6.out
    have hr2 : W.heap[m + 1]? = _ := (hK.same (m + 1) (by omega) (by omega)).trans HR6.out
    have hDlt : D < W.heap.size := (Array.getElem?_eq_some_iff.1 hdef).1
    have hex : ∃ x, has D' (kN x) = true := by
      have hl0 : ∃ s0, s0 ∈ srt := by
        cases hc : srt with
        | nil => have := HSL.out; rw [hc] at this; simp at this; omega
        | cons a t => exact ⟨a, by simp⟩
      obtain ⟨s0, hs0⟩ := hl0
      refine ⟨((Sh.point s0 0 : Nat) : Int), ?_⟩
      rw [hby.has]
      cases hc : lastOf (puts srt.reverse k) (Sh.point s0 0) with
      | some _ => rfl
      | none =>
        exact (lastOf_none.1 hc (Sh.point s0 0, s0) (List.mem_flatMap.2 ⟨s0, by simpa using hs0, List.mem_map.2 ⟨0, by simp; omega, rfl⟩⟩) rfl).elim
    have hDm : D ≠ m + 1 := by have := HS6.out; omega
    have hfr : ∀ W', Below W.heap.size W W' → W'.cell? ⟨m + 1 + 1, 0, none⟩ = some (.pointer (some ⟨m + 1, 0, none⟩)) ∧ W'.cell? ⟨m + 1, 0, none⟩ = some (.map (some m)) ∧ W'.cell? ⟨m + 1, 1, none⟩ = some (.slice none 0 0) ∧ W'.frozen? ⟨m + 1, 1, none⟩ = false := fun W' hb' => by
      have h1 : W'.heap[m + 1 + 1]? = _ := (hb'.block _ (lt_of_block hq2)).trans hq2
      have h2 : W'.heap[m + 1]? = _ := (hb'.block _ (lt_of_block hr2)).trans hr2
      exact ⟨cell_of h1 0, cell_of h2 0, cell_of h2 1, frozen_of h2 1⟩
    have hso := fun (W1 : World) (Bm : Nat) (hb : Below W.heap.size W W1) (h1 : Bm < W1.heap.size) (h2 : W1.cell? ⟨Bm, 0, none⟩ = some (.map (some m))) => points_sorted W W1 m Bm nn D' (ownsMap_below ho hb) hnn hex h1 h2
    obtain ⟨p1, p2, p3, p4⟩ := hfr W (Below.refl _ _)
    have HSO := Lib.hid hso; have HFR := Lib.hid hfr; have HBY := Lib.hid hby; have HOW := Lib.hid ho; have HDEF := Lib.hid hdef; have HKK := Lib.hid hK; have HRR := Lib.hid hr2
    have HEX := Lib.hid hex
    clear hso hfr hby ho hdef hK hr2 hq2 hex hn HSEQ HO6 HQ6 HR6 HP6 HYG
    gi_wp2_with fail
    have hmx : Tryz.prog.follows .mixedOrders = true := rfl
    refine wpIn_normal _ ?_ (fun _ _ h => h)
    gi_region_with_o (first
      | ((with_reducible refine And.intro ?_ ?_); exact trivial; gi_at_call 62; refine (callsIn_wide.2 (keys_call _ _)).mono ?_; rintro e wk ⟨rfl, hwk⟩
         have hbk : Below W.heap.size W wk := (by rw [hwk]; exact (Below.refl _ _).drew.alloc (Nat.le_refl _) _)
         have hsk : W.heap.size < wk.heap.size := (by rw [hwk, World.size_alloc]; exact Nat.lt_succ_self _)
         have hck : wk.cell? ⟨W.heap.size, 0, none⟩ = some (.map (some m)) := (by rw [hwk]; exact (Boxed.new W.drew _ _).cell)
         obtain ⟨q1, q2, q3, q4⟩ := HFR.out wk hbk
         clear hwk)
      | ((with_reducible refine And.intro ?_ ?_); exact trivial; gi_at_call 61; refine (callsIn_wide.2 (HSO.out _ _ hbk hsk hck)).mono ?_; rintro e ws ⟨bp, cp, pts, rfl, r1, r2, r3, r4, r5, hbs⟩
         obtain ⟨q5, q6, q7, q8⟩ := HFR.out ws (hbk.trans (hbs.mono hbk.size))))
    all_goals gi_wp2_with fail
    all_goals (obtain ⟨z1, z2, z3⟩ := ring_done hmw.out hb1m.out HS6.out HB6.out (HN.out ▸ HI6.out) HYS.out HN.out hN1 hk hD hDlt HDEF.out HBY.out HOW.out HKK.out HRR.out hbk r1 r2 r3 r4 r5 hbs HEX.out)
    all_goals (refine ⟨by simp, .inl ⟨_, _, rfl, run_takeDeferred z1, ?_⟩⟩)
    all_goals (exact ⟨_, results_tmp2 rfl _ _ _, m + 1, srt, pts, rfl, HPS.out, HLT.out, z2, z3⟩)
  case hstop =>
    rintro D c pre W _ _ h _
    exact h.elim
end Go.Proofs.YtggdkfijioeijaaGreatDoor
namespace Go.Proofs.YtggdkfijioeijaaGreatDoor
open Go
abbrev M64 : Nat := 18446744073709551616
abbrev M32 : Nat := 4294967296
def key (h : Nat) (x : Nat × Nat) : Nat := (x.1 + M64 - h) % M64 * M32 + x.2
def InB (ps : List (Nat × Nat)) : Prop := ∀ x ∈ ps, x.1 < M64 ∧ x.2 < M32
def IsO (ps : List (Nat × Nat)) (h s : Nat) : Prop := ∃ p, (p, s) ∈ ps ∧ ∀ y ∈ ps, key h (p, s) ≤ key h y
theorem IsO.uniq {ps : List (Nat × Nat)} {h s s' : Nat} (hB : InB ps) (a : IsO ps h s) (b : IsO ps h s') : s = s' := by
 obtain ⟨p, hp, ha⟩ := a
 obtain ⟨q, hq, hb⟩ := b
 have h1 := ha _ hq
 have h2 := hb _ hp
 have b1 := (hB _ hp).2
 have b2 := (hB _ hq).2
 simp only [key, M64, M32] at h1 h2 b1 b2
 omega
noncomputable def ownF (ps : List (Nat × Nat)) (h : Nat) : Nat := Classical.epsilon (IsO ps h)
theorem ownF_eq {ps : List (Nat × Nat)} {h s : Nat} (hB : InB ps) (a : IsO ps h s) : ownF ps h = s := (Classical.epsilon_spec ⟨s, a⟩ : IsO ps h (ownF ps h)).uniq hB a
theorem IsO.mem {ps : List (Nat × Nat)} {h s : Nat} (a : IsO ps h s) : ∃ p, (p, s) ∈ ps := a.elim fun p h => ⟨p, h.1⟩
theorem least_ex {α : Type} (f : α → Nat) : ∀ (l : List α), l ≠ [] → ∃ x ∈ l, ∀ y ∈ l, f x ≤ f y
 | [], h => (h rfl).elim
 | [x], _ => ⟨x, by simp, fun y hy => by simp at hy; subst hy; exact Nat.le_refl _⟩
 | x :: z :: l, _ => by
  obtain ⟨y, hy, hl⟩ := least_ex f (z :: l) (by simp)
  by_cases h : f x ≤ f y
  ·refine ⟨x, by simp, fun u hu => ?_⟩
   rcases List.mem_cons.1 hu with rfl | hu
   ·exact Nat.le_refl _
   ·exact Nat.le_trans h (hl u hu)
  ·refine ⟨y, by simp [List.mem_cons.1 hy], fun u hu => ?_⟩
   rcases List.mem_cons.1 hu with rfl | hu
   ·omega
   ·exact hl u hu
theorem IsO.ex {ps : List (Nat × Nat)} (h : Nat) (hne : ps ≠ []) : ∃ s, IsO ps h s := by
 obtain ⟨x, hx, hl⟩ := least_ex (key h) ps hne
 exact ⟨x.2, x.1, hx, hl⟩
theorem ownF_is {ps : List (Nat × Nat)} (h : Nat) (hne : ps ≠ []) : IsO ps h (ownF ps h) := Classical.epsilon_spec (IsO.ex h hne)
theorem IsO.perm {ps qs : List (Nat × Nat)} {h s : Nat} (hm : ∀ x, x ∈ ps ↔ x ∈ qs) (a : IsO ps h s) : IsO qs h s := by
 obtain ⟨p, hp, ha⟩ := a
 exact ⟨p, (hm _).1 hp, fun y hy => ha y ((hm y).2 hy)⟩
theorem ownF_perm {ps qs : List (Nat × Nat)} (hm : ∀ x, x ∈ ps ↔ x ∈ qs) (hne : ps ≠ []) (hB : InB qs) (h : Nat) : ownF qs h = ownF ps h := ownF_eq hB ((ownF_is h hne).perm hm)
theorem ownF_const {ps : List (Nat × Nat)} {c h : Nat} (hB : InB ps) (hne : ps ≠ []) (hch : c ≤ h) (hh : h < M64) (hno : ∀ y ∈ ps, ¬ (c ≤ y.1 ∧ y.1 < h)) : ownF ps h = ownF ps c := by
 obtain ⟨p, hp, ha⟩ := ownF_is c hne
 have key_sh : ∀ y ∈ ps, key c y = key h y + (h - c) * M32 := fun y hy => by
  have h1 := hno y hy
  have h2 := (hB y hy).1
  simp only [key, M64, M32] at *
  have : (y.1 + 18446744073709551616 - c) % 18446744073709551616 = (y.1 + 18446744073709551616 - h) % 18446744073709551616 + (h - c) := by omega
  rw [this, Nat.add_mul]; omega
 refine ownF_eq hB ⟨p, hp, fun y hy => ?_⟩
 have h1 := ha y hy
 rw [key_sh _ hp, key_sh _ hy] at h1
 omega
def Least (ps : List (Nat × Nat)) : Prop := ∀ p s, lastOf ps p = some s → ∀ s', (p, s') ∈ ps → s ≤ s'
theorem least_of : ∀ (ps : List (Nat × Nat)), ps.Pairwise (fun x y => y.2 ≤ x.2) → Least ps := by
 intro ps
 induction hn : ps.length generalizing ps with
 | zero =>
  intro _ p s h s' hm
  have : ps = [] := List.length_eq_zero_iff.1 hn
  rw [this] at hm; cases hm
 | succ n ih =>
  intro hp p s h s' hm
  obtain ⟨qs, x, rfl⟩ : ∃ qs x, ps = qs ++ [x] := ⟨ps.dropLast, ps.getLast (by intro e; rw [e] at hn; cases hn), (List.dropLast_concat_getLast _).symm⟩
  obtain ⟨x1, x2⟩ := x
  rw [List.pairwise_append] at hp
  rw [lastOf_snoc] at h
  rcases List.mem_append.1 hm with hq | hq
  ·by_cases e : p = x1
   ·rw [if_pos e] at h; cases h
    exact hp.2.2 _ hq (x1, s) (by simp)
   ·rw [if_neg e] at h
    exact ih qs (by simpa using hn) hp.1 p s h s' hq
  ·simp at hq
   obtain ⟨rfl, rfl⟩ := hq
   rw [if_pos rfl] at h; cases h; exact Nat.le_refl _
theorem lastOf_ex {ps : List (Nat × Nat)} {p s : Nat} (h : (p, s) ∈ ps) : ∃ s', lastOf ps p = some s' := by
 cases hc : lastOf ps p with
 | some s' => exact ⟨s', rfl⟩
 | none => exact (lastOf_none.1 hc _ h rfl).elim
theorem spot_owner {ps : List (Nat × Nat)} {pts : List Int} {h i : Nat} (hB : InB ps) (hL : Least ps) (hsort : pts.Pairwise (· ≤ ·)) (hmem : ∀ x, x ∈ pts ↔ ∃ p : Nat, x = (p : Int) ∧ (lastOf ps p).isSome = true) (hne : pts ≠ []) (hh : h < M64) (hs : Spot pts (h : Int) i) :
  ∃ p s : Nat, pts.getD (i % pts.length) 0 = (p : Int) ∧ lastOf ps p = some s ∧ ownF ps h = s := by
 have hl : 0 < pts.length := List.length_pos_iff.2 hne
 have hj : i % pts.length < pts.length := Nat.mod_lt _ hl
 have hgd : ∀ j, (hj : j < pts.length) → pts.getD j 0 = pts[j] := fun j hj => by rw [List.getD_eq_getElem?_getD, List.getElem?_eq_getElem hj]; rfl
 obtain ⟨p, hp, hps⟩ := (hmem _).1 (show pts.getD (i % pts.length) 0 ∈ pts by rw [hgd _ hj]; exact List.getElem_mem _)
 obtain ⟨s, hs'⟩ := Option.isSome_iff_exists.1 hps
 refine ⟨p, s, hp, hs', ownF_eq hB ⟨p, lastOf_mem hs', fun y hy => ?_⟩⟩
 have b1 := hB _ (lastOf_mem hs')
 have b2 := hB _ hy
 by_cases e : y.1 = p
 ·have := hL p s hs' y.2 (by rw [← e]; exact hy)
  simp only [key, M64, M32] at *
  rw [e]; omega
 ·-- y's point stands in the list
  obtain ⟨t, ht⟩ := lastOf_ex (ps := ps) (p := y.1) (s := y.2) hy
  obtain ⟨j, hjl, hjy⟩ := List.mem_iff_getElem.1 ((hmem (y.1 : Int)).2 ⟨y.1, rfl, by rw [ht]; rfl⟩)
  have hle := List.pairwise_iff_getElem.1 hsort
  by_cases hi : i < pts.length
  ·rw [Nat.mod_eq_of_lt hi, hgd _ hi] at hp
   have h1 := hs.2.2 i (Nat.le_refl _) hi
   rw [hgd _ hi, hp] at h1
   by_cases hji : j < i
   ·have h2 := hs.2.1 j hji
    rw [hgd _ hjl, hjy] at h2
    simp only [key, M64, M32] at *; omega
   ·have h2 : p ≤ y.1 := by
     by_cases ee : i = j
     ·subst ee; rw [hp] at hjy; omega
     ·have := hle i j hi hjl (by omega); rw [hp, hjy] at this; omega
    simp only [key, M64, M32] at *; omega
  ·have hil : i = pts.length := by have := hs.1; omega
   rw [hil, Nat.mod_self, hgd _ hl] at hp
   have h0 := hs.2.1 0 (by omega)
   have h2 := hs.2.1 j (by omega)
   rw [hgd _ hl, hp] at h0
   rw [hgd _ hjl, hjy] at h2
   have h3 : p ≤ y.1 := by
    by_cases ee : 0 = j
    ·subst ee; rw [hp] at hjy; omega
    ·have := hle 0 j hl hjl (by omega); rw [hp, hjy] at this; omega
   simp only [key, M64, M32] at *; omega
theorem length_le_of_sub {α : Type} [BEq α] [LawfulBEq α] : ∀ (l m : List α), l.Nodup → (∀ x ∈ l, x ∈ m) → l.length ≤ m.length
 | [], m, _, _ => Nat.zero_le _
 | a :: l, m, hd, hs => by
  have ha : a ∈ m := hs a (by simp)
  have hd' := List.nodup_cons.1 hd
  have h1 := length_le_of_sub l (m.erase a) hd'.2 (fun x hx => (List.mem_erase_of_ne (fun e => hd'.1 (by rw [← e]; exact hx))).2 (hs x (by simp [hx])))
  rw [List.length_erase_of_mem ha] at h1
  have : 0 < m.length := List.length_pos_of_mem ha
  simp only [List.length_cons]; omega
theorem pts_length {ps : List (Nat × Nat)} {pts : List Int} (hnd : pts.Nodup) (hmem : ∀ x, x ∈ pts ↔ ∃ p : Nat, x = (p : Int) ∧ (lastOf ps p).isSome = true) : pts.length ≤ ps.length := by
 have := length_le_of_sub pts (ps.map (fun x => ((x.1 : Nat) : Int))) hnd (fun x hx => by
  obtain ⟨p, rfl, h⟩ := (hmem x).1 hx
  obtain ⟨s, hs⟩ := Option.isSome_iff_exists.1 h
  exact List.mem_map.2 ⟨_, lastOf_mem hs, rfl⟩)
 simpa using this
def ofP (sp : List (Nat × Nat)) (h : Nat) : Nat := sp.foldl (fun s x => if x.1 ≤ h then x.2 else s) 0
theorem ofP_snoc (sp : List (Nat × Nat)) (x : Nat × Nat) (h : Nat) : ofP (sp ++ [x]) h = if x.1 ≤ h then x.2 else ofP sp h := by simp [ofP]
abbrev d0 : Nat × Nat := (0, 0)
theorem ofP_last {sp : List (Nat × Nat)} {h : Nat} (hne : sp ≠ []) (hle : ∀ x ∈ sp, x.1 ≤ h) : ofP sp h = (sp.getD (sp.length - 1) d0).2 := by
 obtain ⟨qs, x, rfl⟩ : ∃ qs x, sp = qs ++ [x] := ⟨sp.dropLast, sp.getLast hne, (List.dropLast_concat_getLast _).symm⟩
 rw [ofP_snoc, if_pos (hle x (by simp))]
 simp [List.getD_eq_getElem?_getD]
structure SpI (O : Nat → Nat) (sp : List (Nat × Nat)) (c : Nat) : Prop where
 ne : sp ≠ []
 zero : (sp.getD 0 d0).1 = 0
 rise : sp.Pairwise (fun x y => x.1 < y.1)
 adj : ∀ i, i + 1 < sp.length → (sp.getD (i + 1) d0).2 ≠ (sp.getD i d0).2
 lt : ∀ x ∈ sp, x.1 < c
 is : ∀ h, h < c → ofP sp h = O h
theorem SpI.start {O : Nat → Nat} {c : Nat} (hc : 0 < c) (ho : ∀ h, h < c → O h = O 0) : SpI O [(0, O 0)] c :=
 ⟨by simp, rfl, by simp, fun i hi => by simp at hi, fun x hx => by simp at hx; subst hx; exact hc, fun h hh => by simp [ofP]; exact (ho h hh).symm⟩
theorem SpI.skip {O : Nat → Nat} {sp : List (Nat × Nat)} {c c' : Nat} (h : SpI O sp c) (hc : c ≤ c') (ho : ∀ h, c ≤ h → h < c' → O h = O c) (hs : (sp.getD (sp.length - 1) d0).2 = O c) : SpI O sp c' := by
 refine ⟨h.ne, h.zero, h.rise, h.adj, fun x hx => by have := h.lt x hx; omega, fun u hu => ?_⟩
 by_cases e : u < c
 ·exact h.is u e
 ·rw [ofP_last h.ne (fun x hx => by have := h.lt x hx; omega), hs, ho u (by omega) hu]
theorem SpI.add {O : Nat → Nat} {sp : List (Nat × Nat)} {c c' : Nat} (h : SpI O sp c) (hc : c < c') (ho : ∀ h, c ≤ h → h < c' → O h = O c) (hs : (sp.getD (sp.length - 1) d0).2 ≠ O c) : SpI O (sp ++ [(c, O c)]) c' := by
 have hl : 0 < sp.length := List.length_pos_iff.2 h.ne
 refine ⟨by simp, ?_, ?_, fun i hi => ?_, fun x hx => ?_, fun u hu => ?_⟩
 ·rw [List.getD_eq_getElem?_getD, List.getElem?_append_left hl, ← List.getD_eq_getElem?_getD]; exact h.zero
 ·rw [List.pairwise_append]
  exact ⟨h.rise, by simp, fun a ha b hb => by simp at hb; subst hb; exact h.lt a ha⟩
 ·rw [List.length_append] at hi
  simp only [List.length_cons, List.length_nil] at hi
  rw [List.getD_eq_getElem?_getD, List.getD_eq_getElem?_getD, List.getElem?_append_left (by omega : i < sp.length)]
  by_cases e : i + 1 < sp.length
  ·rw [List.getElem?_append_left e, ← List.getD_eq_getElem?_getD, ← List.getD_eq_getElem?_getD]; exact h.adj i e
  ·have : i = sp.length - 1 := by omega
   rw [List.getElem?_append_right (by omega), ← List.getD_eq_getElem?_getD, this]
   simp only [show sp.length - 1 + 1 - sp.length = 0 by omega]
   exact fun e => hs e.symm
 ·rcases List.mem_append.1 hx with hx | hx
  ·have := h.lt x hx; omega
  ·simp at hx; subst hx; exact hc
 ·rw [ofP_snoc]
  by_cases e : c ≤ u
  ·rw [if_pos e, ho u e hu]
  ·rw [if_neg e]; exact h.is u (by omega)
theorem SpI.from_ {O : Nat → Nat} {sp : List (Nat × Nat)} {c : Nat} (h : SpI O sp c) (i : Nat) (hi : i < sp.length) (u : Nat) (h1 : (sp.getD i d0).1 ≤ u) (h2 : u < c) (h3 : i + 1 < sp.length → u < (sp.getD (i + 1) d0).1) : O u = (sp.getD i d0).2 := by
 rw [← h.is u h2]
 have key : ∀ (l : List (Nat × Nat)) (k : Nat), k < l.length → l.Pairwise (fun x y => x.1 < y.1) → (l.getD k d0).1 ≤ u → (k + 1 < l.length → u < (l.getD (k + 1) d0).1) → ofP l u = (l.getD k d0).2 := by
  intro l
  induction hn : l.length generalizing l with
  | zero => intro k hk; omega
  | succ n ih =>
   intro k hk hp g1 g2
   obtain ⟨qs, x, rfl⟩ : ∃ qs x, l = qs ++ [x] := ⟨l.dropLast, l.getLast (by intro e; rw [e] at hn; cases hn), (List.dropLast_concat_getLast _).symm⟩
   have hq : qs.length = n := by simpa using hn
   rw [List.pairwise_append] at hp
   have gx : (qs ++ [x]).getD n d0 = x := by rw [List.getD_eq_getElem?_getD, List.getElem?_append_right (by omega), hq, Nat.sub_self]; rfl
   have gq : ∀ j, j < n → (qs ++ [x]).getD j d0 = qs.getD j d0 := fun j hj => by rw [List.getD_eq_getElem?_getD, List.getElem?_append_left (by omega), ← List.getD_eq_getElem?_getD]
   rw [ofP_snoc]
   by_cases e : k = n
   ·subst e
    rw [gx] at g1 ⊢
    rw [if_pos g1]
   ·have hkn : k < n := by omega
    have g3 := g2 (by omega)
    rw [if_neg ?_, gq k hkn]
    ·rw [gq k hkn] at g1
     exact ih qs hq k (by omega) hp.1 g1 (fun hk1 => by rw [gq _ (by omega)] at g3; exact g3)
    ·by_cases e2 : k + 1 = n
     ·rw [e2, gx] at g3; omega
     ·rw [gq _ (by omega)] at g3
      have := hp.2.2 (qs.getD (k + 1) d0) (by rw [List.getD_eq_getElem?_getD, List.getElem?_eq_getElem (by omega)]; exact List.getElem_mem _) x (by simp)
      omega
 exact key sp i hi h.rise h1 h3
end Go.Proofs.YtggdkfijioeijaaGreatDoor
