/- Contract: segment.Parse. Contracts: segment.Next, and segment.Row of one segment that begins. A map from whole numbers, told as a function (turned from the plan's). -/
import Derived.Test.YtniflkggcceagaaQv04
import Derived.Test.YtniflkggcceagaaQv05
import Derived.Maps.OwnSet
import Derived.Maps.Ext
import Derived.Maps.RangeWalk
import Derived.Lib.SlMapEqual
namespace Go.Proofs.Ytniflkggcceagaa
open Go Go.RowKit
theorem One.grown' {n : Nat} {C : Array Value} {W W' : World} {b : Option Nat} (h : One n C W) (hg : W.grownBy W' b) (hb : b ≠ some n) : One n C W' :=
  ⟨Nat.lt_of_lt_of_le h.lt hg.size, fun j => (World.cell?_of_block (w := W) (a := ⟨n, j, none⟩) (hg.block n h.lt (fun e => hb e.symm))).trans (h.c j), fun j => (World.frozen?_of_block (w := W) (a := ⟨n, j, none⟩) (hg.block n h.lt (fun e => hb e.symm))).trans (h.f j)⟩
theorem One.put7 {n : Nat} {w : World} {a0 a1 a2 a3 a4 a5 a6 : Value} (h : One n #[a0, a1, a2, a3, a4, a5, a6] w) (b0 b1 b2 b3 b4 b5 b6 : Value) :
    One n #[b0, b1, b2, b3, b4, b5, b6] (((((((w.setCell ⟨n, 0, none⟩ b0).setCell ⟨n, 1, none⟩ b1).setCell ⟨n, 2, none⟩ b2).setCell ⟨n, 3, none⟩ b3).setCell ⟨n, 4, none⟩ b4).setCell ⟨n, 5, none⟩ b5).setCell ⟨n, 6, none⟩ b6) := by
  have h0 : One n #[b0, a1, a2, a3, a4, a5, a6] _ := h.set (i := 0) (by simp) b0
  have h1 : One n #[b0, b1, a2, a3, a4, a5, a6] _ := h0.set (i := 1) (by simp) b1
  have h2 : One n #[b0, b1, b2, a3, a4, a5, a6] _ := h1.set (i := 2) (by simp) b2
  have h3 : One n #[b0, b1, b2, b3, a4, a5, a6] _ := h2.set (i := 3) (by simp) b3
  have h4 : One n #[b0, b1, b2, b3, b4, a5, a6] _ := h3.set (i := 4) (by simp) b4
  have h5 : One n #[b0, b1, b2, b3, b4, b5, a6] _ := h4.set (i := 5) (by simp) b5
  exact h5.set (i := 6) (by simp) b6
theorem ButS.put7 (n : Nat) (w : World) (b0 b1 b2 b3 b4 b5 b6 : Value) : ButS (fun k => k = n) w (((((((w.setCell ⟨n, 0, none⟩ b0).setCell ⟨n, 1, none⟩ b1).setCell ⟨n, 2, none⟩ b2).setCell ⟨n, 3, none⟩ b3).setCell ⟨n, 4, none⟩ b4).setCell ⟨n, 5, none⟩ b5).setCell ⟨n, 6, none⟩ b6) :=
  ((((((ButS.set (S := fun k => k = n) _ (p := ⟨n, 0, none⟩) rfl b0).trans (ButS.set (S := fun k => k = n) _ (p := ⟨n, 1, none⟩) rfl b1)).trans (ButS.set (S := fun k => k = n) _ (p := ⟨n, 2, none⟩) rfl b2)).trans (ButS.set (S := fun k => k = n) _ (p := ⟨n, 3, none⟩) rfl b3)).trans (ButS.set (S := fun k => k = n) _ (p := ⟨n, 4, none⟩) rfl b4)).trans (ButS.set (S := fun k => k = n) _ (p := ⟨n, 5, none⟩) rfl b5)).trans (ButS.set (S := fun k => k = n) _ (p := ⟨n, 6, none⟩) rfl b6)
theorem own_put7 {W : World} {base e k m : Nat} {v : Value} {xs : List Value} {n : Nat} (h : W.ownsRow base e k v m xs) (hn : n < base) (b0 b1 b2 b3 b4 b5 b6 : Value) : (((((((W.setCell ⟨n, 0, none⟩ b0).setCell ⟨n, 1, none⟩ b1).setCell ⟨n, 2, none⟩ b2).setCell ⟨n, 3, none⟩ b3).setCell ⟨n, 4, none⟩ b4).setCell ⟨n, 5, none⟩ b5).setCell ⟨n, 6, none⟩ b6).ownsRow base e k v m xs := by
  have h0 := ownsRow_setCell_below h (a := ⟨n, 0, none⟩) hn b0
  have h1 := ownsRow_setCell_below h0 (a := ⟨n, 1, none⟩) hn b1
  have h2 := ownsRow_setCell_below h1 (a := ⟨n, 2, none⟩) hn b2
  have h3 := ownsRow_setCell_below h2 (a := ⟨n, 3, none⟩) hn b3
  have h4 := ownsRow_setCell_below h3 (a := ⟨n, 4, none⟩) hn b4
  have h5 := ownsRow_setCell_below h4 (a := ⟨n, 5, none⟩) hn b5
  exact ownsRow_setCell_below h5 (a := ⟨n, 6, none⟩) hn b6
abbrev sgC (k g n : Nat) (t : List UInt8) (v : Value) (u : Nat) (b : Bool) : Array Value := #[.int .u8 (k : Int), .int .u64 (g : Int), .int .u64 (n : Int), .string (bs t), v, .int .i64 (u : Int), .bool b]
abbrev sg0 : Array Value := #[.int .u8 0, .int .u64 0, .int .u64 0, .string ⟨#[]⟩, .slice none 0 0, .int .i64 0, .bool false]
def ParseG (s : List UInt8) (w : World) (e : Ending) (w' : World) : Prop :=
  ((Wl.parse sumF s = none ∧ ∃ er : Int, er ≠ 0 ∧ e = .returned (.tuple #[.agg sg0, .int .i64 er])) ∨
   (∃ x a cp, Wl.parse sumF s = some x ∧ e = .returned (.tuple #[.agg (sgC x.kind x.gen x.first x.text (.slice a x.recs.length cp) x.used x.whole), .int .i64 0]) ∧ w'.ownsRow w.heap.size 9 1 (.slice a x.recs.length cp) x.recs.length (x.recs.map (fun t => .string (bs t))))) ∧ Below w.heap.size w w'
def Txt (s : List UInt8) : Prop := ∀ n t u, Wl.dec sumF s = some (n, t, u) → n + s.length ≤ 281474976710656 ∧ ∀ k g r, t = k :: g :: r → g.toNat < 128
theorem below_but {B : Nat} {A w w' : World} {S : Nat → Prop} (h : Below B A w) (hb : ButS S w w') (hS : ∀ k, S k → B ≤ k) (hB : B ≤ A.heap.size) : Below B A w' :=
  ⟨hb.os.trans h.os, hb.tape.trans h.tape, hb.output.trans h.output, Nat.le_trans h.size hb.size, fun k hk => by
    have h2 := h.size
    exact (hb.block k (by omega) (fun hs => by have := hS k hs; omega)).trans (h.block k hk)⟩
theorem infoStr : (Try.prog.info? 9).map (fun i => (i.zero, i.size, i.bytes)) = some (some (.string ⟨#[]⟩), 1, 16) := by kernel_rfl
theorem recV_at : ∀ (T : List (List UInt8)) (n i : Nat), i < T.length → (recV n T)[i * 2]? = some (.int .u64 ((n + i : Nat) : Int)) ∧ (recV n T)[i * 2 + 1]? = some (.string (bs (T.getD i [])))
  | [], _, _, h => by simp at h
  | t :: r, n, 0, _ => ⟨rfl, rfl⟩
  | t :: r, n, i + 1, h => by
    obtain ⟨a, b⟩ := recV_at r (n + 1) i (by simpa using h)
    rw [show (i + 1) * 2 = i * 2 + 1 + 1 by omega]
    simp only [recV, List.getElem?_cons_succ, List.getD_cons_succ]
    rw [show n + (i + 1) = n + 1 + i by omega]
    exact ⟨a, b⟩
theorem take_snoc {α : Type} (l : List α) (d : α) (q : Nat) (h : q < l.length) : l.take (q + 1) = l.take q ++ [l.getD q d] := by
  rw [List.take_succ_eq_append_getElem h, List.getD_eq_getElem?_getD, List.getElem?_eq_getElem h]; rfl
theorem lens_take_le (T : List (List UInt8)) (q : Nat) : Wl.lens (T.take q) ≤ Wl.lens T := by
  induction T generalizing q with
  | nil => simp
  | cons t r ih =>
    cases q with
    | zero => simp [Wl.lens]
    | succ q =>
      have := ih q
      show 16 + t.length + Wl.lens (r.take q) ≤ 16 + t.length + Wl.lens r
      omega
theorem scan_lens : ∀ (f n : Nat) (s : List UInt8), Wl.lens (Wl.scan sumF f n s) ≤ s.length ∧ (Wl.scan sumF f n s).length ≤ s.length
  | 0, _, s => by simp [Wl.scan, Wl.lens]
  | f + 1, n, s => by
    cases hd : Wl.dec sumF s with
    | none => simp [Wl.scan, hd, Wl.lens]
    | some x =>
      obtain ⟨m, t, u⟩ := x
      have hu := Wl.dec_used sumF hd
      simp only [Wl.scan, hd]
      split
      · obtain ⟨a, b⟩ := scan_lens f (n + 1) (s.drop u)
        rw [List.length_drop] at a b
        refine ⟨?_, by rw [List.length_cons]; omega⟩
        show 16 + t.length + Wl.lens (Wl.scan sumF f (n + 1) (s.drop u)) ≤ _
        omega
      · simp [Wl.lens]
theorem parse_no {s : List UInt8} {w W : World} {er : Int} (hp : Wl.parse sumF s = none) (her : er ≠ 0) (hB : Below w.heap.size w W) : ParseG s w (.returned (.tuple #[.agg sg0, .int .i64 er])) W := ⟨Or.inl ⟨hp, er, her, rfl⟩, hB⟩
theorem parse_dec {s : List UInt8} (h : Wl.dec sumF s = none) : Wl.parse sumF s = none := by unfold Wl.parse; rw [h]
theorem uint_nil (r : Nat) (w : World) (hr : One r (rdC [] 0) w) :
    Calls Try.prog 67 #[.pointer (some ⟨r, 0, none⟩), .int .u64 281474976710656] w fun e w' => e = .returned (.int .u64 0) ∧ One r (rdC [] 6) w' ∧ ButS (fun k => k = r) w w' := by
  refine (wire_Uint [] (Or.inl rfl) (by simp) r w hr).mono ?_
  rintro e w' ⟨⟨_, he, h⟩ | ⟨g, t, h, _⟩, hb⟩
  · exact ⟨he, h, hb⟩
  · cases h
theorem uint_cons (g : UInt8) (t : List UInt8) (hg : g.toNat < 128) (hl : (g :: t).length ≤ 1000000) (r : Nat) (w : World) (hr : One r (rdC (g :: t) 0) w) :
    Calls Try.prog 67 #[.pointer (some ⟨r, 0, none⟩), .int .u64 281474976710656] w fun e w' => e = .returned (.int .u64 (g.toNat : Int)) ∧ One r (rdC t 0) w' ∧ ButS (fun k => k = r) w w' := by
  refine (wire_Uint (g :: t) (Or.inr ⟨g, t, rfl, hg⟩) hl r w hr).mono ?_
  rintro e w' ⟨⟨h, _⟩ | ⟨g', t', h, _, he, ho⟩, hb⟩
  · cases h
  · cases h; exact ⟨he, ho, hb⟩
set_option maxRecDepth 100000 in
set_option maxHeartbeats 4000000 in
theorem seg_Parse (s : List UInt8) (hl : s.length ≤ 1000000) (hT : Txt s) (w : World) :
    Calls Try.prog 45 #[.string (bs s)] w (ParseG s w) := by
  have e0 : bs [] = (⟨#[]⟩ : ByteArray) := rfl
  go_enter Try.func45, Try.ntmps45
  go_upto_region 1 with fail
  refine wp_abs (F := fun W => Hid (One w.heap.size sg0 W) ∧ Hid (Below w.heap.size w W)) ⟨Lib.hid (One.of _ _ _), Lib.hid ((Below.refl _ _).alloc (Nat.le_refl _) _)⟩ ?_
  rintro W0 ⟨HX0, HB0⟩
  have HD := Lib.hid (frame_Decode s hl W0)
  go_wp2_with fail
  refine HD.out.mono ?_
  rintro e w1 ⟨hD, hb1⟩
  have HX1 := Lib.hid (HX0.out.step hb1)
  have HB1 := Lib.hid (HB0.out.trans (hb1.mono HB0.out.size))
  clear HD hb1 HX0 HB0
  have hx1 := HX1.out
  have x0 := hx1.c 0; have x1 := hx1.c 1; have x2 := hx1.c 2; have x3 := hx1.c 3; have x4 := hx1.c 4; have x5 := hx1.c 5; have x6 := hx1.c 6
  have y0 := hx1.f 0; have y1 := hx1.f 1; have y2 := hx1.f 2; have y3 := hx1.f 3; have y4 := hx1.f 4; have y5 := hx1.f 5; have y6 := hx1.f 6
  simp at x0 x1 x2 x3 x4 x5 x6
  have hxl := hx1.lt
  clear hx1
  rcases hD with ⟨n, t, u, hd, rfl⟩ | ⟨hd, rfl⟩
  · go_upto_region 2 with fail
    refine wp_abs (F := fun W => Hid (One w.heap.size sg0 W) ∧ Hid (One w1.heap.size #[.int .u64 (n : Int), .string (bs t)] W) ∧ Hid (Below w.heap.size w W)) ⟨Lib.hid (HX1.out.step ((Below.refl _ _).alloc (Nat.le_refl _) _)), Lib.hid (One.of _ _ _), Lib.hid (HB1.out.alloc (by have := HB1.out.size; omega) _)⟩ ?_
    clear x0 x1 x2 x3 x4 x5 x6 y0 y1 y2 y3 y4 y5 y6
    rintro W2 ⟨HX2, HH2, HB2⟩
    have hx1 := HX2.out
    have x0 := hx1.c 0; have x1 := hx1.c 1; have x2 := hx1.c 2; have x3 := hx1.c 3; have x4 := hx1.c 4; have x5 := hx1.c 5; have x6 := hx1.c 6
    have y0 := hx1.f 0; have y1 := hx1.f 1; have y2 := hx1.f 2; have y3 := hx1.f 3; have y4 := hx1.f 4; have y5 := hx1.f 5; have y6 := hx1.f 6
    simp at x0 x1 x2 x3 x4 x5 x6
    clear hx1
    have c0 := HH2.out.c 0; have c1 := HH2.out.c 1
    simp at c0 c1
    have hu := Wl.dec_used sumF hd
    have htl : t.length ≤ 1000000 := by omega
    have HUU := Lib.hid hu
    clear hu
    have HDC := Lib.hid hd; have HTX := Lib.hid (hT n t u hd)
    obtain ⟨hb, hhb⟩ : ∃ x, w1.heap.size = x := ⟨_, rfl⟩
    have hxh : w.heap.size < hb := by omega
    rw [hhb] at HH2 c0 c1 ⊢
    clear hd HX1 HB1 hxl hhb
    cases t with
    | nil =>
      rw [e0] at c1
      go_wp2_with fail
      have hz := HX2.out.put7 (.int .u8 0) (.int .u64 0) (.int .u64 0) (.string ⟨#[]⟩) (.slice none 0 0) (.int .i64 0) (.bool false)
      have p0 := hz.c 0; have p1 := hz.c 1; have p2 := hz.c 2; have p3 := hz.c 3; have p4 := hz.c 4; have p5 := hz.c 5; have p6 := hz.c 6
      simp at p0 p1 p2 p3 p4 p5 p6
      exact bodyPost_ret (v := .tuple #[.agg sg0, .int .i64 7]) (by simp [results, Try.results45, go_sem, p0, p1, p2, p3, p4, p5, p6]) rfl (parse_no (by unfold Wl.parse; rw [HDC.out]) (by decide) (below_but HB2.out (ButS.put7 w.heap.size _ _ _ _ _ _ _ _) (fun k h => by omega) (Nat.le_refl _)))
    | cons k t1 =>
      have hne : (bs (k :: t1)).toList.isEmpty = false := by simp [bs]
      obtain ⟨L, hL⟩ : ∃ L, (bs (k :: t1)).size = L := ⟨_, rfl⟩
      have hL1 : Hid (L = t1.length + 1) := Lib.hid (by rw [← hL, bs_size]; simp)
      have hLn : ¬ (L : Int) < 1 := by have := hL1.out; omega
      have hx : (bs (k :: t1)).extract 1 L = bs t1 := by rw [bs_extract, ← hL, bs_size]; simp
      have HNW := Lib.hid (wire_New t1 W2)
      go_wp2_with fail
      refine HNW.out.mono ?_
      rintro e w3 ⟨rfl, hr3, hb3⟩
      have HX3 := Lib.hid (HX2.out.step hb3)
      have HH3 := Lib.hid (HH2.out.step hb3)
      have HB3 := Lib.hid (HB2.out.trans (hb3.mono HB2.out.size))
      have hrl := hr3.lt
      have hhl := HH2.out.lt
      have HR3 := Lib.hid hr3
      obtain ⟨r, hrr⟩ : ∃ x, W2.heap.size = x := ⟨_, rfl⟩
      rw [hrr] at HR3 hhl hrl ⊢
      clear HNW hb3 HX2 HH2 HB2 hr3 c0 c1 x0 x1 x2 x3 x4 x5 x6 y0 y1 y2 y3 y4 y5 y6 hrr
      have c0 := HH3.out.c 0; have c1 := HH3.out.c 1
      simp at c0 c1
      have hget : ∀ h, (bs (k :: t1))[0]'h = k := fun h => by simp [bs]; rfl
      obtain ⟨kn, hkn⟩ : ∃ x, k.toNat = x := ⟨_, rfl⟩
      have hidx : ∀ h, (((bs (k :: t1))[0]'h).toNat : Int) = (kn : Int) := fun h => by rw [hget h, hkn]
      have HKN := Lib.hid hkn
      clear hkn hget
      have hL0 : ¬ L = 0 := by have := hL1.out; omega
      have hLp : (0 : Int) < (L : Int) := by have := hL1.out; omega
      cases t1 with
      | nil =>
        have HU := Lib.hid (uint_nil r w3.drew (HR3.out.drewN 1))
        go_upto_region 7 with fail
        refine wp_region_held_drew (S := fun w' => w'.cell? ⟨hb, 0, none⟩ = some (.int .u64 (n : Int)) ∧ w'.cell? ⟨hb, 1, none⟩ = some (.string (bs (k :: [])))) (by kernel_rfl) (⟨c0, c1⟩) (fun hS => ?_)
        refine wpAnyH_take (i := 0) (v := .pointer (some ⟨hb, 1, none⟩)) rfl (by kernel_rfl) (by kernel_rfl) (by kernel_rfl) (fun _ _ _ h => h) (Or.inl ⟨by rfl, fun w' hw => ?_⟩) hS ?_
        · obtain ⟨h1, h2⟩ := hw
          go_simp
        simp only [Act.put, List.getElem_toArray, List.getElem_cons_zero, List.setIfInBounds_toArray, List.set_cons_zero, List.set_cons_succ]
        refine wpAnyH_take (i := 1) (v := .string (bs (k :: []))) rfl (by kernel_rfl) (by kernel_rfl) (by kernel_rfl) (fun _ _ _ h => h) (Or.inl ⟨by rfl, fun w' hw => ?_⟩) hS ?_
        · obtain ⟨h1, h2⟩ := hw
          go_simp
        simp only [Act.put, List.getElem_toArray, List.getElem_cons_succ, List.getElem_cons_zero, List.setIfInBounds_toArray, List.set_cons_zero, List.set_cons_succ]
        refine wpAnyH_take (i := 2) (v := .int .u8 (kn : Int)) rfl (by kernel_rfl) (by kernel_rfl) (by kernel_rfl) (fun _ _ _ h => h) (Or.inl ⟨by rfl, fun w' hw => ?_⟩) hS ?_
        · obtain ⟨h1, h2⟩ := hw
          go_simp
        simp only [Act.put, List.getElem_toArray, List.getElem_cons_succ, List.getElem_cons_zero, List.setIfInBounds_toArray, List.set_cons_zero, List.set_cons_succ]
        refine wpAnyH_take (i := 3) (v := .pointer (some ⟨r, 0, none⟩)) rfl (by kernel_rfl) (by kernel_rfl) (by kernel_rfl) (fun _ _ _ h => h) (Or.inl ⟨by rfl, fun w' hw => ?_⟩) hS ?_
        · obtain ⟨h1, h2⟩ := hw
          go_simp
        simp only [Act.put, List.getElem_toArray, List.getElem_cons_succ, List.getElem_cons_zero, List.setIfInBounds_toArray, List.set_cons_zero, List.set_cons_succ]
        refine wpAnyH_take (i := 5) (v := .pointer (some ⟨hb, 0, none⟩)) rfl (by kernel_rfl) (by kernel_rfl) (by kernel_rfl) (fun _ _ _ h => h) (Or.inl ⟨by rfl, fun w' hw => ?_⟩) hS ?_
        · obtain ⟨h1, h2⟩ := hw
          go_simp
        simp only [Act.put, List.getElem_toArray, List.getElem_cons_succ, List.getElem_cons_zero, List.setIfInBounds_toArray, List.set_cons_zero, List.set_cons_succ]
        refine wpAnyH_take (i := 6) (v := .int .u64 (n : Int)) rfl (by kernel_rfl) (by kernel_rfl) (by kernel_rfl) (fun _ _ _ h => h) (Or.inl ⟨by rfl, fun w' hw => ?_⟩) hS ?_
        · obtain ⟨h1, h2⟩ := hw
          go_simp
        simp only [Act.put, List.getElem_toArray, List.getElem_cons_succ, List.getElem_cons_zero, List.setIfInBounds_toArray, List.set_cons_zero, List.set_cons_succ]
        refine wpAnyH_take (i := 7) (v := .int .i64 (u : Int)) rfl (by kernel_rfl) (by kernel_rfl) (by kernel_rfl) (fun _ _ _ h => h) (Or.inl ⟨by rfl, fun w' hw => ?_⟩) hS ?_
        · obtain ⟨h1, h2⟩ := hw
          go_simp
        simp only [Act.put, List.getElem_toArray, List.getElem_cons_succ, List.getElem_cons_zero, List.setIfInBounds_toArray, List.set_cons_zero, List.set_cons_succ]
        refine wpAnyH_ready (rs := [4]) (by kernel_rfl) (by simp) ?_
        refine AllReadyH.cons rfl (fun K hK => ?_) AllReadyH.nil
        rw [if_pos (by rfl)]
        go_simp
        refine HU.out.mono ?_
        rintro e w4 ⟨rfl, hr4, hb4⟩
        have HX4 := Lib.hid ((HX3.out.drewN 1).but hb4 (by omega))
        have HH4 := Lib.hid ((HH3.out.drewN 1).but hb4 (by omega))
        have HB4 : Hid (Below w.heap.size w w4) := Lib.hid (below_but HB3.out (S := fun k => k = r) ⟨hb4.os, hb4.tape, hb4.output, hb4.size, hb4.block⟩ (fun k h => by omega) (Nat.le_refl _))
        have HR4 := Lib.hid hr4
        clear hr4 hb4
        have d0 := HH4.out.c 0; have d1 := HH4.out.c 1
        simp at d0 d1
        have hx1 := HX4.out
        have x0 := hx1.c 0; have x1 := hx1.c 1; have x2 := hx1.c 2; have x3 := hx1.c 3; have x4 := hx1.c 4; have x5 := hx1.c 5; have x6 := hx1.c 6
        have y0 := hx1.f 0; have y1 := hx1.f 1; have y2 := hx1.f 2; have y3 := hx1.f 3; have y4 := hx1.f 4; have y5 := hx1.f 5; have y6 := hx1.f 6
        simp at x0 x1 x2 x3 x4 x5 x6
        clear hx1
        go_simp
        refine hK.out _ _ ⟨d0, d1⟩ (fun hS => ?_)
        clear hK
        (try go_frame)
        refine wpAnyH_take (i := 8) (v := .agg #[.int .u8 (kn : Int), .int .u64 0, .int .u64 (n : Int), .string ⟨#[]⟩, .slice none 0 0, .int .i64 (u : Int), .bool false]) rfl (by kernel_rfl) (by kernel_rfl) (by kernel_rfl) (fun _ _ _ h => h) (Or.inl ⟨by rfl, fun w' hw => ?_⟩) hS ?_
        · obtain ⟨h1, h2⟩ := hw
          go_simp
        simp only [Act.put, List.getElem_toArray, List.getElem_cons_succ, List.getElem_cons_zero, List.setIfInBounds_toArray, List.set_cons_zero, List.set_cons_succ]
        refine wpAnyH_ready (rs := [9]) (by kernel_rfl) (by simp) ?_
        refine AllReadyH.cons rfl (fun K hK => ?_) AllReadyH.nil
        rw [if_pos (by rfl)]
        go_simp
        have HX5 := Lib.hid (HX4.out.put7 (.int .u8 (kn : Int)) (.int .u64 0) (.int .u64 (n : Int)) (.string ⟨#[]⟩) (.slice none 0 0) (.int .i64 (u : Int)) (.bool false))
        have hb5 := ButS.put7 w.heap.size w4 (.int .u8 (kn : Int)) (.int .u64 0) (.int .u64 (n : Int)) (.string ⟨#[]⟩) (.slice none 0 0) (.int .i64 (u : Int)) (.bool false)
        have HH5 := Lib.hid (HH4.out.but hb5 (by omega)); have HR5 := Lib.hid (HR4.out.but hb5 (by omega)); have HB5 := Lib.hid (below_but HB4.out hb5 (fun k h => by omega) (Nat.le_refl _))
        have g0 := HH5.out.c 0; have g1 := HH5.out.c 1
        simp at g0 g1
        clear hb5 x0 x1 x2 x3 x4 x5 x6 y0 y1 y2 y3 y4 y5 y6
        generalize ((((((w4.setCell ⟨w.heap.size, 0, none⟩ (.int .u8 (kn : Int))).setCell ⟨w.heap.size, 1, none⟩ (.int .u64 0)).setCell ⟨w.heap.size, 2, none⟩ (.int .u64 (n : Int))).setCell ⟨w.heap.size, 3, none⟩ (.string ⟨#[]⟩)).setCell ⟨w.heap.size, 4, none⟩ (.slice none 0 0)).setCell ⟨w.heap.size, 5, none⟩ (.int .i64 (u : Int))).setCell ⟨w.heap.size, 6, none⟩ (.bool false) = w5 at HX5 HH5 HR5 HB5 g0 g1 ⊢
        refine hK.out _ _ ⟨g0, g1⟩ (fun hS => ?_)
        clear hK
        (try go_frame)
        refine wpAnyH_done (by kernel_rfl) ?_ _
        clear hS
        have HE := Lib.hid (wire_Err [] 6 r w5 HR5.out)
        go_wp2_with fail
        refine HE.out.mono ?_
        rintro e w6 ⟨rfl, hw6⟩
        subst w6
        have hx1 := HX5.out
        have x0 := hx1.c 0; have x1 := hx1.c 1; have x2 := hx1.c 2; have x3 := hx1.c 3; have x4 := hx1.c 4; have x5 := hx1.c 5; have x6 := hx1.c 6
        have y0 := hx1.f 0; have y1 := hx1.f 1; have y2 := hx1.f 2; have y3 := hx1.f 3; have y4 := hx1.f 4; have y5 := hx1.f 5; have y6 := hx1.f 6
        simp at x0 x1 x2 x3 x4 x5 x6
        clear hx1
        go_wp2_with fail
        have hz := HX5.out.put7 (.int .u8 0) (.int .u64 0) (.int .u64 0) (.string ⟨#[]⟩) (.slice none 0 0) (.int .i64 0) (.bool false)
        have p0 := hz.c 0; have p1 := hz.c 1; have p2 := hz.c 2; have p3 := hz.c 3; have p4 := hz.c 4; have p5 := hz.c 5; have p6 := hz.c 6
        simp at p0 p1 p2 p3 p4 p5 p6
        exact bodyPost_ret (v := .tuple #[.agg sg0, .int .i64 7]) (by simp [results, Try.results45, go_sem, p0, p1, p2, p3, p4, p5, p6]) rfl (parse_no (by unfold Wl.parse; rw [HDC.out]) (by decide) (below_but HB5.out (ButS.put7 w.heap.size _ _ _ _ _ _ _ _) (fun k h => by omega) (Nat.le_refl _)))
      | cons g t2 =>
        have hg := HTX.out.2 k g t2 rfl
        have HU := Lib.hid (uint_cons g t2 hg (by simp at htl ⊢; omega) r w3.drew (HR3.out.drewN 1))
        obtain ⟨gn, hgn⟩ : ∃ x, g.toNat = x := ⟨_, rfl⟩
        rw [hgn] at HU hg
        have HGN := Lib.hid hgn
        clear hgn
        go_upto_region 7 with fail
        refine wp_region_held_drew (S := fun w' => w'.cell? ⟨hb, 0, none⟩ = some (.int .u64 (n : Int)) ∧ w'.cell? ⟨hb, 1, none⟩ = some (.string (bs (k :: (g :: t2))))) (by kernel_rfl) (⟨c0, c1⟩) (fun hS => ?_)
        refine wpAnyH_take (i := 0) (v := .pointer (some ⟨hb, 1, none⟩)) rfl (by kernel_rfl) (by kernel_rfl) (by kernel_rfl) (fun _ _ _ h => h) (Or.inl ⟨by rfl, fun w' hw => ?_⟩) hS ?_
        · obtain ⟨h1, h2⟩ := hw
          go_simp
        simp only [Act.put, List.getElem_toArray, List.getElem_cons_zero, List.setIfInBounds_toArray, List.set_cons_zero, List.set_cons_succ]
        refine wpAnyH_take (i := 1) (v := .string (bs (k :: (g :: t2)))) rfl (by kernel_rfl) (by kernel_rfl) (by kernel_rfl) (fun _ _ _ h => h) (Or.inl ⟨by rfl, fun w' hw => ?_⟩) hS ?_
        · obtain ⟨h1, h2⟩ := hw
          go_simp
        simp only [Act.put, List.getElem_toArray, List.getElem_cons_succ, List.getElem_cons_zero, List.setIfInBounds_toArray, List.set_cons_zero, List.set_cons_succ]
        refine wpAnyH_take (i := 2) (v := .int .u8 (kn : Int)) rfl (by kernel_rfl) (by kernel_rfl) (by kernel_rfl) (fun _ _ _ h => h) (Or.inl ⟨by rfl, fun w' hw => ?_⟩) hS ?_
        · obtain ⟨h1, h2⟩ := hw
          go_simp
        simp only [Act.put, List.getElem_toArray, List.getElem_cons_succ, List.getElem_cons_zero, List.setIfInBounds_toArray, List.set_cons_zero, List.set_cons_succ]
        refine wpAnyH_take (i := 3) (v := .pointer (some ⟨r, 0, none⟩)) rfl (by kernel_rfl) (by kernel_rfl) (by kernel_rfl) (fun _ _ _ h => h) (Or.inl ⟨by rfl, fun w' hw => ?_⟩) hS ?_
        · obtain ⟨h1, h2⟩ := hw
          go_simp
        simp only [Act.put, List.getElem_toArray, List.getElem_cons_succ, List.getElem_cons_zero, List.setIfInBounds_toArray, List.set_cons_zero, List.set_cons_succ]
        refine wpAnyH_take (i := 5) (v := .pointer (some ⟨hb, 0, none⟩)) rfl (by kernel_rfl) (by kernel_rfl) (by kernel_rfl) (fun _ _ _ h => h) (Or.inl ⟨by rfl, fun w' hw => ?_⟩) hS ?_
        · obtain ⟨h1, h2⟩ := hw
          go_simp
        simp only [Act.put, List.getElem_toArray, List.getElem_cons_succ, List.getElem_cons_zero, List.setIfInBounds_toArray, List.set_cons_zero, List.set_cons_succ]
        refine wpAnyH_take (i := 6) (v := .int .u64 (n : Int)) rfl (by kernel_rfl) (by kernel_rfl) (by kernel_rfl) (fun _ _ _ h => h) (Or.inl ⟨by rfl, fun w' hw => ?_⟩) hS ?_
        · obtain ⟨h1, h2⟩ := hw
          go_simp
        simp only [Act.put, List.getElem_toArray, List.getElem_cons_succ, List.getElem_cons_zero, List.setIfInBounds_toArray, List.set_cons_zero, List.set_cons_succ]
        refine wpAnyH_take (i := 7) (v := .int .i64 (u : Int)) rfl (by kernel_rfl) (by kernel_rfl) (by kernel_rfl) (fun _ _ _ h => h) (Or.inl ⟨by rfl, fun w' hw => ?_⟩) hS ?_
        · obtain ⟨h1, h2⟩ := hw
          go_simp
        simp only [Act.put, List.getElem_toArray, List.getElem_cons_succ, List.getElem_cons_zero, List.setIfInBounds_toArray, List.set_cons_zero, List.set_cons_succ]
        refine wpAnyH_ready (rs := [4]) (by kernel_rfl) (by simp) ?_
        refine AllReadyH.cons rfl (fun K hK => ?_) AllReadyH.nil
        rw [if_pos (by rfl)]
        go_simp
        refine HU.out.mono ?_
        rintro e w4 ⟨rfl, hr4, hb4⟩
        have HX4 := Lib.hid ((HX3.out.drewN 1).but hb4 (by omega))
        have HH4 := Lib.hid ((HH3.out.drewN 1).but hb4 (by omega))
        have HB4 : Hid (Below w.heap.size w w4) := Lib.hid (below_but HB3.out (S := fun k => k = r) ⟨hb4.os, hb4.tape, hb4.output, hb4.size, hb4.block⟩ (fun k h => by omega) (Nat.le_refl _))
        have HR4 := Lib.hid hr4
        clear hr4 hb4
        have d0 := HH4.out.c 0; have d1 := HH4.out.c 1
        simp at d0 d1
        have hx1 := HX4.out
        have x0 := hx1.c 0; have x1 := hx1.c 1; have x2 := hx1.c 2; have x3 := hx1.c 3; have x4 := hx1.c 4; have x5 := hx1.c 5; have x6 := hx1.c 6
        have y0 := hx1.f 0; have y1 := hx1.f 1; have y2 := hx1.f 2; have y3 := hx1.f 3; have y4 := hx1.f 4; have y5 := hx1.f 5; have y6 := hx1.f 6
        simp at x0 x1 x2 x3 x4 x5 x6
        clear hx1
        go_simp
        refine hK.out _ _ ⟨d0, d1⟩ (fun hS => ?_)
        clear hK
        (try go_frame)
        refine wpAnyH_take (i := 8) (v := .agg #[.int .u8 (kn : Int), .int .u64 (gn : Int), .int .u64 (n : Int), .string ⟨#[]⟩, .slice none 0 0, .int .i64 (u : Int), .bool false]) rfl (by kernel_rfl) (by kernel_rfl) (by kernel_rfl) (fun _ _ _ h => h) (Or.inl ⟨by rfl, fun w' hw => ?_⟩) hS ?_
        · obtain ⟨h1, h2⟩ := hw
          go_simp
        simp only [Act.put, List.getElem_toArray, List.getElem_cons_succ, List.getElem_cons_zero, List.setIfInBounds_toArray, List.set_cons_zero, List.set_cons_succ]
        refine wpAnyH_ready (rs := [9]) (by kernel_rfl) (by simp) ?_
        refine AllReadyH.cons rfl (fun K hK => ?_) AllReadyH.nil
        rw [if_pos (by rfl)]
        go_simp
        have HX5 := Lib.hid (HX4.out.put7 (.int .u8 (kn : Int)) (.int .u64 (gn : Int)) (.int .u64 (n : Int)) (.string ⟨#[]⟩) (.slice none 0 0) (.int .i64 (u : Int)) (.bool false))
        have hb5 := ButS.put7 w.heap.size w4 (.int .u8 (kn : Int)) (.int .u64 (gn : Int)) (.int .u64 (n : Int)) (.string ⟨#[]⟩) (.slice none 0 0) (.int .i64 (u : Int)) (.bool false)
        have HH5 := Lib.hid (HH4.out.but hb5 (by omega)); have HR5 := Lib.hid (HR4.out.but hb5 (by omega)); have HB5 := Lib.hid (below_but HB4.out hb5 (fun k h => by omega) (Nat.le_refl _))
        have g0 := HH5.out.c 0; have g1 := HH5.out.c 1
        simp at g0 g1
        clear hb5 x0 x1 x2 x3 x4 x5 x6 y0 y1 y2 y3 y4 y5 y6
        generalize ((((((w4.setCell ⟨w.heap.size, 0, none⟩ (.int .u8 (kn : Int))).setCell ⟨w.heap.size, 1, none⟩ (.int .u64 (gn : Int))).setCell ⟨w.heap.size, 2, none⟩ (.int .u64 (n : Int))).setCell ⟨w.heap.size, 3, none⟩ (.string ⟨#[]⟩)).setCell ⟨w.heap.size, 4, none⟩ (.slice none 0 0)).setCell ⟨w.heap.size, 5, none⟩ (.int .i64 (u : Int))).setCell ⟨w.heap.size, 6, none⟩ (.bool false) = w5 at HX5 HH5 HR5 HB5 g0 g1 ⊢
        refine hK.out _ _ ⟨g0, g1⟩ (fun hS => ?_)
        clear hK
        (try go_frame)
        refine wpAnyH_done (by kernel_rfl) ?_ _
        clear hS
        have HE := Lib.hid (wire_Err t2 0 r w5 HR5.out)
        have HLF := Lib.hid (wire_Left t2 0 r w5.drew (HR5.out.drewN 1))
        obtain ⟨m, hm⟩ : ∃ x, t2.length = x := ⟨_, rfl⟩
        rw [hm] at HLF
        have hsub : (L : Int) - (m : Int) = 2 := by have := hL1.out; simp at this; omega
        have hL2 : ¬ (L : Int) < 2 := by have := hL1.out; simp at this; omega
        have h2w : IntKind.i64.wrap 2 = 2 := by decide
        have hx2 : (bs (k :: g :: t2)).extract 2 L = bs t2 := by rw [bs_extract, ← hL, bs_size]; simp
        have HM := Lib.hid hm
        clear hm
        go_wp2_with fail
        refine HE.out.mono ?_
        rintro e w6 ⟨rfl, hw6⟩
        subst w6
        have hx1 := HX5.out
        have x0 := hx1.c 0; have x1 := hx1.c 1; have x2 := hx1.c 2; have x3 := hx1.c 3; have x4 := hx1.c 4; have x5 := hx1.c 5; have x6 := hx1.c 6
        have y0 := hx1.f 0; have y1 := hx1.f 1; have y2 := hx1.f 2; have y3 := hx1.f 3; have y4 := hx1.f 4; have y5 := hx1.f 5; have y6 := hx1.f 6
        simp at x0 x1 x2 x3 x4 x5 x6
        clear hx1
        go_upto_region 10 with fail
        refine wp_region_held_drew (S := fun w' => w'.cell? ⟨hb, 0, none⟩ = some (.int .u64 (n : Int)) ∧ w'.cell? ⟨hb, 1, none⟩ = some (.string (bs (k :: g :: t2)))) (by kernel_rfl) (⟨g0, g1⟩) (fun hS => ?_)
        refine wpAnyH_take (i := 0) (v := .pointer (some ⟨hb, 1, none⟩)) rfl (by kernel_rfl) (by kernel_rfl) (by kernel_rfl) (fun _ _ _ h => h) (Or.inl ⟨by rfl, fun w' hw => ?_⟩) hS ?_
        · obtain ⟨h1, h2⟩ := hw
          go_simp
        simp only [Act.put, List.getElem_toArray, List.getElem_cons_zero, List.setIfInBounds_toArray, List.set_cons_zero, List.set_cons_succ]
        refine wpAnyH_take (i := 1) (v := .string (bs (k :: g :: t2))) rfl (by kernel_rfl) (by kernel_rfl) (by kernel_rfl) (fun _ _ _ h => h) (Or.inl ⟨by rfl, fun w' hw => ?_⟩) hS ?_
        · obtain ⟨h1, h2⟩ := hw
          go_simp
        simp only [Act.put, List.getElem_toArray, List.getElem_cons_succ, List.getElem_cons_zero, List.setIfInBounds_toArray, List.set_cons_zero, List.set_cons_succ]
        refine wpAnyH_take (i := 2) (v := .pointer (some ⟨hb, 1, none⟩)) rfl (by kernel_rfl) (by kernel_rfl) (by kernel_rfl) (fun _ _ _ h => h) (Or.inl ⟨by rfl, fun w' hw => ?_⟩) hS ?_
        · obtain ⟨h1, h2⟩ := hw
          go_simp
        simp only [Act.put, List.getElem_toArray, List.getElem_cons_succ, List.getElem_cons_zero, List.setIfInBounds_toArray, List.set_cons_zero, List.set_cons_succ]
        refine wpAnyH_take (i := 3) (v := .string (bs (k :: g :: t2))) rfl (by kernel_rfl) (by kernel_rfl) (by kernel_rfl) (fun _ _ _ h => h) (Or.inl ⟨by rfl, fun w' hw => ?_⟩) hS ?_
        · obtain ⟨h1, h2⟩ := hw
          go_simp
        simp only [Act.put, List.getElem_toArray, List.getElem_cons_succ, List.getElem_cons_zero, List.setIfInBounds_toArray, List.set_cons_zero, List.set_cons_succ]
        refine wpAnyH_take (i := 4) (v := .int .i64 (L : Int)) rfl (by kernel_rfl) (by kernel_rfl) (by kernel_rfl) (fun _ _ _ h => h) (Or.inl ⟨by rfl, fun w' hw => ?_⟩) hS ?_
        · obtain ⟨h1, h2⟩ := hw
          go_simp
        simp only [Act.put, List.getElem_toArray, List.getElem_cons_succ, List.getElem_cons_zero, List.setIfInBounds_toArray, List.set_cons_zero, List.set_cons_succ]
        refine wpAnyH_take (i := 5) (v := .pointer (some ⟨r, 0, none⟩)) rfl (by kernel_rfl) (by kernel_rfl) (by kernel_rfl) (fun _ _ _ h => h) (Or.inl ⟨by rfl, fun w' hw => ?_⟩) hS ?_
        · obtain ⟨h1, h2⟩ := hw
          go_simp
        simp only [Act.put, List.getElem_toArray, List.getElem_cons_succ, List.getElem_cons_zero, List.setIfInBounds_toArray, List.set_cons_zero, List.set_cons_succ]
        refine wpAnyH_ready (rs := [6]) (by kernel_rfl) (by simp) ?_
        refine AllReadyH.cons rfl (fun K hK => ?_) AllReadyH.nil
        rw [if_pos (by rfl)]
        go_simp
        refine HLF.out.mono ?_
        rintro e w6 ⟨rfl, hw6⟩
        subst w6
        go_simp
        refine hK.out _ _ hS (fun hS => ?_)
        clear hK
        (try go_frame)
        refine wpAnyH_take (i := 7) (v := .int .i64 2) rfl (by kernel_rfl) (by kernel_rfl) (by kernel_rfl) (fun _ _ _ h => h) (Or.inl ⟨by rfl, fun w' hw => ?_⟩) hS ?_
        · obtain ⟨h1, h2⟩ := hw
          go_simp
        simp only [Act.put, List.getElem_toArray, List.getElem_cons_succ, List.getElem_cons_zero, List.setIfInBounds_toArray, List.set_cons_zero, List.set_cons_succ]
        refine wpAnyH_take (i := 8) (v := .string (bs t2)) rfl (by kernel_rfl) (by kernel_rfl) (by kernel_rfl) (fun _ _ _ h => h) (Or.inl ⟨by rfl, fun w' hw => ?_⟩) hS ?_
        · obtain ⟨h1, h2⟩ := hw
          go_simp
        simp only [Act.put, List.getElem_toArray, List.getElem_cons_succ, List.getElem_cons_zero, List.setIfInBounds_toArray, List.set_cons_zero, List.set_cons_succ]
        refine wpAnyH_take (i := 9) (v := .pointer (some ⟨w.heap.size, 3, none⟩)) rfl (by kernel_rfl) (by kernel_rfl) (by kernel_rfl) (fun _ _ _ h => h) (Or.inl ⟨by rfl, fun w' hw => ?_⟩) hS ?_
        · obtain ⟨h1, h2⟩ := hw
          go_simp
        simp only [Act.put, List.getElem_toArray, List.getElem_cons_succ, List.getElem_cons_zero, List.setIfInBounds_toArray, List.set_cons_zero, List.set_cons_succ]
        refine wpAnyH_ready (rs := [10]) (by kernel_rfl) (by simp) ?_
        refine AllReadyH.cons rfl (fun K hK => ?_) AllReadyH.nil
        rw [if_pos (by rfl)]
        go_simp
        have HX7 : Hid (One w.heap.size (sgC kn gn n t2 (.slice none 0 0) u false) (w5.setCell ⟨w.heap.size, 3, none⟩ (.string (bs t2))).drew) := Lib.hid ((HX5.out.set (i := 3) (by simp) (.string (bs t2))).drewN 1)
        have hb7 : ButS (fun k => k = w.heap.size) w5 (w5.setCell ⟨w.heap.size, 3, none⟩ (.string (bs t2))).drew := (ButS.set (S := fun k => k = w.heap.size) w5 (p := ⟨w.heap.size, 3, none⟩) rfl (.string (bs t2))).drewN 1
        have HH7 := Lib.hid (HH5.out.but hb7 (by omega)); have HB7 := Lib.hid (below_but HB5.out hb7 (fun k h => by omega) (Nat.le_refl _))
        clear hb7 g0 g1 x0 x1 x2 x3 x4 x5 x6 y0 y1 y2 y3 y4 y5 y6
        generalize (w5.setCell ⟨w.heap.size, 3, none⟩ (.string (bs t2))).drew = w7 at HX7 HH7 HB7 ⊢
        have g0 := HH7.out.c 0; have g1 := HH7.out.c 1
        simp at g0 g1
        refine hK.out _ _ ⟨g0, g1⟩ (fun hS => ?_)
        clear hK
        (try go_frame)
        refine wpAnyH_done (by kernel_rfl) ?_ _
        clear hS HE HLF hsub hx2 hL2
        have hx1 := HX7.out
        have x0 := hx1.c 0; have x1 := hx1.c 1; have x2 := hx1.c 2; have x3 := hx1.c 3; have x4 := hx1.c 4; have x5 := hx1.c 5; have x6 := hx1.c 6
        have y0 := hx1.f 0; have y1 := hx1.f 1; have y2 := hx1.f 2; have y3 := hx1.f 3; have y4 := hx1.f 4; have y5 := hx1.f 5; have y6 := hx1.f 6
        simp at x0 x1 x2 x3 x4 x5 x6
        clear hx1
        have HDL := Lib.hid (Wl.dec_len sumF HDC.out)
        have hdw : w7.heap.size = w7.heap.size := rfl
        by_cases hok : okH kn gn n t2
        · have HHD := Lib.hid (seg_Head kn gn n t2 hok hg (by have := HDL.out; simp at this; omega) w7)
          clear hdw
          go_wp2_with fail
          refine HHD.out.mono ?_
          rintro e w8 ⟨rfl, hb8⟩
          have HX8 := Lib.hid (HX7.out.step hb8); have HB8 := Lib.hid (HB7.out.trans (hb8.mono HB7.out.size))
          clear hb8 x0 x1 x2 x3 x4 x5 x6 y0 y1 y2 y3 y4 y5 y6 g0 g1
          have hx1 := HX8.out
          have x0 := hx1.c 0; have x1 := hx1.c 1; have x2 := hx1.c 2; have x3 := hx1.c 3; have x4 := hx1.c 4; have x5 := hx1.c 5; have x6 := hx1.c 6
          have y0 := hx1.f 0; have y1 := hx1.f 1; have y2 := hx1.f 2; have y3 := hx1.f 3; have y4 := hx1.f 4; have y5 := hx1.f 5; have y6 := hx1.f 6
          simp at x0 x1 x2 x3 x4 x5 x6
          clear hx1
          have hxs : (bs s).extract u (bs s).size = bs (s.drop u) := by rw [bs_extract, bs_size, List.take_of_length_le (by rw [List.length_drop]; exact Nat.le_refl _)]
          obtain ⟨Ls, hLs⟩ : ∃ x, (bs s).size = x := ⟨_, rfl⟩
          rw [hLs] at hxs
          have hLs2 : Hid (Ls = s.length) := Lib.hid (by rw [← hLs, bs_size])
          have huL : ¬ (Ls : Int) < (u : Int) := by have := hLs2.out; have := HUU.out; omega
          have HSC := Lib.hid (frame_Scan (s.drop u) n w8.drew (by rw [List.length_drop]; omega) (by have := HTX.out.1; omega))
          unfold ScanG at HSC
          have hscan : Wl.scan sumF ((s.drop u).length + 1) n (s.drop u) = Wl.scan sumF (s.length + 1) n (s.drop u) := Wl.scan_fuel sumF _ _ _ _ (by omega) (by rw [List.length_drop]; omega)
          rw [hscan] at HSC
          have hsl := scan_lens (s.length + 1) n (s.drop u)
          obtain ⟨T, hTT⟩ : ∃ x, Wl.scan sumF (s.length + 1) n (s.drop u) = x := ⟨_, rfl⟩
          rw [hTT] at HSC hsl
          rw [List.length_drop] at hsl
          obtain ⟨nT, hnT⟩ : ∃ x, T.length = x := ⟨_, rfl⟩
          rw [hnT] at HSC hsl
          have HTT := Lib.hid hTT; have HNT := Lib.hid hnT; have HSL := Lib.hid hsl
          clear hTT hnT hsl hscan
          go_upto_region 14 with fail
          refine wp_region_held_drew (S := fun w' => w'.cell? ⟨w.heap.size, 2, none⟩ = some (.int .u64 (n : Int))) (by kernel_rfl) (x2) (fun hS => ?_)
          refine wpAnyH_take (i := 0) (v := .string (bs s)) rfl (by kernel_rfl) (by kernel_rfl) (by kernel_rfl) (fun _ _ _ h => h) (Or.inl ⟨by rfl, fun w' hw => ?_⟩) hS ?_
          · skip
            go_simp
          simp only [Act.put, List.getElem_toArray, List.getElem_cons_zero, List.setIfInBounds_toArray, List.set_cons_zero, List.set_cons_succ]
          refine wpAnyH_take (i := 1) (v := .int .i64 (u : Int)) rfl (by kernel_rfl) (by kernel_rfl) (by kernel_rfl) (fun _ _ _ h => h) (Or.inl ⟨by rfl, fun w' hw => ?_⟩) hS ?_
          · skip
            go_simp
          simp only [Act.put, List.getElem_toArray, List.getElem_cons_succ, List.getElem_cons_zero, List.setIfInBounds_toArray, List.set_cons_zero, List.set_cons_succ]
          refine wpAnyH_take (i := 2) (v := .string (bs (s.drop u))) rfl (by kernel_rfl) (by kernel_rfl) (by kernel_rfl) (fun _ _ _ h => h) (Or.inl ⟨by rfl, fun w' hw => ?_⟩) hS ?_
          · skip
            go_simp
          simp only [Act.put, List.getElem_toArray, List.getElem_cons_succ, List.getElem_cons_zero, List.setIfInBounds_toArray, List.set_cons_zero, List.set_cons_succ]
          refine wpAnyH_take (i := 3) (v := .pointer (some ⟨w.heap.size, 2, none⟩)) rfl (by kernel_rfl) (by kernel_rfl) (by kernel_rfl) (fun _ _ _ h => h) (Or.inl ⟨by rfl, fun w' hw => ?_⟩) hS ?_
          · skip
            go_simp
          simp only [Act.put, List.getElem_toArray, List.getElem_cons_succ, List.getElem_cons_zero, List.setIfInBounds_toArray, List.set_cons_zero, List.set_cons_succ]
          refine wpAnyH_take (i := 4) (v := .int .u64 (n : Int)) rfl (by kernel_rfl) (by kernel_rfl) (by kernel_rfl) (fun _ _ _ h => h) (Or.inl ⟨by rfl, fun w' hw => ?_⟩) hS ?_
          · skip
            go_simp
          simp only [Act.put, List.getElem_toArray, List.getElem_cons_succ, List.getElem_cons_zero, List.setIfInBounds_toArray, List.set_cons_zero, List.set_cons_succ]
          refine wpAnyH_ready (rs := [5]) (by kernel_rfl) (by simp) ?_
          refine AllReadyH.cons rfl (fun K hK => ?_) AllReadyH.nil
          rw [if_pos (by rfl)]
          go_simp
          refine HSC.out.mono ?_
          rintro e w9 ⟨ra, rcp, rus, rer, rfl, hrow, hb9⟩
          have HX9 := Lib.hid ((HX8.out.drewN 1).step hb9)
          have HB9 : Hid (Below w.heap.size w w9) := Lib.hid ((Below.drew HB8.out).trans (hb9.mono HB8.out.size))
          have HROW := Lib.hid hrow
          have HBB9 : Hid (w8.heap.size ≤ w9.heap.size) := Lib.hid hb9.size
          have z2 := HX9.out.c 2
          simp at z2
          clear hrow hb9
          go_simp
          refine hK.out _ _ z2 (fun hS => ?_)
          clear hK
          (try go_frame)
          refine wpAnyH_take (i := 6) (v := .tuple #[.slice ra nT rcp, rus, rer]) rfl (by kernel_rfl) (by kernel_rfl) (by kernel_rfl) (fun _ _ _ h => h) (Or.inl ⟨by rfl, fun w' hw => ?_⟩) hS ?_
          · skip
            go_simp
          simp only [Act.put, List.getElem_toArray, List.getElem_cons_succ, List.getElem_cons_zero, List.setIfInBounds_toArray, List.set_cons_zero, List.set_cons_succ]
          refine wpAnyH_take (i := 7) (v := .slice ra nT rcp) rfl (by kernel_rfl) (by kernel_rfl) (by kernel_rfl) (fun _ _ _ h => h) (Or.inl ⟨by rfl, fun w' hw => ?_⟩) hS ?_
          · skip
            go_simp
          simp only [Act.put, List.getElem_toArray, List.getElem_cons_succ, List.getElem_cons_zero, List.setIfInBounds_toArray, List.set_cons_zero, List.set_cons_succ]
          refine wpAnyH_take (i := 8) (v := rus) rfl (by kernel_rfl) (by kernel_rfl) (by kernel_rfl) (fun _ _ _ h => h) (Or.inl ⟨by rfl, fun w' hw => ?_⟩) hS ?_
          · skip
            go_simp
          simp only [Act.put, List.getElem_toArray, List.getElem_cons_succ, List.getElem_cons_zero, List.setIfInBounds_toArray, List.set_cons_zero, List.set_cons_succ]
          refine wpAnyH_take (i := 9) (v := rer) rfl (by kernel_rfl) (by kernel_rfl) (by kernel_rfl) (fun _ _ _ h => h) (Or.inl ⟨by rfl, fun w' hw => ?_⟩) hS ?_
          · skip
            go_simp
          simp only [Act.put, List.getElem_toArray, List.getElem_cons_succ, List.getElem_cons_zero, List.setIfInBounds_toArray, List.set_cons_zero, List.set_cons_succ]
          refine wpAnyH_take (i := 10) (v := .slice ra nT rcp) rfl (by kernel_rfl) (by kernel_rfl) (by kernel_rfl) (fun _ _ _ h => h) (Or.inl ⟨by rfl, fun w' hw => ?_⟩) hS ?_
          · skip
            go_simp
          simp only [Act.put, List.getElem_toArray, List.getElem_cons_succ, List.getElem_cons_zero, List.setIfInBounds_toArray, List.set_cons_zero, List.set_cons_succ]
          refine wpAnyH_take (i := 11) (v := rus) rfl (by kernel_rfl) (by kernel_rfl) (by kernel_rfl) (fun _ _ _ h => h) (Or.inl ⟨by rfl, fun w' hw => ?_⟩) hS ?_
          · skip
            go_simp
          simp only [Act.put, List.getElem_toArray, List.getElem_cons_succ, List.getElem_cons_zero, List.setIfInBounds_toArray, List.set_cons_zero, List.set_cons_succ]
          refine wpAnyH_take (i := 12) (v := rer) rfl (by kernel_rfl) (by kernel_rfl) (by kernel_rfl) (fun _ _ _ h => h) (Or.inl ⟨by rfl, fun w' hw => ?_⟩) hS ?_
          · skip
            go_simp
          simp only [Act.put, List.getElem_toArray, List.getElem_cons_succ, List.getElem_cons_zero, List.setIfInBounds_toArray, List.set_cons_zero, List.set_cons_succ]
          refine wpAnyH_done (by kernel_rfl) ?_ _
          clear hS HSC x0 x1 x2 x3 x4 x5 x6 y0 y1 y2 y3 y4 y5 y6 z2
          have hrl : w.heap.size < w9.heap.size := HX9.out.lt
          go_wp2_with fail
          have hnTb : nT ≤ 1000000 := by have := HSL.out.2; omega
          go_loopw [82] (fun i wr => ∃ q, q ≤ nT ∧ i = .int .i64 q ∧ Hid (∃ a' cp', One w.heap.size (sgC kn gn n t2 (.slice a' q cp') (u + Wl.lens (T.take q)) false) wr ∧ wr.ownsRow w9.heap.size 9 1 (.slice a' q cp') q ((T.take q).map (fun t => .string (bs t)))) ∧ Hid (ButS (fun k => k = w.heap.size ∨ w9.heap.size ≤ k) w9 wr)) (fun i _ => nT - (intOf i).toNat)
          case atStart => exact ⟨0, Nat.zero_le _, rfl, Lib.hid ⟨none, 0, by simpa [Wl.lens] using HX9.out, World.ownsRow_nil _ _ _ _⟩, Lib.hid (ButS.refl _)⟩
          case round =>
            obtain ⟨q, hq, rfl, HI, Hbw⟩ := hrel
            obtain ⟨a', cp', hx, hrw⟩ := HI.out
            obtain ⟨uu, huu⟩ : ∃ x, u + Wl.lens (T.take q) = x := ⟨_, rfl⟩
            rw [huu] at hx
            have huul : uu ≤ u + Wl.lens T := by rw [← huu]; have := lens_take_le T q; omega
            have HUU2 := Lib.hid huu; have HUL := Lib.hid huul
            have HXr := Lib.hid hx; have HRW := Lib.hid hrw
            clear huu huul
            clear hx hrw HI
            have hbs := Hbw.out.size
            by_cases hlt : q < nT
            · have hqi : (q : Int) < (nT : Int) := by omega
              have HLT := Lib.hid hlt
              obtain ⟨y, hy⟩ : ∃ x, T.getD q [] = x := ⟨_, rfl⟩
              obtain ⟨qa, qb⟩ := recV_at T n q (by rw [HNT.out]; exact hlt)
              rw [hy] at qb
              obtain ⟨g2, rfl⟩ : ∃ g2, ra = some ⟨g2, 0, none⟩ := by
                rcases HROW.out.2 with ⟨h', hn'⟩ | ⟨g', cap', cur, h', _⟩
                · omega
                · simp only [Value.slice.injEq] at h'; exact ⟨g', h'.1⟩
              have hg2l : g2 < w9.heap.size := by
                obtain ⟨C, T', F, hc⟩ := own_cells HROW.out g2 rfl
                exact lt_of_block hc
              have hg2x : g2 ≠ w.heap.size := by
                have := ownAbove HROW.out g2 rfl
                have h2 := HX8.out.lt
                have h3 : w8.drew.heap.size = w8.heap.size := rfl
                omega
              have r0 : wr.cell? ⟨g2, q * 2, none⟩ = some (.int .u64 ((n + q : Nat) : Int)) := (Hbw.out.cell (p := ⟨g2, q * 2, none⟩) hg2l (by rintro (h | h); (· exact hg2x h); (· dsimp only at h; omega))).trans ((World.ownsRow.cellAt HROW.out (q * 2) (by omega)).trans qa)
              have r1 : wr.cell? ⟨g2, q * 2 + 1, none⟩ = some (.string (bs y)) := (Hbw.out.cell (p := ⟨g2, q * 2 + 1, none⟩) hg2l (by rintro (h | h); (· exact hg2x h); (· dsimp only at h; omega))).trans ((World.ownsRow.cellAt HROW.out (q * 2 + 1) (by omega)).trans qb)
              obtain ⟨nq, hnq⟩ : ∃ x, n + q = x := ⟨_, rfl⟩
              rw [hnq] at r0
              have hnq2 : ¬ (nq : Int) > 281474976710656 := by have := HTX.out.1; have := HSL.out.2; omega
              have hnq3 : ¬ (281474976710656 : Int) < (nq : Int) := by omega
              have HY := Lib.hid hy
              have hyl : Hid (y.length ≤ 1000000) := Lib.hid (by
                have h1 := lens_take_le T (q + 1)
                rw [take_snoc T [] q (by rw [HNT.out]; exact hlt), hy, Wl.lens_snoc] at h1
                have := HSL.out.1
                omega)
              clear qa qb hy hnq
              go_upto_region 18 with fail
              refine wp_abs (F := fun W => Hid (One wr.heap.size #[.int .u64 (nq : Int), .string (bs y)] W) ∧ Hid (Below wr.heap.size wr W)) ⟨Lib.hid (One.of _ _ _), Lib.hid ((Below.refl _ _).alloc (Nat.le_refl _) _)⟩ ?_
              rintro Wa ⟨HY1, HBa⟩
              have HXa := Lib.hid (HXr.out.step HBa.out)
              have HRa := Lib.hid (ownBelow HRW.out HBa.out)
              have hal := HBa.out.size
              have hay := HY1.out.lt
              have v0 := HY1.out.c 0; have v1 := HY1.out.c 1
              simp at v0 v1
              have hx1 := HXa.out
              have x0 := hx1.c 0; have x1 := hx1.c 1; have x2 := hx1.c 2; have x3 := hx1.c 3; have x4 := hx1.c 4; have x5 := hx1.c 5; have x6 := hx1.c 6
              have y0 := hx1.f 0; have y1 := hx1.f 1; have y2 := hx1.f 2; have y3 := hx1.f 3; have y4 := hx1.f 4; have y5 := hx1.f 5; have y6 := hx1.f 6
              simp at x0 x1 x2 x3 x4 x5 x6
              clear hx1
              obtain ⟨i0, hi, hz0, hz1, hz2⟩ := info_parts infoStr
              go_upto_region 20 with (at_builtin; refine wpList_append_own _ rfl _ _ 33 rfl w9.heap.size 9 i0 (.string ⟨#[]⟩) 1 16 Try.underlying33 hi hz0 hz1 hz2 rfl (by decide) _ q ((T.take q).map (fun t => .string (bs t))) rfl (ownBelow HRa.out ((Below.refl _ _).alloc (Nat.le_refl _) _)) ⟨Wa.heap.size, 0, none⟩ 1 1 [.string (bs y)] rfl rfl (World.news_of_block (MapKept.heap_alloc _ _).1) (by intro u hu; simp only [List.mem_cons, List.mem_nil_iff, or_false] at hu; rcases hu with rfl; rfl) (by unfold maxLen; have := HSL.out.2; omega) (by have := HSL.out.2; omega) (by simp; omega) ?_; intro v5 w5' hown5 hg5 _; obtain ⟨a6, c6, rfl⟩ := ownShape hown5; have hX5 := HXa.out.step ((Below.refl _ _).alloc (Nat.le_refl _) (.cells #[.string (bs y)] 9)); have hX6 := hX5.grown' hg5 (fun e => by have := ownAbove HRa.out _ e; omega); have HX6 := Lib.hid hX6; have r5 := hX6.c 4; have f5 := hX6.f 4; simp at r5; have Hown5 := Lib.hid hown5; have Hg5 := Lib.hid hg5; clear hX5 hX6 hown5 hg5)
              have hrb : ∀ b, (Value.slice a' q cp').ownBlock = some b → w9.heap.size ≤ b ∧ b < wr.heap.size := fun b hb => by
                obtain ⟨C, T', F, hc⟩ := own_cells HRW.out b hb
                exact ⟨ownAbove HRW.out b hb, lt_of_block hc⟩
              have hya := HY1.out.step ((Below.refl _ _).alloc (Nat.le_refl _) (.cells #[.string (bs y)] 9))
              have hyb := hya.grown' Hg5.out (fun e => by have := (hrb _ e).2; omega)
              have hyc := hyb.far (p := ⟨w.heap.size, 4, none⟩) (by dsimp only; omega) (.slice a6 (q + 1) c6)
              have hxc := HX6.out.set (i := 4) (by simp) (.slice a6 (q + 1) c6)
              have hbc : ButS (fun k => k = w.heap.size ∨ w9.heap.size ≤ k) w9 (w5'.setCell ⟨w.heap.size, 4, none⟩ (.slice a6 (q + 1) c6)) :=
                (((Hbw.out.trans (ButS.of HBa.out)).trans (ButS.of ((Below.refl _ _).alloc (Nat.le_refl _) _))).trans (ButS.row Hg5.out (fun j e => Or.inr (hrb j e).1))).trans (ButS.set _ (p := ⟨w.heap.size, 4, none⟩) (Or.inl rfl) _)
              have hrc := ownsRow_setCell_below Hown5.out (a := ⟨w.heap.size, 4, none⟩) (by dsimp only; omega) (.slice a6 (q + 1) c6)
              have hst : (T.take q).map (fun t => Value.string (bs t)) ++ [.string (bs y)] = (T.take (q + 1)).map (fun t => Value.string (bs t)) := by
                rw [take_snoc T [] q (by rw [HNT.out]; exact hlt), HY.out, List.map_append]; rfl
              rw [hst] at hrc
              have HYC := Lib.hid hyc; have HXC := Lib.hid hxc; have HBC := Lib.hid hbc; have HRC := Lib.hid hrc
              clear hya hyb hyc hxc hbc hrc hst r5 f5 x0 x1 x2 x3 x4 x5 x6 y0 y1 y2 y3 y4 y5 y6 v0 v1 hrb r0 r1
              generalize w5'.setCell ⟨w.heap.size, 4, none⟩ (.slice a6 (q + 1) c6) = wb at HYC HXC HBC HRC ⊢
              have v1 := HYC.out.c 1
              have x5 := HXC.out.c 5; have y5 := HXC.out.f 5
              simp at v1 x5
              have HSZ := Lib.hid (fun W => frame_Size y hyl.out W)
              obtain ⟨zz, hzz⟩ : ∃ x, 16 + y.length = x := ⟨_, rfl⟩
              rw [hzz] at HSZ
              obtain ⟨vv, hvv⟩ : ∃ x, uu + zz = x := ⟨_, rfl⟩
              have hvi : (uu : Int) + (zz : Int) = (vv : Int) := by omega
              have HVV : Hid (vv = u + Wl.lens (T.take (q + 1))) := Lib.hid (by
                rw [take_snoc T [] q (by rw [HNT.out]; exact hlt), HY.out, Wl.lens_snoc]; have := HUU2.out; omega)
              have hvw : IntKind.i64.wrap (vv : Int) = vv := by
                have h1 := HVV.out; have h2 := lens_take_le T (q + 1); have := HSL.out.1; have := HUU.out
                rw [IntKind.wrap_i64]; omega
              clear hzz hvv
              refine wp_region_held_drew (S := fun w' => w'.cell? ⟨wr.heap.size, 1, none⟩ = some (.string (bs y))) (by kernel_rfl) (v1) (fun hS => ?_)
              refine wpAnyH_take (i := 0) (v := .pointer (some ⟨w.heap.size, 5, none⟩)) rfl (by kernel_rfl) (by kernel_rfl) (by kernel_rfl) (fun _ _ _ h => h) (Or.inl ⟨by rfl, fun w' hw => ?_⟩) hS ?_
              · skip
                go_simp
              simp only [Act.put, List.getElem_toArray, List.getElem_cons_zero, List.setIfInBounds_toArray, List.set_cons_zero, List.set_cons_succ]
              refine wpAnyH_take (i := 2) (v := .pointer (some ⟨wr.heap.size, 1, none⟩)) rfl (by kernel_rfl) (by kernel_rfl) (by kernel_rfl) (fun _ _ _ h => h) (Or.inl ⟨by rfl, fun w' hw => ?_⟩) hS ?_
              · skip
                go_simp
              simp only [Act.put, List.getElem_toArray, List.getElem_cons_succ, List.getElem_cons_zero, List.setIfInBounds_toArray, List.set_cons_zero, List.set_cons_succ]
              refine wpAnyH_take (i := 3) (v := .string (bs y)) rfl (by kernel_rfl) (by kernel_rfl) (by kernel_rfl) (fun _ _ _ h => h) (Or.inl ⟨by rfl, fun w' hw => ?_⟩) hS ?_
              · skip
                go_simp
              simp only [Act.put, List.getElem_toArray, List.getElem_cons_succ, List.getElem_cons_zero, List.setIfInBounds_toArray, List.set_cons_zero, List.set_cons_succ]
              refine wpAnyH_ready (rs := [1, 4]) (by kernel_rfl) (by simp) ?_
              refine AllReadyH.cons rfl (fun K hK => ?_) ?_
              · rw [if_pos (by rfl)]
                go_simp
                refine hK.out _ _ hS (fun hS => ?_)
                clear hK
                (try go_frame)
                refine wpAnyH_ready (rs := [4]) (by kernel_rfl) (by simp) ?_
                refine AllReadyH.cons rfl (fun K hK => ?_) AllReadyH.nil
                rw [if_pos (by rfl)]
                go_simp
                refine (HSZ.out wb.drew).mono ?_
                rintro e w6 ⟨rfl, hw6⟩
                subst w6
                go_simp
                refine hK.out _ _ hS (fun hS => ?_)
                clear hK
                (try go_frame)
                refine wpAnyH_take (i := 5) (v := .int .i64 (vv : Int)) rfl (by kernel_rfl) (by kernel_rfl) (by kernel_rfl) (fun _ _ _ h => h) (Or.inl ⟨by rfl, fun w' hw => ?_⟩) hS ?_
                · skip
                  go_simp
                simp only [Act.put, List.getElem_toArray, List.getElem_cons_succ, List.getElem_cons_zero, List.setIfInBounds_toArray, List.set_cons_zero, List.set_cons_succ]
                refine wpAnyH_take (i := 6) (v := .pointer (some ⟨w.heap.size, 5, none⟩)) rfl (by kernel_rfl) (by kernel_rfl) (by kernel_rfl) (fun _ _ _ h => h) (Or.inl ⟨by rfl, fun w' hw => ?_⟩) hS ?_
                · skip
                  go_simp
                simp only [Act.put, List.getElem_toArray, List.getElem_cons_succ, List.getElem_cons_zero, List.setIfInBounds_toArray, List.set_cons_zero, List.set_cons_succ]
                refine wpAnyH_ready (rs := [7]) (by kernel_rfl) (by simp) ?_
                refine AllReadyH.cons rfl (fun K hK => ?_) AllReadyH.nil
                rw [if_pos (by rfl)]
                go_simp
                have HXD : Hid (One w.heap.size (sgC kn gn n t2 (.slice a6 (q + 1) c6) vv false) (wb.setCell ⟨w.heap.size, 5, none⟩ (.int .i64 (vv : Int))).drew) := Lib.hid ((HXC.out.set (i := 5) (by simp) (.int .i64 (vv : Int))).drewN 1)
                have HBD : Hid (ButS (fun k => k = w.heap.size ∨ w9.heap.size ≤ k) w9 (wb.setCell ⟨w.heap.size, 5, none⟩ (.int .i64 (vv : Int))).drew) := Lib.hid ((HBC.out.trans (ButS.set _ (p := ⟨w.heap.size, 5, none⟩) (Or.inl rfl) _)).drewN 1)
                have HRD : Hid ((wb.setCell ⟨w.heap.size, 5, none⟩ (.int .i64 (vv : Int))).drew.ownsRow w9.heap.size 9 1 (.slice a6 (q + 1) c6) (q + 1) ((T.take (q + 1)).map (fun t => .string (bs t)))) := Lib.hid (ownsRow_setCell_below HRC.out (a := ⟨w.heap.size, 5, none⟩) (by dsimp only; omega) (.int .i64 (vv : Int)))
                have hyd := (HYC.out.far (p := ⟨w.heap.size, 5, none⟩) (by dsimp only; omega) (.int .i64 (vv : Int))).drewN 1
                have HYD : Hid (One wr.heap.size #[.int .u64 (nq : Int), .string (bs y)] (wb.setCell ⟨w.heap.size, 5, none⟩ (.int .i64 (vv : Int))).drew) := Lib.hid hyd
                clear hyd
                generalize (wb.setCell ⟨w.heap.size, 5, none⟩ (.int .i64 (vv : Int))).drew = wd at HXD HBD HRD HYD ⊢
                have u1 := HYD.out.c 1
                simp at u1
                refine hK.out _ _ u1 (fun hS => ?_)
                clear hK
                (try go_frame)
                refine wpAnyH_done (by kernel_rfl) ?_ _
                clear hS
                go_wp2_with fail
                go_roundw
                case rel => exact ⟨q + 1, by have := HLT.out; omega, by go_num, Lib.hid ⟨a6, c6, by rw [← HVV.out]; exact HXD.out, HRD.out⟩, HBD⟩
                case measure => have := HLT.out; simp [intOf]; omega
              refine AllReadyH.cons rfl (fun K hK => ?_) AllReadyH.nil
              rw [if_pos (by rfl)]
              go_simp
              refine (HSZ.out wb.drew).mono ?_
              rintro e w6 ⟨rfl, hw6⟩
              subst w6
              go_simp
              refine hK.out _ _ hS (fun hS => ?_)
              clear hK
              (try go_frame)
              refine wpAnyH_ready (rs := [1]) (by kernel_rfl) (by simp) ?_
              refine AllReadyH.cons rfl (fun K hK => ?_) AllReadyH.nil
              rw [if_pos (by rfl)]
              go_simp
              refine hK.out _ _ hS (fun hS => ?_)
              clear hK
              (try go_frame)
              refine wpAnyH_take (i := 5) (v := .int .i64 (vv : Int)) rfl (by kernel_rfl) (by kernel_rfl) (by kernel_rfl) (fun _ _ _ h => h) (Or.inl ⟨by rfl, fun w' hw => ?_⟩) hS ?_
              · skip
                go_simp
              simp only [Act.put, List.getElem_toArray, List.getElem_cons_succ, List.getElem_cons_zero, List.setIfInBounds_toArray, List.set_cons_zero, List.set_cons_succ]
              refine wpAnyH_take (i := 6) (v := .pointer (some ⟨w.heap.size, 5, none⟩)) rfl (by kernel_rfl) (by kernel_rfl) (by kernel_rfl) (fun _ _ _ h => h) (Or.inl ⟨by rfl, fun w' hw => ?_⟩) hS ?_
              · skip
                go_simp
              simp only [Act.put, List.getElem_toArray, List.getElem_cons_succ, List.getElem_cons_zero, List.setIfInBounds_toArray, List.set_cons_zero, List.set_cons_succ]
              refine wpAnyH_ready (rs := [7]) (by kernel_rfl) (by simp) ?_
              refine AllReadyH.cons rfl (fun K hK => ?_) AllReadyH.nil
              rw [if_pos (by rfl)]
              go_simp
              have HXD : Hid (One w.heap.size (sgC kn gn n t2 (.slice a6 (q + 1) c6) vv false) (wb.setCell ⟨w.heap.size, 5, none⟩ (.int .i64 (vv : Int))).drew) := Lib.hid ((HXC.out.set (i := 5) (by simp) (.int .i64 (vv : Int))).drewN 1)
              have HBD : Hid (ButS (fun k => k = w.heap.size ∨ w9.heap.size ≤ k) w9 (wb.setCell ⟨w.heap.size, 5, none⟩ (.int .i64 (vv : Int))).drew) := Lib.hid ((HBC.out.trans (ButS.set _ (p := ⟨w.heap.size, 5, none⟩) (Or.inl rfl) _)).drewN 1)
              have HRD : Hid ((wb.setCell ⟨w.heap.size, 5, none⟩ (.int .i64 (vv : Int))).drew.ownsRow w9.heap.size 9 1 (.slice a6 (q + 1) c6) (q + 1) ((T.take (q + 1)).map (fun t => .string (bs t)))) := Lib.hid (ownsRow_setCell_below HRC.out (a := ⟨w.heap.size, 5, none⟩) (by dsimp only; omega) (.int .i64 (vv : Int)))
              have hyd := (HYC.out.far (p := ⟨w.heap.size, 5, none⟩) (by dsimp only; omega) (.int .i64 (vv : Int))).drewN 1
              have HYD : Hid (One wr.heap.size #[.int .u64 (nq : Int), .string (bs y)] (wb.setCell ⟨w.heap.size, 5, none⟩ (.int .i64 (vv : Int))).drew) := Lib.hid hyd
              clear hyd
              generalize (wb.setCell ⟨w.heap.size, 5, none⟩ (.int .i64 (vv : Int))).drew = wd at HXD HBD HRD HYD ⊢
              have u1 := HYD.out.c 1
              simp at u1
              refine hK.out _ _ u1 (fun hS => ?_)
              clear hK
              (try go_frame)
              refine wpAnyH_done (by kernel_rfl) ?_ _
              clear hS
              go_wp2_with fail
              go_roundw
              case rel => exact ⟨q + 1, by have := HLT.out; omega, by go_num, Lib.hid ⟨a6, c6, by rw [← HVV.out]; exact HXD.out, HRD.out⟩, HBD⟩
              case measure => have := HLT.out; simp [intOf]; omega
            · obtain rfl : q = nT := by omega
              have hall : T.take q = T := by rw [← HNT.out, List.take_length]
              rw [hall] at HRW HUU2
              have hps : Wl.parse sumF s = some ⟨kn, gn, n, t2, T, uu, decide (uu = s.length)⟩ := by
                unfold Wl.parse
                rw [HDC.out]
                dsimp only
                rw [HKN.out, HGN.out, if_pos ⟨hok.1, hok.2.1.1, hok.2.2.1.1, hok.2.2.1.2, hok.2.2.2⟩, HTT.out, HUU2.out]
              have HPS := Lib.hid hps
              clear hps hall
              obtain ⟨whole, hwh⟩ : ∃ x, decide (uu = s.length) = x := ⟨_, rfl⟩
              have hwi : ((uu : Int) == (Ls : Int)) = whole := by
                rw [← hwh, hLs2.out]
                by_cases h : uu = s.length
                · simp [h]
                · simp [h]; omega
              rw [hwh] at HPS
              clear hwh
              have hx1 := HXr.out
              have x0 := hx1.c 0; have x1 := hx1.c 1; have x2 := hx1.c 2; have x3 := hx1.c 3; have x4 := hx1.c 4; have x5 := hx1.c 5; have x6 := hx1.c 6
              have y0 := hx1.f 0; have y1 := hx1.f 1; have y2 := hx1.f 2; have y3 := hx1.f 3; have y4 := hx1.f 4; have y5 := hx1.f 5; have y6 := hx1.f 6
              simp at x0 x1 x2 x3 x4 x5 x6
              clear hx1
              go_wp2_with fail
              have hz := (HXr.out.set (i := 6) (by simp) (.bool whole)).put7 (.int .u8 (kn : Int)) (.int .u64 (gn : Int)) (.int .u64 (n : Int)) (.string (bs t2)) (.slice a' q cp') (.int .i64 (uu : Int)) (.bool whole)
              have p0 := hz.c 0; have p1 := hz.c 1; have p2 := hz.c 2; have p3 := hz.c 3; have p4 := hz.c 4; have p5 := hz.c 5; have p6 := hz.c 6
              simp at p0 p1 p2 p3 p4 p5 p6
              have hbz := (ButS.set (S := fun k => k = w.heap.size) wr (p := ⟨w.heap.size, 6, none⟩) rfl (.bool whole)).trans (ButS.put7 w.heap.size _ (.int .u8 (kn : Int)) (.int .u64 (gn : Int)) (.int .u64 (n : Int)) (.string (bs t2)) (.slice a' q cp') (.int .i64 (uu : Int)) (.bool whole))
              refine bodyPost_ret (v := .tuple #[.agg (sgC kn gn n t2 (.slice a' q cp') uu whole), .int .i64 0]) (by simp [results, Try.results45, go_sem, p0, p1, p2, p3, p4, p5, p6]) rfl ⟨Or.inr ⟨_, a', cp', HPS.out, ?_, ?_⟩, ?_⟩
              · dsimp only; rw [HNT.out]
              · dsimp only; rw [HNT.out]
                exact ownsRow_lower (own_put7 (ownsRow_setCell_below HRW.out (a := ⟨w.heap.size, 6, none⟩) (by dsimp only; omega) _) (by omega) _ _ _ _ _ _ _) (by omega)
              · exact below_but (below_but HB9.out Hbw.out (fun k h => by rcases h with h | h <;> omega) (Nat.le_refl _)) hbz (fun k h => by omega) (Nat.le_refl _)
        · have HHD := Lib.hid (seg_Head_no kn gn n t2 hok (by rw [← HKN.out]; exact k.toNat_lt) w7)
          go_wp2_with fail
          refine HHD.out.mono ?_
          rintro e w8 ⟨rfl, hw8⟩
          subst w8
          go_wp2_with fail
          have hz := HX7.out.put7 (.int .u8 0) (.int .u64 0) (.int .u64 0) (.string ⟨#[]⟩) (.slice none 0 0) (.int .i64 0) (.bool false)
          have p0 := hz.c 0; have p1 := hz.c 1; have p2 := hz.c 2; have p3 := hz.c 3; have p4 := hz.c 4; have p5 := hz.c 5; have p6 := hz.c 6
          simp at p0 p1 p2 p3 p4 p5 p6
          exact bodyPost_ret (v := .tuple #[.agg sg0, .int .i64 7]) (by simp [results, Try.results45, go_sem, p0, p1, p2, p3, p4, p5, p6]) rfl (parse_no (by unfold Wl.parse; rw [HDC.out]; exact if_neg (fun hc => hok ⟨by rw [← HKN.out]; exact hc.1, ⟨by rw [← HGN.out]; exact hc.2.1, by omega⟩, ⟨hc.2.2.1, hc.2.2.2.1⟩, fun h0 => hc.2.2.2.2 (by rw [HKN.out]; exact h0)⟩)) (by decide) (below_but HB7.out (ButS.put7 w.heap.size _ _ _ _ _ _ _ _) (fun k h => by omega) (Nat.le_refl _)))
  · have her := decErr_ne s
    obtain ⟨er, her2⟩ : ∃ er, decErr s = er := ⟨_, rfl⟩
    rw [her2] at her ⊢
    have herb : (er != 0) = true := by simpa using her
    go_upto_region 2 with fail
    refine wp_abs (F := fun W => Hid (One w.heap.size sg0 W) ∧ Hid (Below w.heap.size w W)) ⟨Lib.hid (HX1.out.step ((Below.refl _ _).alloc (Nat.le_refl _) _)), Lib.hid (HB1.out.alloc (by have := HB1.out.size; omega) _)⟩ ?_
    rintro W2 ⟨HX2, HB2⟩
    have hx1 := HX2.out
    have x0 := hx1.c 0; have x1 := hx1.c 1; have x2 := hx1.c 2; have x3 := hx1.c 3; have x4 := hx1.c 4; have x5 := hx1.c 5; have x6 := hx1.c 6
    have y0 := hx1.f 0; have y1 := hx1.f 1; have y2 := hx1.f 2; have y3 := hx1.f 3; have y4 := hx1.f 4; have y5 := hx1.f 5; have y6 := hx1.f 6
    simp at x0 x1 x2 x3 x4 x5 x6
    clear hx1
    go_wp2_with fail
    have hz := HX2.out.put7 (.int .u8 0) (.int .u64 0) (.int .u64 0) (.string ⟨#[]⟩) (.slice none 0 0) (.int .i64 0) (.bool false)
    have p0 := hz.c 0; have p1 := hz.c 1; have p2 := hz.c 2; have p3 := hz.c 3; have p4 := hz.c 4; have p5 := hz.c 5; have p6 := hz.c 6
    simp at p0 p1 p2 p3 p4 p5 p6
    exact bodyPost_ret (v := .tuple #[.agg sg0, .int .i64 er]) (by simp [results, Try.results45, go_sem, p0, p1, p2, p3, p4, p5, p6]) rfl (parse_no (parse_dec hd) her (below_but HB2.out (ButS.put7 w.heap.size _ _ _ _ _ _ _ _) (fun k h => by omega) (Nat.le_refl _)))
end Go.Proofs.Ytniflkggcceagaa

namespace Go.Proofs.Ytniflkggcceagaa
open Go Go.RowKit
theorem seg_Next (w : World) (k g n u q : Nat) (t : List UInt8) (a : Option Addr) (cp : Nat) (b : Bool) (hn : n + q < 18446744073709551616) :
    Calls Try.prog 47 #[.agg (sgC k g n t (.slice a q cp) u b)] w fun e w' => e = .returned (.int .u64 ((n + q : Nat) : Int)) ∧ Below w.heap.size w w' := by
  have hq : IntKind.u64.wrap (q : Int) = (q : Int) := by rw [IntKind.wrap_u64]; omega
  have hnq : IntKind.u64.wrap ((n : Int) + (q : Int)) = ((n + q : Nat) : Int) := by rw [IntKind.wrap_u64]; omega
  go_enter Try.func47, Try.ntmps47
  go_wp2_with fail
  go_ret
  exact ⟨rfl, (Below.refl _ _).alloc (Nat.le_refl _) _⟩
set_option maxRecDepth 100000 in
set_option maxHeartbeats 4000000 in
theorem seg_Row1 (w : World) (g cap : Nat) (x : Wl.Sg) (hk : x.kind = 1) (a : Option Addr) (cp : Nat) (hg : g < w.heap.size) (hn : x.first + x.recs.length < 18446744073709551616)
    (hc : ∀ j u, (sgC x.kind x.gen x.first x.text (.slice a x.recs.length cp) x.used x.whole)[j]? = some u → w.cell? ⟨g, j, none⟩ = some u) :
    Calls Try.prog 46 #[.slice (some ⟨g, 0, none⟩) 1 cap] w fun e w' => ∃ a cp, e = .returned (.tuple #[.slice a 1 cp, .int .i64 0]) ∧ w'.ownsRow w.heap.size 3 1 (.slice a 1 cp) 1 [.int .i64 0] ∧ Below w.heap.size w w' := by
  obtain ⟨k, ge, n, t, rs, u, b⟩ := x
  dsimp only at hk hn hc
  subst hk
  obtain ⟨q, hq⟩ : ∃ q, rs.length = q := ⟨_, rfl⟩
  rw [hq] at hn hc
  have h0 := hc 0 _ rfl; have h1 := hc 1 _ rfl; have h2 := hc 2 _ rfl; have h3 := hc 3 _ rfl; have h4 := hc 4 _ rfl; have h5 := hc 5 _ rfl; have h6 := hc 6 _ rfl
  have HW := Lib.hid hc
  clear hc hq
  have hmm := @run_makeMap Try.prog
  go_enter Try.func46, Try.ntmps46
  go_wp2_with fail
  go_loopw [4, 16] (fun v4 i wr => ∃ k : Nat, k ≤ 1 ∧ i = .int .i64 k ∧ v4 = .int .i64 (if k = 0 then -1 else 0) ∧ Hid (Below w.heap.size w wr)) (fun _ i _ => 1 - (intOf i).toNat)
  case atStart => exact ⟨0, by omega, rfl, rfl, Lib.hid (Below.refl _ _)⟩
  case round =>
    obtain ⟨k, hk, rfl, rfl, HBr⟩ := hrel
    have hcell : ∀ o u, w.cell? ⟨g, o, none⟩ = some u → wr.cell? ⟨g, o, none⟩ = some u := fun o u hu => (HBr.out.cell (p := ⟨g, o, none⟩) hg).trans hu
    have r0 := hcell _ _ h0; have r1 := hcell _ _ h1; have r2 := hcell _ _ h2; have r3 := hcell _ _ h3; have r4 := hcell _ _ h4; have r5 := hcell _ _ h5; have r6 := hcell _ _ h6
    have hgr : g < wr.heap.size := cell_lt r0
    have HC := Lib.hid hcell
    clear h0 h1 h2 h3 h4 h5 h6 hcell
    by_cases hz : k = 0
    · subst hz
      go_wp2_with fail
      refine wp_abs (F := fun W => Hid (Below w.heap.size w W) ∧ Hid (One wr.heap.size (sgC 1 ge n t (.slice a q cp) u b) W)) ⟨Lib.hid (HBr.out.alloc HBr.out.size _), Lib.hid (One.of _ _ _)⟩ ?_
      rintro W5 ⟨HB5, HO5⟩
      obtain ⟨bx, hbx⟩ : ∃ z, wr.heap.size = z := ⟨_, rfl⟩
      rw [hbx] at HO5 hgr ⊢
      clear hbx r0 r1 r2 r3 r4 r5 r6
      have c0 := HO5.out.c 0
      simp at c0
      refine wp_region_quiet (C := fun W => Hid (Below W5.heap.size W5 W)) (by kernel_rfl) (by kernel_rfl) (Lib.hid (Below.drew (Below.refl _ _))) ?_
      refine (quiet_plain' ?_ (.pointer (some ⟨bx, 0, none⟩)) (fun w' hw' => ?_) ?_ : _)
      · exact rfl
      · go_simp
      go_frame
      refine (quiet_plain' ?_ (.int .u8 1) (fun w' hw' => ?_) ?_ : _)
      · exact rfl
      · have e0 := ((hw'.out.cell (p := ⟨bx, 0, none⟩) HO5.out.lt).trans c0)
        go_simp
      go_frame
      refine (quiet_plain' ?_ (.bool true) (fun w' hw' => ?_) ?_ : _)
      · exact rfl
      · go_simp
      go_frame
      refine (quiet_plain' ?_ (.bool true) (fun w' hw' => ?_) ?_ : _)
      · exact rfl
      · go_simp
      go_frame
      refine (quiet_plain' ?_ (.int .i64 (-1)) (fun w' hw' => ?_) ?_ : _)
      · exact rfl
      · go_simp
      go_frame
      refine (quiet_plain' ?_ (.bool true) (fun w' hw' => ?_) ?_ : _)
      · exact rfl
      · go_simp
      go_frame
      refine (quiet_plain' ?_ (.bool true) (fun w' hw' => ?_) ?_ : _)
      · exact rfl
      · go_simp
      go_frame
      refine (quiet_skip ?_ ?_ : _)
      · exact rfl
      go_frame
      refine (quiet_skip ?_ ?_ : _)
      · exact rfl
      go_frame
      refine (quiet_skip ?_ ?_ : _)
      · exact rfl
      go_frame
      refine (quiet_skip ?_ ?_ : _)
      · exact rfl
      go_frame
      refine (quiet_skip ?_ ?_ : _)
      · exact rfl
      go_frame
      refine (quiet_skip ?_ ?_ : _)
      · exact rfl
      go_frame
      refine (quiet_skip ?_ ?_ : _)
      · exact rfl
      go_frame
      refine (quiet_skip ?_ ?_ : _)
      · exact rfl
      go_frame
      refine (quiet_plain' ?_ (.bool true) (fun w' hw' => ?_) ?_ : _)
      · exact rfl
      · go_simp
      go_frame
      refine (quiet_plain' ?_ (.bool true) (fun w' hw' => ?_) ?_ : _)
      · exact rfl
      · go_simp
      go_frame
      refine (wpQuiet_nil ?_ : _)
      intro W6 hW6
      go_wp2_with fail
      go_roundw
      case rel => exact ⟨1, by omega, by go_num, rfl, Lib.hid (HB5.out.trans (hW6.out.mono HB5.out.size))⟩
      case measure => simp [intOf]
    · obtain rfl : k = 1 := by omega
      clear r0 r1 r2 r3 r4 r5 r6
      go_wp2_with fail
      refine wp_abs (F := fun W => Hid (Below w.heap.size w W) ∧ W.heap[wr.heap.size]? = some (.map #[] 0)) ⟨Lib.hid (HBr.out.alloc HBr.out.size _), (MapKept.heap_alloc _ _).1⟩ ?_
      rintro W7 ⟨HB7, HM7⟩
      have hgb : g < wr.heap.size := hgr
      obtain ⟨m, hm⟩ : ∃ z, wr.heap.size = z := ⟨_, rfl⟩
      rw [hm] at HM7 hgb ⊢
      have hmB : w.heap.size ≤ m := by rw [← hm]; exact HBr.out.size
      clear hm hgr HC
      go_loopw [8, 45] (fun _ i wr => ∃ k : Nat, k ≤ 1 ∧ i = .int .i64 k ∧ Hid (Below w.heap.size w wr) ∧ Hid (wr.heap[m]? = some (.map #[] 0))) (fun _ i _ => 1 - (intOf i).toNat)
      case atStart => exact ⟨0, by omega, rfl, HB7, Lib.hid HM7⟩
      case round =>
        obtain ⟨k, hk, rfl, HBr2, HMr⟩ := hrel
        have hcell2 : ∀ o u, w.cell? ⟨g, o, none⟩ = some u → wr.cell? ⟨g, o, none⟩ = some u := fun o u hu => (HBr2.out.cell (p := ⟨g, o, none⟩) hg).trans hu
        have r0 := hcell2 _ _ (HW.out 0 _ rfl); have r1 := hcell2 _ _ (HW.out 1 _ rfl); have r2 := hcell2 _ _ (HW.out 2 _ rfl); have r3 := hcell2 _ _ (HW.out 3 _ rfl); have r4 := hcell2 _ _ (HW.out 4 _ rfl); have r5 := hcell2 _ _ (HW.out 5 _ rfl); have r6 := hcell2 _ _ (HW.out 6 _ rfl)
        have hgr : g < wr.heap.size := cell_lt r0
        clear hcell2
        by_cases hz : k = 0
        · subst hz
          go_wp2_with fail
          refine wp_abs (F := fun W => Hid (Below w.heap.size w W) ∧ Hid (One wr.heap.size (sgC 1 ge n t (.slice a q cp) u b) W) ∧ Hid (W.heap[m]? = some (.map #[] 0))) ⟨Lib.hid (HBr2.out.alloc HBr2.out.size _), Lib.hid (One.of _ _ _), Lib.hid ((((Below.refl _ _).alloc (Nat.le_refl _) _).block m (Array.getElem?_eq_some_iff.1 HMr.out).1).trans HMr.out)⟩ ?_
          rintro W5 ⟨HB5, HO5, HM5⟩
          obtain ⟨bx, hbx⟩ : ∃ z, wr.heap.size = z := ⟨_, rfl⟩
          rw [hbx] at HO5 hgr ⊢
          clear hbx r0 r1 r2 r3 r4 r5 r6
          have c0 := HO5.out.c 0
          simp at c0
          refine wp_region_quiet (C := fun W => Hid (Below W5.heap.size W5 W)) (by kernel_rfl) (by kernel_rfl) (Lib.hid (Below.drew (Below.refl _ _))) ?_
          refine (quiet_plain' ?_ (.pointer (some ⟨bx, 0, none⟩)) (fun w' hw' => ?_) ?_ : _)
          · exact rfl
          · go_simp
          go_frame
          refine (quiet_plain' ?_ (.int .u8 1) (fun w' hw' => ?_) ?_ : _)
          · exact rfl
          · have e0 := ((hw'.out.cell (p := ⟨bx, 0, none⟩) HO5.out.lt).trans c0)
            go_simp
          go_frame
          refine (quiet_plain' ?_ (.bool false) (fun w' hw' => ?_) ?_ : _)
          · exact rfl
          · go_simp
          go_frame
          refine (quiet_plain' ?_ (.bool false) (fun w' hw' => ?_) ?_ : _)
          · exact rfl
          · go_simp
          go_frame
          refine (quiet_skip ?_ ?_ : _)
          · exact rfl
          go_frame
          refine (quiet_skip ?_ ?_ : _)
          · exact rfl
          go_frame
          refine (quiet_skip ?_ ?_ : _)
          · exact rfl
          go_frame
          refine (quiet_skip ?_ ?_ : _)
          · exact rfl
          go_frame
          refine (quiet_skip ?_ ?_ : _)
          · exact rfl
          go_frame
          refine (quiet_skip ?_ ?_ : _)
          · exact rfl
          go_frame
          refine (quiet_skip ?_ ?_ : _)
          · exact rfl
          go_frame
          refine (quiet_skip ?_ ?_ : _)
          · exact rfl
          go_frame
          refine (quiet_plain' ?_ (.bool false) (fun w' hw' => ?_) ?_ : _)
          · exact rfl
          · go_simp
          go_frame
          refine (wpQuiet_nil ?_ : _)
          intro W6 hW6
          go_wp2_with fail
          go_roundw
          case rel => exact ⟨1, by omega, by go_num, Lib.hid (HB5.out.trans (hW6.out.mono HB5.out.size)), Lib.hid ((hW6.out.block m (Array.getElem?_eq_some_iff.1 HM5.out).1).trans HM5.out)⟩
          case measure => simp [intOf]
        · obtain rfl : k = 1 := by omega
          clear r0 r1 r2 r3 r4 r5 r6
          go_wp2_with fail
          refine wp_abs (F := fun W => Hid (Below w.heap.size w W) ∧ Hid (Bx W wr.heap.size 3 (.int .i64 0)) ∧ Hid (W.heap[m]? = some (.map #[] 0))) ⟨Lib.hid (HBr2.out.alloc HBr2.out.size _), Lib.hid (Bx.new _ _ _), Lib.hid ((((Below.refl _ _).alloc (Nat.le_refl _) _).block m (Array.getElem?_eq_some_iff.1 HMr.out).1).trans HMr.out)⟩ ?_
          rintro W8 ⟨HB8, HX8, HM8⟩
          have hbb := HBr2.out.size
          obtain ⟨bb, hbbe⟩ : ∃ z, wr.heap.size = z := ⟨_, rfl⟩
          rw [hbbe] at HX8 hbb ⊢
          clear hbbe hgr
          go_loopw [4, 10] (fun v4 v10 wr => v4 = .int .i64 0 ∧ v10 = .slice (some ⟨bb, 0, none⟩) 1 1 ∧ Hid (Below w.heap.size w wr) ∧ Hid (Bx wr bb 3 (.int .i64 0)) ∧ Hid (wr.heap[m]? = some (.map #[] 0))) (fun _ _ _ => 0)
          case atStart => exact ⟨rfl, rfl, HB8, HX8, HM8⟩
          case round =>
            obtain ⟨rfl, rfl, HBr3, HXr, HMr3⟩ := hrel
            have hcell3 : ∀ o u, w.cell? ⟨g, o, none⟩ = some u → wr.cell? ⟨g, o, none⟩ = some u := fun o u hu => (HBr3.out.cell (p := ⟨g, o, none⟩) hg).trans hu
            have r0 := hcell3 _ _ (HW.out 0 _ rfl); have r1 := hcell3 _ _ (HW.out 1 _ rfl); have r2 := hcell3 _ _ (HW.out 2 _ rfl); have r3 := hcell3 _ _ (HW.out 3 _ rfl); have r4 := hcell3 _ _ (HW.out 4 _ rfl); have r5 := hcell3 _ _ (HW.out 5 _ rfl); have r6 := hcell3 _ _ (HW.out 6 _ rfl)
            have hRES : Hid (∀ W, Below wr.heap.size wr W → W.ownsRow w.heap.size 3 1 (.slice (some ⟨bb, 0, none⟩) 1 1) 1 [.int .i64 0] ∧ Below w.heap.size w W) := Lib.hid (fun W hW => ⟨⟨rfl, Or.inr ⟨bb, 1, #[.int .i64 0], rfl, hbb, (hW.block bb HXr.out.lt).trans HXr.out, Nat.le_refl _, by decide, rfl, rfl⟩⟩, HBr3.out.trans (hW.mono HBr3.out.size)⟩)
            clear hcell3
            cases b with
            | false =>
              go_wp2_with fail
              go_ret2
              exact ⟨_, _, rfl, hRES.out _ (Below.refl _ _)⟩
            | true =>
              have hmr := HMr3.out
              have hrg := run_range_map (P := Try.prog) wr 109 3 31 m #[] 0 Try.underlying109 HMr3.out
              go_wp2_with fail
              have law := run_next_map (P := Try.prog) wr 0 m 0 0 #[] #[] 0 HMr3.out (by simp) (Nat.le_refl _)
              go_loopw [11] (fun v11 W => v11 = .int .i64 (-1) ∧ W = wr.alloc (.mapIter (some m) 0 #[] 0)) (fun _ _ => 0)
              case atStart => exact ⟨rfl, rfl⟩
              case round =>
                obtain ⟨rfl, rfl⟩ := hrel
                rcases law with ⟨h0, hrun⟩ | ⟨e, he, _⟩
                · have hnx : ∀ ty, (Instr.next (.pointer (some ⟨wr.heap.size, 0, none⟩)) false ty).run Try.prog (wr.alloc (.mapIter (some m) 0 #[] 0)) = _ := fun _ => hrun
                  go_wp2_with fail
                  go_ret2
                  exact ⟨_, _, rfl, hRES.out _ ((Below.refl _ _).alloc (Nat.le_refl _) _)⟩
                · have := (mem_left he).1
                  simp at this
end Go.Proofs.Ytniflkggcceagaa

namespace Go.Proofs.Ytniflkggcceagaa
open Go Go.RowKit
open Go.Maps (has size IsMap KeysOf Keyed int_keyed keyOf_int_mk)
def heldR : Value → Option (DataW Value × List MemPlace) := fun v => some (.held v, [])
abbrev kI (z : Int) : Lit := .int .i64 z
theorem i64wf {q : Nat} (h : q < 4611686018427387904) : (Lit.int .i64 (q : Int)).wf = true := by
  simp [Lit.wf, IntKind.min, IntKind.max, IntKind.signed, IntKind.bits]; omega
theorem ownsMap_same {H : Type} {w w' : World} {P : Program} {k : TypeId} {R : Value → Option (DataW H × List MemPlace)} {b n : Nat} {D : DataW H} (h : w.ownsMap P k R b n D) (hb : w'.heap[b]? = w.heap[b]?) : w'.ownsMap P k R b n D := by
  obtain ⟨es, clock, h1, F, hs, hD⟩ := h
  exact ⟨es, clock, hb.trans h1, F, hs, hD⟩
def ByF (N bm : Nat) (w : World) (G : Nat → Option Value) : Prop :=
  ∃ (D : DataW Value) (nn : Nat), w.ownsMap Try.prog 3 heldR bm nn D ∧ nn ≤ N ∧ ∀ z : Nat, (has D (kI (z : Int)) = true ↔ G z ≠ none) ∧ ∀ v, G z = some v → D.atKey (kI (z : Int)) .nil = .held v
theorem ByF.same {N bm : Nat} {w w' : World} {G : Nat → Option Value} (h : ByF N bm w G) (hb : w'.heap[bm]? = w.heap[bm]?) : ByF N bm w' G := by
  obtain ⟨D, nn, ho, hr⟩ := h
  exact ⟨D, nn, ownsMap_same ho hb, hr⟩
theorem ByF.lt {N bm : Nat} {w : World} {G : Nat → Option Value} (h : ByF N bm w G) : bm < w.heap.size := by
  obtain ⟨D, nn, ⟨es, clock, h1, _⟩, _⟩ := h; exact (Array.getElem?_eq_some_iff.1 h1).1
theorem ByF.obj {N bm : Nat} {w : World} {G : Nat → Option Value} (h : ByF N bm w G) : ∃ es c, w.heap[bm]? = some (.map es c) := by
  obtain ⟨D, nn, ⟨es, clock, h1, _⟩, _⟩ := h; exact ⟨_, _, h1⟩
theorem ByF.made (w : World) : ByF 0 w.heap.size (w.alloc (.map #[] 0)) (fun _ => none) :=
  ⟨.map [], 0, World.ownsMap_made w _ _ _, Nat.le_refl _, fun z => ⟨⟨fun h => (by simp [has] at h), fun h => absurd rfl h⟩, fun v h => (by cases h)⟩⟩
set_option maxRecDepth 100000 in
theorem ByF.put {N bm : Nat} {w : World} {G : Nat → Option Value} (h : ByF N bm w G) (hN : N < 1000000000) {T e : TypeId} (hT : Try.prog.underlying T = some (.map 3 e)) (s : Nat) (hs : s < 4611686018427387904) (v : Value) :
    ∃ w2, (Instr.mapUpdate T (.map (some bm)) (.int .i64 (s : Int)) v).run Try.prog w = .ok () w2 ∧ ByF (N + 1) bm w2 (fun x => if x = s then some v else G x) ∧ w.grownBy w2 (some bm) := by
  obtain ⟨D, nn, ho, hn, hh⟩ := h
  obtain ⟨w2, hrun, ho2, hg2⟩ := ho.update (int_keyed Try.underlying3) hT (by unfold maxLen; omega) (keyOf_int_mk Try.underlying3 (i64wf hs)) (show heldR v = some (.held v, []) from rfl)
  have hk : WideAt.IsKeyLit (kI (s : Int)) := by simp [WideAt.IsKeyLit]
  refine ⟨w2, hrun, ⟨_, _, ho2, by omega, fun z => ?_⟩, hg2⟩
  by_cases e : z = s
  · subst e
    rw [Maps.has_put_same ho.isMap hk, Maps.atKey_put_same ho.isMap hk]
    simp only [if_pos]
    exact ⟨⟨fun _ h => (by cases h), fun _ => trivial⟩, fun v' h => (by injection h with h; rw [h])⟩
  · rw [Maps.has_put_other (by simpa using (fun h : (z : Int) = (s : Int) => e (by omega))), Maps.atKey_put_other (by simpa using (fun h : (z : Int) = (s : Int) => e (by omega)))]
    simp only [if_neg e]
    exact hh z
set_option maxRecDepth 100000 in
theorem ByF.look {N bm : Nat} {w : World} {G : Nat → Option Value} (h : ByF N bm w G) {T e : TypeId} (hT : Try.prog.underlying T = some (.map 3 e)) {z : Value} (hz : (zeroValue e).run Try.prog w = .ok z w) (s : Nat) (hs : s < 4611686018427387904) :
    (Instr.lookup T (.map (some bm)) (.int .i64 (s : Int)) false).run Try.prog w = .ok ((G s).getD z) w := by
  obtain ⟨D, nn, ho, _, hh⟩ := h
  obtain ⟨v1, p1, hr1, hv1⟩ := ho.lookup (int_keyed Try.underlying3) hT hz (zd := .held z) (zp := []) rfl (keyOf_int_mk Try.underlying3 (i64wf hs))
  have e1 : DataW.held v1 = D.atKey (kI (s : Int)) (.held z) := by simpa [heldR] using (congrArg (fun o => o.map Prod.fst) hv1)
  rw [hr1]
  congr 1
  cases hG : G s with
  | none =>
    have hno : has D (kI (s : Int)) = false := by
      cases hd : has D (kI (s : Int)) with
      | false => rfl
      | true => exact absurd hG ((hh s).1.1 hd)
    rw [Maps.atKey_of_not_has hno] at e1
    injection e1
  | some v =>
    have hhas : has D (kI (s : Int)) = true := (hh s).1.2 (by rw [hG]; exact fun h => by cases h)
    rw [Maps.atKey_indep hhas (.held z) .nil, (hh s).2 v hG] at e1
    injection e1
end Go.Proofs.Ytniflkggcceagaa
