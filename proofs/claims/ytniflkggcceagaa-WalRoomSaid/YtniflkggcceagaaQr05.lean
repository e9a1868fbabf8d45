/- Contracts: segment.Head where it refuses; wire's Reader of one number; segment.Parse. Contracts: wire's Reader of one number below 128. Contract: segment.Parse. -/
import Derived.Test.YtniflkggcceagaaQr03
import Derived.Test.YtniflkggcceagaaQr04
namespace Go.Proofs.Ytniflkggcceagaa
open Go Go.RowKit
set_option maxRecDepth 100000 in
set_option maxHeartbeats 4000000 in
theorem seg_Head_no (k g n : Nat) (t : List UInt8) (h : ¬ okH k g n t) (hk8 : k < 256) (w : World) :
    Calls Try.prog 39 #[.int .u8 (k : Int), .int .u64 (g : Int), .int .u64 (n : Int), .string (bs t)] w fun e w' => e = .returned (.tuple #[.string ⟨#[]⟩, .int .i64 2]) ∧ w' = w := by
  have hN1 := fun w => seg_number g w
  have hN2 := fun w => seg_number n w
  go_enter Try.func39, Try.ntmps39
  by_cases h1 : k ≤ 1
  · have k1 : ¬ (k : Int) > 1 := by omega
    have k2 : decide ((k : Int) > 1) = false := by simp; omega
    have k3 : ¬ (1 : Int) < (k : Int) := by omega
    by_cases h2 : 1 ≤ g ∧ g ≤ 281474976710656
    · rw [decide_eq_true h2] at hN1
      by_cases h3 : 1 ≤ n ∧ n ≤ 281474976710656
      · rw [decide_eq_true h3] at hN2
        have h4 : k = 0 ∧ t ≠ [] := by
          refine Classical.byContradiction fun hc => h ⟨h1, h2, h3, fun hk => Classical.byContradiction fun ht => hc ⟨hk, ht⟩⟩
        have hkb : ((k : Int) == 0) = true := by simp [h4.1]
        have htb : (bs t).toList.isEmpty = false := by
          have h5 := h4.2
          cases t with
          | nil => exact absurd rfl h5
          | cons c r => simp [bs]
        clear h4 h
        go_wp2_with fail
        refine (hN1 w).mono ?_
        rintro e w1 ⟨rfl, hw⟩
        subst w1
        go_wp2_with fail
        refine (hN2 w).mono ?_
        rintro e w1 ⟨rfl, hw⟩
        subst w1
        go_wp2_with fail
        go_ret2
        exact ⟨rfl, rfl⟩
      · rw [decide_eq_false h3] at hN2
        go_wp2_with fail
        refine (hN1 w).mono ?_
        rintro e w1 ⟨rfl, hw⟩
        subst w1
        go_wp2_with fail
        refine (hN2 w).mono ?_
        rintro e w1 ⟨rfl, hw⟩
        subst w1
        go_wp2_with fail
        go_ret2
        exact ⟨rfl, rfl⟩
    · rw [decide_eq_false h2] at hN1
      go_wp2_with fail
      refine (hN1 w).mono ?_
      rintro e w1 ⟨rfl, hw⟩
      subst w1
      go_wp2_with fail
      go_ret2
      exact ⟨rfl, rfl⟩
  · have k1 : (k : Int) > 1 := by omega
    have k2 : decide ((k : Int) > 1) = true := by simp; omega
    have k3 : (1 : Int) < (k : Int) := by omega
    go_wp2_with fail
    go_ret2
    exact ⟨rfl, rfl⟩

theorem wire_number (g : UInt8) (t : List UInt8) (hg : g.toNat < 128) (hl : t.length ≤ 1000000) (w : World) :
    Calls Try.prog 81 #[.string (bs (g :: t))] w fun e w' => e = .returned (.tuple #[.int .u64 (g.toNat : Int), .int .i64 1, .int .i64 0]) ∧ w' = w := by
  obtain ⟨L, hL⟩ : ∃ L, (bs (g :: t)).size = L := ⟨_, rfl⟩
  have hLp : 0 < L := by rw [← hL, bs_size]; simp
  have hLi : (0 : Int) < (L : Int) := by omega
  have hLm : L ≤ 1000001 := by rw [← hL, bs_size]; simpa using hl
  obtain ⟨x, hx⟩ : ∃ x, g.toNat = x := ⟨_, rfl⟩
  rw [hx] at hg ⊢
  have hget : ∀ h, (bs (g :: t))[0]'h = g := fun h => by simp [bs]; rfl
  have hwx : IntKind.u64.wrap ((x : Nat) : Int) = (x : Int) := by rw [IntKind.wrap_u64]; omega
  have hbn := bits_nat .u64 8 (by decide) (fun n h0 h1 => by rw [IntKind.wrap_u64]; omega)
  have e1 : bits .and .u64 (x : Int) 127 = (x : Int) := by
    have h1 := (hbn x 127 (by omega) (by decide)).1
    have h2 : x &&& 127 = x := by
      have := Nat.and_two_pow_sub_one_eq_mod x 7
      rw [show (127 : Nat) = 2 ^ 7 - 1 from rfl, this]; omega
    rw [h2] at h1
    exact h1
  have e2 : bits .or .u64 0 (x : Int) = (x : Int) := by
    have h1 := (hbn 0 x (by decide) (by omega)).2
    rw [Nat.zero_or] at h1
    exact h1
  have e3 : (x : Int) < 128 := by omega
  have hb1 : ∀ h, IntKind.u64.wrap (((bs (g :: t))[0]'h).toNat : Int) = (x : Int) := fun h => by rw [hget h, hx]; exact hwx
  clear hbn
  go_enter Try.func81, Try.ntmps81
  go_wp2_with fail
  go_loopw [2, 8] (fun z i wr => z = .int .u64 0 ∧ i = .int .i64 0 ∧ wr = w) (fun _ _ _ => 0)
  case atStart => exact ⟨rfl, rfl, rfl⟩
  case round =>
    obtain ⟨rfl, rfl, hw⟩ := hrel
    subst wr
    go_wp2_with fail
    exact bodyPost_ret (v := .tuple #[.int .u64 (x : Int), .int .i64 1, .int .i64 0]) (by simp [results, Try.results81, go_sem]) rfl ⟨rfl, rfl⟩
theorem wire_number_end (w : World) :
    Calls Try.prog 81 #[.string ⟨#[]⟩] w fun e w' => e = .returned (.tuple #[.int .u64 0, .int .i64 0, .int .i64 6]) ∧ w' = w := by
  go_enter Try.func81, Try.ntmps81
  go_wp2_with fail
  go_loopw [8] (fun i wr => i = .int .i64 0 ∧ wr = w) (fun _ _ => 0)
  case atStart => exact ⟨rfl, rfl⟩
  case round =>
    obtain ⟨rfl, hw⟩ := hrel
    subst wr
    go_wp2_with fail
    exact bodyPost_ret (v := .tuple #[.int .u64 0, .int .i64 0, .int .i64 6]) (by simp [results, Try.results81, go_sem]) rfl ⟨rfl, rfl⟩
end Go.Proofs.Ytniflkggcceagaa

namespace Go.Proofs.Ytniflkggcceagaa
open Go Go.RowKit
abbrev rdC (s : List UInt8) (e : Int) : Array Value := #[.string (bs s), .int .i64 e, .bool true]
theorem wire_New (s : List UInt8) (w : World) : Calls Try.prog 66 #[.string (bs s)] w fun e w' => e = .returned (.pointer (some ⟨w.heap.size, 0, none⟩)) ∧ One w.heap.size (rdC s 0) w' ∧ Below w.heap.size w w' := by
  go_enter Try.func66, Try.ntmps66
  go_wp2_with fail
  go_ret
  exact ⟨rfl, One.of _ _ _, (Below.refl _ _).alloc (Nat.le_refl _) _⟩
theorem wire_Err (s : List UInt8) (er : Int) (r : Nat) (w : World) (h : One r (rdC s er) w) : Calls Try.prog 68 #[.pointer (some ⟨r, 0, none⟩)] w fun e w' => e = .returned (.int .i64 er) ∧ w' = w := by
  have c0 := h.c 0; have c1 := h.c 1; have c2 := h.c 2
  simp at c0 c1 c2
  clear h
  go_enter Try.func68, Try.ntmps68
  go_wp2_with fail
  go_ret
  exact ⟨rfl, rfl⟩
theorem wire_Left (s : List UInt8) (er : Int) (r : Nat) (w : World) (h : One r (rdC s er) w) : Calls Try.prog 69 #[.pointer (some ⟨r, 0, none⟩)] w fun e w' => e = .returned (.int .i64 (s.length : Int)) ∧ w' = w := by
  have c0 := h.c 0; have c1 := h.c 1; have c2 := h.c 2
  simp at c0 c1 c2
  clear h
  obtain ⟨n, hn⟩ : ∃ n, s.length = n := ⟨_, rfl⟩
  have hsz : (bs s).size = n := by rw [bs_size, hn]
  rw [hn]
  clear hn
  go_enter Try.func69, Try.ntmps69
  go_wp2_with fail
  go_ret
  exact ⟨rfl, rfl⟩
set_option maxRecDepth 100000 in
theorem uint1_ok (g : UInt8) (t : List UInt8) (hg : g.toNat < 128) (hl : t.length ≤ 1000000) (bx bm most : Nat) (v : Value) (w : World) (hm : 128 ≤ most) (h1 : w.cell? ⟨bx, 0, none⟩ = some v) (hf : w.frozen? ⟨bx, 0, none⟩ = false) (h2 : w.cell? ⟨bm, 0, none⟩ = some (.int .u64 (most : Int))) (hne : bx ≠ bm) :
    Calls Try.prog 80 #[.string (bs (g :: t)), .pointer (some ⟨bx, 0, none⟩), .pointer (some ⟨bm, 0, none⟩)] w fun e w' => e = .returned (.tuple #[.int .i64 1, .int .i64 0]) ∧ w' = w.setCell ⟨bx, 0, none⟩ (.int .u64 (g.toNat : Int)) := by
  have HN := Lib.hid (wire_number g t hg hl w)
  obtain ⟨x, hx⟩ : ∃ x, g.toNat = x := ⟨_, rfl⟩
  rw [hx] at HN hg ⊢
  have h3 : (w.setCell ⟨bx, 0, none⟩ (.int .u64 (x : Int))).cell? ⟨bm, 0, none⟩ = some (.int .u64 (most : Int)) := (World.cell?_setCell_far w ⟨bx, 0, none⟩ ⟨bm, 0, none⟩ _ hne).trans h2
  have h4 : (w.setCell ⟨bx, 0, none⟩ (.int .u64 (x : Int))).cell? ⟨bx, 0, none⟩ = some (.int .u64 (x : Int)) := World.cell?_setCell_same' _ _ _ (by rw [h1]; rfl)
  have h5 : ¬ (most : Int) < (x : Int) := by omega
  go_enter Try.func80, Try.ntmps80
  go_wp2_with fail
  refine HN.out.mono ?_
  rintro e w1 ⟨rfl, hw⟩
  subst w1
  go_wp2_with fail
  go_ret2
  exact ⟨rfl, rfl⟩
set_option maxRecDepth 100000 in
theorem uint1_end (bx bm : Nat) (v : Value) (w : World) (h1 : w.cell? ⟨bx, 0, none⟩ = some v) (hf : w.frozen? ⟨bx, 0, none⟩ = false) :
    Calls Try.prog 80 #[.string (bs []), .pointer (some ⟨bx, 0, none⟩), .pointer (some ⟨bm, 0, none⟩)] w fun e w' => e = .returned (.tuple #[.int .i64 0, .int .i64 6]) ∧ w' = w.setCell ⟨bx, 0, none⟩ (.int .u64 0) := by
  have HN := Lib.hid (wire_number_end w)
  have e0 : bs [] = (⟨#[]⟩ : ByteArray) := rfl
  rw [e0]
  go_enter Try.func80, Try.ntmps80
  go_wp2_with fail
  refine HN.out.mono ?_
  rintro e w1 ⟨rfl, hw⟩
  subst w1
  go_wp2_with fail
  go_ret2
  exact ⟨rfl, rfl⟩
set_option maxRecDepth 100000 in
set_option maxHeartbeats 1000000 in
theorem take_ok (g : UInt8) (t : List UInt8) (hg : g.toNat < 128) (hl : t.length ≤ 1000000) (r bx bm most : Nat) (v : Value) (w : World) (hr : One r (rdC (g :: t) 0) w) (hm : 128 ≤ most) (h1 : w.cell? ⟨bx, 0, none⟩ = some v) (hf : w.frozen? ⟨bx, 0, none⟩ = false) (h2 : w.cell? ⟨bm, 0, none⟩ = some (.int .u64 (most : Int))) (hne : bx ≠ bm) (hrx : r ≠ bx) :
    Calls Try.prog 79 #[.pointer (some ⟨r, 0, none⟩), .func (.func 80) #[] #[.pointer (some ⟨bx, 0, none⟩), .pointer (some ⟨bm, 0, none⟩)]] w fun e w' => e = .returned (.bool true) ∧ w' = (w.setCell ⟨bx, 0, none⟩ (.int .u64 (g.toNat : Int))).setCell ⟨r, 0, none⟩ (.string (bs t)) := by
  have HU := Lib.hid (uint1_ok g t hg hl bx bm most v w hm h1 hf h2 hne)
  have c0 := hr.c 0; have c1 := hr.c 1; have c2 := hr.c 2
  simp at c0 c1 c2
  have HO := Lib.hid (hr.far (p := ⟨bx, 0, none⟩) (fun e => hrx e.symm) (.int .u64 (g.toNat : Int)))
  obtain ⟨W2, hW2⟩ : ∃ W2, w.setCell ⟨bx, 0, none⟩ (.int .u64 (g.toNat : Int)) = W2 := ⟨_, rfl⟩
  rw [hW2] at HU HO ⊢
  have d0 := HO.out.c 0
  have f0 := HO.out.f 0
  simp at d0
  obtain ⟨L, hL⟩ : ∃ L, (bs (g :: t)).size = L := ⟨_, rfl⟩
  have hLp : (1 : Int) ≤ (L : Int) := by have : 1 ≤ L := by rw [← hL, bs_size]; simp
                                         omega
  have hLn : ¬ (L : Int) < 1 := by omega
  have hx : (bs (g :: t)).extract 1 L = bs t := by rw [bs_extract, ← hL, bs_size]; simp
  clear hW2 hr
  go_enter Try.func79, Try.ntmps79
  go_wp2_with fail
  refine HU.out.mono ?_
  rintro e w1 ⟨rfl, hw⟩
  subst w1
  go_wp2_with fail
  go_ret
  exact ⟨rfl, rfl⟩
set_option maxRecDepth 100000 in
set_option maxHeartbeats 1000000 in
theorem take_end (r bx bm : Nat) (v : Value) (w : World) (hr : One r (rdC [] 0) w) (h1 : w.cell? ⟨bx, 0, none⟩ = some v) (hf : w.frozen? ⟨bx, 0, none⟩ = false) (hrx : r ≠ bx) :
    Calls Try.prog 79 #[.pointer (some ⟨r, 0, none⟩), .func (.func 80) #[] #[.pointer (some ⟨bx, 0, none⟩), .pointer (some ⟨bm, 0, none⟩)]] w fun e w' => e = .returned (.bool false) ∧ w' = (w.setCell ⟨bx, 0, none⟩ (.int .u64 0)).setCell ⟨r, 1, none⟩ (.int .i64 6) := by
  have HU := Lib.hid (uint1_end bx bm v w h1 hf)
  have c0 := hr.c 0; have c1 := hr.c 1; have c2 := hr.c 2
  simp at c0 c1 c2
  have HO := Lib.hid (hr.far (p := ⟨bx, 0, none⟩) (fun e => hrx e.symm) (.int .u64 0))
  obtain ⟨W2, hW2⟩ : ∃ W2, w.setCell ⟨bx, 0, none⟩ (.int .u64 0) = W2 := ⟨_, rfl⟩
  rw [hW2] at HU HO ⊢
  have d1 := HO.out.c 1
  have f1 := HO.out.f 1
  simp at d1
  clear hW2 hr
  go_enter Try.func79, Try.ntmps79
  go_wp2_with fail
  refine HU.out.mono ?_
  rintro e w1 ⟨rfl, hw⟩
  subst w1
  go_wp2_with fail
  go_ret
  exact ⟨rfl, rfl⟩
def UintG (s : List UInt8) (r : Nat) (w : World) (e : Ending) (w' : World) : Prop :=
  ((s = [] ∧ e = .returned (.int .u64 0) ∧ One r (rdC [] 6) w') ∨ (∃ g t, s = g :: t ∧ g.toNat < 128 ∧ e = .returned (.int .u64 (g.toNat : Int)) ∧ One r (rdC t 0) w')) ∧ ButS (fun k => k = r) w w'
set_option maxRecDepth 100000 in
set_option maxHeartbeats 1000000 in
theorem wire_Uint (s : List UInt8) (hs : s = [] ∨ ∃ g t, s = g :: t ∧ g.toNat < 128) (hl : s.length ≤ 1000000) (r : Nat) (w : World) (hr : One r (rdC s 0) w) :
    Calls Try.prog 67 #[.pointer (some ⟨r, 0, none⟩), .int .u64 281474976710656] w (UintG s r w) := by
  obtain ⟨W0, hW0⟩ : ∃ W0, (w.alloc (.cells #[.int .u64 281474976710656] 31)).alloc (.cells #[.int .u64 0] 31) = W0 := ⟨_, rfl⟩
  have hb0 : Below w.heap.size w W0 := by rw [← hW0]; exact ((Below.refl _ _).alloc (Nat.le_refl _) _).alloc (by simp) _
  have hm0 : Bx W0 w.heap.size 31 (.int .u64 281474976710656) := by rw [← hW0]; exact (Bx.new _ _ _).alloc _
  have hx0 : Bx W0 (w.heap.size + 1) 31 (.int .u64 0) := by
    rw [← hW0]
    have := Bx.new (w.alloc (.cells #[.int .u64 281474976710656] 31)) 31 (.int .u64 0)
    rw [show (w.alloc (.cells #[.int .u64 281474976710656] 31)).heap.size = w.heap.size + 1 by simp] at this
    exact this
  have hrl := hr.lt
  have hr0 := hr.step hb0
  go_enter Try.func67, Try.ntmps67
  go_upto_region 1 with fail
  have HB0 := Lib.hid hb0
  clear hW0 hb0 hr
  rcases hs with rfl | ⟨g, t, rfl, hg⟩
  · have HT := Lib.hid (take_end r (w.heap.size + 1) w.heap.size _ W0 hr0 hx0.c hx0.f (by omega))
    have HX := Lib.hid hx0; have HR := Lib.hid hr0
    clear hx0 hr0
    go_wp2_with fail
    refine HT.out.mono ?_
    rintro e w1 ⟨rfl, hw1⟩
    have hx1 : Bx w1 (w.heap.size + 1) 31 (.int .u64 0) := by rw [hw1]; exact (HX.out.set _).far (by dsimp only; omega) _
    have hr1 : One r (rdC [] 6) w1 := by rw [hw1]; exact (HR.out.far (p := ⟨w.heap.size + 1, 0, none⟩) (by dsimp only; omega) _).set (i := 1) (by simp) (.int .i64 6)
    have hb1 : ButS (fun k => k = r) w w1 := by
      rw [hw1]
      exact (ButS.of ((HB0.out.setCell (p := ⟨w.heap.size + 1, 0, none⟩) (by dsimp only; omega) _))).trans (ButS.set (S := fun k => k = r) _ (p := ⟨r, 1, none⟩) rfl _)
    have c0 := hx1.c; have f0 := hx1.f
    have HX1 := Lib.hid hx1; have HR1 := Lib.hid hr1; have HB1 := Lib.hid hb1
    clear hw1 hx1 hr1 hb1
    go_wp2_with fail
    have hx2 := HX1.out.set (.int .u64 0)
    have p0 := hx2.c
    refine bodyPost_ret (v := .int .u64 0) (by simp [results, Try.results67, go_sem, p0]) rfl ⟨Or.inl ⟨rfl, rfl, HR1.out.far (p := ⟨w.heap.size + 1, 0, none⟩) (by dsimp only; omega) _⟩, ?_⟩
    have h2 : ButS (fun k => k = w.heap.size + 1) w1 (w1.setCell ⟨w.heap.size + 1, 0, none⟩ (.int .u64 0)) := ButS.set (S := fun k => k = w.heap.size + 1) _ (p := ⟨w.heap.size + 1, 0, none⟩) rfl _
    exact ⟨h2.os.trans HB1.out.os, h2.tape.trans HB1.out.tape, h2.output.trans HB1.out.output, Nat.le_trans HB1.out.size h2.size, fun k hk hn => (h2.block k (by have := HB1.out.size; omega) (by omega)).trans (HB1.out.block k hk hn)⟩
  · have HT := Lib.hid (take_ok g t hg (by simp at hl; omega) r (w.heap.size + 1) w.heap.size 281474976710656 _ W0 hr0 (by decide) hx0.c hx0.f hm0.c (by omega) (by omega))
    have HX := Lib.hid hx0; have HR := Lib.hid hr0
    clear hx0 hr0
    go_wp2_with fail
    refine HT.out.mono ?_
    rintro e w1 ⟨rfl, hw1⟩
    have hx1 : Bx w1 (w.heap.size + 1) 31 (.int .u64 (g.toNat : Int)) := by rw [hw1]; exact (HX.out.set _).far (by dsimp only; omega) _
    have hr1 : One r (rdC t 0) w1 := by rw [hw1]; exact (HR.out.far (p := ⟨w.heap.size + 1, 0, none⟩) (by dsimp only; omega) _).set (i := 0) (by simp) (.string (bs t))
    have hb1 : ButS (fun k => k = r) w w1 := by
      rw [hw1]
      exact (ButS.of ((HB0.out.setCell (p := ⟨w.heap.size + 1, 0, none⟩) (by dsimp only; omega) _))).trans (ButS.set (S := fun k => k = r) _ (p := ⟨r, 0, none⟩) rfl _)
    have c0 := hx1.c; have f0 := hx1.f
    have HX1 := Lib.hid hx1; have HR1 := Lib.hid hr1; have HB1 := Lib.hid hb1
    clear hw1 hx1 hr1 hb1
    go_wp2_with fail
    have hx2 := HX1.out.set (.int .u64 (g.toNat : Int))
    have p0 := hx2.c
    refine bodyPost_ret (v := .int .u64 (g.toNat : Int)) (by simp [results, Try.results67, go_sem, p0]) rfl ⟨Or.inr ⟨g, t, rfl, hg, rfl, HR1.out.far (p := ⟨w.heap.size + 1, 0, none⟩) (by dsimp only; omega) _⟩, ?_⟩
    have h2 : ButS (fun k => k = w.heap.size + 1) w1 (w1.setCell ⟨w.heap.size + 1, 0, none⟩ (.int .u64 (g.toNat : Int))) := ButS.set (S := fun k => k = w.heap.size + 1) _ (p := ⟨w.heap.size + 1, 0, none⟩) rfl _
    exact ⟨h2.os.trans HB1.out.os, h2.tape.trans HB1.out.tape, h2.output.trans HB1.out.output, Nat.le_trans HB1.out.size h2.size, fun k hk hn => (h2.block k (by have := HB1.out.size; omega) (by omega)).trans (HB1.out.block k hk hn)⟩
end Go.Proofs.Ytniflkggcceagaa

namespace Go.Proofs.Ytniflkggcceagaa
open Go Go.RowKit
theorem One.grown' {n : Nat} {C : Array Value} {W W' : World} {b : Option Nat} (h : One n C W) (hg : W.grownBy W' b) (hb : b ≠ some n) : One n C W' :=
  ⟨Nat.lt_of_lt_of_le h.lt hg.size, fun j => (World.cell?_of_block (w := W) (a := ⟨n, j, none⟩) (hg.block n h.lt (fun e => hb e.symm))).trans (h.c j), fun j => (World.frozen?_of_block (w := W) (a := ⟨n, j, none⟩) (hg.block n h.lt (fun e => hb e.symm))).trans (h.f j)⟩
theorem One.put7 {n : Nat} {w : World} {a0 a1 a2 a3 a4 a5 a6 : Value} (h : One n #[a0, a1, a2, a3, a4, a5, a6] w) (b0 b1 b2 b3 b4 b5 b6 : Value) :
    One n #[b0, b1, b2, b3, b4, b5, b6] (((((((w.setCell ⟨n, 0, none⟩ b0).setCell ⟨n, 1, none⟩ b1).setCell ⟨n, 2, none⟩ b2).setCell ⟨n, 3, none⟩ b3).setCell ⟨n, 4, none⟩ b4).setCell ⟨n, 5, none⟩ b5).setCell ⟨n, 6, none⟩ b6) := by
  have h0 : One n #[b0, a1, a2, a3, a4, a5, a6] _ := h.set (i := 0) (by simp) b0
  have h1 : One n #[b0, b1, a2, a3, a4, a5, a6] _ := h0.set (i := 1) (by simp) b1
  have h2 : One n #[b0, b1, b2, a3, a4, a5, a6] _ := h1.set (i := 2) (by simp) b2
  have h3 : One n #[b0, b1, b2, b3, a4, a5, a6] _ := h2.set (i := 3) (by simp) b3
  have h4 : One n #[b0, b1, b2, b3, b4, a5, a6] _ := h3.set (i := 4) (by simp) b4
  have h5 : One n #[b0, b1, b2, b3, b4, b5, a6] _ := h4.set (i := 5) (by simp) b5
  exact h5.set (i := 6) (by simp) b6
theorem ButS.put7 (n : Nat) (w : World) (b0 b1 b2 b3 b4 b5 b6 : Value) : ButS (fun k => k = n) w (((((((w.setCell ⟨n, 0, none⟩ b0).setCell ⟨n, 1, none⟩ b1).setCell ⟨n, 2, none⟩ b2).setCell ⟨n, 3, none⟩ b3).setCell ⟨n, 4, none⟩ b4).setCell ⟨n, 5, none⟩ b5).setCell ⟨n, 6, none⟩ b6) :=
  ((((((ButS.set (S := fun k => k = n) _ (p := ⟨n, 0, none⟩) rfl b0).trans (ButS.set (S := fun k => k = n) _ (p := ⟨n, 1, none⟩) rfl b1)).trans (ButS.set (S := fun k => k = n) _ (p := ⟨n, 2, none⟩) rfl b2)).trans (ButS.set (S := fun k => k = n) _ (p := ⟨n, 3, none⟩) rfl b3)).trans (ButS.set (S := fun k => k = n) _ (p := ⟨n, 4, none⟩) rfl b4)).trans (ButS.set (S := fun k => k = n) _ (p := ⟨n, 5, none⟩) rfl b5)).trans (ButS.set (S := fun k => k = n) _ (p := ⟨n, 6, none⟩) rfl b6)
theorem own_put7 {W : World} {base e k m : Nat} {v : Value} {xs : List Value} {n : Nat} (h : W.ownsRow base e k v m xs) (hn : n < base) (b0 b1 b2 b3 b4 b5 b6 : Value) : (((((((W.setCell ⟨n, 0, none⟩ b0).setCell ⟨n, 1, none⟩ b1).setCell ⟨n, 2, none⟩ b2).setCell ⟨n, 3, none⟩ b3).setCell ⟨n, 4, none⟩ b4).setCell ⟨n, 5, none⟩ b5).setCell ⟨n, 6, none⟩ b6).ownsRow base e k v m xs := by
  have h0 := ownsRow_setCell_below h (a := ⟨n, 0, none⟩) hn b0
  have h1 := ownsRow_setCell_below h0 (a := ⟨n, 1, none⟩) hn b1
  have h2 := ownsRow_setCell_below h1 (a := ⟨n, 2, none⟩) hn b2
  have h3 := ownsRow_setCell_below h2 (a := ⟨n, 3, none⟩) hn b3
  have h4 := ownsRow_setCell_below h3 (a := ⟨n, 4, none⟩) hn b4
  have h5 := ownsRow_setCell_below h4 (a := ⟨n, 5, none⟩) hn b5
  exact ownsRow_setCell_below h5 (a := ⟨n, 6, none⟩) hn b6
abbrev sgC (k g n : Nat) (t : List UInt8) (v : Value) (u : Nat) (b : Bool) : Array Value := #[.int .u8 (k : Int), .int .u64 (g : Int), .int .u64 (n : Int), .string (bs t), v, .int .i64 (u : Int), .bool b]
abbrev sg0 : Array Value := #[.int .u8 0, .int .u64 0, .int .u64 0, .string ⟨#[]⟩, .slice none 0 0, .int .i64 0, .bool false]
def ParseG (s : List UInt8) (w : World) (e : Ending) (w' : World) : Prop :=
  ((Wl.parse sumF s = none ∧ ∃ er : Int, er ≠ 0 ∧ e = .returned (.tuple #[.agg sg0, .int .i64 er])) ∨
   (∃ x a cp, Wl.parse sumF s = some x ∧ e = .returned (.tuple #[.agg (sgC x.kind x.gen x.first x.text (.slice a x.recs.length cp) x.used x.whole), .int .i64 0]) ∧ w'.ownsRow w.heap.size 9 1 (.slice a x.recs.length cp) x.recs.length (x.recs.map (fun t => .string (bs t))))) ∧ Below w.heap.size w w'
def Txt (s : List UInt8) : Prop := ∀ n t u, Wl.dec sumF s = some (n, t, u) → n + s.length ≤ 281474976710656 ∧ ∀ k g r, t = k :: g :: r → g.toNat < 128
theorem below_but {B : Nat} {A w w' : World} {S : Nat → Prop} (h : Below B A w) (hb : ButS S w w') (hS : ∀ k, S k → B ≤ k) (hB : B ≤ A.heap.size) : Below B A w' :=
  ⟨hb.os.trans h.os, hb.tape.trans h.tape, hb.output.trans h.output, Nat.le_trans h.size hb.size, fun k hk => by
    have h2 := h.size
    exact (hb.block k (by omega) (fun hs => by have := hS k hs; omega)).trans (h.block k hk)⟩
theorem infoStr : (Try.prog.info? 9).map (fun i => (i.zero, i.size, i.bytes)) = some (some (.string ⟨#[]⟩), 1, 16) := by kernel_rfl
theorem recV_at : ∀ (T : List (List UInt8)) (n i : Nat), i < T.length → (recV n T)[i * 2]? = some (.int .u64 ((n + i : Nat) : Int)) ∧ (recV n T)[i * 2 + 1]? = some (.string (bs (T.getD i [])))
  | [], _, _, h => by simp at h
  | t :: r, n, 0, _ => ⟨rfl, rfl⟩
  | t :: r, n, i + 1, h => by
    obtain ⟨a, b⟩ := recV_at r (n + 1) i (by simpa using h)
    rw [show (i + 1) * 2 = i * 2 + 1 + 1 by omega]
    simp only [recV, List.getElem?_cons_succ, List.getD_cons_succ]
    rw [show n + (i + 1) = n + 1 + i by omega]
    exact ⟨a, b⟩
theorem take_snoc {α : Type} (l : List α) (d : α) (q : Nat) (h : q < l.length) : l.take (q + 1) = l.take q ++ [l.getD q d] := by
  rw [List.take_succ_eq_append_getElem h, List.getD_eq_getElem?_getD, List.getElem?_eq_getElem h]; rfl
theorem lens_take_le (T : List (List UInt8)) (q : Nat) : Wl.lens (T.take q) ≤ Wl.lens T := by
  induction T generalizing q with
  | nil => simp
  | cons t r ih =>
    cases q with
    | zero => simp [Wl.lens]
    | succ q =>
      have := ih q
      show 16 + t.length + Wl.lens (r.take q) ≤ 16 + t.length + Wl.lens r
      omega
theorem scan_lens : ∀ (f n : Nat) (s : List UInt8), Wl.lens (Wl.scan sumF f n s) ≤ s.length ∧ (Wl.scan sumF f n s).length ≤ s.length
  | 0, _, s => by simp [Wl.scan, Wl.lens]
  | f + 1, n, s => by
    cases hd : Wl.dec sumF s with
    | none => simp [Wl.scan, hd, Wl.lens]
    | some x =>
      obtain ⟨m, t, u⟩ := x
      have hu := Wl.dec_used sumF hd
      simp only [Wl.scan, hd]
      split
      · obtain ⟨a, b⟩ := scan_lens f (n + 1) (s.drop u)
        rw [List.length_drop] at a b
        refine ⟨?_, by rw [List.length_cons]; omega⟩
        show 16 + t.length + Wl.lens (Wl.scan sumF f (n + 1) (s.drop u)) ≤ _
        omega
      · simp [Wl.lens]
theorem parse_no {s : List UInt8} {w W : World} {er : Int} (hp : Wl.parse sumF s = none) (her : er ≠ 0) (hB : Below w.heap.size w W) : ParseG s w (.returned (.tuple #[.agg sg0, .int .i64 er])) W := ⟨Or.inl ⟨hp, er, her, rfl⟩, hB⟩
theorem parse_dec {s : List UInt8} (h : Wl.dec sumF s = none) : Wl.parse sumF s = none := by unfold Wl.parse; rw [h]
theorem uint_nil (r : Nat) (w : World) (hr : One r (rdC [] 0) w) :
    Calls Try.prog 67 #[.pointer (some ⟨r, 0, none⟩), .int .u64 281474976710656] w fun e w' => e = .returned (.int .u64 0) ∧ One r (rdC [] 6) w' ∧ ButS (fun k => k = r) w w' := by
  refine (wire_Uint [] (Or.inl rfl) (by simp) r w hr).mono ?_
  rintro e w' ⟨⟨_, he, h⟩ | ⟨g, t, h, _⟩, hb⟩
  · exact ⟨he, h, hb⟩
  · cases h
theorem uint_cons (g : UInt8) (t : List UInt8) (hg : g.toNat < 128) (hl : (g :: t).length ≤ 1000000) (r : Nat) (w : World) (hr : One r (rdC (g :: t) 0) w) :
    Calls Try.prog 67 #[.pointer (some ⟨r, 0, none⟩), .int .u64 281474976710656] w fun e w' => e = .returned (.int .u64 (g.toNat : Int)) ∧ One r (rdC t 0) w' ∧ ButS (fun k => k = r) w w' := by
  refine (wire_Uint (g :: t) (Or.inr ⟨g, t, rfl, hg⟩) hl r w hr).mono ?_
  rintro e w' ⟨⟨h, _⟩ | ⟨g', t', h, _, he, ho⟩, hb⟩
  · cases h
  · cases h; exact ⟨he, ho, hb⟩
set_option maxRecDepth 100000 in
set_option maxHeartbeats 4000000 in
theorem seg_Parse (s : List UInt8) (hl : s.length ≤ 1000000) (hT : Txt s) (w : World) :
    Calls Try.prog 45 #[.string (bs s)] w (ParseG s w) := by
  have e0 : bs [] = (⟨#[]⟩ : ByteArray) := rfl
  go_enter Try.func45, Try.ntmps45
  go_upto_region 1 with fail
  refine wp_abs (F := fun W => Hid (One w.heap.size sg0 W) ∧ Hid (Below w.heap.size w W)) ⟨Lib.hid (One.of _ _ _), Lib.hid ((Below.refl _ _).alloc (Nat.le_refl _) _)⟩ ?_
  rintro W0 ⟨HX0, HB0⟩
  have HD := Lib.hid (frame_Decode s hl W0)
  go_wp2_with fail
  refine HD.out.mono ?_
  rintro e w1 ⟨hD, hb1⟩
  have HX1 := Lib.hid (HX0.out.step hb1)
  have HB1 := Lib.hid (HB0.out.trans (hb1.mono HB0.out.size))
  clear HD hb1 HX0 HB0
  have hx1 := HX1.out
  have x0 := hx1.c 0; have x1 := hx1.c 1; have x2 := hx1.c 2; have x3 := hx1.c 3; have x4 := hx1.c 4; have x5 := hx1.c 5; have x6 := hx1.c 6
  have y0 := hx1.f 0; have y1 := hx1.f 1; have y2 := hx1.f 2; have y3 := hx1.f 3; have y4 := hx1.f 4; have y5 := hx1.f 5; have y6 := hx1.f 6
  simp at x0 x1 x2 x3 x4 x5 x6
  have hxl := hx1.lt
  clear hx1
  rcases hD with ⟨n, t, u, hd, rfl⟩ | ⟨hd, rfl⟩
  · go_upto_region 2 with fail
    refine wp_abs (F := fun W => Hid (One w.heap.size sg0 W) ∧ Hid (One w1.heap.size #[.int .u64 (n : Int), .string (bs t)] W) ∧ Hid (Below w.heap.size w W)) ⟨Lib.hid (HX1.out.step ((Below.refl _ _).alloc (Nat.le_refl _) _)), Lib.hid (One.of _ _ _), Lib.hid (HB1.out.alloc (by have := HB1.out.size; omega) _)⟩ ?_
    clear x0 x1 x2 x3 x4 x5 x6 y0 y1 y2 y3 y4 y5 y6
    rintro W2 ⟨HX2, HH2, HB2⟩
    have hx1 := HX2.out
    have x0 := hx1.c 0; have x1 := hx1.c 1; have x2 := hx1.c 2; have x3 := hx1.c 3; have x4 := hx1.c 4; have x5 := hx1.c 5; have x6 := hx1.c 6
    have y0 := hx1.f 0; have y1 := hx1.f 1; have y2 := hx1.f 2; have y3 := hx1.f 3; have y4 := hx1.f 4; have y5 := hx1.f 5; have y6 := hx1.f 6
    simp at x0 x1 x2 x3 x4 x5 x6
    clear hx1
    have c0 := HH2.out.c 0; have c1 := HH2.out.c 1
    simp at c0 c1
    have hu := Wl.dec_used sumF hd
    have htl : t.length ≤ 1000000 := by omega
    have HUU := Lib.hid hu
    clear hu
    have HDC := Lib.hid hd; have HTX := Lib.hid (hT n t u hd)
    obtain ⟨hb, hhb⟩ : ∃ x, w1.heap.size = x := ⟨_, rfl⟩
    have hxh : w.heap.size < hb := by omega
    rw [hhb] at HH2 c0 c1 ⊢
    clear hd HX1 HB1 hxl hhb
    cases t with
    | nil =>
      rw [e0] at c1
      go_wp2_with fail
      have hz := HX2.out.put7 (.int .u8 0) (.int .u64 0) (.int .u64 0) (.string ⟨#[]⟩) (.slice none 0 0) (.int .i64 0) (.bool false)
      have p0 := hz.c 0; have p1 := hz.c 1; have p2 := hz.c 2; have p3 := hz.c 3; have p4 := hz.c 4; have p5 := hz.c 5; have p6 := hz.c 6
      simp at p0 p1 p2 p3 p4 p5 p6
      exact bodyPost_ret (v := .tuple #[.agg sg0, .int .i64 7]) (by simp [results, Try.results45, go_sem, p0, p1, p2, p3, p4, p5, p6]) rfl (parse_no (by unfold Wl.parse; rw [HDC.out]) (by decide) (below_but HB2.out (ButS.put7 w.heap.size _ _ _ _ _ _ _ _) (fun k h => by omega) (Nat.le_refl _)))
    | cons k t1 =>
      have hne : (bs (k :: t1)).toList.isEmpty = false := by simp [bs]
      obtain ⟨L, hL⟩ : ∃ L, (bs (k :: t1)).size = L := ⟨_, rfl⟩
      have hL1 : Hid (L = t1.length + 1) := Lib.hid (by rw [← hL, bs_size]; simp)
      have hLn : ¬ (L : Int) < 1 := by have := hL1.out; omega
      have hx : (bs (k :: t1)).extract 1 L = bs t1 := by rw [bs_extract, ← hL, bs_size]; simp
      have HNW := Lib.hid (wire_New t1 W2)
      go_wp2_with fail
      refine HNW.out.mono ?_
      rintro e w3 ⟨rfl, hr3, hb3⟩
      have HX3 := Lib.hid (HX2.out.step hb3)
      have HH3 := Lib.hid (HH2.out.step hb3)
      have HB3 := Lib.hid (HB2.out.trans (hb3.mono HB2.out.size))
      have hrl := hr3.lt
      have hhl := HH2.out.lt
      have HR3 := Lib.hid hr3
      obtain ⟨r, hrr⟩ : ∃ x, W2.heap.size = x := ⟨_, rfl⟩
      rw [hrr] at HR3 hhl hrl ⊢
      clear HNW hb3 HX2 HH2 HB2 hr3 c0 c1 x0 x1 x2 x3 x4 x5 x6 y0 y1 y2 y3 y4 y5 y6 hrr
      have c0 := HH3.out.c 0; have c1 := HH3.out.c 1
      simp at c0 c1
      have hget : ∀ h, (bs (k :: t1))[0]'h = k := fun h => by simp [bs]; rfl
      obtain ⟨kn, hkn⟩ : ∃ x, k.toNat = x := ⟨_, rfl⟩
      have hidx : ∀ h, (((bs (k :: t1))[0]'h).toNat : Int) = (kn : Int) := fun h => by rw [hget h, hkn]
      have HKN := Lib.hid hkn
      clear hkn hget
      have hL0 : ¬ L = 0 := by have := hL1.out; omega
      have hLp : (0 : Int) < (L : Int) := by have := hL1.out; omega
      cases t1 with
      | nil =>
        have HU := Lib.hid (uint_nil r w3.drew (HR3.out.drewN 1))
        go_upto_region 7 with fail
        refine wp_region_held_drew (S := fun w' => w'.cell? ⟨hb, 0, none⟩ = some (.int .u64 (n : Int)) ∧ w'.cell? ⟨hb, 1, none⟩ = some (.string (bs (k :: [])))) (by kernel_rfl) (⟨c0, c1⟩) (fun hS => ?_)
        refine wpAnyH_take (i := 0) (v := .pointer (some ⟨hb, 1, none⟩)) rfl (by kernel_rfl) (by kernel_rfl) (by kernel_rfl) (fun _ _ _ h => h) (Or.inl ⟨by rfl, fun w' hw => ?_⟩) hS ?_
        · obtain ⟨h1, h2⟩ := hw
          go_simp
        simp only [Act.put, List.getElem_toArray, List.getElem_cons_zero, List.setIfInBounds_toArray, List.set_cons_zero, List.set_cons_succ]
        refine wpAnyH_take (i := 1) (v := .string (bs (k :: []))) rfl (by kernel_rfl) (by kernel_rfl) (by kernel_rfl) (fun _ _ _ h => h) (Or.inl ⟨by rfl, fun w' hw => ?_⟩) hS ?_
        · obtain ⟨h1, h2⟩ := hw
          go_simp
        simp only [Act.put, List.getElem_toArray, List.getElem_cons_succ, List.getElem_cons_zero, List.setIfInBounds_toArray, List.set_cons_zero, List.set_cons_succ]
        refine wpAnyH_take (i := 2) (v := .int .u8 (kn : Int)) rfl (by kernel_rfl) (by kernel_rfl) (by kernel_rfl) (fun _ _ _ h => h) (Or.inl ⟨by rfl, fun w' hw => ?_⟩) hS ?_
        · obtain ⟨h1, h2⟩ := hw
          go_simp
        simp only [Act.put, List.getElem_toArray, List.getElem_cons_succ, List.getElem_cons_zero, List.setIfInBounds_toArray, List.set_cons_zero, List.set_cons_succ]
        refine wpAnyH_take (i := 3) (v := .pointer (some ⟨r, 0, none⟩)) rfl (by kernel_rfl) (by kernel_rfl) (by kernel_rfl) (fun _ _ _ h => h) (Or.inl ⟨by rfl, fun w' hw => ?_⟩) hS ?_
        · obtain ⟨h1, h2⟩ := hw
          go_simp
        simp only [Act.put, List.getElem_toArray, List.getElem_cons_succ, List.getElem_cons_zero, List.setIfInBounds_toArray, List.set_cons_zero, List.set_cons_succ]
        refine wpAnyH_take (i := 5) (v := .pointer (some ⟨hb, 0, none⟩)) rfl (by kernel_rfl) (by kernel_rfl) (by kernel_rfl) (fun _ _ _ h => h) (Or.inl ⟨by rfl, fun w' hw => ?_⟩) hS ?_
        · obtain ⟨h1, h2⟩ := hw
          go_simp
        simp only [Act.put, List.getElem_toArray, List.getElem_cons_succ, List.getElem_cons_zero, List.setIfInBounds_toArray, List.set_cons_zero, List.set_cons_succ]
        refine wpAnyH_take (i := 6) (v := .int .u64 (n : Int)) rfl (by kernel_rfl) (by kernel_rfl) (by kernel_rfl) (fun _ _ _ h => h) (Or.inl ⟨by rfl, fun w' hw => ?_⟩) hS ?_
        · obtain ⟨h1, h2⟩ := hw
          go_simp
        simp only [Act.put, List.getElem_toArray, List.getElem_cons_succ, List.getElem_cons_zero, List.setIfInBounds_toArray, List.set_cons_zero, List.set_cons_succ]
        refine wpAnyH_take (i := 7) (v := .int .i64 (u : Int)) rfl (by kernel_rfl) (by kernel_rfl) (by kernel_rfl) (fun _ _ _ h => h) (Or.inl ⟨by rfl, fun w' hw => ?_⟩) hS ?_
        · obtain ⟨h1, h2⟩ := hw
          go_simp
        simp only [Act.put, List.getElem_toArray, List.getElem_cons_succ, List.getElem_cons_zero, List.setIfInBounds_toArray, List.set_cons_zero, List.set_cons_succ]
        refine wpAnyH_ready (rs := [4]) (by kernel_rfl) (by simp) ?_
        refine AllReadyH.cons rfl (fun K hK => ?_) AllReadyH.nil
        rw [if_pos (by rfl)]
        go_simp
        refine HU.out.mono ?_
        rintro e w4 ⟨rfl, hr4, hb4⟩
        have HX4 := Lib.hid ((HX3.out.drewN 1).but hb4 (by omega))
        have HH4 := Lib.hid ((HH3.out.drewN 1).but hb4 (by omega))
        have HB4 : Hid (Below w.heap.size w w4) := Lib.hid (below_but HB3.out (S := fun k => k = r) ⟨hb4.os, hb4.tape, hb4.output, hb4.size, hb4.block⟩ (fun k h => by omega) (Nat.le_refl _))
        have HR4 := Lib.hid hr4
        clear hr4 hb4
        have d0 := HH4.out.c 0; have d1 := HH4.out.c 1
        simp at d0 d1
        have hx1 := HX4.out
        have x0 := hx1.c 0; have x1 := hx1.c 1; have x2 := hx1.c 2; have x3 := hx1.c 3; have x4 := hx1.c 4; have x5 := hx1.c 5; have x6 := hx1.c 6
        have y0 := hx1.f 0; have y1 := hx1.f 1; have y2 := hx1.f 2; have y3 := hx1.f 3; have y4 := hx1.f 4; have y5 := hx1.f 5; have y6 := hx1.f 6
        simp at x0 x1 x2 x3 x4 x5 x6
        clear hx1
        go_simp
        refine hK.out _ _ ⟨d0, d1⟩ (fun hS => ?_)
        clear hK
        (try go_frame)
        refine wpAnyH_take (i := 8) (v := .agg #[.int .u8 (kn : Int), .int .u64 0, .int .u64 (n : Int), .string ⟨#[]⟩, .slice none 0 0, .int .i64 (u : Int), .bool false]) rfl (by kernel_rfl) (by kernel_rfl) (by kernel_rfl) (fun _ _ _ h => h) (Or.inl ⟨by rfl, fun w' hw => ?_⟩) hS ?_
        · obtain ⟨h1, h2⟩ := hw
          go_simp
        simp only [Act.put, List.getElem_toArray, List.getElem_cons_succ, List.getElem_cons_zero, List.setIfInBounds_toArray, List.set_cons_zero, List.set_cons_succ]
        refine wpAnyH_ready (rs := [9]) (by kernel_rfl) (by simp) ?_
        refine AllReadyH.cons rfl (fun K hK => ?_) AllReadyH.nil
        rw [if_pos (by rfl)]
        go_simp
        have HX5 := Lib.hid (HX4.out.put7 (.int .u8 (kn : Int)) (.int .u64 0) (.int .u64 (n : Int)) (.string ⟨#[]⟩) (.slice none 0 0) (.int .i64 (u : Int)) (.bool false))
        have hb5 := ButS.put7 w.heap.size w4 (.int .u8 (kn : Int)) (.int .u64 0) (.int .u64 (n : Int)) (.string ⟨#[]⟩) (.slice none 0 0) (.int .i64 (u : Int)) (.bool false)
        have HH5 := Lib.hid (HH4.out.but hb5 (by omega)); have HR5 := Lib.hid (HR4.out.but hb5 (by omega)); have HB5 := Lib.hid (below_but HB4.out hb5 (fun k h => by omega) (Nat.le_refl _))
        have g0 := HH5.out.c 0; have g1 := HH5.out.c 1
        simp at g0 g1
        clear hb5 x0 x1 x2 x3 x4 x5 x6 y0 y1 y2 y3 y4 y5 y6
        generalize ((((((w4.setCell ⟨w.heap.size, 0, none⟩ (.int .u8 (kn : Int))).setCell ⟨w.heap.size, 1, none⟩ (.int .u64 0)).setCell ⟨w.heap.size, 2, none⟩ (.int .u64 (n : Int))).setCell ⟨w.heap.size, 3, none⟩ (.string ⟨#[]⟩)).setCell ⟨w.heap.size, 4, none⟩ (.slice none 0 0)).setCell ⟨w.heap.size, 5, none⟩ (.int .i64 (u : Int))).setCell ⟨w.heap.size, 6, none⟩ (.bool false) = w5 at HX5 HH5 HR5 HB5 g0 g1 ⊢
        refine hK.out _ _ ⟨g0, g1⟩ (fun hS => ?_)
        clear hK
        (try go_frame)
        refine wpAnyH_done (by kernel_rfl) ?_ _
        clear hS
        have HE := Lib.hid (wire_Err [] 6 r w5 HR5.out)
        go_wp2_with fail
        refine HE.out.mono ?_
        rintro e w6 ⟨rfl, hw6⟩
        subst w6
        have hx1 := HX5.out
        have x0 := hx1.c 0; have x1 := hx1.c 1; have x2 := hx1.c 2; have x3 := hx1.c 3; have x4 := hx1.c 4; have x5 := hx1.c 5; have x6 := hx1.c 6
        have y0 := hx1.f 0; have y1 := hx1.f 1; have y2 := hx1.f 2; have y3 := hx1.f 3; have y4 := hx1.f 4; have y5 := hx1.f 5; have y6 := hx1.f 6
        simp at x0 x1 x2 x3 x4 x5 x6
        clear hx1
        go_wp2_with fail
        have hz := HX5.out.put7 (.int .u8 0) (.int .u64 0) (.int .u64 0) (.string ⟨#[]⟩) (.slice none 0 0) (.int .i64 0) (.bool false)
        have p0 := hz.c 0; have p1 := hz.c 1; have p2 := hz.c 2; have p3 := hz.c 3; have p4 := hz.c 4; have p5 := hz.c 5; have p6 := hz.c 6
        simp at p0 p1 p2 p3 p4 p5 p6
        exact bodyPost_ret (v := .tuple #[.agg sg0, .int .i64 7]) (by simp [results, Try.results45, go_sem, p0, p1, p2, p3, p4, p5, p6]) rfl (parse_no (by unfold Wl.parse; rw [HDC.out]) (by decide) (below_but HB5.out (ButS.put7 w.heap.size _ _ _ _ _ _ _ _) (fun k h => by omega) (Nat.le_refl _)))
      | cons g t2 =>
        have hg := HTX.out.2 k g t2 rfl
        have HU := Lib.hid (uint_cons g t2 hg (by simp at htl ⊢; omega) r w3.drew (HR3.out.drewN 1))
        obtain ⟨gn, hgn⟩ : ∃ x, g.toNat = x := ⟨_, rfl⟩
        rw [hgn] at HU hg
        have HGN := Lib.hid hgn
        clear hgn
        go_upto_region 7 with fail
        refine wp_region_held_drew (S := fun w' => w'.cell? ⟨hb, 0, none⟩ = some (.int .u64 (n : Int)) ∧ w'.cell? ⟨hb, 1, none⟩ = some (.string (bs (k :: (g :: t2))))) (by kernel_rfl) (⟨c0, c1⟩) (fun hS => ?_)
        refine wpAnyH_take (i := 0) (v := .pointer (some ⟨hb, 1, none⟩)) rfl (by kernel_rfl) (by kernel_rfl) (by kernel_rfl) (fun _ _ _ h => h) (Or.inl ⟨by rfl, fun w' hw => ?_⟩) hS ?_
        · obtain ⟨h1, h2⟩ := hw
          go_simp
        simp only [Act.put, List.getElem_toArray, List.getElem_cons_zero, List.setIfInBounds_toArray, List.set_cons_zero, List.set_cons_succ]
        refine wpAnyH_take (i := 1) (v := .string (bs (k :: (g :: t2)))) rfl (by kernel_rfl) (by kernel_rfl) (by kernel_rfl) (fun _ _ _ h => h) (Or.inl ⟨by rfl, fun w' hw => ?_⟩) hS ?_
        · obtain ⟨h1, h2⟩ := hw
          go_simp
        simp only [Act.put, List.getElem_toArray, List.getElem_cons_succ, List.getElem_cons_zero, List.setIfInBounds_toArray, List.set_cons_zero, List.set_cons_succ]
        refine wpAnyH_take (i := 2) (v := .int .u8 (kn : Int)) rfl (by kernel_rfl) (by kernel_rfl) (by kernel_rfl) (fun _ _ _ h => h) (Or.inl ⟨by rfl, fun w' hw => ?_⟩) hS ?_
        · obtain ⟨h1, h2⟩ := hw
          go_simp
        simp only [Act.put, List.getElem_toArray, List.getElem_cons_succ, List.getElem_cons_zero, List.setIfInBounds_toArray, List.set_cons_zero, List.set_cons_succ]
        refine wpAnyH_take (i := 3) (v := .pointer (some ⟨r, 0, none⟩)) rfl (by kernel_rfl) (by kernel_rfl) (by kernel_rfl) (fun _ _ _ h => h) (Or.inl ⟨by rfl, fun w' hw => ?_⟩) hS ?_
        · obtain ⟨h1, h2⟩ := hw
          go_simp
        simp only [Act.put, List.getElem_toArray, List.getElem_cons_succ, List.getElem_cons_zero, List.setIfInBounds_toArray, List.set_cons_zero, List.set_cons_succ]
        refine wpAnyH_take (i := 5) (v := .pointer (some ⟨hb, 0, none⟩)) rfl (by kernel_rfl) (by kernel_rfl) (by kernel_rfl) (fun _ _ _ h => h) (Or.inl ⟨by rfl, fun w' hw => ?_⟩) hS ?_
        · obtain ⟨h1, h2⟩ := hw
          go_simp
        simp only [Act.put, List.getElem_toArray, List.getElem_cons_succ, List.getElem_cons_zero, List.setIfInBounds_toArray, List.set_cons_zero, List.set_cons_succ]
        refine wpAnyH_take (i := 6) (v := .int .u64 (n : Int)) rfl (by kernel_rfl) (by kernel_rfl) (by kernel_rfl) (fun _ _ _ h => h) (Or.inl ⟨by rfl, fun w' hw => ?_⟩) hS ?_
        · obtain ⟨h1, h2⟩ := hw
          go_simp
        simp only [Act.put, List.getElem_toArray, List.getElem_cons_succ, List.getElem_cons_zero, List.setIfInBounds_toArray, List.set_cons_zero, List.set_cons_succ]
        refine wpAnyH_take (i := 7) (v := .int .i64 (u : Int)) rfl (by kernel_rfl) (by kernel_rfl) (by kernel_rfl) (fun _ _ _ h => h) (Or.inl ⟨by rfl, fun w' hw => ?_⟩) hS ?_
        · obtain ⟨h1, h2⟩ := hw
          go_simp
        simp only [Act.put, List.getElem_toArray, List.getElem_cons_succ, List.getElem_cons_zero, List.setIfInBounds_toArray, List.set_cons_zero, List.set_cons_succ]
        refine wpAnyH_ready (rs := [4]) (by kernel_rfl) (by simp) ?_
        refine AllReadyH.cons rfl (fun K hK => ?_) AllReadyH.nil
        rw [if_pos (by rfl)]
        go_simp
        refine HU.out.mono ?_
        rintro e w4 ⟨rfl, hr4, hb4⟩
        have HX4 := Lib.hid ((HX3.out.drewN 1).but hb4 (by omega))
        have HH4 := Lib.hid ((HH3.out.drewN 1).but hb4 (by omega))
        have HB4 : Hid (Below w.heap.size w w4) := Lib.hid (below_but HB3.out (S := fun k => k = r) ⟨hb4.os, hb4.tape, hb4.output, hb4.size, hb4.block⟩ (fun k h => by omega) (Nat.le_refl _))
        have HR4 := Lib.hid hr4
        clear hr4 hb4
        have d0 := HH4.out.c 0; have d1 := HH4.out.c 1
        simp at d0 d1
        have hx1 := HX4.out
        have x0 := hx1.c 0; have x1 := hx1.c 1; have x2 := hx1.c 2; have x3 := hx1.c 3; have x4 := hx1.c 4; have x5 := hx1.c 5; have x6 := hx1.c 6
        have y0 := hx1.f 0; have y1 := hx1.f 1; have y2 := hx1.f 2; have y3 := hx1.f 3; have y4 := hx1.f 4; have y5 := hx1.f 5; have y6 := hx1.f 6
        simp at x0 x1 x2 x3 x4 x5 x6
        clear hx1
        go_simp
        refine hK.out _ _ ⟨d0, d1⟩ (fun hS => ?_)
        clear hK
        (try go_frame)
        refine wpAnyH_take (i := 8) (v := .agg #[.int .u8 (kn : Int), .int .u64 (gn : Int), .int .u64 (n : Int), .string ⟨#[]⟩, .slice none 0 0, .int .i64 (u : Int), .bool false]) rfl (by kernel_rfl) (by kernel_rfl) (by kernel_rfl) (fun _ _ _ h => h) (Or.inl ⟨by rfl, fun w' hw => ?_⟩) hS ?_
        · obtain ⟨h1, h2⟩ := hw
          go_simp
        simp only [Act.put, List.getElem_toArray, List.getElem_cons_succ, List.getElem_cons_zero, List.setIfInBounds_toArray, List.set_cons_zero, List.set_cons_succ]
        refine wpAnyH_ready (rs := [9]) (by kernel_rfl) (by simp) ?_
        refine AllReadyH.cons rfl (fun K hK => ?_) AllReadyH.nil
        rw [if_pos (by rfl)]
        go_simp
        have HX5 := Lib.hid (HX4.out.put7 (.int .u8 (kn : Int)) (.int .u64 (gn : Int)) (.int .u64 (n : Int)) (.string ⟨#[]⟩) (.slice none 0 0) (.int .i64 (u : Int)) (.bool false))
        have hb5 := ButS.put7 w.heap.size w4 (.int .u8 (kn : Int)) (.int .u64 (gn : Int)) (.int .u64 (n : Int)) (.string ⟨#[]⟩) (.slice none 0 0) (.int .i64 (u : Int)) (.bool false)
        have HH5 := Lib.hid (HH4.out.but hb5 (by omega)); have HR5 := Lib.hid (HR4.out.but hb5 (by omega)); have HB5 := Lib.hid (below_but HB4.out hb5 (fun k h => by omega) (Nat.le_refl _))
        have g0 := HH5.out.c 0; have g1 := HH5.out.c 1
        simp at g0 g1
        clear hb5 x0 x1 x2 x3 x4 x5 x6 y0 y1 y2 y3 y4 y5 y6
        generalize ((((((w4.setCell ⟨w.heap.size, 0, none⟩ (.int .u8 (kn : Int))).setCell ⟨w.heap.size, 1, none⟩ (.int .u64 (gn : Int))).setCell ⟨w.heap.size, 2, none⟩ (.int .u64 (n : Int))).setCell ⟨w.heap.size, 3, none⟩ (.string ⟨#[]⟩)).setCell ⟨w.heap.size, 4, none⟩ (.slice none 0 0)).setCell ⟨w.heap.size, 5, none⟩ (.int .i64 (u : Int))).setCell ⟨w.heap.size, 6, none⟩ (.bool false) = w5 at HX5 HH5 HR5 HB5 g0 g1 ⊢
        refine hK.out _ _ ⟨g0, g1⟩ (fun hS => ?_)
        clear hK
        (try go_frame)
        refine wpAnyH_done (by kernel_rfl) ?_ _
        clear hS
        have HE := Lib.hid (wire_Err t2 0 r w5 HR5.out)
        have HLF := Lib.hid (wire_Left t2 0 r w5.drew (HR5.out.drewN 1))
        obtain ⟨m, hm⟩ : ∃ x, t2.length = x := ⟨_, rfl⟩
        rw [hm] at HLF
        have hsub : (L : Int) - (m : Int) = 2 := by have := hL1.out; simp at this; omega
        have hL2 : ¬ (L : Int) < 2 := by have := hL1.out; simp at this; omega
        have h2w : IntKind.i64.wrap 2 = 2 := by decide
        have hx2 : (bs (k :: g :: t2)).extract 2 L = bs t2 := by rw [bs_extract, ← hL, bs_size]; simp
        have HM := Lib.hid hm
        clear hm
        go_wp2_with fail
        refine HE.out.mono ?_
        rintro e w6 ⟨rfl, hw6⟩
        subst w6
        have hx1 := HX5.out
        have x0 := hx1.c 0; have x1 := hx1.c 1; have x2 := hx1.c 2; have x3 := hx1.c 3; have x4 := hx1.c 4; have x5 := hx1.c 5; have x6 := hx1.c 6
        have y0 := hx1.f 0; have y1 := hx1.f 1; have y2 := hx1.f 2; have y3 := hx1.f 3; have y4 := hx1.f 4; have y5 := hx1.f 5; have y6 := hx1.f 6
        simp at x0 x1 x2 x3 x4 x5 x6
        clear hx1
        go_upto_region 10 with fail
        refine wp_region_held_drew (S := fun w' => w'.cell? ⟨hb, 0, none⟩ = some (.int .u64 (n : Int)) ∧ w'.cell? ⟨hb, 1, none⟩ = some (.string (bs (k :: g :: t2)))) (by kernel_rfl) (⟨g0, g1⟩) (fun hS => ?_)
        refine wpAnyH_take (i := 0) (v := .pointer (some ⟨hb, 1, none⟩)) rfl (by kernel_rfl) (by kernel_rfl) (by kernel_rfl) (fun _ _ _ h => h) (Or.inl ⟨by rfl, fun w' hw => ?_⟩) hS ?_
        · obtain ⟨h1, h2⟩ := hw
          go_simp
        simp only [Act.put, List.getElem_toArray, List.getElem_cons_zero, List.setIfInBounds_toArray, List.set_cons_zero, List.set_cons_succ]
        refine wpAnyH_take (i := 1) (v := .string (bs (k :: g :: t2))) rfl (by kernel_rfl) (by kernel_rfl) (by kernel_rfl) (fun _ _ _ h => h) (Or.inl ⟨by rfl, fun w' hw => ?_⟩) hS ?_
        · obtain ⟨h1, h2⟩ := hw
          go_simp
        simp only [Act.put, List.getElem_toArray, List.getElem_cons_succ, List.getElem_cons_zero, List.setIfInBounds_toArray, List.set_cons_zero, List.set_cons_succ]
        refine wpAnyH_take (i := 2) (v := .pointer (some ⟨hb, 1, none⟩)) rfl (by kernel_rfl) (by kernel_rfl) (by kernel_rfl) (fun _ _ _ h => h) (Or.inl ⟨by rfl, fun w' hw => ?_⟩) hS ?_
        · obtain ⟨h1, h2⟩ := hw
          go_simp
        simp only [Act.put, List.getElem_toArray, List.getElem_cons_succ, List.getElem_cons_zero, List.setIfInBounds_toArray, List.set_cons_zero, List.set_cons_succ]
        refine wpAnyH_take (i := 3) (v := .string (bs (k :: g :: t2))) rfl (by kernel_rfl) (by kernel_rfl) (by kernel_rfl) (fun _ _ _ h => h) (Or.inl ⟨by rfl, fun w' hw => ?_⟩) hS ?_
        · obtain ⟨h1, h2⟩ := hw
          go_simp
        simp only [Act.put, List.getElem_toArray, List.getElem_cons_succ, List.getElem_cons_zero, List.setIfInBounds_toArray, List.set_cons_zero, List.set_cons_succ]
        refine wpAnyH_take (i := 4) (v := .int .i64 (L : Int)) rfl (by kernel_rfl) (by kernel_rfl) (by kernel_rfl) (fun _ _ _ h => h) (Or.inl ⟨by rfl, fun w' hw => ?_⟩) hS ?_
        · obtain ⟨h1, h2⟩ := hw
          go_simp
        simp only [Act.put, List.getElem_toArray, List.getElem_cons_succ, List.getElem_cons_zero, List.setIfInBounds_toArray, List.set_cons_zero, List.set_cons_succ]
        refine wpAnyH_take (i := 5) (v := .pointer (some ⟨r, 0, none⟩)) rfl (by kernel_rfl) (by kernel_rfl) (by kernel_rfl) (fun _ _ _ h => h) (Or.inl ⟨by rfl, fun w' hw => ?_⟩) hS ?_
        · obtain ⟨h1, h2⟩ := hw
          go_simp
        simp only [Act.put, List.getElem_toArray, List.getElem_cons_succ, List.getElem_cons_zero, List.setIfInBounds_toArray, List.set_cons_zero, List.set_cons_succ]
        refine wpAnyH_ready (rs := [6]) (by kernel_rfl) (by simp) ?_
        refine AllReadyH.cons rfl (fun K hK => ?_) AllReadyH.nil
        rw [if_pos (by rfl)]
        go_simp
        refine HLF.out.mono ?_
        rintro e w6 ⟨rfl, hw6⟩
        subst w6
        go_simp
        refine hK.out _ _ hS (fun hS => ?_)
        clear hK
        (try go_frame)
        refine wpAnyH_take (i := 7) (v := .int .i64 2) rfl (by kernel_rfl) (by kernel_rfl) (by kernel_rfl) (fun _ _ _ h => h) (Or.inl ⟨by rfl, fun w' hw => ?_⟩) hS ?_
        · obtain ⟨h1, h2⟩ := hw
          go_simp
        simp only [Act.put, List.getElem_toArray, List.getElem_cons_succ, List.getElem_cons_zero, List.setIfInBounds_toArray, List.set_cons_zero, List.set_cons_succ]
        refine wpAnyH_take (i := 8) (v := .string (bs t2)) rfl (by kernel_rfl) (by kernel_rfl) (by kernel_rfl) (fun _ _ _ h => h) (Or.inl ⟨by rfl, fun w' hw => ?_⟩) hS ?_
        · obtain ⟨h1, h2⟩ := hw
          go_simp
        simp only [Act.put, List.getElem_toArray, List.getElem_cons_succ, List.getElem_cons_zero, List.setIfInBounds_toArray, List.set_cons_zero, List.set_cons_succ]
        refine wpAnyH_take (i := 9) (v := .pointer (some ⟨w.heap.size, 3, none⟩)) rfl (by kernel_rfl) (by kernel_rfl) (by kernel_rfl) (fun _ _ _ h => h) (Or.inl ⟨by rfl, fun w' hw => ?_⟩) hS ?_
        · obtain ⟨h1, h2⟩ := hw
          go_simp
        simp only [Act.put, List.getElem_toArray, List.getElem_cons_succ, List.getElem_cons_zero, List.setIfInBounds_toArray, List.set_cons_zero, List.set_cons_succ]
        refine wpAnyH_ready (rs := [10]) (by kernel_rfl) (by simp) ?_
        refine AllReadyH.cons rfl (fun K hK => ?_) AllReadyH.nil
        rw [if_pos (by rfl)]
        go_simp
        have HX7 : Hid (One w.heap.size (sgC kn gn n t2 (.slice none 0 0) u false) (w5.setCell ⟨w.heap.size, 3, none⟩ (.string (bs t2))).drew) := Lib.hid ((HX5.out.set (i := 3) (by simp) (.string (bs t2))).drewN 1)
        have hb7 : ButS (fun k => k = w.heap.size) w5 (w5.setCell ⟨w.heap.size, 3, none⟩ (.string (bs t2))).drew := (ButS.set (S := fun k => k = w.heap.size) w5 (p := ⟨w.heap.size, 3, none⟩) rfl (.string (bs t2))).drewN 1
        have HH7 := Lib.hid (HH5.out.but hb7 (by omega)); have HB7 := Lib.hid (below_but HB5.out hb7 (fun k h => by omega) (Nat.le_refl _))
        clear hb7 g0 g1 x0 x1 x2 x3 x4 x5 x6 y0 y1 y2 y3 y4 y5 y6
        generalize (w5.setCell ⟨w.heap.size, 3, none⟩ (.string (bs t2))).drew = w7 at HX7 HH7 HB7 ⊢
        have g0 := HH7.out.c 0; have g1 := HH7.out.c 1
        simp at g0 g1
        refine hK.out _ _ ⟨g0, g1⟩ (fun hS => ?_)
        clear hK
        (try go_frame)
        refine wpAnyH_done (by kernel_rfl) ?_ _
        clear hS HE HLF hsub hx2 hL2
        have hx1 := HX7.out
        have x0 := hx1.c 0; have x1 := hx1.c 1; have x2 := hx1.c 2; have x3 := hx1.c 3; have x4 := hx1.c 4; have x5 := hx1.c 5; have x6 := hx1.c 6
        have y0 := hx1.f 0; have y1 := hx1.f 1; have y2 := hx1.f 2; have y3 := hx1.f 3; have y4 := hx1.f 4; have y5 := hx1.f 5; have y6 := hx1.f 6
        simp at x0 x1 x2 x3 x4 x5 x6
        clear hx1
        have HDL := Lib.hid (Wl.dec_len sumF HDC.out)
        have hdw : w7.heap.size = w7.heap.size := rfl
        by_cases hok : okH kn gn n t2
        · have HHD := Lib.hid (seg_Head kn gn n t2 hok hg (by have := HDL.out; simp at this; omega) w7)
          clear hdw
          go_wp2_with fail
          refine HHD.out.mono ?_
          rintro e w8 ⟨rfl, hb8⟩
          have HX8 := Lib.hid (HX7.out.step hb8); have HB8 := Lib.hid (HB7.out.trans (hb8.mono HB7.out.size))
          clear hb8 x0 x1 x2 x3 x4 x5 x6 y0 y1 y2 y3 y4 y5 y6 g0 g1
          have hx1 := HX8.out
          have x0 := hx1.c 0; have x1 := hx1.c 1; have x2 := hx1.c 2; have x3 := hx1.c 3; have x4 := hx1.c 4; have x5 := hx1.c 5; have x6 := hx1.c 6
          have y0 := hx1.f 0; have y1 := hx1.f 1; have y2 := hx1.f 2; have y3 := hx1.f 3; have y4 := hx1.f 4; have y5 := hx1.f 5; have y6 := hx1.f 6
          simp at x0 x1 x2 x3 x4 x5 x6
          clear hx1
          have hxs : (bs s).extract u (bs s).size = bs (s.drop u) := by rw [bs_extract, bs_size, List.take_of_length_le (by rw [List.length_drop]; exact Nat.le_refl _)]
          obtain ⟨Ls, hLs⟩ : ∃ x, (bs s).size = x := ⟨_, rfl⟩
          rw [hLs] at hxs
          have hLs2 : Hid (Ls = s.length) := Lib.hid (by rw [← hLs, bs_size])
          have huL : ¬ (Ls : Int) < (u : Int) := by have := hLs2.out; have := HUU.out; omega
          have HSC := Lib.hid (frame_Scan (s.drop u) n w8.drew (by rw [List.length_drop]; omega) (by have := HTX.out.1; omega))
          unfold ScanG at HSC
          have hscan : Wl.scan sumF ((s.drop u).length + 1) n (s.drop u) = Wl.scan sumF (s.length + 1) n (s.drop u) := Wl.scan_fuel sumF _ _ _ _ (by omega) (by rw [List.length_drop]; omega)
          rw [hscan] at HSC
          have hsl := scan_lens (s.length + 1) n (s.drop u)
          obtain ⟨T, hTT⟩ : ∃ x, Wl.scan sumF (s.length + 1) n (s.drop u) = x := ⟨_, rfl⟩
          rw [hTT] at HSC hsl
          rw [List.length_drop] at hsl
          obtain ⟨nT, hnT⟩ : ∃ x, T.length = x := ⟨_, rfl⟩
          rw [hnT] at HSC hsl
          have HTT := Lib.hid hTT; have HNT := Lib.hid hnT; have HSL := Lib.hid hsl
          clear hTT hnT hsl hscan
          go_upto_region 14 with fail
          refine wp_region_held_drew (S := fun w' => w'.cell? ⟨w.heap.size, 2, none⟩ = some (.int .u64 (n : Int))) (by kernel_rfl) (x2) (fun hS => ?_)
          refine wpAnyH_take (i := 0) (v := .string (bs s)) rfl (by kernel_rfl) (by kernel_rfl) (by kernel_rfl) (fun _ _ _ h => h) (Or.inl ⟨by rfl, fun w' hw => ?_⟩) hS ?_
          · skip
            go_simp
          simp only [Act.put, List.getElem_toArray, List.getElem_cons_zero, List.setIfInBounds_toArray, List.set_cons_zero, List.set_cons_succ]
          refine wpAnyH_take (i := 1) (v := .int .i64 (u : Int)) rfl (by kernel_rfl) (by kernel_rfl) (by kernel_rfl) (fun _ _ _ h => h) (Or.inl ⟨by rfl, fun w' hw => ?_⟩) hS ?_
          · skip
            go_simp
          simp only [Act.put, List.getElem_toArray, List.getElem_cons_succ, List.getElem_cons_zero, List.setIfInBounds_toArray, List.set_cons_zero, List.set_cons_succ]
          refine wpAnyH_take (i := 2) (v := .string (bs (s.drop u))) rfl (by kernel_rfl) (by kernel_rfl) (by kernel_rfl) (fun _ _ _ h => h) (Or.inl ⟨by rfl, fun w' hw => ?_⟩) hS ?_
          · skip
            go_simp
          simp only [Act.put, List.getElem_toArray, List.getElem_cons_succ, List.getElem_cons_zero, List.setIfInBounds_toArray, List.set_cons_zero, List.set_cons_succ]
          refine wpAnyH_take (i := 3) (v := .pointer (some ⟨w.heap.size, 2, none⟩)) rfl (by kernel_rfl) (by kernel_rfl) (by kernel_rfl) (fun _ _ _ h => h) (Or.inl ⟨by rfl, fun w' hw => ?_⟩) hS ?_
          · skip
            go_simp
          simp only [Act.put, List.getElem_toArray, List.getElem_cons_succ, List.getElem_cons_zero, List.setIfInBounds_toArray, List.set_cons_zero, List.set_cons_succ]
          refine wpAnyH_take (i := 4) (v := .int .u64 (n : Int)) rfl (by kernel_rfl) (by kernel_rfl) (by kernel_rfl) (fun _ _ _ h => h) (Or.inl ⟨by rfl, fun w' hw => ?_⟩) hS ?_
          · skip
            go_simp
          simp only [Act.put, List.getElem_toArray, List.getElem_cons_succ, List.getElem_cons_zero, List.setIfInBounds_toArray, List.set_cons_zero, List.set_cons_succ]
          refine wpAnyH_ready (rs := [5]) (by kernel_rfl) (by simp) ?_
          refine AllReadyH.cons rfl (fun K hK => ?_) AllReadyH.nil
          rw [if_pos (by rfl)]
          go_simp
          refine HSC.out.mono ?_
          rintro e w9 ⟨ra, rcp, rus, rer, rfl, hrow, hb9⟩
          have HX9 := Lib.hid ((HX8.out.drewN 1).step hb9)
          have HB9 : Hid (Below w.heap.size w w9) := Lib.hid ((Below.drew HB8.out).trans (hb9.mono HB8.out.size))
          have HROW := Lib.hid hrow
          have HBB9 : Hid (w8.heap.size ≤ w9.heap.size) := Lib.hid hb9.size
          have z2 := HX9.out.c 2
          simp at z2
          clear hrow hb9
          go_simp
          refine hK.out _ _ z2 (fun hS => ?_)
          clear hK
          (try go_frame)
          refine wpAnyH_take (i := 6) (v := .tuple #[.slice ra nT rcp, rus, rer]) rfl (by kernel_rfl) (by kernel_rfl) (by kernel_rfl) (fun _ _ _ h => h) (Or.inl ⟨by rfl, fun w' hw => ?_⟩) hS ?_
          · skip
            go_simp
          simp only [Act.put, List.getElem_toArray, List.getElem_cons_succ, List.getElem_cons_zero, List.setIfInBounds_toArray, List.set_cons_zero, List.set_cons_succ]
          refine wpAnyH_take (i := 7) (v := .slice ra nT rcp) rfl (by kernel_rfl) (by kernel_rfl) (by kernel_rfl) (fun _ _ _ h => h) (Or.inl ⟨by rfl, fun w' hw => ?_⟩) hS ?_
          · skip
            go_simp
          simp only [Act.put, List.getElem_toArray, List.getElem_cons_succ, List.getElem_cons_zero, List.setIfInBounds_toArray, List.set_cons_zero, List.set_cons_succ]
          refine wpAnyH_take (i := 8) (v := rus) rfl (by kernel_rfl) (by kernel_rfl) (by kernel_rfl) (fun _ _ _ h => h) (Or.inl ⟨by rfl, fun w' hw => ?_⟩) hS ?_
          · skip
            go_simp
          simp only [Act.put, List.getElem_toArray, List.getElem_cons_succ, List.getElem_cons_zero, List.setIfInBounds_toArray, List.set_cons_zero, List.set_cons_succ]
          refine wpAnyH_take (i := 9) (v := rer) rfl (by kernel_rfl) (by kernel_rfl) (by kernel_rfl) (fun _ _ _ h => h) (Or.inl ⟨by rfl, fun w' hw => ?_⟩) hS ?_
          · skip
            go_simp
          simp only [Act.put, List.getElem_toArray, List.getElem_cons_succ, List.getElem_cons_zero, List.setIfInBounds_toArray, List.set_cons_zero, List.set_cons_succ]
          refine wpAnyH_take (i := 10) (v := .slice ra nT rcp) rfl (by kernel_rfl) (by kernel_rfl) (by kernel_rfl) (fun _ _ _ h => h) (Or.inl ⟨by rfl, fun w' hw => ?_⟩) hS ?_
          · skip
            go_simp
          simp only [Act.put, List.getElem_toArray, List.getElem_cons_succ, List.getElem_cons_zero, List.setIfInBounds_toArray, List.set_cons_zero, List.set_cons_succ]
          refine wpAnyH_take (i := 11) (v := rus) rfl (by kernel_rfl) (by kernel_rfl) (by kernel_rfl) (fun _ _ _ h => h) (Or.inl ⟨by rfl, fun w' hw => ?_⟩) hS ?_
          · skip
            go_simp
          simp only [Act.put, List.getElem_toArray, List.getElem_cons_succ, List.getElem_cons_zero, List.setIfInBounds_toArray, List.set_cons_zero, List.set_cons_succ]
          refine wpAnyH_take (i := 12) (v := rer) rfl (by kernel_rfl) (by kernel_rfl) (by kernel_rfl) (fun _ _ _ h => h) (Or.inl ⟨by rfl, fun w' hw => ?_⟩) hS ?_
          · skip
            go_simp
          simp only [Act.put, List.getElem_toArray, List.getElem_cons_succ, List.getElem_cons_zero, List.setIfInBounds_toArray, List.set_cons_zero, List.set_cons_succ]
          refine wpAnyH_done (by kernel_rfl) ?_ _
          clear hS HSC x0 x1 x2 x3 x4 x5 x6 y0 y1 y2 y3 y4 y5 y6 z2
          have hrl : w.heap.size < w9.heap.size := HX9.out.lt
          go_wp2_with fail
          have hnTb : nT ≤ 1000000 := by have := HSL.out.2; omega
          go_loopw [82] (fun i wr => ∃ q, q ≤ nT ∧ i = .int .i64 q ∧ Hid (∃ a' cp', One w.heap.size (sgC kn gn n t2 (.slice a' q cp') (u + Wl.lens (T.take q)) false) wr ∧ wr.ownsRow w9.heap.size 9 1 (.slice a' q cp') q ((T.take q).map (fun t => .string (bs t)))) ∧ Hid (ButS (fun k => k = w.heap.size ∨ w9.heap.size ≤ k) w9 wr)) (fun i _ => nT - (intOf i).toNat)
          case atStart => exact ⟨0, Nat.zero_le _, rfl, Lib.hid ⟨none, 0, by simpa [Wl.lens] using HX9.out, World.ownsRow_nil _ _ _ _⟩, Lib.hid (ButS.refl _)⟩
          case round =>
            obtain ⟨q, hq, rfl, HI, Hbw⟩ := hrel
            obtain ⟨a', cp', hx, hrw⟩ := HI.out
            obtain ⟨uu, huu⟩ : ∃ x, u + Wl.lens (T.take q) = x := ⟨_, rfl⟩
            rw [huu] at hx
            have huul : uu ≤ u + Wl.lens T := by rw [← huu]; have := lens_take_le T q; omega
            have HUU2 := Lib.hid huu; have HUL := Lib.hid huul
            have HXr := Lib.hid hx; have HRW := Lib.hid hrw
            clear huu huul
            clear hx hrw HI
            have hbs := Hbw.out.size
            by_cases hlt : q < nT
            · have hqi : (q : Int) < (nT : Int) := by omega
              have HLT := Lib.hid hlt
              obtain ⟨y, hy⟩ : ∃ x, T.getD q [] = x := ⟨_, rfl⟩
              obtain ⟨qa, qb⟩ := recV_at T n q (by rw [HNT.out]; exact hlt)
              rw [hy] at qb
              obtain ⟨g2, rfl⟩ : ∃ g2, ra = some ⟨g2, 0, none⟩ := by
                rcases HROW.out.2 with ⟨h', hn'⟩ | ⟨g', cap', cur, h', _⟩
                · omega
                · simp only [Value.slice.injEq] at h'; exact ⟨g', h'.1⟩
              have hg2l : g2 < w9.heap.size := by
                obtain ⟨C, T', F, hc⟩ := own_cells HROW.out g2 rfl
                exact lt_of_block hc
              have hg2x : g2 ≠ w.heap.size := by
                have := ownAbove HROW.out g2 rfl
                have h2 := HX8.out.lt
                have h3 : w8.drew.heap.size = w8.heap.size := rfl
                omega
              have r0 : wr.cell? ⟨g2, q * 2, none⟩ = some (.int .u64 ((n + q : Nat) : Int)) := (Hbw.out.cell (p := ⟨g2, q * 2, none⟩) hg2l (by rintro (h | h); (· exact hg2x h); (· dsimp only at h; omega))).trans ((World.ownsRow.cellAt HROW.out (q * 2) (by omega)).trans qa)
              have r1 : wr.cell? ⟨g2, q * 2 + 1, none⟩ = some (.string (bs y)) := (Hbw.out.cell (p := ⟨g2, q * 2 + 1, none⟩) hg2l (by rintro (h | h); (· exact hg2x h); (· dsimp only at h; omega))).trans ((World.ownsRow.cellAt HROW.out (q * 2 + 1) (by omega)).trans qb)
              obtain ⟨nq, hnq⟩ : ∃ x, n + q = x := ⟨_, rfl⟩
              rw [hnq] at r0
              have hnq2 : ¬ (nq : Int) > 281474976710656 := by have := HTX.out.1; have := HSL.out.2; omega
              have hnq3 : ¬ (281474976710656 : Int) < (nq : Int) := by omega
              have HY := Lib.hid hy
              have hyl : Hid (y.length ≤ 1000000) := Lib.hid (by
                have h1 := lens_take_le T (q + 1)
                rw [take_snoc T [] q (by rw [HNT.out]; exact hlt), hy, Wl.lens_snoc] at h1
                have := HSL.out.1
                omega)
              clear qa qb hy hnq
              go_upto_region 18 with fail
              refine wp_abs (F := fun W => Hid (One wr.heap.size #[.int .u64 (nq : Int), .string (bs y)] W) ∧ Hid (Below wr.heap.size wr W)) ⟨Lib.hid (One.of _ _ _), Lib.hid ((Below.refl _ _).alloc (Nat.le_refl _) _)⟩ ?_
              rintro Wa ⟨HY1, HBa⟩
              have HXa := Lib.hid (HXr.out.step HBa.out)
              have HRa := Lib.hid (ownBelow HRW.out HBa.out)
              have hal := HBa.out.size
              have hay := HY1.out.lt
              have v0 := HY1.out.c 0; have v1 := HY1.out.c 1
              simp at v0 v1
              have hx1 := HXa.out
              have x0 := hx1.c 0; have x1 := hx1.c 1; have x2 := hx1.c 2; have x3 := hx1.c 3; have x4 := hx1.c 4; have x5 := hx1.c 5; have x6 := hx1.c 6
              have y0 := hx1.f 0; have y1 := hx1.f 1; have y2 := hx1.f 2; have y3 := hx1.f 3; have y4 := hx1.f 4; have y5 := hx1.f 5; have y6 := hx1.f 6
              simp at x0 x1 x2 x3 x4 x5 x6
              clear hx1
              obtain ⟨i0, hi, hz0, hz1, hz2⟩ := info_parts infoStr
              go_upto_region 20 with (at_builtin; refine wpList_append_own _ rfl _ _ 33 rfl w9.heap.size 9 i0 (.string ⟨#[]⟩) 1 16 Try.underlying33 hi hz0 hz1 hz2 rfl (by decide) _ q ((T.take q).map (fun t => .string (bs t))) rfl (ownBelow HRa.out ((Below.refl _ _).alloc (Nat.le_refl _) _)) ⟨Wa.heap.size, 0, none⟩ 1 1 [.string (bs y)] rfl rfl (World.news_of_block (MapKept.heap_alloc _ _).1) (by intro u hu; simp only [List.mem_cons, List.mem_nil_iff, or_false] at hu; rcases hu with rfl; rfl) (by unfold maxLen; have := HSL.out.2; omega) (by have := HSL.out.2; omega) (by simp; omega) ?_; intro v5 w5' hown5 hg5 _; obtain ⟨a6, c6, rfl⟩ := ownShape hown5; have hX5 := HXa.out.step ((Below.refl _ _).alloc (Nat.le_refl _) (.cells #[.string (bs y)] 9)); have hX6 := hX5.grown' hg5 (fun e => by have := ownAbove HRa.out _ e; omega); have HX6 := Lib.hid hX6; have r5 := hX6.c 4; have f5 := hX6.f 4; simp at r5; have Hown5 := Lib.hid hown5; have Hg5 := Lib.hid hg5; clear hX5 hX6 hown5 hg5)
              have hrb : ∀ b, (Value.slice a' q cp').ownBlock = some b → w9.heap.size ≤ b ∧ b < wr.heap.size := fun b hb => by
                obtain ⟨C, T', F, hc⟩ := own_cells HRW.out b hb
                exact ⟨ownAbove HRW.out b hb, lt_of_block hc⟩
              have hya := HY1.out.step ((Below.refl _ _).alloc (Nat.le_refl _) (.cells #[.string (bs y)] 9))
              have hyb := hya.grown' Hg5.out (fun e => by have := (hrb _ e).2; omega)
              have hyc := hyb.far (p := ⟨w.heap.size, 4, none⟩) (by dsimp only; omega) (.slice a6 (q + 1) c6)
              have hxc := HX6.out.set (i := 4) (by simp) (.slice a6 (q + 1) c6)
              have hbc : ButS (fun k => k = w.heap.size ∨ w9.heap.size ≤ k) w9 (w5'.setCell ⟨w.heap.size, 4, none⟩ (.slice a6 (q + 1) c6)) :=
                (((Hbw.out.trans (ButS.of HBa.out)).trans (ButS.of ((Below.refl _ _).alloc (Nat.le_refl _) _))).trans (ButS.row Hg5.out (fun j e => Or.inr (hrb j e).1))).trans (ButS.set _ (p := ⟨w.heap.size, 4, none⟩) (Or.inl rfl) _)
              have hrc := ownsRow_setCell_below Hown5.out (a := ⟨w.heap.size, 4, none⟩) (by dsimp only; omega) (.slice a6 (q + 1) c6)
              have hst : (T.take q).map (fun t => Value.string (bs t)) ++ [.string (bs y)] = (T.take (q + 1)).map (fun t => Value.string (bs t)) := by
                rw [take_snoc T [] q (by rw [HNT.out]; exact hlt), HY.out, List.map_append]; rfl
              rw [hst] at hrc
              have HYC := Lib.hid hyc; have HXC := Lib.hid hxc; have HBC := Lib.hid hbc; have HRC := Lib.hid hrc
              clear hya hyb hyc hxc hbc hrc hst r5 f5 x0 x1 x2 x3 x4 x5 x6 y0 y1 y2 y3 y4 y5 y6 v0 v1 hrb r0 r1
              generalize w5'.setCell ⟨w.heap.size, 4, none⟩ (.slice a6 (q + 1) c6) = wb at HYC HXC HBC HRC ⊢
              have v1 := HYC.out.c 1
              have x5 := HXC.out.c 5; have y5 := HXC.out.f 5
              simp at v1 x5
              have HSZ := Lib.hid (fun W => frame_Size y hyl.out W)
              obtain ⟨zz, hzz⟩ : ∃ x, 16 + y.length = x := ⟨_, rfl⟩
              rw [hzz] at HSZ
              obtain ⟨vv, hvv⟩ : ∃ x, uu + zz = x := ⟨_, rfl⟩
              have hvi : (uu : Int) + (zz : Int) = (vv : Int) := by omega
              have HVV : Hid (vv = u + Wl.lens (T.take (q + 1))) := Lib.hid (by
                rw [take_snoc T [] q (by rw [HNT.out]; exact hlt), HY.out, Wl.lens_snoc]; have := HUU2.out; omega)
              have hvw : IntKind.i64.wrap (vv : Int) = vv := by
                have h1 := HVV.out; have h2 := lens_take_le T (q + 1); have := HSL.out.1; have := HUU.out
                rw [IntKind.wrap_i64]; omega
              clear hzz hvv
              refine wp_region_held_drew (S := fun w' => w'.cell? ⟨wr.heap.size, 1, none⟩ = some (.string (bs y))) (by kernel_rfl) (v1) (fun hS => ?_)
              refine wpAnyH_take (i := 0) (v := .pointer (some ⟨w.heap.size, 5, none⟩)) rfl (by kernel_rfl) (by kernel_rfl) (by kernel_rfl) (fun _ _ _ h => h) (Or.inl ⟨by rfl, fun w' hw => ?_⟩) hS ?_
              · skip
                go_simp
              simp only [Act.put, List.getElem_toArray, List.getElem_cons_zero, List.setIfInBounds_toArray, List.set_cons_zero, List.set_cons_succ]
              refine wpAnyH_take (i := 2) (v := .pointer (some ⟨wr.heap.size, 1, none⟩)) rfl (by kernel_rfl) (by kernel_rfl) (by kernel_rfl) (fun _ _ _ h => h) (Or.inl ⟨by rfl, fun w' hw => ?_⟩) hS ?_
              · skip
                go_simp
              simp only [Act.put, List.getElem_toArray, List.getElem_cons_succ, List.getElem_cons_zero, List.setIfInBounds_toArray, List.set_cons_zero, List.set_cons_succ]
              refine wpAnyH_take (i := 3) (v := .string (bs y)) rfl (by kernel_rfl) (by kernel_rfl) (by kernel_rfl) (fun _ _ _ h => h) (Or.inl ⟨by rfl, fun w' hw => ?_⟩) hS ?_
              · skip
                go_simp
              simp only [Act.put, List.getElem_toArray, List.getElem_cons_succ, List.getElem_cons_zero, List.setIfInBounds_toArray, List.set_cons_zero, List.set_cons_succ]
              refine wpAnyH_ready (rs := [1, 4]) (by kernel_rfl) (by simp) ?_
              refine AllReadyH.cons rfl (fun K hK => ?_) ?_
              · rw [if_pos (by rfl)]
                go_simp
                refine hK.out _ _ hS (fun hS => ?_)
                clear hK
                (try go_frame)
                refine wpAnyH_ready (rs := [4]) (by kernel_rfl) (by simp) ?_
                refine AllReadyH.cons rfl (fun K hK => ?_) AllReadyH.nil
                rw [if_pos (by rfl)]
                go_simp
                refine (HSZ.out wb.drew).mono ?_
                rintro e w6 ⟨rfl, hw6⟩
                subst w6
                go_simp
                refine hK.out _ _ hS (fun hS => ?_)
                clear hK
                (try go_frame)
                refine wpAnyH_take (i := 5) (v := .int .i64 (vv : Int)) rfl (by kernel_rfl) (by kernel_rfl) (by kernel_rfl) (fun _ _ _ h => h) (Or.inl ⟨by rfl, fun w' hw => ?_⟩) hS ?_
                · skip
                  go_simp
                simp only [Act.put, List.getElem_toArray, List.getElem_cons_succ, List.getElem_cons_zero, List.setIfInBounds_toArray, List.set_cons_zero, List.set_cons_succ]
                refine wpAnyH_take (i := 6) (v := .pointer (some ⟨w.heap.size, 5, none⟩)) rfl (by kernel_rfl) (by kernel_rfl) (by kernel_rfl) (fun _ _ _ h => h) (Or.inl ⟨by rfl, fun w' hw => ?_⟩) hS ?_
                · skip
                  go_simp
                simp only [Act.put, List.getElem_toArray, List.getElem_cons_succ, List.getElem_cons_zero, List.setIfInBounds_toArray, List.set_cons_zero, List.set_cons_succ]
                refine wpAnyH_ready (rs := [7]) (by kernel_rfl) (by simp) ?_
                refine AllReadyH.cons rfl (fun K hK => ?_) AllReadyH.nil
                rw [if_pos (by rfl)]
                go_simp
                have HXD : Hid (One w.heap.size (sgC kn gn n t2 (.slice a6 (q + 1) c6) vv false) (wb.setCell ⟨w.heap.size, 5, none⟩ (.int .i64 (vv : Int))).drew) := Lib.hid ((HXC.out.set (i := 5) (by simp) (.int .i64 (vv : Int))).drewN 1)
                have HBD : Hid (ButS (fun k => k = w.heap.size ∨ w9.heap.size ≤ k) w9 (wb.setCell ⟨w.heap.size, 5, none⟩ (.int .i64 (vv : Int))).drew) := Lib.hid ((HBC.out.trans (ButS.set _ (p := ⟨w.heap.size, 5, none⟩) (Or.inl rfl) _)).drewN 1)
                have HRD : Hid ((wb.setCell ⟨w.heap.size, 5, none⟩ (.int .i64 (vv : Int))).drew.ownsRow w9.heap.size 9 1 (.slice a6 (q + 1) c6) (q + 1) ((T.take (q + 1)).map (fun t => .string (bs t)))) := Lib.hid (ownsRow_setCell_below HRC.out (a := ⟨w.heap.size, 5, none⟩) (by dsimp only; omega) (.int .i64 (vv : Int)))
                have hyd := (HYC.out.far (p := ⟨w.heap.size, 5, none⟩) (by dsimp only; omega) (.int .i64 (vv : Int))).drewN 1
                have HYD : Hid (One wr.heap.size #[.int .u64 (nq : Int), .string (bs y)] (wb.setCell ⟨w.heap.size, 5, none⟩ (.int .i64 (vv : Int))).drew) := Lib.hid hyd
                clear hyd
                generalize (wb.setCell ⟨w.heap.size, 5, none⟩ (.int .i64 (vv : Int))).drew = wd at HXD HBD HRD HYD ⊢
                have u1 := HYD.out.c 1
                simp at u1
                refine hK.out _ _ u1 (fun hS => ?_)
                clear hK
                (try go_frame)
                refine wpAnyH_done (by kernel_rfl) ?_ _
                clear hS
                go_wp2_with fail
                go_roundw
                case rel => exact ⟨q + 1, by have := HLT.out; omega, by go_num, Lib.hid ⟨a6, c6, by rw [← HVV.out]; exact HXD.out, HRD.out⟩, HBD⟩
                case measure => have := HLT.out; simp [intOf]; omega
              refine AllReadyH.cons rfl (fun K hK => ?_) AllReadyH.nil
              rw [if_pos (by rfl)]
              go_simp
              refine (HSZ.out wb.drew).mono ?_
              rintro e w6 ⟨rfl, hw6⟩
              subst w6
              go_simp
              refine hK.out _ _ hS (fun hS => ?_)
              clear hK
              (try go_frame)
              refine wpAnyH_ready (rs := [1]) (by kernel_rfl) (by simp) ?_
              refine AllReadyH.cons rfl (fun K hK => ?_) AllReadyH.nil
              rw [if_pos (by rfl)]
              go_simp
              refine hK.out _ _ hS (fun hS => ?_)
              clear hK
              (try go_frame)
              refine wpAnyH_take (i := 5) (v := .int .i64 (vv : Int)) rfl (by kernel_rfl) (by kernel_rfl) (by kernel_rfl) (fun _ _ _ h => h) (Or.inl ⟨by rfl, fun w' hw => ?_⟩) hS ?_
              · skip
                go_simp
              simp only [Act.put, List.getElem_toArray, List.getElem_cons_succ, List.getElem_cons_zero, List.setIfInBounds_toArray, List.set_cons_zero, List.set_cons_succ]
              refine wpAnyH_take (i := 6) (v := .pointer (some ⟨w.heap.size, 5, none⟩)) rfl (by kernel_rfl) (by kernel_rfl) (by kernel_rfl) (fun _ _ _ h => h) (Or.inl ⟨by rfl, fun w' hw => ?_⟩) hS ?_
              · skip
                go_simp
              simp only [Act.put, List.getElem_toArray, List.getElem_cons_succ, List.getElem_cons_zero, List.setIfInBounds_toArray, List.set_cons_zero, List.set_cons_succ]
              refine wpAnyH_ready (rs := [7]) (by kernel_rfl) (by simp) ?_
              refine AllReadyH.cons rfl (fun K hK => ?_) AllReadyH.nil
              rw [if_pos (by rfl)]
              go_simp
              have HXD : Hid (One w.heap.size (sgC kn gn n t2 (.slice a6 (q + 1) c6) vv false) (wb.setCell ⟨w.heap.size, 5, none⟩ (.int .i64 (vv : Int))).drew) := Lib.hid ((HXC.out.set (i := 5) (by simp) (.int .i64 (vv : Int))).drewN 1)
              have HBD : Hid (ButS (fun k => k = w.heap.size ∨ w9.heap.size ≤ k) w9 (wb.setCell ⟨w.heap.size, 5, none⟩ (.int .i64 (vv : Int))).drew) := Lib.hid ((HBC.out.trans (ButS.set _ (p := ⟨w.heap.size, 5, none⟩) (Or.inl rfl) _)).drewN 1)
              have HRD : Hid ((wb.setCell ⟨w.heap.size, 5, none⟩ (.int .i64 (vv : Int))).drew.ownsRow w9.heap.size 9 1 (.slice a6 (q + 1) c6) (q + 1) ((T.take (q + 1)).map (fun t => .string (bs t)))) := Lib.hid (ownsRow_setCell_below HRC.out (a := ⟨w.heap.size, 5, none⟩) (by dsimp only; omega) (.int .i64 (vv : Int)))
              have hyd := (HYC.out.far (p := ⟨w.heap.size, 5, none⟩) (by dsimp only; omega) (.int .i64 (vv : Int))).drewN 1
              have HYD : Hid (One wr.heap.size #[.int .u64 (nq : Int), .string (bs y)] (wb.setCell ⟨w.heap.size, 5, none⟩ (.int .i64 (vv : Int))).drew) := Lib.hid hyd
              clear hyd
              generalize (wb.setCell ⟨w.heap.size, 5, none⟩ (.int .i64 (vv : Int))).drew = wd at HXD HBD HRD HYD ⊢
              have u1 := HYD.out.c 1
              simp at u1
              refine hK.out _ _ u1 (fun hS => ?_)
              clear hK
              (try go_frame)
              refine wpAnyH_done (by kernel_rfl) ?_ _
              clear hS
              go_wp2_with fail
              go_roundw
              case rel => exact ⟨q + 1, by have := HLT.out; omega, by go_num, Lib.hid ⟨a6, c6, by rw [← HVV.out]; exact HXD.out, HRD.out⟩, HBD⟩
              case measure => have := HLT.out; simp [intOf]; omega
            · obtain rfl : q = nT := by omega
              have hall : T.take q = T := by rw [← HNT.out, List.take_length]
              rw [hall] at HRW HUU2
              have hps : Wl.parse sumF s = some ⟨kn, gn, n, t2, T, uu, decide (uu = s.length)⟩ := by
                unfold Wl.parse
                rw [HDC.out]
                dsimp only
                rw [HKN.out, HGN.out, if_pos ⟨hok.1, hok.2.1.1, hok.2.2.1.1, hok.2.2.1.2, hok.2.2.2⟩, HTT.out, HUU2.out]
              have HPS := Lib.hid hps
              clear hps hall
              obtain ⟨whole, hwh⟩ : ∃ x, decide (uu = s.length) = x := ⟨_, rfl⟩
              have hwi : ((uu : Int) == (Ls : Int)) = whole := by
                rw [← hwh, hLs2.out]
                by_cases h : uu = s.length
                · simp [h]
                · simp [h]; omega
              rw [hwh] at HPS
              clear hwh
              have hx1 := HXr.out
              have x0 := hx1.c 0; have x1 := hx1.c 1; have x2 := hx1.c 2; have x3 := hx1.c 3; have x4 := hx1.c 4; have x5 := hx1.c 5; have x6 := hx1.c 6
              have y0 := hx1.f 0; have y1 := hx1.f 1; have y2 := hx1.f 2; have y3 := hx1.f 3; have y4 := hx1.f 4; have y5 := hx1.f 5; have y6 := hx1.f 6
              simp at x0 x1 x2 x3 x4 x5 x6
              clear hx1
              go_wp2_with fail
              have hz := (HXr.out.set (i := 6) (by simp) (.bool whole)).put7 (.int .u8 (kn : Int)) (.int .u64 (gn : Int)) (.int .u64 (n : Int)) (.string (bs t2)) (.slice a' q cp') (.int .i64 (uu : Int)) (.bool whole)
              have p0 := hz.c 0; have p1 := hz.c 1; have p2 := hz.c 2; have p3 := hz.c 3; have p4 := hz.c 4; have p5 := hz.c 5; have p6 := hz.c 6
              simp at p0 p1 p2 p3 p4 p5 p6
              have hbz := (ButS.set (S := fun k => k = w.heap.size) wr (p := ⟨w.heap.size, 6, none⟩) rfl (.bool whole)).trans (ButS.put7 w.heap.size _ (.int .u8 (kn : Int)) (.int .u64 (gn : Int)) (.int .u64 (n : Int)) (.string (bs t2)) (.slice a' q cp') (.int .i64 (uu : Int)) (.bool whole))
              refine bodyPost_ret (v := .tuple #[.agg (sgC kn gn n t2 (.slice a' q cp') uu whole), .int .i64 0]) (by simp [results, Try.results45, go_sem, p0, p1, p2, p3, p4, p5, p6]) rfl ⟨Or.inr ⟨_, a', cp', HPS.out, ?_, ?_⟩, ?_⟩
              · dsimp only; rw [HNT.out]
              · dsimp only; rw [HNT.out]
                exact ownsRow_lower (own_put7 (ownsRow_setCell_below HRW.out (a := ⟨w.heap.size, 6, none⟩) (by dsimp only; omega) _) (by omega) _ _ _ _ _ _ _) (by omega)
              · exact below_but (below_but HB9.out Hbw.out (fun k h => by rcases h with h | h <;> omega) (Nat.le_refl _)) hbz (fun k h => by omega) (Nat.le_refl _)
        · have HHD := Lib.hid (seg_Head_no kn gn n t2 hok (by rw [← HKN.out]; exact k.toNat_lt) w7)
          go_wp2_with fail
          refine HHD.out.mono ?_
          rintro e w8 ⟨rfl, hw8⟩
          subst w8
          go_wp2_with fail
          have hz := HX7.out.put7 (.int .u8 0) (.int .u64 0) (.int .u64 0) (.string ⟨#[]⟩) (.slice none 0 0) (.int .i64 0) (.bool false)
          have p0 := hz.c 0; have p1 := hz.c 1; have p2 := hz.c 2; have p3 := hz.c 3; have p4 := hz.c 4; have p5 := hz.c 5; have p6 := hz.c 6
          simp at p0 p1 p2 p3 p4 p5 p6
          exact bodyPost_ret (v := .tuple #[.agg sg0, .int .i64 7]) (by simp [results, Try.results45, go_sem, p0, p1, p2, p3, p4, p5, p6]) rfl (parse_no (by unfold Wl.parse; rw [HDC.out]; exact if_neg (fun hc => hok ⟨by rw [← HKN.out]; exact hc.1, ⟨by rw [← HGN.out]; exact hc.2.1, by omega⟩, ⟨hc.2.2.1, hc.2.2.2.1⟩, fun h0 => hc.2.2.2.2 (by rw [HKN.out]; exact h0)⟩)) (by decide) (below_but HB7.out (ButS.put7 w.heap.size _ _ _ _ _ _ _ _) (fun k h => by omega) (Nat.le_refl _)))
  · have her := decErr_ne s
    obtain ⟨er, her2⟩ : ∃ er, decErr s = er := ⟨_, rfl⟩
    rw [her2] at her ⊢
    have herb : (er != 0) = true := by simpa using her
    go_upto_region 2 with fail
    refine wp_abs (F := fun W => Hid (One w.heap.size sg0 W) ∧ Hid (Below w.heap.size w W)) ⟨Lib.hid (HX1.out.step ((Below.refl _ _).alloc (Nat.le_refl _) _)), Lib.hid (HB1.out.alloc (by have := HB1.out.size; omega) _)⟩ ?_
    rintro W2 ⟨HX2, HB2⟩
    have hx1 := HX2.out
    have x0 := hx1.c 0; have x1 := hx1.c 1; have x2 := hx1.c 2; have x3 := hx1.c 3; have x4 := hx1.c 4; have x5 := hx1.c 5; have x6 := hx1.c 6
    have y0 := hx1.f 0; have y1 := hx1.f 1; have y2 := hx1.f 2; have y3 := hx1.f 3; have y4 := hx1.f 4; have y5 := hx1.f 5; have y6 := hx1.f 6
    simp at x0 x1 x2 x3 x4 x5 x6
    clear hx1
    go_wp2_with fail
    have hz := HX2.out.put7 (.int .u8 0) (.int .u64 0) (.int .u64 0) (.string ⟨#[]⟩) (.slice none 0 0) (.int .i64 0) (.bool false)
    have p0 := hz.c 0; have p1 := hz.c 1; have p2 := hz.c 2; have p3 := hz.c 3; have p4 := hz.c 4; have p5 := hz.c 5; have p6 := hz.c 6
    simp at p0 p1 p2 p3 p4 p5 p6
    exact bodyPost_ret (v := .tuple #[.agg sg0, .int .i64 er]) (by simp [results, Try.results45, go_sem, p0, p1, p2, p3, p4, p5, p6]) rfl (parse_no (parse_dec hd) her (below_but HB2.out (ButS.put7 w.heap.size _ _ _ _ _ _ _ _) (fun k h => by omega) (Nat.le_refl _)))
end Go.Proofs.Ytniflkggcceagaa
