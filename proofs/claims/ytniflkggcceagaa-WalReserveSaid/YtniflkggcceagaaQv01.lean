/- Disk: what it is in memory; contracts: none, burns, is, Write$1, Cut$1. Contracts: disk.burns, Write, Cut, Sync, Read, Files, Room, Fuse, New. Contracts: disk.Write, Cut, Sync, Read, Files, Fuse, New. Contract: disk.Cut. Contracts: disk.Sync, Read, Files, Fuse, New. Contracts: disk.New, Crash. Contract: disk.Crash. -/
import Derived.Test.YtniflkggcceagaaQv00
import Derived.Shelf.Abstract
namespace Go.Proofs.Ytniflkggcceagaa
open Go Go.RowKit
inductive Lc where
  | wr (f : Nat) (s : List UInt8)
  | cut (f n : Nat)
structure Dk where
  n : Nat
  room : Nat
  now : Nat → List UInt8
  sure : Nat → List UInt8
  loose : List Lc
  fuse : Int
def upd (g : Nat → List UInt8) (f : Nat) (t : List UInt8) : Nat → List UInt8 := fun i => if i = f then t else g i
abbrev allB : Int := 4611686018427387904
def Lc.done (c : Lc) (g : Nat → List UInt8) (b : Int) : Nat → List UInt8 := match c with
  | .wr f s => upd g f (g f ++ s.take (max 0 (min b s.length)).toNat)
  | .cut f n => if b = allB then upd g f ((g f).take n) else g
def Lc.file : Lc → Nat
  | .wr f _ => f
  | .cut f _ => f
def LcIs (w : World) (S : Nat → Prop) (d : Nat) (lv v : Value) (c : Lc) : Prop := ∃ b1 b2, S b1 ∧ S b2 ∧ b1 ≠ d ∧ b2 ≠ d ∧ lv.ownBlock ≠ some b1 ∧ lv.ownBlock ≠ some b2 ∧ c.file < 16 ∧ w.cell? ⟨b1, 0, none⟩ = some (.int .i64 (c.file : Int)) ∧ (match c with
  | .wr _ s => v = .func (.func 59) #[] #[.pointer (some ⟨b1, 0, none⟩), .pointer (some ⟨b2, 0, none⟩)] ∧ w.cell? ⟨b2, 0, none⟩ = some (.string (bs s))
  | .cut _ n => v = .func (.func 62) #[] #[.pointer (some ⟨b1, 0, none⟩), .pointer (some ⟨b2, 0, none⟩)] ∧ w.cell? ⟨b2, 0, none⟩ = some (.int .i64 (n : Int)))
structure DiskAt (w : World) (S : Nat → Prop) (d : Nat) (D : Dk) : Prop where
  own : ∀ k, S k → k < w.heap.size
  dd : S d
  c0 : w.cell? ⟨d, 0, none⟩ = some (.int .i64 (D.n : Int))
  c1 : w.cell? ⟨d, 1, none⟩ = some (.int .i64 (D.room : Int))
  now : ∀ i, i < 16 → w.cell? ⟨d, 2 + i, none⟩ = some (.string (bs (D.now i)))
  sure : ∀ i, i < 16 → w.cell? ⟨d, 18 + i, none⟩ = some (.string (bs (D.sure i)))
  c35 : w.cell? ⟨d, 35, none⟩ = some (.int .i64 D.fuse)
  fz : ∀ j, w.frozen? ⟨d, j, none⟩ = false
  n16 : 1 ≤ D.n ∧ D.n ≤ 16
  lo : ∃ (lv : Value) (vs : List Value), w.cell? ⟨d, 34, none⟩ = some lv ∧ w.ownsRow 0 77 1 lv D.loose.length vs ∧ vs.length = D.loose.length ∧ (∀ b, lv.ownBlock = some b → S b ∧ b ≠ d) ∧ ∀ (i : Nat) (v : Value) (c : Lc), vs[i]? = some v → D.loose[i]? = some c → LcIs w S d lv v c
theorem DiskAt.lt {w : World} {S : Nat → Prop} {d : Nat} {D : Dk} (h : DiskAt w S d D) : d < w.heap.size := cell_lt h.c0
theorem LcIs.but {w w' : World} {S T : Nat → Prop} {d : Nat} {lv v : Value} {c : Lc} (h : LcIs w S d lv v c) (hb : ButS T w w') (hd : ∀ k, S k → ¬ T k) (hl : ∀ k, S k → k < w.heap.size) : LcIs w' S d lv v c := by
  obtain ⟨b1, b2, s1, s2, h1, h2, h3, h4, h5, h6, h7⟩ := h
  refine ⟨b1, b2, s1, s2, h1, h2, h3, h4, h5, (hb.cell (p := ⟨b1, 0, none⟩) (hl _ s1) (hd _ s1)).trans h6, ?_⟩
  cases c with
  | wr f s => exact ⟨h7.1, (hb.cell (p := ⟨b2, 0, none⟩) (hl _ s2) (hd _ s2)).trans h7.2⟩
  | cut f n => exact ⟨h7.1, (hb.cell (p := ⟨b2, 0, none⟩) (hl _ s2) (hd _ s2)).trans h7.2⟩
theorem DiskAt.but {w w' : World} {S T : Nat → Prop} {d : Nat} {D : Dk} (h : DiskAt w S d D) (hb : ButS T w w') (hd : ∀ k, S k → ¬ T k) : DiskAt w' S d D := by
  obtain ⟨lv, vs, l1, l2, l3, l4, l5⟩ := h.lo
  have hl := h.own
  have cc : ∀ j, w'.cell? ⟨d, j, none⟩ = w.cell? ⟨d, j, none⟩ := fun j => hb.cell (p := ⟨d, j, none⟩) h.lt (hd _ h.dd)
  refine ⟨fun k hk => Nat.lt_of_lt_of_le (hl k hk) hb.size, h.dd, (cc 0).trans h.c0, (cc 1).trans h.c1, fun i hi => (cc _).trans (h.now i hi), fun i hi => (cc _).trans (h.sure i hi), (cc 35).trans h.c35, fun j => (hb.frozen (p := ⟨d, j, none⟩) h.lt (hd _ h.dd)).trans (h.fz j), h.n16, lv, vs, (cc 34).trans l1, ?_, l3, l4, fun i v c hv hc => (l5 i v c hv hc).but hb hd hl⟩
  rcases l2.2 with ⟨hv, hn⟩ | ⟨g, cap, cur, hv, hB, hg, rest⟩
  · exact ⟨l2.1, Or.inl ⟨hv, hn⟩⟩
  · have hgb : S g := (l4 g (by rw [hv]; rfl)).1
    exact ⟨l2.1, Or.inr ⟨g, cap, cur, hv, hB, (hb.block g (hl g hgb) (hd g hgb)).trans hg, rest⟩⟩
theorem DiskAt.step {w w' : World} {S : Nat → Prop} {d : Nat} {D : Dk} (h : DiskAt w S d D) (hb : Below w.heap.size w w') : DiskAt w' S d D := h.but (ButS.of hb (S := fun _ => False)) (fun _ _ h => h)
def Gr (S : Nat → Prop) (w w' : World) : Nat → Prop := fun k => S k ∨ (w.heap.size ≤ k ∧ k < w'.heap.size)
theorem ButS.gr {S : Nat → Prop} {w w1 w2 : World} (h : ButS S w w1) (k : ButS (Gr S w w1) w1 w2) : ButS S w w2 :=
  ⟨k.os.trans h.os, k.tape.trans h.tape, k.output.trans h.output, Nat.le_trans h.size k.size, fun i hi hn => (k.block i (Nat.lt_of_lt_of_le hi h.size) (fun hg => by rcases hg with hg | hg; (· exact hn hg); (· omega))).trans (h.block i hi hn)⟩

theorem disk_none (w : World) (d n : Nat) (h : w.cell? ⟨d, 0, none⟩ = some (.int .i64 (n : Int))) (hn : 1 ≤ n) :
    Calls Try.prog 30 #[.pointer (some ⟨d, 0, none⟩)] w fun e w' => e = .returned (.bool false) ∧ w' = w := by
  have hb : ((n : Int) == 0) = false := by simp; omega
  have hb2 : ¬ n = 0 := by omega
  go_enter Try.func30, Try.ntmps30
  go_wp2_with fail
  go_ret
  exact ⟨rfl, rfl⟩
theorem disk_is (w : World) (d n : Nat) (f : Int) (h : w.cell? ⟨d, 0, none⟩ = some (.int .i64 (n : Int))) :
    Calls Try.prog 57 #[.pointer (some ⟨d, 0, none⟩), .int .i64 f] w fun e w' => e = .returned (.bool (decide (0 ≤ f ∧ f < n))) ∧ w' = w := by
  go_enter Try.func57, Try.ntmps57
  by_cases h0 : 0 ≤ f
  · by_cases h1 : f < n
    · rw [decide_eq_true (And.intro h0 h1)]
      go_wp2_with fail
      go_ret
      exact ⟨rfl, rfl⟩
    · rw [decide_eq_false (fun h : 0 ≤ f ∧ f < (n : Int) => h1 h.2)]
      have h2 : decide (f < (n : Int)) = false := by simpa using h1
      go_wp2_with fail
      go_ret
      exact ⟨rfl, rfl⟩
  · rw [decide_eq_false (fun h : 0 ≤ f ∧ f < (n : Int) => h0 h.1)]
    have h2 : decide (0 ≤ f) = false := by simpa using h0
    go_wp2_with fail
    go_ret
    exact ⟨rfl, rfl⟩
theorem write1 (w : World) (d o f b1 b2 : Nat) (t s : List UInt8) (b : Int) (hf : f < 16) (h0 : w.cell? ⟨d, o + f, none⟩ = some (.string (bs t))) (hz : w.frozen? ⟨d, o + f, none⟩ = false)
    (n1 : b1 ≠ d) (n2 : b2 ≠ d) (h1 : w.cell? ⟨b1, 0, none⟩ = some (.int .i64 (f : Int))) (h2 : w.cell? ⟨b2, 0, none⟩ = some (.string (bs s))) (hl : t.length ≤ 1073741824) (hs : s.length ≤ 1073741824) :
    Calls Try.prog 59 #[.pointer (some ⟨d, o, none⟩), .int .i64 b, .pointer (some ⟨b1, 0, none⟩), .pointer (some ⟨b2, 0, none⟩)] w fun e w' => e = .returned (.tuple #[]) ∧ w' = (w.setCell ⟨d, o + f, none⟩ (.string (bs (t ++ s.take (max 0 (min b s.length)).toNat)))).drew := by
  obtain ⟨L, hL⟩ : ∃ L, s.length = L := ⟨_, rfl⟩
  have hsz : (bs s).size = L := by rw [bs_size, hL]
  rw [hL]
  obtain ⟨m, hm⟩ : ∃ m : Nat, max 0 (min b (L : Int)) = (m : Int) := ⟨(max 0 (min b (L : Int))).toNat, by omega⟩
  have hm1 : m ≤ L := by omega
  have hm2 : ¬ (L : Int) < (m : Int) := by omega
  have hm4 : ¬ L < m := by omega
  obtain ⟨mn, hmn⟩ : ∃ x : Int, (if (L : Int) < b then (L : Int) else b) = x := ⟨_, rfl⟩
  have hmx : (if 0 < mn then mn else 0) = (m : Int) := by rw [← hmn, ← hm]; omega
  have hm3 : ¬ (m : Int) < 0 := by omega
  have hx : (bs s).extract 0 m = bs (s.take m) := by rw [bs_extract]; simp
  have ha : bs t ++ bs (s.take m) = bs (t ++ s.take m) := by refine ba_ext ?_; simp [bs]
  have hj : ¬ 9223372036854775807 < (bs t).size + (bs (s.take m)).size := by rw [bs_size, bs_size, List.length_take]; omega
  rw [hm]
  rw [show ((m : Int)).toNat = m by simp]
  have hf0 : ¬ (f : Int) < 0 := by omega
  have hf1 : (f : Int) < 16 := by omega
  have hf2 : ¬ (16 : Int) ≤ (f : Int) := by omega
  have HL := Lib.hid hL
  have HM1 := Lib.hid hm1
  clear hL hm1
  go_enter Try.func59, Try.ntmps59
  refine wp_region_held_drew (S := fun w' => w'.cell? ⟨b1, 0, none⟩ = some (.int .i64 (f : Int)) ∧ w'.cell? ⟨b2, 0, none⟩ = some (.string (bs s))) (by kernel_rfl) (⟨h1, h2⟩) (fun hS => ?_)
  refine wpAnyH_take (i := 0) (v := .pointer (some ⟨d, o, none⟩)) rfl (by kernel_rfl) (by kernel_rfl) (by kernel_rfl) (fun _ _ _ h => h) (Or.inl ⟨by rfl, fun w' hw => ?_⟩) hS ?_
  · obtain ⟨h1, h2⟩ := hw
    go_simp
  simp only [Act.put, List.getElem_toArray, List.getElem_cons_zero, List.setIfInBounds_toArray, List.set_cons_zero, List.set_cons_succ]
  refine wpAnyH_take (i := 1) (v := .int .i64 (f : Int)) rfl (by kernel_rfl) (by kernel_rfl) (by kernel_rfl) (fun _ _ _ h => h) (Or.inl ⟨by rfl, fun w' hw => ?_⟩) hS ?_
  · obtain ⟨h1, h2⟩ := hw
    go_simp
  simp only [Act.put, List.getElem_toArray, List.getElem_cons_succ, List.getElem_cons_zero, List.setIfInBounds_toArray, List.set_cons_zero, List.set_cons_succ]
  refine wpAnyH_take (i := 2) (v := .pointer (some ⟨d, o, none⟩)) rfl (by kernel_rfl) (by kernel_rfl) (by kernel_rfl) (fun _ _ _ h => h) (Or.inl ⟨by rfl, fun w' hw => ?_⟩) hS ?_
  · obtain ⟨h1, h2⟩ := hw
    go_simp
  simp only [Act.put, List.getElem_toArray, List.getElem_cons_succ, List.getElem_cons_zero, List.setIfInBounds_toArray, List.set_cons_zero, List.set_cons_succ]
  refine wpAnyH_take (i := 3) (v := .pointer (some ⟨d, o + f, none⟩)) rfl (by kernel_rfl) (by kernel_rfl) (by kernel_rfl) (fun _ _ _ h => h) (Or.inl ⟨by rfl, fun w' hw => ?_⟩) hS ?_
  · obtain ⟨h1, h2⟩ := hw
    go_simp
  simp only [Act.put, List.getElem_toArray, List.getElem_cons_succ, List.getElem_cons_zero, List.setIfInBounds_toArray, List.set_cons_zero, List.set_cons_succ]
  refine wpAnyH_take (i := 5) (v := .string (bs s)) rfl (by kernel_rfl) (by kernel_rfl) (by kernel_rfl) (fun _ _ _ h => h) (Or.inl ⟨by rfl, fun w' hw => ?_⟩) hS ?_
  · obtain ⟨h1, h2⟩ := hw
    go_simp
  simp only [Act.put, List.getElem_toArray, List.getElem_cons_succ, List.getElem_cons_zero, List.setIfInBounds_toArray, List.set_cons_zero, List.set_cons_succ]
  refine wpAnyH_take (i := 6) (v := .int .i64 b) rfl (by kernel_rfl) (by kernel_rfl) (by kernel_rfl) (fun _ _ _ h => h) (Or.inl ⟨by rfl, fun w' hw => ?_⟩) hS ?_
  · obtain ⟨h1, h2⟩ := hw
    go_simp
  simp only [Act.put, List.getElem_toArray, List.getElem_cons_succ, List.getElem_cons_zero, List.setIfInBounds_toArray, List.set_cons_zero, List.set_cons_succ]
  refine wpAnyH_take (i := 7) (v := .string (bs s)) rfl (by kernel_rfl) (by kernel_rfl) (by kernel_rfl) (fun _ _ _ h => h) (Or.inl ⟨by rfl, fun w' hw => ?_⟩) hS ?_
  · obtain ⟨h1, h2⟩ := hw
    go_simp
  simp only [Act.put, List.getElem_toArray, List.getElem_cons_succ, List.getElem_cons_zero, List.setIfInBounds_toArray, List.set_cons_zero, List.set_cons_succ]
  refine wpAnyH_take (i := 8) (v := .int .i64 (L : Int)) rfl (by kernel_rfl) (by kernel_rfl) (by kernel_rfl) (fun _ _ _ h => h) (Or.inl ⟨by rfl, fun w' hw => ?_⟩) hS ?_
  · obtain ⟨h1, h2⟩ := hw
    go_simp
  simp only [Act.put, List.getElem_toArray, List.getElem_cons_succ, List.getElem_cons_zero, List.setIfInBounds_toArray, List.set_cons_zero, List.set_cons_succ]
  refine wpAnyH_take (i := 9) (v := .int .i64 mn) rfl (by kernel_rfl) (by kernel_rfl) (by kernel_rfl) (fun _ _ _ h => h) (Or.inl ⟨by rfl, fun w' hw => ?_⟩) hS ?_
  · obtain ⟨h1, h2⟩ := hw
    go_simp
  simp only [Act.put, List.getElem_toArray, List.getElem_cons_succ, List.getElem_cons_zero, List.setIfInBounds_toArray, List.set_cons_zero, List.set_cons_succ]
  refine wpAnyH_take (i := 10) (v := .int .i64 (m : Int)) rfl (by kernel_rfl) (by kernel_rfl) (by kernel_rfl) (fun _ _ _ h => h) (Or.inl ⟨by rfl, fun w' hw => ?_⟩) hS ?_
  · obtain ⟨h1, h2⟩ := hw
    go_simp
  simp only [Act.put, List.getElem_toArray, List.getElem_cons_succ, List.getElem_cons_zero, List.setIfInBounds_toArray, List.set_cons_zero, List.set_cons_succ]
  refine wpAnyH_take (i := 11) (v := .string (bs (s.take m))) rfl (by kernel_rfl) (by kernel_rfl) (by kernel_rfl) (fun _ _ _ h => h) (Or.inl ⟨by rfl, fun w' hw => ?_⟩) hS ?_
  · obtain ⟨h1, h2⟩ := hw
    go_simp
  simp only [Act.put, List.getElem_toArray, List.getElem_cons_succ, List.getElem_cons_zero, List.setIfInBounds_toArray, List.set_cons_zero, List.set_cons_succ]
  refine wpAnyH_take (i := 13) (v := .pointer (some ⟨d, o, none⟩)) rfl (by kernel_rfl) (by kernel_rfl) (by kernel_rfl) (fun _ _ _ h => h) (Or.inl ⟨by rfl, fun w' hw => ?_⟩) hS ?_
  · obtain ⟨h1, h2⟩ := hw
    go_simp
  simp only [Act.put, List.getElem_toArray, List.getElem_cons_succ, List.getElem_cons_zero, List.setIfInBounds_toArray, List.set_cons_zero, List.set_cons_succ]
  refine wpAnyH_ready (rs := [4]) (by kernel_rfl) (by simp) ?_
  refine AllReadyH.cons rfl (fun K hK => ?_) AllReadyH.nil
  rw [if_pos (by rfl)]
  go_simp
  refine hK.out _ _ hS (fun hS => ?_)
  clear hK
  (try go_frame)
  refine wpAnyH_take (i := 12) (v := .string (bs (t ++ s.take m))) rfl (by kernel_rfl) (by kernel_rfl) (by kernel_rfl) (fun _ _ _ h => h) (Or.inl ⟨by rfl, fun w' hw => ?_⟩) hS ?_
  · obtain ⟨h1, h2⟩ := hw
    go_simp
  simp only [Act.put, List.getElem_toArray, List.getElem_cons_succ, List.getElem_cons_zero, List.setIfInBounds_toArray, List.set_cons_zero, List.set_cons_succ]
  refine wpAnyH_take (i := 14) (v := .pointer (some ⟨d, o + f, none⟩)) rfl (by kernel_rfl) (by kernel_rfl) (by kernel_rfl) (fun _ _ _ h => h) (Or.inl ⟨by rfl, fun w' hw => ?_⟩) hS ?_
  · obtain ⟨h1, h2⟩ := hw
    go_simp
  simp only [Act.put, List.getElem_toArray, List.getElem_cons_succ, List.getElem_cons_zero, List.setIfInBounds_toArray, List.set_cons_zero, List.set_cons_succ]
  refine wpAnyH_ready (rs := [15]) (by kernel_rfl) (by simp) ?_
  refine AllReadyH.cons rfl (fun K hK => ?_) AllReadyH.nil
  rw [if_pos (by rfl)]
  go_simp
  refine hK.out _ _ ⟨(World.cell?_setCell_far w ⟨d, o + f, none⟩ ⟨b1, 0, none⟩ _ (fun e => n1 e.symm)).trans h1, (World.cell?_setCell_far w ⟨d, o + f, none⟩ ⟨b2, 0, none⟩ _ (fun e => n2 e.symm)).trans h2⟩ (fun hS => ?_)
  clear hK
  (try go_frame)
  refine wpAnyH_done (by kernel_rfl) ?_ _
  clear hS
  go_end0
  exact ⟨rfl, rfl⟩
theorem cut1 (w : World) (d o f b1 b2 n : Nat) (t : List UInt8) (b : Int) (hf : f < 16) (h0 : w.cell? ⟨d, o + f, none⟩ = some (.string (bs t))) (hz : w.frozen? ⟨d, o + f, none⟩ = false)
    (n1 : b1 ≠ d) (n2 : b2 ≠ d) (h1 : w.cell? ⟨b1, 0, none⟩ = some (.int .i64 (f : Int))) (h2 : w.cell? ⟨b2, 0, none⟩ = some (.int .i64 (n : Int))) (hn : n ≤ t.length) (_hl : t.length ≤ 1073741824) :
    Calls Try.prog 62 #[.pointer (some ⟨d, o, none⟩), .int .i64 b, .pointer (some ⟨b1, 0, none⟩), .pointer (some ⟨b2, 0, none⟩)] w fun e w' => e = .returned (.tuple #[]) ∧ w' = (if b = allB then (w.setCell ⟨d, o + f, none⟩ (.string (bs (t.take n)))).drew else w) := by
  obtain ⟨L, hL⟩ : ∃ L, t.length = L := ⟨_, rfl⟩
  have hsz : (bs t).size = L := by rw [bs_size, hL]
  rw [hL] at hn
  have hm2 : ¬ (L : Int) < (n : Int) := by omega
  have hm4 : ¬ L < n := by omega
  have hx : (bs t).extract 0 n = bs (t.take n) := by rw [bs_extract]; simp
  have hf1 : (f : Int) < 16 := by omega
  go_enter Try.func62, Try.ntmps62
  by_cases hb : b = allB
  · have hbb : (b == 4611686018427387904) = true := by simpa using hb
    rw [if_pos hb]
    clear hb
    go_upto_region 1 with fail
    refine wp_region_held_drew (S := fun w' => w'.cell? ⟨b1, 0, none⟩ = some (.int .i64 (f : Int)) ∧ w'.cell? ⟨b2, 0, none⟩ = some (.int .i64 (n : Int))) (by kernel_rfl) (⟨h1, h2⟩) (fun hS => ?_)
    refine wpAnyH_take (i := 0) (v := .pointer (some ⟨d, o, none⟩)) rfl (by kernel_rfl) (by kernel_rfl) (by kernel_rfl) (fun _ _ _ h => h) (Or.inl ⟨by rfl, fun w' hw => ?_⟩) hS ?_
    · obtain ⟨h1, h2⟩ := hw
      go_simp
    simp only [Act.put, List.getElem_toArray, List.getElem_cons_zero, List.setIfInBounds_toArray, List.set_cons_zero, List.set_cons_succ]
    refine wpAnyH_take (i := 1) (v := .int .i64 (f : Int)) rfl (by kernel_rfl) (by kernel_rfl) (by kernel_rfl) (fun _ _ _ h => h) (Or.inl ⟨by rfl, fun w' hw => ?_⟩) hS ?_
    · obtain ⟨h1, h2⟩ := hw
      go_simp
    simp only [Act.put, List.getElem_toArray, List.getElem_cons_succ, List.getElem_cons_zero, List.setIfInBounds_toArray, List.set_cons_zero, List.set_cons_succ]
    refine wpAnyH_take (i := 2) (v := .pointer (some ⟨d, o, none⟩)) rfl (by kernel_rfl) (by kernel_rfl) (by kernel_rfl) (fun _ _ _ h => h) (Or.inl ⟨by rfl, fun w' hw => ?_⟩) hS ?_
    · obtain ⟨h1, h2⟩ := hw
      go_simp
    simp only [Act.put, List.getElem_toArray, List.getElem_cons_succ, List.getElem_cons_zero, List.setIfInBounds_toArray, List.set_cons_zero, List.set_cons_succ]
    refine wpAnyH_take (i := 3) (v := .int .i64 (f : Int)) rfl (by kernel_rfl) (by kernel_rfl) (by kernel_rfl) (fun _ _ _ h => h) (Or.inl ⟨by rfl, fun w' hw => ?_⟩) hS ?_
    · obtain ⟨h1, h2⟩ := hw
      go_simp
    simp only [Act.put, List.getElem_toArray, List.getElem_cons_succ, List.getElem_cons_zero, List.setIfInBounds_toArray, List.set_cons_zero, List.set_cons_succ]
    refine wpAnyH_take (i := 4) (v := .pointer (some ⟨d, o, none⟩)) rfl (by kernel_rfl) (by kernel_rfl) (by kernel_rfl) (fun _ _ _ h => h) (Or.inl ⟨by rfl, fun w' hw => ?_⟩) hS ?_
    · obtain ⟨h1, h2⟩ := hw
      go_simp
    simp only [Act.put, List.getElem_toArray, List.getElem_cons_succ, List.getElem_cons_zero, List.setIfInBounds_toArray, List.set_cons_zero, List.set_cons_succ]
    refine wpAnyH_take (i := 5) (v := .pointer (some ⟨d, o + f, none⟩)) rfl (by kernel_rfl) (by kernel_rfl) (by kernel_rfl) (fun _ _ _ h => h) (Or.inl ⟨by rfl, fun w' hw => ?_⟩) hS ?_
    · obtain ⟨h1, h2⟩ := hw
      go_simp
    simp only [Act.put, List.getElem_toArray, List.getElem_cons_succ, List.getElem_cons_zero, List.setIfInBounds_toArray, List.set_cons_zero, List.set_cons_succ]
    refine wpAnyH_take (i := 7) (v := .int .i64 (n : Int)) rfl (by kernel_rfl) (by kernel_rfl) (by kernel_rfl) (fun _ _ _ h => h) (Or.inl ⟨by rfl, fun w' hw => ?_⟩) hS ?_
    · obtain ⟨h1, h2⟩ := hw
      go_simp
    simp only [Act.put, List.getElem_toArray, List.getElem_cons_succ, List.getElem_cons_zero, List.setIfInBounds_toArray, List.set_cons_zero, List.set_cons_succ]
    refine wpAnyH_take (i := 9) (v := .pointer (some ⟨d, o, none⟩)) rfl (by kernel_rfl) (by kernel_rfl) (by kernel_rfl) (fun _ _ _ h => h) (Or.inl ⟨by rfl, fun w' hw => ?_⟩) hS ?_
    · obtain ⟨h1, h2⟩ := hw
      go_simp
    simp only [Act.put, List.getElem_toArray, List.getElem_cons_succ, List.getElem_cons_zero, List.setIfInBounds_toArray, List.set_cons_zero, List.set_cons_succ]
    refine wpAnyH_ready (rs := [6]) (by kernel_rfl) (by simp) ?_
    refine AllReadyH.cons rfl (fun K hK => ?_) AllReadyH.nil
    rw [if_pos (by rfl)]
    go_simp
    refine hK.out _ _ hS (fun hS => ?_)
    clear hK
    (try go_frame)
    refine wpAnyH_take (i := 8) (v := .string (bs (t.take n))) rfl (by kernel_rfl) (by kernel_rfl) (by kernel_rfl) (fun _ _ _ h => h) (Or.inl ⟨by rfl, fun w' hw => ?_⟩) hS ?_
    · obtain ⟨h1, h2⟩ := hw
      go_simp
    simp only [Act.put, List.getElem_toArray, List.getElem_cons_succ, List.getElem_cons_zero, List.setIfInBounds_toArray, List.set_cons_zero, List.set_cons_succ]
    refine wpAnyH_take (i := 10) (v := .pointer (some ⟨d, o + f, none⟩)) rfl (by kernel_rfl) (by kernel_rfl) (by kernel_rfl) (fun _ _ _ h => h) (Or.inl ⟨by rfl, fun w' hw => ?_⟩) hS ?_
    · obtain ⟨h1, h2⟩ := hw
      go_simp
    simp only [Act.put, List.getElem_toArray, List.getElem_cons_succ, List.getElem_cons_zero, List.setIfInBounds_toArray, List.set_cons_zero, List.set_cons_succ]
    refine wpAnyH_ready (rs := [11]) (by kernel_rfl) (by simp) ?_
    refine AllReadyH.cons rfl (fun K hK => ?_) AllReadyH.nil
    rw [if_pos (by rfl)]
    go_simp
    refine hK.out _ _ ⟨(World.cell?_setCell_far w ⟨d, o + f, none⟩ ⟨b1, 0, none⟩ _ (fun e => n1 e.symm)).trans h1, (World.cell?_setCell_far w ⟨d, o + f, none⟩ ⟨b2, 0, none⟩ _ (fun e => n2 e.symm)).trans h2⟩ (fun hS => ?_)
    clear hK
    (try go_frame)
    refine wpAnyH_done (by kernel_rfl) ?_ _
    clear hS
    go_end0
    exact ⟨rfl, rfl⟩
  · have hbb : (b == 4611686018427387904) = false := by simpa using hb
    rw [if_neg hb]
    go_wp2_with fail
    go_end0
    exact ⟨rfl, rfl⟩
end Go.Proofs.Ytniflkggcceagaa

namespace Go.Proofs.Ytniflkggcceagaa
open Go Go.RowKit
open Go.Shelf
theorem LcIs.farD {w w' : World} {S : Nat → Prop} {d : Nat} {lv v : Value} {c : Lc} (h : LcIs w S d lv v c) (hb : ButS (fun k => k = d) w w') (hl : ∀ k, S k → k < w.heap.size) : LcIs w' S d lv v c := by
  obtain ⟨b1, b2, s1, s2, h1, h2, h3, h4, h5, h6, h7⟩ := h
  refine ⟨b1, b2, s1, s2, h1, h2, h3, h4, h5, (hb.cell (p := ⟨b1, 0, none⟩) (hl _ s1) h1).trans h6, ?_⟩
  cases c with
  | wr f s => exact ⟨h7.1, (hb.cell (p := ⟨b2, 0, none⟩) (hl _ s2) h2).trans h7.2⟩
  | cut f n => exact ⟨h7.1, (hb.cell (p := ⟨b2, 0, none⟩) (hl _ s2) h2).trans h7.2⟩
theorem own_same {w w' : World} {base e k n : Nat} {v : Value} {xs : List Value} (h : w.ownsRow base e k v n xs) (hb : ∀ g, v.ownBlock = some g → w'.heap[g]? = w.heap[g]?) : w'.ownsRow base e k v n xs := by
  rcases h.2 with ⟨hv, hn⟩ | ⟨g, cap, cur, hv, hB, hg, rest⟩
  · exact ⟨h.1, Or.inl ⟨hv, hn⟩⟩
  · exact ⟨h.1, Or.inr ⟨g, cap, cur, hv, hB, (hb g (by rw [hv]; rfl)).trans hg, rest⟩⟩
theorem DiskAt.turn {w w' : World} {S : Nat → Prop} {d : Nat} {D D' : Dk} (h : DiskAt w S d D) (hb : ButS (fun k => k = d) w w') (hn : D'.n = D.n) (hl : D'.loose = D.loose)
    (c0 : w'.cell? ⟨d, 0, none⟩ = w.cell? ⟨d, 0, none⟩) (c1 : w'.cell? ⟨d, 1, none⟩ = some (.int .i64 (D'.room : Int))) (now : ∀ i, i < 16 → w'.cell? ⟨d, 2 + i, none⟩ = some (.string (bs (D'.now i)))) (sure : ∀ i, i < 16 → w'.cell? ⟨d, 18 + i, none⟩ = some (.string (bs (D'.sure i))))
    (c34 : w'.cell? ⟨d, 34, none⟩ = w.cell? ⟨d, 34, none⟩) (c35 : w'.cell? ⟨d, 35, none⟩ = some (.int .i64 D'.fuse)) (fz : ∀ j, w'.frozen? ⟨d, j, none⟩ = false) : DiskAt w' S d D' := by
  obtain ⟨lv, vs, l1, l2, l3, l4, l5⟩ := h.lo
  refine ⟨fun k hk => Nat.lt_of_lt_of_le (h.own k hk) hb.size, h.dd, by rw [c0, h.c0, hn], c1, now, sure, c35, fz, by rw [hn]; exact h.n16, lv, vs, c34.trans l1, ?_, by rw [hl]; exact l3, l4, fun i v c hv hc => (l5 i v c hv (by rw [← hl]; exact hc)).farD hb h.own⟩
  rw [hl]
  exact own_same l2 (fun g hg => hb.block g (h.own _ (l4 g hg).1) (l4 g hg).2)
theorem DiskAt.setFuse {w : World} {S : Nat → Prop} {d : Nat} {D : Dk} (h : DiskAt w S d D) (v : Int) : DiskAt (w.setCell ⟨d, 35, none⟩ (.int .i64 v)) S d { D with fuse := v } := by
  have far : ∀ j, j ≠ 35 → (w.setCell ⟨d, 35, none⟩ (.int .i64 v)).cell? ⟨d, j, none⟩ = w.cell? ⟨d, j, none⟩ := fun j hj => World.cell?_setCell_other _ _ _ _ (by intro e; injection e with _ e; exact hj e.symm)
  exact h.turn (ButS.set (S := fun k => k = d) w (p := ⟨d, 35, none⟩) rfl _) rfl rfl (far 0 (by omega)) ((far 1 (by omega)).trans h.c1) (fun i hi => (far _ (by omega)).trans (h.now i hi)) (fun i hi => (far _ (by omega)).trans (h.sure i hi)) (far 34 (by omega)) (World.cell?_setCell_same' _ _ _ (by rw [h.c35]; rfl)) (fun j => by rw [World.frozen?_setCell]; exact h.fz j)
theorem DiskAt.setNow {w : World} {S : Nat → Prop} {d : Nat} {D : Dk} (h : DiskAt w S d D) {f : Nat} (hf : f < 16) (t : List UInt8) : DiskAt (w.setCell ⟨d, 2 + f, none⟩ (.string (bs t))) S d { D with now := upd D.now f t } := by
  have far : ∀ j, j ≠ 2 + f → (w.setCell ⟨d, 2 + f, none⟩ (.string (bs t))).cell? ⟨d, j, none⟩ = w.cell? ⟨d, j, none⟩ := fun j hj => World.cell?_setCell_other _ _ _ _ (by intro e; injection e with _ e; exact hj e.symm)
  refine h.turn (ButS.set (S := fun k => k = d) w (p := ⟨d, 2 + f, none⟩) rfl _) rfl rfl (far 0 (by omega)) ((far 1 (by omega)).trans h.c1) (fun i hi => ?_) (fun i hi => (far _ (by omega)).trans (h.sure i hi)) (far 34 (by omega)) ((far 35 (by omega)).trans h.c35) (fun j => by rw [World.frozen?_setCell]; exact h.fz j)
  show _ = some (Value.string (bs (if i = f then t else D.now i)))
  by_cases e : i = f
  · subst e
    rw [if_pos rfl]
    exact World.cell?_setCell_same' _ _ _ (by rw [h.now i hi]; rfl)
  · rw [if_neg e]
    exact (far _ (by omega)).trans (h.now i hi)
theorem DiskAt.drew {w : World} {S : Nat → Prop} {d : Nat} {D : Dk} (h : DiskAt w S d D) : DiskAt w.drew S d D := h.step ⟨rfl, rfl, rfl, Nat.le_refl _, fun _ _ => rfl⟩

def Dk.burn (D : Dk) : Int × Dk := if D.fuse = 0 then (90, D) else if 0 < D.fuse then (0, { D with fuse := D.fuse - 1 }) else (0, D)
theorem disk_burns (w : World) {S : Nat → Prop} {d : Nat} {D : Dk} (h : DiskAt w S d D) (hf : D.fuse < 1073741824) :
    Calls Try.prog 56 #[.pointer (some ⟨d, 0, none⟩)] w fun e w' => e = .returned (.int .i64 D.burn.1) ∧ DiskAt w' S d D.burn.2 ∧ ButS (fun k => k = d) w w' ∧ w'.cell? ⟨d, 34, none⟩ = w.cell? ⟨d, 34, none⟩ := by
  have HN := Lib.hid (disk_none w d D.n h.c0 h.n16.1)
  have c35 := h.c35; have f35 := h.fz 35
  have H := Lib.hid h
  clear h
  obtain ⟨fu, hfu⟩ : ∃ x, D.fuse = x := ⟨_, rfl⟩
  rw [hfu] at c35 hf
  have HFU := Lib.hid hfu
  by_cases h0 : fu = 0
  · have e1 : D.burn = (90, D) := by unfold Dk.burn; rw [if_pos (by rw [hfu]; exact h0)]
    rw [e1]
    have hb0 : (fu == 0) = true := by simpa using h0
    clear e1 hfu h0
    go_enter Try.func56, Try.ntmps56
    go_wp2_with fail
    refine HN.out.mono ?_
    rintro e w1 ⟨rfl, hw⟩
    subst w1
    go_wp2_with fail
    go_ret
    exact ⟨rfl, H.out, ButS.refl _, rfl⟩
  · have hb0 : (fu == 0) = false := by simpa using h0
    by_cases h1 : 0 < fu
    · have e1 : D.burn = (0, { D with fuse := fu - 1 }) := by unfold Dk.burn; rw [if_neg (by rw [hfu]; exact h0), if_pos (by rw [hfu]; exact h1), hfu]
      rw [e1]
      have hw1 : IntKind.i64.wrap (fu - 1) = fu - 1 := by rw [IntKind.wrap_i64]; omega
      have hb1 : decide (0 < fu) = true := by simpa using h1
      clear e1 hfu
      go_enter Try.func56, Try.ntmps56
      go_wp2_with fail
      refine HN.out.mono ?_
      rintro e w1 ⟨rfl, hw⟩
      subst w1
      go_wp2_with fail
      go_ret
      exact ⟨rfl, H.out.setFuse (fu - 1), ButS.set (S := fun k => k = d) w (p := ⟨d, 35, none⟩) rfl _, World.cell?_setCell_other _ _ _ _ (by intro e; injection e with _ e; omega)⟩
    · have e1 : D.burn = (0, D) := by unfold Dk.burn; rw [if_neg (by rw [hfu]; exact h0), if_neg (by rw [hfu]; exact h1)]
      rw [e1]
      have hb1 : decide (0 < fu) = false := by simpa using h1
      clear e1 hfu
      go_enter Try.func56, Try.ntmps56
      go_wp2_with fail
      refine HN.out.mono ?_
      rintro e w1 ⟨rfl, hw⟩
      subst w1
      go_wp2_with fail
      go_ret
      exact ⟨rfl, H.out, ButS.refl _, rfl⟩
def lensN (g : Nat → List UInt8) : Nat → Nat
  | 0 => 0
  | k + 1 => lensN g k + (g k).length
def Dk.left (D : Dk) : Int := (D.room : Int) - (lensN D.now 16 : Nat)
def nowV (g : Nat → List UInt8) : List Value := [.string (bs (g 0)), .string (bs (g 1)), .string (bs (g 2)), .string (bs (g 3)), .string (bs (g 4)), .string (bs (g 5)), .string (bs (g 6)), .string (bs (g 7)), .string (bs (g 8)), .string (bs (g 9)), .string (bs (g 10)), .string (bs (g 11)), .string (bs (g 12)), .string (bs (g 13)), .string (bs (g 14)), .string (bs (g 15))]
theorem nowV_at (g : Nat → List UInt8) (i : Nat) (h : i < 16) : (nowV g)[i]? = some (.string (bs (g i))) := by
  rcases (show i = 0 ∨ i = 1 ∨ i = 2 ∨ i = 3 ∨ i = 4 ∨ i = 5 ∨ i = 6 ∨ i = 7 ∨ i = 8 ∨ i = 9 ∨ i = 10 ∨ i = 11 ∨ i = 12 ∨ i = 13 ∨ i = 14 ∨ i = 15 by omega) with rfl | rfl | rfl | rfl | rfl | rfl | rfl | rfl | rfl | rfl | rfl | rfl | rfl | rfl | rfl | rfl <;> rfl
theorem nowV_length (g : Nat → List UInt8) : (nowV g).length = 16 := rfl
theorem info16 : (Try.prog.info? 65).map (·.size) = some 16 := by kernel_rfl
theorem run_index16 (V : Array Value) (k : Nat) (s : ByteArray) (hk : k < 16) (h : V[k]? = some (.string s)) (w : World) : (Instr.index 65 (.agg V) (.int .i64 (k : Int))).run Try.prog w = .ok (.string s) w := by
  have hn : 0 ≤ (k : Int) ∧ (k : Int) < ((16 : Nat) : Int) := by omega
  simp [Instr.index, run_underlying Try.underlying65, asIntOf, hn, go_sem]
  rw [if_pos hk, h]
  rfl
set_option maxRecDepth 100000 in
set_option maxHeartbeats 1000000 in
theorem disk_Room (w : World) {S : Nat → Prop} {d : Nat} {D : Dk} (h : DiskAt w S d D) (hr : D.room ≤ 4194304) (hl : ∀ i, i < 16 → (D.now i).length ≤ 1073741824) :
    Calls Try.prog 12 #[.pointer (some ⟨d, 0, none⟩)] w fun e w' => e = .returned (.int .i64 D.left) ∧ w' = w := by
  have HN := Lib.hid (disk_none w d D.n h.c0 h.n16.1)
  have c1 := h.c1
  unfold Dk.left
  obtain ⟨rm, hrm⟩ : ∃ x, D.room = x := ⟨_, rfl⟩
  rw [hrm] at hr c1 ⊢
  clear hrm
  have hrng : w.rangeAt d 2 (nowV D.now) := fun j v hv => by
    have hj : j < 16 := by have := (List.getElem?_eq_some_iff.1 hv).1; simpa [nowV_length] using this
    rw [nowV_at _ _ hj] at hv
    cases hv
    exact h.now j hj
  have HR := Lib.hid hrng
  obtain ⟨V, hV⟩ : ∃ V, nowV D.now = V := ⟨_, rfl⟩
  have HV := Lib.hid hV
  have hVi : ∀ k, k < 16 → V.toArray[k]? = some (.string (bs (D.now k))) := fun k hk => by rw [← hV]; simpa using nowV_at D.now k hk
  have HVI := Lib.hid hVi
  have HL := Lib.hid hl
  rw [hV] at HR
  clear h hrng hV hVi hl
  go_enter Try.func12, Try.ntmps12
  go_wp2_with fail
  refine HN.out.mono ?_
  rintro e w1 ⟨rfl, hw⟩
  subst w1
  go_wp2_with (first | (refine wpList_load_mid rfl 65 (.tmp 14) rfl d 2 rfl V _ HR.out Try.underlying65 rfl (by rw [info16, ← HV.out]; rfl) ?_) | fail)
  have hwl : ∀ k, k ≤ 16 → lensN D.now k ≤ k * 1073741824 := fun k => by
    induction k with
    | zero => intro _; exact Nat.le_refl _
    | succ k ih => intro hk; have := ih (by omega); have := HL.out k (by omega); show lensN D.now k + _ ≤ _; omega
  have HWL := Lib.hid hwl
  clear hwl
  go_loopw [3, 16] (fun r i wr => ∃ (k : Nat) (z : Int), k ≤ 16 ∧ i = .int .i64 k ∧ r = .int .i64 z ∧ Hid (z = (rm : Int) - (lensN D.now k : Nat)) ∧ wr = w) (fun _ i _ => 16 - (intOf i).toNat)
  case atStart => exact ⟨0, _, by omega, rfl, rfl, Lib.hid (by simp [lensN]), rfl⟩
  case round =>
    obtain ⟨k, z, hk, rfl, rfl, HZ, hw⟩ := hrel
    subst wr
    by_cases hlt : k < 16
    · have hix := HVI.out k hlt
      obtain ⟨s, hs⟩ : ∃ s, D.now k = s := ⟨_, rfl⟩
      rw [hs] at hix
      obtain ⟨L, hL⟩ : ∃ L, s.length = L := ⟨_, rfl⟩
      have hsz : (bs s).size = L := by rw [bs_size, hL]
      have hki : (k : Int) < 16 := by omega
      have hzw : IntKind.i64.wrap (z - (L : Int)) = z - (L : Int) := by
        have h1 := HWL.out k (by omega); have h2 := HZ.out; have h3 := HL.out k hlt
        rw [hs, hL] at h3
        rw [IntKind.wrap_i64]; omega
      have HS : Hid (lensN D.now (k + 1) = lensN D.now k + L) := Lib.hid (by show _ + _ = _; rw [hs, hL])
      have hix2 := run_index16 V.toArray k (bs s) hlt hix w
      clear hs hL
      go_wp2
      go_roundw
      case rel => exact ⟨k + 1, _, by omega, by go_num, rfl, Lib.hid (by rw [HS.out]; have := HZ.out; omega), trivial⟩
      case measure => simp [intOf]; omega
    · obtain rfl : k = 16 := by omega
      go_wp2
      go_ret
      exact ⟨by rw [← HZ.out]; rfl, rfl⟩

theorem infoFn : (Try.prog.info? 77).map (fun i => (i.zero, i.size, i.bytes)) = some (some .nilFunc, 1, 8) := by kernel_rfl
def LcArg (w : World) (g : Nat → List UInt8) (b1 b2 : Nat) (v : Value) : Lc → Prop
  | .wr _ s => v = .func (.func 59) #[] #[.pointer (some ⟨b1, 0, none⟩), .pointer (some ⟨b2, 0, none⟩)] ∧ w.cell? ⟨b2, 0, none⟩ = some (.string (bs s)) ∧ s.length ≤ 1073741824
  | .cut f n => v = .func (.func 62) #[] #[.pointer (some ⟨b1, 0, none⟩), .pointer (some ⟨b2, 0, none⟩)] ∧ w.cell? ⟨b2, 0, none⟩ = some (.int .i64 (n : Int)) ∧ n ≤ (g f).length
set_option maxRecDepth 100000 in
set_option maxHeartbeats 1000000 in
theorem disk_does (w : World) {S : Nat → Prop} {d : Nat} {D : Dk} {b1 b2 : Nat} {v : Value} {c : Lc} (h : DiskAt w S d D) (hl : ∀ i, i < 16 → (D.now i).length ≤ 1073741824) (hn : D.loose.length ≤ 1000000) (hc : c.file < 16) (hb1 : b1 ≠ d) (hb2 : b2 ≠ d) (hS1 : S b1) (hS2 : S b2)
    (hlv : ∀ lv b, w.cell? ⟨d, 34, none⟩ = some lv → lv.ownBlock = some b → b ≠ b1 ∧ b ≠ b2)
    (hx1 : w.cell? ⟨b1, 0, none⟩ = some (.int .i64 (c.file : Int))) (hx2 : LcArg w D.now b1 b2 v c) :
    Calls Try.prog 58 #[.pointer (some ⟨d, 0, none⟩), v, .int .i64 4611686018427387904] w fun e w' => e = .returned (.tuple #[]) ∧ DiskAt w' (Gr S w w') d { D with now := c.done D.now allB, loose := D.loose ++ [c] } ∧ ButS S w w' := by
  -- the call itself
  have hcall : ∃ fn, v = .func (.func fn) #[] #[.pointer (some ⟨b1, 0, none⟩), .pointer (some ⟨b2, 0, none⟩)] ∧ (∀ args w, (callFunc fn args).run Try.prog w = .ok (.enter fn args) w) ∧ Calls Try.prog fn #[.pointer (some ⟨d, 2, none⟩), .int .i64 4611686018427387904, .pointer (some ⟨b1, 0, none⟩), .pointer (some ⟨b2, 0, none⟩)] w fun e w' => e = .returned (.tuple #[]) ∧ DiskAt w' S d { D with now := c.done D.now allB } ∧ ButS (fun k => k = d) w w' ∧ w'.cell? ⟨d, 34, none⟩ = w.cell? ⟨d, 34, none⟩ := by
    have far : ∀ f t, f < 16 → (w.setCell ⟨d, 2 + f, none⟩ t).drew.cell? ⟨d, 34, none⟩ = w.cell? ⟨d, 34, none⟩ := fun f t hf => World.cell?_setCell_other _ _ _ _ (by intro e; injection e with _ e; omega)
    cases c with
    | wr f s =>
      obtain ⟨rfl, h2, h3⟩ := hx2
      refine ⟨_, rfl, enters_of Try.func59 (by kernel_rfl) rfl, (write1 w d 2 f b1 b2 (D.now f) s 4611686018427387904 hc (h.now f hc) (h.fz _) hb1 hb2 hx1 h2 (hl f hc) h3).mono ?_⟩
      rintro e w' ⟨rfl, rfl⟩
      exact ⟨rfl, (h.setNow hc _).drew, (ButS.set (S := fun k => k = d) w (p := ⟨d, 2 + f, none⟩) rfl _).drewN 1, far _ _ hc⟩
    | cut f n =>
      obtain ⟨rfl, h2, h3⟩ := hx2
      refine ⟨_, rfl, enters_of Try.func62 (by kernel_rfl) rfl, (cut1 w d 2 f b1 b2 n (D.now f) 4611686018427387904 hc (h.now f hc) (h.fz _) hb1 hb2 hx1 h2 h3 (hl f hc)).mono ?_⟩
      rintro e w' ⟨rfl, rfl⟩
      exact ⟨rfl, (h.setNow hc _).drew, (ButS.set (S := fun k => k = d) w (p := ⟨d, 2 + f, none⟩) rfl _).drewN 1, far _ _ hc⟩
  obtain ⟨fn, rfl, eg, hC⟩ := hcall
  have HC := Lib.hid hC
  have HH := Lib.hid h; have HLV := Lib.hid hlv; have HX1 := Lib.hid hx1; have HX2 := Lib.hid hx2
  have hdl := h.lt
  have HS1 := Lib.hid (h.own _ hS1); have HS2 := Lib.hid (h.own _ hS2)
  obtain ⟨i0, hi, hz0, hz1, hz2⟩ := info_parts infoFn
  clear hC h hlv hx1 hx2 hl
  go_enter Try.func58, Try.ntmps58
  go_wp2_with fail
  refine HC.out.mono ?_
  rintro e w1 ⟨rfl, h1, hb1', h34⟩
  have HLVE : Hid (∀ lv, w.cell? ⟨d, 34, none⟩ = some lv → w1.cell? ⟨d, 34, none⟩ = some lv) := Lib.hid (fun lv h => h34.trans h)
  clear h34
  obtain ⟨lv, vs, l1, l2, l3, l4, l5⟩ := h1.lo
  obtain ⟨n, hnn⟩ : ∃ n, D.loose.length = n := ⟨_, rfl⟩
  obtain ⟨la, lc, rfl⟩ := ownShape l2
  have c34 := l1
  have f34 := h1.fz 34
  have hlen : ({ D with now := c.done D.now allB } : Dk).loose.length = n := hnn
  rw [hlen] at c34 l2 l4 l5
  have H1 := Lib.hid h1; have HB1 := Lib.hid hb1'; have L2 := Lib.hid l2; have L3 := Lib.hid l3; have L4 := Lib.hid l4; have L5 := Lib.hid l5
  have HLEN := Lib.hid hlen
  have hsz := hb1'.size
  clear h1 hb1' l1 l2 l3 l4 l5 HC hlen
  rw [hnn] at hn
  go_wp2_with (first
    | (at_builtin; refine wpList_append_own_at _ rfl _ _ 66 rfl 0 77 i0 .nilFunc 1 8 Try.underlying66 hi hz0 hz1 hz2 rfl (by decide) (.slice la n lc) n vs rfl (ownBelow L2.out ((Below.refl _ _).alloc (Nat.le_refl _) _)) ⟨w1.heap.size, 0, none⟩ 1 1 [.func (.func fn) #[] #[.pointer (some ⟨b1, 0, none⟩), .pointer (some ⟨b2, 0, none⟩)]] rfl rfl (World.news_of_block (MapKept.heap_alloc _ _).1) (by intro u hu; simp only [List.mem_cons, List.mem_nil_iff, or_false] at hu; rcases hu with rfl; rfl) (by unfold maxLen; omega) (by omega) (Nat.zero_le _) ?_; intro v5 w5 hown5 hg5 _ hat5; have hd5 : w5.heap[d]? = w1.heap[d]? := (hg5.block d (by simp; omega) (fun e => (L4.out d e.symm).2 rfl)).trans (((Below.refl w1.heap.size w1).alloc (Nat.le_refl _) _).block d (by omega)); have e34 := (World.cell?_of_block (w := w1) (a := ⟨d, 34, none⟩) hd5).trans c34; have g34 := (World.frozen?_of_block (w := w1) (a := ⟨d, 34, none⟩) hd5).trans f34; clear hd5; have HG5 := Lib.hid hg5; have HO5 := Lib.hid hown5; have HA5 := Lib.hid hat5; clear hg5 hown5 hat5; obtain ⟨a5, c5, rfl⟩ := ownShape HO5.out)
    | fail)
  go_end0
  have hbA : Below w1.heap.size w1 (w1.alloc (.cells #[.func (.func fn) #[] #[.pointer (some ⟨b1, 0, none⟩), .pointer (some ⟨b2, 0, none⟩)]] 77)) := (Below.refl _ _).alloc (Nat.le_refl _) _
  have hg5 := HG5.out; have hown5 := HO5.out; have hat5 := HA5.out
  have hg5s := hg5.size
  have hAs : (w1.alloc (.cells #[.func (.func fn) #[] #[.pointer (some ⟨b1, 0, none⟩), .pointer (some ⟨b2, 0, none⟩)]] 77)).heap.size = w1.heap.size + 1 := by simp
  have keep : ∀ k, k < w1.heap.size → (Value.slice la n lc).ownBlock ≠ some k → k ≠ d → (w5.setCell ⟨d, 34, none⟩ (.slice a5 (n + 1) c5)).heap[k]? = w1.heap[k]? := fun k hk hn hd => by
    rw [Below.heap_setCell w5 ⟨d, 34, none⟩ _ k hd, hg5.block k (by omega) (fun e => hn e.symm), hbA.block k hk]
  have hdw : w5.heap[d]? = w1.heap[d]? := (hg5.block d (by omega) (fun e => (L4.out d e.symm).2 rfl)).trans (hbA.block d (by omega))
  have dc : ∀ j, j ≠ 34 → (w5.setCell ⟨d, 34, none⟩ (.slice a5 (n + 1) c5)).cell? ⟨d, j, none⟩ = w1.cell? ⟨d, j, none⟩ := fun j hj => (World.cell?_setCell_other _ _ _ _ (by intro e; injection e with _ e; exact hj e.symm)).trans (World.cell?_of_block (w := w1) (a := ⟨d, j, none⟩) hdw)
  have hfin : (w5.setCell ⟨d, 34, none⟩ (.slice a5 (n + 1) c5)).heap.size = w5.heap.size := setCell_size _ _ _
  have hnb : ∀ b, (Value.slice a5 (n + 1) c5).ownBlock = some b → (Value.slice la n lc).ownBlock = some b ∨ w1.heap.size ≤ b ∧ b < w5.heap.size := fun b hb => by
    obtain ⟨C, T, F, hc⟩ := own_cells hown5 b hb
    rcases hat5 with h | h
    · exact Or.inl (h.symm.trans hb)
    · rw [h] at hb; cases hb
      exact Or.inr ⟨by omega, lt_of_block hc⟩
  have hbut : ButS S w (w5.setCell ⟨d, 34, none⟩ (.slice a5 (n + 1) c5)) := by
    refine (HB1.out.mono (S' := S) (fun k hk => by rw [hk]; exact HH.out.dd)).trans ?_
    refine ⟨hg5.os.trans hbA.os, hg5.tape.trans hbA.tape, hg5.output.trans hbA.output, by rw [hfin]; omega, fun k hk hn => keep k hk (fun e => hn (L4.out k e).1) (fun e => hn (by rw [e]; exact HH.out.dd))⟩
  refine ⟨rfl, ⟨fun k hk => ?_, Or.inl HH.out.dd, (dc 0 (by omega)).trans H1.out.c0, (dc 1 (by omega)).trans H1.out.c1, fun i hi => (dc _ (by omega)).trans (H1.out.now i hi), fun i hi => (dc _ (by omega)).trans (H1.out.sure i hi), (dc 35 (by omega)).trans H1.out.c35, fun j => ?_, H1.out.n16, .slice a5 (n + 1) c5, vs ++ [.func (.func fn) #[] #[.pointer (some ⟨b1, 0, none⟩), .pointer (some ⟨b2, 0, none⟩)]], ?_, ?_, ?_, fun b hb => ?_, fun i v c' hv hc' => ?_⟩, hbut⟩
  · rcases hk with hk | hk
    · exact Nat.lt_of_lt_of_le (HH.out.own k hk) hbut.size
    · exact hk.2
  · rw [World.frozen?_setCell, World.frozen?_of_block (w := w1) (a := ⟨d, j, none⟩) hdw]; exact H1.out.fz j
  · exact World.cell?_setCell_same' _ _ _ (by rw [World.cell?_of_block (w := w1) (a := ⟨d, 34, none⟩) hdw, c34]; rfl)
  · rw [show ({ D with now := c.done D.now allB, loose := D.loose ++ [c] } : Dk).loose.length = n + 1 by simp [hnn]]
    refine own_same hown5 (fun g hg => Below.heap_setCell w5 ⟨d, 34, none⟩ _ g (fun e => ?_))
    rcases hnb g hg with h | h
    · exact (L4.out g h).2 e
    · dsimp only at e; omega
  · simp [L3.out]
  · rcases hnb b hb with h | h
    · exact ⟨Or.inl (L4.out b h).1, (L4.out b h).2⟩
    · exact ⟨Or.inr ⟨by omega, by rw [hfin]; omega⟩, by omega⟩
  · have hcells : ∀ b, b < w1.heap.size → (Value.slice la n lc).ownBlock ≠ some b → b ≠ d → (w5.setCell ⟨d, 34, none⟩ (.slice a5 (n + 1) c5)).cell? ⟨b, 0, none⟩ = w1.cell? ⟨b, 0, none⟩ := fun b hb hn hd => World.cell?_of_block (w := w1) (a := ⟨b, 0, none⟩) (keep b hb hn hd)
    have hL : vs.length = n := L3.out.trans HLEN.out
    by_cases hin : i < n
    · rw [List.getElem?_append_left (by omega)] at hv
      have hc2 : D.loose[i]? = some c' := by
        have : (D.loose ++ [c])[i]? = some c' := hc'
        rwa [List.getElem?_append_left (by omega)] at this
      obtain ⟨p1, p2, s1, s2, g1, g2, g3, g4, g5, g6, g7⟩ := L5.out i v c' hv hc2
      have hp1 := H1.out.own _ s1; have hp2 := H1.out.own _ s2
      refine ⟨p1, p2, Or.inl s1, Or.inl s2, g1, g2, fun e => ?_, fun e => ?_, g5, (hcells p1 hp1 g3 g1).trans g6, ?_⟩
      · rcases hnb p1 e with h | h
        · exact g3 h
        · omega
      · rcases hnb p2 e with h | h
        · exact g4 h
        · omega
      · cases c' with
        | wr f s => exact ⟨g7.1, (hcells p2 hp2 g4 g2).trans g7.2⟩
        | cut f m => exact ⟨g7.1, (hcells p2 hp2 g4 g2).trans g7.2⟩
    · rw [List.getElem?_append_right (by omega)] at hv
      have hc2 : (D.loose ++ [c])[i]? = some c' := hc'
      rw [List.getElem?_append_right (by omega)] at hc2
      have hi0 : i - vs.length = 0 := by
        have := (List.getElem?_eq_some_iff.1 hv).1
        simpa using this
      rw [hi0] at hv
      have hi1 : i - D.loose.length = 0 := by omega
      rw [hi1] at hc2
      simp only [List.getElem?_cons_zero, Option.some.injEq] at hv hc2
      subst hv; subst hc2
      have hlv0 : ∀ b, (Value.slice la n lc).ownBlock = some b → b ≠ b1 ∧ b ≠ b2 := fun b hb => by
        obtain ⟨lv0, vs0, q1, q2, q3, q4, q5⟩ := HH.out.lo
        have : lv0 = .slice la n lc := by
          have h1 := HLVE.out lv0 q1
          rw [c34] at h1; exact (Option.some.inj h1).symm
        exact HLV.out lv0 b q1 (by rw [this]; exact hb)
      have k1 : (Value.slice la n lc).ownBlock ≠ some b1 := fun e => (hlv0 b1 e).1 rfl
      have k2 : (Value.slice la n lc).ownBlock ≠ some b2 := fun e => (hlv0 b2 e).2 rfl
      have y1 := HS1.out; have y2 := HS2.out
      refine ⟨b1, b2, Or.inl hS1, Or.inl hS2, hb1, hb2, fun e => ?_, fun e => ?_, hc, ((hcells b1 (by omega) k1 hb1).trans (HB1.out.cell (p := ⟨b1, 0, none⟩) y1 hb1)).trans HX1.out, ?_⟩
      · rcases hnb b1 e with h | h
        · exact k1 h
        · omega
      · rcases hnb b2 e with h | h
        · exact k2 h
        · omega
      · have hx2 := HX2.out
        have hxx := (hcells b2 (by omega) k2 hb2).trans (HB1.out.cell (p := ⟨b2, 0, none⟩) y2 hb2)
        cases c with
        | wr f s => exact ⟨hx2.1, hxx.trans hx2.2.1⟩
        | cut f m => exact ⟨hx2.1, hxx.trans hx2.2.1⟩
end Go.Proofs.Ytniflkggcceagaa

namespace Go.Proofs.Ytniflkggcceagaa
open Go Go.RowKit
structure DkOk (D : Dk) : Prop where
  room : D.room ≤ 4194304
  now : ∀ i, i < 16 → (D.now i).length ≤ 1073741824
  loose : D.loose.length ≤ 1000000
  fuse : D.fuse < 1073741824
theorem DkOk.burn {D : Dk} (h : DkOk D) : DkOk D.burn.2 ∧ D.burn.2.n = D.n ∧ D.burn.2.now = D.now ∧ D.burn.2.loose = D.loose ∧ D.burn.2.room = D.room ∧ D.burn.2.sure = D.sure := by
  unfold Dk.burn
  split
  · exact ⟨h, rfl, rfl, rfl, rfl, rfl⟩
  · split
    · exact ⟨⟨h.room, h.now, h.loose, by have := h.fuse; dsimp only; omega⟩, rfl, rfl, rfl, rfl, rfl⟩
    · exact ⟨h, rfl, rfl, rfl, rfl, rfl⟩
theorem DiskAt.more {w : World} {S T : Nat → Prop} {d : Nat} {D : Dk} (h : DiskAt w S d D) (hT : ∀ k, S k → T k) (hl : ∀ k, T k → k < w.heap.size) : DiskAt w T d D := by
  obtain ⟨lv, vs, l1, l2, l3, l4, l5⟩ := h.lo
  refine ⟨hl, hT _ h.dd, h.c0, h.c1, h.now, h.sure, h.c35, h.fz, h.n16, lv, vs, l1, l2, l3, fun b hb => ⟨hT _ (l4 b hb).1, (l4 b hb).2⟩, fun i v c hv hc => ?_⟩
  obtain ⟨b1, b2, s1, s2, rest⟩ := l5 i v c hv hc
  exact ⟨b1, b2, hT _ s1, hT _ s2, rest⟩
theorem DiskAt.gr {w w1 w2 : World} {S : Nat → Prop} {d : Nat} {D : Dk} (h : DiskAt w2 (Gr (Gr S w w1) w1 w2) d D) (h1 : w.heap.size ≤ w1.heap.size) (h2 : w1.heap.size ≤ w2.heap.size) : DiskAt w2 (Gr S w w2) d D :=
  h.more (fun k hk => by rcases hk with (hk | hk) | hk; (· exact Or.inl hk); (· exact Or.inr ⟨hk.1, by omega⟩); (· exact Or.inr ⟨by omega, hk.2⟩)) (fun k hk => h.own k (by rcases hk with hk | hk; (· exact Or.inl (Or.inl hk)); (by_cases h3 : k < w1.heap.size; (· exact Or.inl (Or.inr ⟨hk.1, h3⟩)); (· exact Or.inr ⟨by omega, hk.2⟩))))
def Dk.write (D : Dk) (f : Int) (s : List UInt8) : Int × Dk :=
  if D.burn.1 ≠ 0 then D.burn
  else if ¬ (0 ≤ f ∧ f < (D.n : Int)) then (3, D.burn.2)
  else if D.burn.2.left < (s.length : Int) then (4, D.burn.2)
  else (0, { D.burn.2 with now := (Lc.wr f.toNat s).done D.burn.2.now allB, loose := D.burn.2.loose ++ [.wr f.toNat s] })
def Dk.cutF (D : Dk) (f : Int) (n : Nat) : Int × Dk :=
  if D.burn.1 ≠ 0 then D.burn
  else if ¬ (0 ≤ f ∧ f < (D.n : Int)) then (3, D.burn.2)
  else (0, { D.burn.2 with now := (Lc.cut f.toNat n).done D.burn.2.now allB, loose := D.burn.2.loose ++ [.cut f.toNat n] })
def DkG (S : Nat → Prop) (d : Nat) (w : World) (r : Int × Dk) (e : Ending) (w' : World) : Prop := e = .returned (.int .i64 r.1) ∧ DiskAt w' (Gr S w w') d r.2 ∧ ButS S w w'
theorem two_boxes (w : World) (T0 T1 : TypeId) (v0 v1 : Value) : Bx ((w.alloc (.cells #[v0] T0)).alloc (.cells #[v1] T1)) w.heap.size T0 v0 ∧ Bx ((w.alloc (.cells #[v0] T0)).alloc (.cells #[v1] T1)) (w.heap.size + 1) T1 v1 ∧ Below w.heap.size w ((w.alloc (.cells #[v0] T0)).alloc (.cells #[v1] T1)) ∧ ((w.alloc (.cells #[v0] T0)).alloc (.cells #[v1] T1)).heap.size = w.heap.size + 2 := by
  have s1 : (w.alloc (.cells #[v0] T0)).heap.size = w.heap.size + 1 := by simp
  refine ⟨(Bx.new w T0 v0).alloc _, ?_, ((Below.refl _ _).alloc (Nat.le_refl _) _).alloc (by omega) _, by simp⟩
  have h := Bx.new (w.alloc (.cells #[v0] T0)) T1 v1
  rw [s1] at h
  exact h
set_option maxRecDepth 100000 in
set_option maxHeartbeats 2000000 in
theorem disk_Write (w : World) {S : Nat → Prop} {d : Nat} {D : Dk} (f : Int) (s : List UInt8) (h : DiskAt w S d D) (hk : DkOk D) (hs : s.length ≤ 1073741824) :
    Calls Try.prog 37 #[.pointer (some ⟨d, 0, none⟩), .int .i64 f, .string (bs s)] w (DkG S d w (D.write f s)) := by
  obtain ⟨W0, hW0⟩ : ∃ W0, (w.alloc (.cells #[.int .i64 f] 3)).alloc (.cells #[.string (bs s)] 9) = W0 := ⟨_, rfl⟩
  obtain ⟨hx1, hx2, hb0, hz0⟩ := two_boxes w 3 9 (.int .i64 f) (.string (bs s))
  rw [hW0] at hx1 hx2 hb0 hz0
  have hdl := h.lt
  have HOWN := Lib.hid h.own
  have H0 := Lib.hid ((h.step hb0).more (T := Gr S w W0) (fun k hk => Or.inl hk) (fun k hk => by rcases hk with hk | hk; (· have := h.own k hk; omega); (· exact hk.2)))
  have HBU := Lib.hid (disk_burns W0 H0.out hk.fuse)
  have HLB0 : Hid (∀ (lv : Value) (b : Nat), W0.cell? ⟨d, 34, none⟩ = some lv → lv.ownBlock = some b → b ≠ w.heap.size ∧ b ≠ w.heap.size + 1) := Lib.hid (fun lv b hlv hb => by
    obtain ⟨lv0, vs0, q1, q2, q3, q4, q5⟩ := h.lo
    have : lv0 = lv := by
      have h1 := (hb0.cell (p := ⟨d, 34, none⟩) hdl).trans q1
      rw [hlv] at h1; exact (Option.some.inj h1).symm
    subst this
    have := h.own b (q4 b hb).1
    omega)
  have HX1 := Lib.hid hx1; have HX2 := Lib.hid hx2; have HB0 := Lib.hid hb0; have HZ0 := Lib.hid hz0; have HK := Lib.hid hk
  obtain ⟨L, hL⟩ : ∃ L, s.length = L := ⟨_, rfl⟩
  have hsz : (bs s).size = L := by rw [bs_size, hL]
  have HL := Lib.hid hL
  clear hx1 hx2 hb0 hz0 h hk hL
  go_enter Try.func37, Try.ntmps37
  go_upto_region 1 with fail
  clear hW0
  have hd0 : DiskAt W0 (Gr S w W0) d D := H0.out
  go_wp2_with fail
  refine HBU.out.mono ?_
  rintro e w1 ⟨rfl, h1, hb1, h34⟩
  obtain ⟨K1, e1, e2, e3, e4, e5⟩ := HK.out.burn
  obtain ⟨r, hr⟩ : ∃ r, D.burn = r := ⟨_, rfl⟩
  have HW : Hid (D.write f s = if r.1 ≠ 0 then r else if ¬ (0 ≤ f ∧ f < (r.2.n : Int)) then (3, r.2) else if r.2.left < (s.length : Int) then (4, r.2) else (0, { r.2 with now := (Lc.wr f.toNat s).done r.2.now allB, loose := r.2.loose ++ [.wr f.toNat s] })) := Lib.hid (by unfold Dk.write; rw [hr, ← hr, e1])
  rw [hr] at h1 K1 ⊢
  obtain ⟨er, D1⟩ := r
  dsimp only at h1 K1 ⊢
  have HD1 := Lib.hid h1; have HK1 := Lib.hid K1
  have hx1 := (HX1.out.but hb1 (by omega)); have hx2 := HX2.out.but hb1 (by omega)
  have c1 := hx1.c; have c2 : w1.cell? ⟨w.heap.size + 1, 0, none⟩ = some (.string (bs s)) := hx2.c
  have HBW : Hid (ButS S w w1) := Lib.hid ((ButS.of HB0.out).trans (hb1.mono (fun k hk => by rw [hk]; exact H0.out.dd.resolve_right (fun h => by omega))))
  have hsz1 := hb1.size
  have HLB : Hid (∀ (lv : Value) (b : Nat), w1.cell? ⟨d, 34, none⟩ = some lv → lv.ownBlock = some b → b ≠ w.heap.size ∧ b ≠ w.heap.size + 1) := Lib.hid (fun lv b hlv hb => HLB0.out lv b (h34.symm.trans hlv) hb)
  clear h1 K1 hb1 e1 e2 e3 e4 e5 hr HBU h34
  by_cases he : er = 0
  · subst he
    have HIS := Lib.hid (disk_is w1 d D1.n f HD1.out.c0)
    by_cases hin : 0 ≤ f ∧ f < (D1.n : Int)
    · rw [decide_eq_true hin] at HIS
      have HRM := Lib.hid (fun (n : Nat) => disk_Room (w1.drewN n) (HD1.out.step ⟨rfl, rfl, rfl, Nat.le_refl _, fun _ _ => rfl⟩) HK1.out.room HK1.out.now)
      obtain ⟨lf, hlf⟩ : ∃ x, D1.left = x := ⟨_, rfl⟩
      rw [hlf] at HRM
      by_cases hfull : lf < (L : Int)
      · have hfb : decide (lf < (L : Int)) = true := by simpa using hfull
        go_wp2_with fail
        refine HIS.out.mono ?_
        rintro e w2 ⟨rfl, hw2⟩
        subst w2
        go_wp2_with fail
        go_quiet (exact (HRM.out _).mono (fun e wz h => ⟨h.1, ⟨_, h.2⟩⟩))
        go_wp2_with fail
        go_ret
        unfold DkG
        rw [HW.out, if_neg (by decide), if_neg (by simpa using hin), if_pos (by rw [hlf, HL.out]; exact hfull)]
        refine ⟨rfl, ?_, HBW.out.drewN nq⟩
        have hd : DiskAt w1 (Gr S w w1) d D1 := HD1.out.more (fun k hk => by rcases hk with hk | hk; (· exact Or.inl hk); (· exact Or.inr ⟨hk.1, by omega⟩)) (fun k hk => by rcases hk with hk | hk; (· have := HOWN.out k hk; have := HZ0.out; omega); (· exact hk.2))
        exact hd.step ⟨rfl, rfl, rfl, Nat.le_refl _, fun _ _ => rfl⟩
      · have hfb : decide (lf < (L : Int)) = false := by simpa using hfull
        go_wp2_with fail
        refine HIS.out.mono ?_
        rintro e w2 ⟨rfl, hw2⟩
        subst w2
        go_wp2_with fail
        go_quiet (exact (HRM.out _).mono (fun e wz h => ⟨h.1, ⟨_, h.2⟩⟩))
        have hfn : ((f.toNat : Nat) : Int) = f := by omega
        have hn16 := HD1.out.n16
        have HDO := Lib.hid (disk_does (w1.drewN nq) (c := .wr f.toNat s) (v := .func (.func 59) #[] #[.pointer (some ⟨w.heap.size, 0, none⟩), .pointer (some ⟨w.heap.size + 1, 0, none⟩)]) (HD1.out.step ⟨rfl, rfl, rfl, Nat.le_refl _, fun _ _ => rfl⟩) HK1.out.now HK1.out.loose (by show f.toNat < 16; omega) (by omega) (by omega) (Or.inr ⟨Nat.le_refl _, by have := HZ0.out; omega⟩) (Or.inr ⟨by omega, by have := HZ0.out; omega⟩)
          (fun lv b hlv hb => HLB.out lv b hlv hb) (by show w1.cell? _ = _; rw [c1]; show _ = some (Value.int .i64 ((f.toNat : Nat) : Int)); rw [hfn]) ⟨rfl, c2, hs⟩)
        go_wp2_with fail
        refine HDO.out.mono ?_
        rintro e w3 ⟨rfl, h3, hb3⟩
        have HD3 := Lib.hid h3; have HB3 := Lib.hid hb3
        clear h3 hb3
        go_wp2_with fail
        go_ret
        unfold DkG
        rw [HW.out, if_neg (by decide), if_neg (by simpa using hin), if_neg (by rw [hlf, HL.out]; omega)]
        have hzz := HZ0.out
        have hs3 := HB3.out.size
        have hw1s : (w1.drewN nq).heap.size = w1.heap.size := rfl
        refine ⟨rfl, HD3.out.more (fun k hk => ?_) (fun k hk => ?_), ?_⟩
        · rcases hk with (hk | hk) | hk
          · exact Or.inl hk
          · exact Or.inr ⟨hk.1, by omega⟩
          · exact Or.inr ⟨by omega, hk.2⟩
        · rcases hk with hk | hk
          · have := HOWN.out k hk; have := HZ0.out; omega
          · exact hk.2
        · have hb4 : ButS (Gr S w W0) w1 w3 := (ButS.of (S := Gr S w W0) ⟨rfl, rfl, rfl, Nat.le_refl _, fun _ _ => rfl⟩ : ButS (Gr S w W0) w1 (w1.drewN nq)).trans HB3.out
          exact HBW.out.gr (hb4.mono (fun k hk => by rcases hk with hk | hk; (· exact Or.inl hk); (· exact Or.inr ⟨hk.1, by omega⟩)))
    · rw [decide_eq_false hin] at HIS
      go_wp2_with fail
      refine HIS.out.mono ?_
      rintro e w2 ⟨rfl, hw2⟩
      subst w2
      go_wp2_with fail
      go_ret
      unfold DkG
      rw [HW.out, if_neg (by decide), if_pos hin]
      exact ⟨rfl, HD1.out.more (fun k hk => by rcases hk with hk | hk; (· exact Or.inl hk); (· exact Or.inr ⟨hk.1, by omega⟩)) (fun k hk => by rcases hk with hk | hk; (· have := HOWN.out k hk; have := HZ0.out; omega); (· exact hk.2)), HBW.out⟩
  · have heb : (er != 0) = true := by simpa using he
    go_wp2_with fail
    go_ret
    unfold DkG
    rw [HW.out, if_pos he]
    exact ⟨rfl, HD1.out.more (fun k hk => by rcases hk with hk | hk; (· exact Or.inl hk); (· exact Or.inr ⟨hk.1, by omega⟩)) (fun k hk => by rcases hk with hk | hk; (· have := HOWN.out k hk; have := HZ0.out; omega); (· exact hk.2)), HBW.out⟩
end Go.Proofs.Ytniflkggcceagaa

namespace Go.Proofs.Ytniflkggcceagaa
open Go Go.RowKit
set_option maxRecDepth 100000 in
set_option maxHeartbeats 2000000 in
theorem disk_Cut (w : World) {S : Nat → Prop} {d : Nat} {D : Dk} (f : Int) (n : Nat) (h : DiskAt w S d D) (hk : DkOk D) (hn : n ≤ (D.now f.toNat).length) :
    Calls Try.prog 42 #[.pointer (some ⟨d, 0, none⟩), .int .i64 f, .int .i64 (n : Int)] w (DkG S d w (D.cutF f n)) := by
  obtain ⟨W0, hW0⟩ : ∃ W0, (w.alloc (.cells #[.int .i64 f] 3)).alloc (.cells #[.int .i64 (n : Int)] 3) = W0 := ⟨_, rfl⟩
  obtain ⟨hx1, hx2, hb0, hz0⟩ := two_boxes w 3 3 (.int .i64 f) (.int .i64 (n : Int))
  rw [hW0] at hx1 hx2 hb0 hz0
  have hdl := h.lt
  have HOWN := Lib.hid h.own
  have H0 := Lib.hid ((h.step hb0).more (T := Gr S w W0) (fun k hk => Or.inl hk) (fun k hk => by rcases hk with hk | hk; (· have := h.own k hk; omega); (· exact hk.2)))
  have HBU := Lib.hid (disk_burns W0 H0.out hk.fuse)
  have HLB0 : Hid (∀ (lv : Value) (b : Nat), W0.cell? ⟨d, 34, none⟩ = some lv → lv.ownBlock = some b → b ≠ w.heap.size ∧ b ≠ w.heap.size + 1) := Lib.hid (fun lv b hlv hb => by
    obtain ⟨lv0, vs0, q1, q2, q3, q4, q5⟩ := h.lo
    have : lv0 = lv := by
      have h1 := (hb0.cell (p := ⟨d, 34, none⟩) hdl).trans q1
      rw [hlv] at h1; exact (Option.some.inj h1).symm
    subst this
    have := h.own b (q4 b hb).1
    omega)
  have HX1 := Lib.hid hx1; have HX2 := Lib.hid hx2; have HB0 := Lib.hid hb0; have HZ0 := Lib.hid hz0; have HK := Lib.hid hk
  clear hx1 hx2 hb0 hz0 h hk
  go_enter Try.func42, Try.ntmps42
  go_upto_region 1 with fail
  clear hW0
  have hd0 : DiskAt W0 (Gr S w W0) d D := H0.out
  go_wp2_with fail
  refine HBU.out.mono ?_
  rintro e w1 ⟨rfl, h1, hb1, h34⟩
  obtain ⟨K1, e1, e2, e3, e4, e5⟩ := HK.out.burn
  obtain ⟨r, hr⟩ : ∃ r, D.burn = r := ⟨_, rfl⟩
  have HW : Hid (D.cutF f n = if r.1 ≠ 0 then r else if ¬ (0 ≤ f ∧ f < (r.2.n : Int)) then (3, r.2) else (0, { r.2 with now := (Lc.cut f.toNat n).done r.2.now allB, loose := r.2.loose ++ [.cut f.toNat n] })) := Lib.hid (by unfold Dk.cutF; rw [hr, ← hr, e1])
  have hn1 : n ≤ (r.2.now f.toNat).length := by rw [← hr, e2]; exact hn
  rw [hr] at h1 K1 ⊢
  obtain ⟨er, D1⟩ := r
  dsimp only at h1 K1 hn1 ⊢
  have HD1 := Lib.hid h1; have HK1 := Lib.hid K1
  have hx1 := (HX1.out.but hb1 (by omega)); have hx2 := HX2.out.but hb1 (by omega)
  have c1 := hx1.c; have c2 : w1.cell? ⟨w.heap.size + 1, 0, none⟩ = some (.int .i64 (n : Int)) := hx2.c
  have HBW : Hid (ButS S w w1) := Lib.hid ((ButS.of HB0.out).trans (hb1.mono (fun k hk => by rw [hk]; exact H0.out.dd.resolve_right (fun h => by omega))))
  have hsz1 := hb1.size
  have HLB : Hid (∀ (lv : Value) (b : Nat), w1.cell? ⟨d, 34, none⟩ = some lv → lv.ownBlock = some b → b ≠ w.heap.size ∧ b ≠ w.heap.size + 1) := Lib.hid (fun lv b hlv hb => HLB0.out lv b (h34.symm.trans hlv) hb)
  clear h1 K1 hb1 e1 e2 e3 e4 e5 hr HBU h34
  by_cases he : er = 0
  · subst he
    have HIS := Lib.hid (disk_is w1 d D1.n f HD1.out.c0)
    by_cases hin : 0 ≤ f ∧ f < (D1.n : Int)
    · rw [decide_eq_true hin] at HIS
      have hn16 := HD1.out.n16
      obtain ⟨fn, hfn0⟩ : ∃ x, f.toNat = x := ⟨_, rfl⟩
      have hfi : f = (fn : Int) := by omega
      have cn := HD1.out.now fn (by omega)
      rw [hfn0] at hn1
      obtain ⟨tx, htx⟩ : ∃ x, D1.now fn = x := ⟨_, rfl⟩
      rw [htx] at cn hn1
      obtain ⟨L, hL⟩ : ∃ L, tx.length = L := ⟨_, rfl⟩
      have hsz : (bs tx).size = L := by rw [bs_size, hL]
      rw [hL] at hn1
      have hf1 : (fn : Int) < 16 := by omega
      have hg1 : decide ((L : Int) < (n : Int)) = false := by simp; omega
      have HTX := Lib.hid htx; have HLL := Lib.hid hL; have HFI := Lib.hid hfi; have HN1 := Lib.hid hn1
      rw [hfi] at c1 HIS ⊢
      clear htx hL hfi
      · go_wp2_with fail
        refine HIS.out.mono ?_
        rintro e w2 ⟨rfl, hw2⟩
        subst w2
        go_upto_region 6 with fail
        refine wp_region_quiet (C := fun W => W.cell? ⟨w.heap.size, 0, none⟩ = some (.int .i64 (fn : Int)) ∧ W.cell? ⟨w.heap.size + 1, 0, none⟩ = some (.int .i64 (n : Int)) ∧ W.cell? ⟨d, 2 + fn, none⟩ = some (.string (bs tx)) ∧ ∃ nq, W = w1.drewN nq) (by kernel_rfl) (by kernel_rfl) ⟨c1, c2, cn, 1, rfl⟩ ?_
        refine (quiet_plain' ?_ (.int .i64 (n : Int)) (fun w' hw' => ?_) ?_ : _)
        · exact rfl
        · obtain ⟨y1, y2, y3, _⟩ := hw'
          go_simp
        go_frame
        refine (quiet_plain' ?_ (.bool false) (fun w' hw' => ?_) ?_ : _)
        · exact rfl
        · go_simp
        go_frame
        refine (quiet_plain' ?_ (.bool false) (fun w' hw' => ?_) ?_ : _)
        · exact rfl
        · go_simp
        go_frame
        refine (quiet_plain' ?_ (.int .i64 (n : Int)) (fun w' hw' => ?_) ?_ : _)
        · exact rfl
        · obtain ⟨y1, y2, y3, _⟩ := hw'
          go_simp
        go_frame
        refine (quiet_plain' ?_ (.pointer (some ⟨d, 0, none⟩)) (fun w' hw' => ?_) ?_ : _)
        · exact rfl
        · go_simp
        go_frame
        refine (quiet_plain' ?_ (.int .i64 (fn : Int)) (fun w' hw' => ?_) ?_ : _)
        · exact rfl
        · obtain ⟨y1, y2, y3, _⟩ := hw'
          go_simp
        go_frame
        refine (quiet_plain' ?_ (.pointer (some ⟨d, 0, none⟩)) (fun w' hw' => ?_) ?_ : _)
        · exact rfl
        · go_simp
        go_frame
        refine (quiet_plain' ?_ (.pointer (some ⟨d, 2, none⟩)) (fun w' hw' => ?_) ?_ : _)
        · exact rfl
        · go_simp
        go_frame
        refine (quiet_plain' ?_ (.pointer (some ⟨d, 2 + fn, none⟩)) (fun w' hw' => ?_) ?_ : _)
        · exact rfl
        · obtain ⟨y1, y2, y3, _⟩ := hw'
          go_simp
        go_frame
        refine (quiet_plain' ?_ (.string (bs tx)) (fun w' hw' => ?_) ?_ : _)
        · exact rfl
        · obtain ⟨y1, y2, y3, _⟩ := hw'
          go_simp
        go_frame
        refine (quiet_plain' ?_ (.int .i64 (L : Int)) (fun w' hw' => ?_) ?_ : _)
        · exact rfl
        · go_simp
        go_frame
        refine (quiet_plain' ?_ (.bool false) (fun w' hw' => ?_) ?_ : _)
        · exact rfl
        · go_simp
        go_frame
        refine (quiet_plain' ?_ (.bool false) (fun w' hw' => ?_) ?_ : _)
        · exact rfl
        · go_simp
        go_frame
        refine (quiet_plain' ?_ (.bool false) (fun w' hw' => ?_) ?_ : _)
        · exact rfl
        · go_simp
        go_frame
        refine (wpQuiet_nil ?_ : _)
        rintro W6 ⟨_, _, _, nq, rfl⟩
        have HDO := Lib.hid (disk_does (w1.drewN nq) (c := .cut fn n) (v := .func (.func 62) #[] #[.pointer (some ⟨w.heap.size, 0, none⟩), .pointer (some ⟨w.heap.size + 1, 0, none⟩)]) (HD1.out.step ⟨rfl, rfl, rfl, Nat.le_refl _, fun _ _ => rfl⟩) HK1.out.now HK1.out.loose (by show fn < 16; omega) (by omega) (by omega) (Or.inr ⟨Nat.le_refl _, by have := HZ0.out; omega⟩) (Or.inr ⟨by omega, by have := HZ0.out; omega⟩)
          (fun lv b hlv hb => HLB.out lv b hlv hb) (by show w1.cell? _ = _; rw [c1]; rfl) ⟨rfl, c2, by rw [HTX.out, HLL.out]; exact HN1.out⟩)
        go_wp2_with fail
        refine HDO.out.mono ?_
        rintro e w3 ⟨rfl, h3, hb3⟩
        have HD3 := Lib.hid h3; have HB3 := Lib.hid hb3
        clear h3 hb3
        go_wp2_with fail
        go_ret
        unfold DkG
        rw [← HFI.out, HW.out, if_neg (by decide), if_neg (by simpa using hin), hfn0]
        have hzz := HZ0.out
        have hs3 := HB3.out.size
        have hw1s : (w1.drewN nq).heap.size = w1.heap.size := rfl
        refine ⟨rfl, HD3.out.more (fun k hk => ?_) (fun k hk => ?_), ?_⟩
        · rcases hk with (hk | hk) | hk
          · exact Or.inl hk
          · exact Or.inr ⟨hk.1, by omega⟩
          · exact Or.inr ⟨by omega, hk.2⟩
        · rcases hk with hk | hk
          · have := HOWN.out k hk; have := HZ0.out; omega
          · exact hk.2
        · have hb4 : ButS (Gr S w W0) w1 w3 := (ButS.of (S := Gr S w W0) ⟨rfl, rfl, rfl, Nat.le_refl _, fun _ _ => rfl⟩ : ButS (Gr S w W0) w1 (w1.drewN nq)).trans HB3.out
          exact HBW.out.gr (hb4.mono (fun k hk => by rcases hk with hk | hk; (· exact Or.inl hk); (· exact Or.inr ⟨hk.1, by omega⟩)))
    · rw [decide_eq_false hin] at HIS
      go_wp2_with fail
      refine HIS.out.mono ?_
      rintro e w2 ⟨rfl, hw2⟩
      subst w2
      go_wp2_with fail
      go_ret
      unfold DkG
      rw [HW.out, if_neg (by decide), if_pos hin]
      exact ⟨rfl, HD1.out.more (fun k hk => by rcases hk with hk | hk; (· exact Or.inl hk); (· exact Or.inr ⟨hk.1, by omega⟩)) (fun k hk => by rcases hk with hk | hk; (· have := HOWN.out k hk; have := HZ0.out; omega); (· exact hk.2)), HBW.out⟩
  · have heb : (er != 0) = true := by simpa using he
    go_wp2_with fail
    go_ret
    unfold DkG
    rw [HW.out, if_pos he]
    exact ⟨rfl, HD1.out.more (fun k hk => by rcases hk with hk | hk; (· exact Or.inl hk); (· exact Or.inr ⟨hk.1, by omega⟩)) (fun k hk => by rcases hk with hk | hk; (· have := HOWN.out k hk; have := HZ0.out; omega); (· exact hk.2)), HBW.out⟩
end Go.Proofs.Ytniflkggcceagaa

namespace Go.Proofs.Ytniflkggcceagaa
open Go Go.RowKit
theorem cells16 (w : World) (d o : Nat) (g : Nat → List UInt8) (h : ∀ j, j < 16 → (w.cell? ⟨d, o + j, none⟩).isSome = true) :
    (∀ i, i < 16 → (w.setCells d o (nowV g)).cell? ⟨d, o + i, none⟩ = some (.string (bs (g i)))) ∧ (∀ j, (j < o ∨ o + 16 ≤ j) → (w.setCells d o (nowV g)).cell? ⟨d, j, none⟩ = w.cell? ⟨d, j, none⟩) := by
  refine ⟨fun i hi => ?_, fun j hj => ?_⟩
  · have h1 := World.cell?_setCells_in d (nowV g) o w (by rw [nowV_length]; exact h) i (by rw [nowV_length]; exact hi)
    rw [h1]
    have h2 := nowV_at g i hi
    rw [List.getElem?_eq_getElem (by rw [nowV_length]; exact hi)] at h2
    exact h2
  · exact World.cell?_setCells_out d (nowV g) o w ⟨d, j, none⟩ (fun _ _ => by rw [nowV_length]; exact hj)
theorem ButS.setCells (b : Nat) : ∀ (vs : List Value) (o : Nat) (w : World), ButS (fun k => k = b) w (w.setCells b o vs)
  | [], _, w => ButS.refl w
  | v :: r, o, w => (ButS.set (S := fun k => k = b) w (p := ⟨b, o, none⟩) rfl v).trans (ButS.setCells b r (o + 1) _)
theorem DiskAt.setSure {w : World} {S : Nat → Prop} {d : Nat} {D : Dk} (h : DiskAt w S d D) (g : Nat → List UInt8) : DiskAt (w.setCells d 18 (nowV g)) S d { D with sure := g } := by
  obtain ⟨a, b⟩ := cells16 w d 18 g (fun j hj => by rw [h.sure j hj]; rfl)
  exact h.turn (ButS.setCells d _ 18 w) rfl rfl (b 0 (by omega)) ((b 1 (by omega)).trans h.c1) (fun i hi => (b _ (by omega)).trans (h.now i hi)) a (b 34 (by omega)) ((b 35 (by omega)).trans h.c35) (fun j => by rw [World.frozen?_setCells]; exact h.fz j)
theorem DiskAt.setNows {w : World} {S : Nat → Prop} {d : Nat} {D : Dk} (h : DiskAt w S d D) (g : Nat → List UInt8) : DiskAt (w.setCells d 2 (nowV g)) S d { D with now := g } := by
  obtain ⟨a, b⟩ := cells16 w d 2 g (fun j hj => by rw [h.now j hj]; rfl)
  exact h.turn (ButS.setCells d _ 2 w) rfl rfl (b 0 (by omega)) ((b 1 (by omega)).trans h.c1) a (fun i hi => (b _ (by omega)).trans (h.sure i hi)) (b 34 (by omega)) ((b 35 (by omega)).trans h.c35) (fun j => by rw [World.frozen?_setCells]; exact h.fz j)
theorem DiskAt.noLoose {w : World} {S : Nat → Prop} {d : Nat} {D : Dk} (h : DiskAt w S d D) : DiskAt (w.setCell ⟨d, 34, none⟩ (.slice none 0 0)) S d { D with loose := [] } := by
  have far : ∀ j, j ≠ 34 → (w.setCell ⟨d, 34, none⟩ (.slice none 0 0)).cell? ⟨d, j, none⟩ = w.cell? ⟨d, j, none⟩ := fun j hj => World.cell?_setCell_other _ _ _ _ (by intro e; injection e with _ e; exact hj e.symm)
  obtain ⟨lv, vs, l1, _⟩ := h.lo
  refine ⟨fun k hk => by rw [setCell_size]; exact h.own k hk, h.dd, (far 0 (by omega)).trans h.c0, (far 1 (by omega)).trans h.c1, fun i hi => (far _ (by omega)).trans (h.now i hi), fun i hi => (far _ (by omega)).trans (h.sure i hi), (far 35 (by omega)).trans h.c35, fun j => by rw [World.frozen?_setCell]; exact h.fz j, h.n16, .slice none 0 0, [], World.cell?_setCell_same' _ _ _ (by rw [l1]; rfl), World.ownsRow_nil _ _ _ _, rfl, (fun b hb => by cases hb), fun i v c hv => by simp at hv⟩
theorem nowV_one (g : Nat → List UInt8) : (nowV g).toArray.all (·.oneCell') = true := all_oneCell_toArray (fun v hv => by
  unfold nowV at hv
  simp only [List.mem_cons, List.mem_nil_iff, or_false] at hv
  rcases hv with rfl | rfl | rfl | rfl | rfl | rfl | rfl | rfl | rfl | rfl | rfl | rfl | rfl | rfl | rfl | rfl <;> rfl)
def Dk.sync (D : Dk) : Int × Dk := if D.burn.1 ≠ 0 then D.burn else (0, { D.burn.2 with sure := D.burn.2.now, loose := [] })
set_option maxRecDepth 100000 in
set_option maxHeartbeats 1000000 in
theorem disk_Sync (w : World) {S : Nat → Prop} {d : Nat} {D : Dk} (h : DiskAt w S d D) (hf : D.fuse < 1073741824) :
    Calls Try.prog 38 #[.pointer (some ⟨d, 0, none⟩)] w fun e w' => e = .returned (.int .i64 D.sync.1) ∧ DiskAt w' S d D.sync.2 ∧ ButS (fun k => k = d) w w' := by
  have HBU := Lib.hid (disk_burns w h hf)
  unfold Dk.sync
  obtain ⟨r, hr⟩ : ∃ r, D.burn = r := ⟨_, rfl⟩
  rw [hr] at HBU ⊢
  obtain ⟨er, D1⟩ := r
  dsimp only at HBU ⊢
  clear h hr
  go_enter Try.func38, Try.ntmps38
  go_wp2_with fail
  refine HBU.out.mono ?_
  rintro e w1 ⟨rfl, h1, hb1, _⟩
  have H1 := Lib.hid h1; have HB1 := Lib.hid hb1
  have f34 := h1.fz 34
  obtain ⟨lv, vs, l1, l2⟩ := h1.lo
  have hrng : w1.rangeAt d 2 (nowV D1.now) := fun j v hv => by
    have hj : j < 16 := by have := (List.getElem?_eq_some_iff.1 hv).1; simpa [nowV_length] using this
    rw [nowV_at _ _ hj] at hv
    cases hv
    exact h1.now j hj
  have hthere : w1.there d 18 16 := fun j hj => ⟨by rw [h1.sure j hj]; rfl, h1.fz _⟩
  obtain ⟨V, hV⟩ : ∃ V, nowV D1.now = V := ⟨_, rfl⟩
  have hVl : V.length = 16 := by rw [← hV]; rfl
  have hV1 : V.toArray.all (·.oneCell') = true := by rw [← hV]; exact nowV_one _
  rw [hV] at hrng
  have HR := Lib.hid hrng; have HT := Lib.hid hthere; have HV := Lib.hid hV; have HVL := Lib.hid hVl; have HV1 := Lib.hid hV1
  have hl34 : (w1.setCells d 18 V).cell? ⟨d, 34, none⟩ = some lv := (World.cell?_setCells_out d V 18 w1 ⟨d, 34, none⟩ (fun _ _ => Or.inr (by rw [hVl]; show 34 ≤ 34; omega))).trans l1
  have hf34 : (w1.setCells d 18 V).frozen? ⟨d, 34, none⟩ = false := by rw [World.frozen?_setCells]; exact f34
  clear h1 hb1 l1 l2 hrng hthere hV hVl hV1 HBU
  by_cases he : er = 0
  · subst he
    go_wp2_with (first
      | (refine wpList_load_mid rfl 65 (.tmp 13) rfl d 2 rfl V _ HR.out Try.underlying65 rfl (by rw [info16, HVL.out]) ?_)
      | (refine wpList_store_mid rfl 65 (.tmp 16) (.tmp 14) rfl d 18 V.toArray rfl rfl (by rw [List.size_toArray, HVL.out]; exact HT.out) (by rw [info16, List.size_toArray, HVL.out]) HV1.out ?_)
      | fail)
    go_ret
    have h2 := (H1.out.setSure D1.now).noLoose
    rw [HV.out] at h2
    refine ⟨rfl, h2, (HB1.out.trans (ButS.setCells d V 18 w1)).trans (ButS.set (S := fun k => k = d) _ (p := ⟨d, 34, none⟩) rfl _)⟩
  · have heb : (er != 0) = true := by simpa using he
    go_wp2_with fail
    go_ret
    exact ⟨rfl, H1.out, HB1.out⟩
def Dk.read (D : Dk) (f : Int) : List UInt8 × Int := if D.fuse = 0 then ([], 90) else if 0 ≤ f ∧ f < (D.n : Int) then (D.now f.toNat, 0) else ([], 3)
theorem disk_Read (w : World) {S : Nat → Prop} {d : Nat} {D : Dk} (f : Int) (h : DiskAt w S d D) :
    Calls Try.prog 55 #[.pointer (some ⟨d, 0, none⟩), .int .i64 f] w fun e w' => e = .returned (.tuple #[.string (bs (D.read f).1), .int .i64 (D.read f).2]) ∧ w' = w := by
  have HN := Lib.hid (disk_none w d D.n h.c0 h.n16.1)
  have HIS := Lib.hid (disk_is w d D.n f h.c0)
  have c35 := h.c35
  have hnow := Lib.hid h.now; have h16 := h.n16
  clear h
  have e0 : bs [] = (⟨#[]⟩ : ByteArray) := rfl
  unfold Dk.read
  obtain ⟨fu, hfu⟩ : ∃ x, D.fuse = x := ⟨_, rfl⟩
  rw [hfu] at c35 ⊢
  clear hfu
  by_cases h0 : fu = 0
  · rw [if_pos h0]
    have hb0 : (fu == 0) = true := by simpa using h0
    clear h0
    dsimp only
    rw [e0]
    go_enter Try.func55, Try.ntmps55
    go_wp2_with fail
    refine HN.out.mono ?_
    rintro e w1 ⟨rfl, hw⟩
    subst w1
    go_wp2_with fail
    go_ret2
    exact ⟨rfl, rfl⟩
  · rw [if_neg h0]
    have hb0 : (fu == 0) = false := by simpa using h0
    by_cases hin : 0 ≤ f ∧ f < (D.n : Int)
    · rw [if_pos hin]
      rw [decide_eq_true hin] at HIS
      obtain ⟨fn, hfn0⟩ : ∃ x, f.toNat = x := ⟨_, rfl⟩
      have hfi : f = (fn : Int) := by omega
      have hf1 : (fn : Int) < 16 := by omega
      have cn := hnow.out fn (by omega)
      rw [hfn0]
      rw [hfi] at HIS ⊢
      clear hfi hin
      dsimp only
      go_enter Try.func55, Try.ntmps55
      go_wp2_with fail
      refine HN.out.mono ?_
      rintro e w1 ⟨rfl, hw⟩
      subst w1
      go_wp2_with fail
      refine HIS.out.mono ?_
      rintro e w1 ⟨rfl, hw⟩
      subst w1
      go_wp2_with fail
      go_ret2
      exact ⟨rfl, rfl⟩
    · rw [if_neg hin]
      rw [decide_eq_false hin] at HIS
      dsimp only
      rw [e0]
      go_enter Try.func55, Try.ntmps55
      go_wp2_with fail
      refine HN.out.mono ?_
      rintro e w1 ⟨rfl, hw⟩
      subst w1
      go_wp2_with fail
      refine HIS.out.mono ?_
      rintro e w1 ⟨rfl, hw⟩
      subst w1
      go_wp2_with fail
      go_ret2
      exact ⟨rfl, rfl⟩
theorem disk_Files (w : World) {S : Nat → Prop} {d : Nat} {D : Dk} (h : DiskAt w S d D) :
    Calls Try.prog 64 #[.pointer (some ⟨d, 0, none⟩)] w fun e w' => e = .returned (.int .i64 (D.n : Int)) ∧ w' = w := by
  have HN := Lib.hid (disk_none w d D.n h.c0 h.n16.1)
  have c0 := h.c0
  clear h
  go_enter Try.func64, Try.ntmps64
  go_wp2_with fail
  refine HN.out.mono ?_
  rintro e w1 ⟨rfl, hw⟩
  subst w1
  go_wp2_with fail
  go_ret
  exact ⟨rfl, rfl⟩
end Go.Proofs.Ytniflkggcceagaa

namespace Go.Proofs.Ytniflkggcceagaa
open Go Go.RowKit
def dk0 (n room : Nat) : Dk := ⟨n, room, fun _ => [], fun _ => [], [], -1⟩
def diskC (n room : Nat) : Array Value := #[.int .i64 (n : Int), .int .i64 (room : Int), .string ⟨#[]⟩, .string ⟨#[]⟩, .string ⟨#[]⟩, .string ⟨#[]⟩, .string ⟨#[]⟩, .string ⟨#[]⟩, .string ⟨#[]⟩, .string ⟨#[]⟩, .string ⟨#[]⟩, .string ⟨#[]⟩, .string ⟨#[]⟩, .string ⟨#[]⟩, .string ⟨#[]⟩, .string ⟨#[]⟩, .string ⟨#[]⟩, .string ⟨#[]⟩, .string ⟨#[]⟩, .string ⟨#[]⟩, .string ⟨#[]⟩, .string ⟨#[]⟩, .string ⟨#[]⟩, .string ⟨#[]⟩, .string ⟨#[]⟩, .string ⟨#[]⟩, .string ⟨#[]⟩, .string ⟨#[]⟩, .string ⟨#[]⟩, .string ⟨#[]⟩, .string ⟨#[]⟩, .string ⟨#[]⟩, .string ⟨#[]⟩, .string ⟨#[]⟩, .slice none 0 0, .int .i64 (-1)]
theorem diskC_mid (n room : Nat) (j : Nat) (h : 2 ≤ j ∧ j < 34) : (diskC n room)[j]? = some (.string ⟨#[]⟩) := by
  obtain ⟨h1, h2⟩ := h
  rcases (show j = 2 ∨ j = 3 ∨ j = 4 ∨ j = 5 ∨ j = 6 ∨ j = 7 ∨ j = 8 ∨ j = 9 ∨ j = 10 ∨ j = 11 ∨ j = 12 ∨ j = 13 ∨ j = 14 ∨ j = 15 ∨ j = 16 ∨ j = 17 ∨ j = 18 ∨ j = 19 ∨ j = 20 ∨ j = 21 ∨ j = 22 ∨ j = 23 ∨ j = 24 ∨ j = 25 ∨ j = 26 ∨ j = 27 ∨ j = 28 ∨ j = 29 ∨ j = 30 ∨ j = 31 ∨ j = 32 ∨ j = 33 by omega) with rfl | rfl | rfl | rfl | rfl | rfl | rfl | rfl | rfl | rfl | rfl | rfl | rfl | rfl | rfl | rfl | rfl | rfl | rfl | rfl | rfl | rfl | rfl | rfl | rfl | rfl | rfl | rfl | rfl | rfl | rfl | rfl <;> rfl
set_option maxRecDepth 100000 in
set_option maxHeartbeats 1000000 in
theorem disk_New (n room : Nat) (hn : 1 ≤ n ∧ n ≤ 16) (hr : room ≤ 4194304) (w : World) :
    Calls Try.prog 27 #[.int .i64 (n : Int), .int .i64 (room : Int)] w fun e w' => e = .returned (.tuple #[.pointer (some ⟨w.heap.size, 0, none⟩), .int .i64 0]) ∧ DiskAt w' (fun k => k = w.heap.size) w.heap.size (dk0 n room) ∧ Below w.heap.size w w' := by
  have h1 : ¬ (n : Int) < 1 := by omega
  have h2 : ¬ (16 : Int) < (n : Int) := by omega
  have h3 : ¬ (room : Int) < 0 := by omega
  have h4 : ¬ (4194304 : Int) < (room : Int) := by omega
  have b1 : decide ((n : Int) < 1) = false := by simp; omega
  have b2 : decide ((16 : Int) < (n : Int)) = false := by simp; omega
  have b3 : decide ((room : Int) < 0) = false := by simp
  have b4 : decide ((4194304 : Int) < (room : Int)) = false := by simp; omega
  go_enter Try.func27, Try.ntmps27
  go_wp2_with fail
  go_ret2
  have hO : One w.heap.size (diskC n room) (w.alloc (.cells (diskC n room) 68)) := One.of w _ _
  have hb : Below w.heap.size w (w.alloc (.cells (diskC n room) 68)) := (Below.refl _ _).alloc (Nat.le_refl _) _
  refine ⟨rfl, ?_, hb⟩
  have e0 : bs [] = (⟨#[]⟩ : ByteArray) := rfl
  exact ⟨fun k hk => by rw [hk]; simp, rfl, hO.c 0, hO.c 1, fun i hi => (hO.c (2 + i)).trans (diskC_mid n room _ ⟨by omega, by omega⟩), fun i hi => (hO.c (18 + i)).trans (diskC_mid n room _ ⟨by omega, by omega⟩), hO.c 35, hO.f, hn, .slice none 0 0, [], hO.c 34, World.ownsRow_nil _ _ _ _, rfl, (fun b hb => by cases hb), fun i v c hv => by simp at hv⟩
def crashN (g : Nat → List UInt8) (k b : Int) : List Lc → Int → (Nat → List UInt8)
  | [], _ => g
  | c :: r, i => crashN (if i < k then c.done g allB else if i = k then c.done g (min b (allB - 1)) else g) k b r (i + 1)
def Dk.crash (D : Dk) (k b : Int) : Dk := { D with now := crashN D.sure k b D.loose 0, sure := crashN D.sure k b D.loose 0, loose := [], fuse := -1 }
theorem crashN_snoc (k b : Int) (c : Lc) : ∀ (l : List Lc) (g : Nat → List UInt8) (i : Int), crashN g k b (l ++ [c]) i = (if i + l.length < k then c.done (crashN g k b l i) allB else if i + l.length = k then c.done (crashN g k b l i) (min b (allB - 1)) else crashN g k b l i)
  | [], g, i => by simp [crashN]
  | x :: r, g, i => by
    simp only [List.cons_append, crashN]
    rw [crashN_snoc k b c r _ (i + 1)]
    simp only [List.length_cons, show i + 1 + (r.length : Int) = i + ((r.length + 1 : Nat) : Int) by omega]
end Go.Proofs.Ytniflkggcceagaa

namespace Go.Proofs.Ytniflkggcceagaa
open Go Go.RowKit
def Lc.may : Lc → Prop
  | .wr _ s => s.length ≤ 1073741824
  | .cut _ n => n = 0
theorem loose_call {w0 w : World} {S : Nat → Prop} {d : Nat} {D : Dk} {lv v : Value} {c : Lc} (hL : LcIs w0 S d lv v c) (hb : ButS (fun k => k = d) w0 w) (hl : ∀ k, S k → k < w0.heap.size) (h : DiskAt w S d D) (hm : c.may) (hn : ∀ i, i < 16 → (D.now i).length ≤ 1073741824) (b : Int) :
    ∃ fn b1 b2, v = .func (.func fn) #[] #[.pointer (some ⟨b1, 0, none⟩), .pointer (some ⟨b2, 0, none⟩)] ∧ (∀ args w, (callFunc fn args).run Try.prog w = .ok (.enter fn args) w) ∧
      Calls Try.prog fn #[.pointer (some ⟨d, 2, none⟩), .int .i64 b, .pointer (some ⟨b1, 0, none⟩), .pointer (some ⟨b2, 0, none⟩)] w fun e w' => e = .returned (.tuple #[]) ∧ DiskAt w' S d { D with now := c.done D.now b } ∧ ButS (fun k => k = d) w w' := by
  have hL2 := hL.farD hb hl
  obtain ⟨b1, b2, s1, s2, h1, h2, h3, h4, h5, h6, h7⟩ := hL2
  cases c with
  | wr f s =>
    obtain ⟨rfl, h8⟩ := h7
    refine ⟨_, b1, b2, rfl, enters_of Try.func59 (by kernel_rfl) rfl, (write1 w d 2 f b1 b2 (D.now f) s b h5 (h.now f h5) (h.fz _) h1 h2 h6 h8 (hn f h5) hm).mono ?_⟩
    rintro e w' ⟨rfl, rfl⟩
    exact ⟨rfl, (h.setNow h5 _).drew, (ButS.set (S := fun k => k = d) w (p := ⟨d, 2 + f, none⟩) rfl _).drewN 1⟩
  | cut f n =>
    obtain ⟨rfl, h8⟩ := h7
    have hm' : n = 0 := hm
    refine ⟨_, b1, b2, rfl, enters_of Try.func62 (by kernel_rfl) rfl, (cut1 w d 2 f b1 b2 n (D.now f) b h5 (h.now f h5) (h.fz _) h1 h2 h6 h8 (by omega) (hn f h5)).mono ?_⟩
    rintro e w' ⟨rfl, rfl⟩
    refine ⟨rfl, ?_, ?_⟩
    · unfold Lc.done
      dsimp only
      split
      · exact (h.setNow h5 _).drew
      · exact h
    · split
      · exact (ButS.set (S := fun k => k = d) w (p := ⟨d, 2 + f, none⟩) rfl _).drewN 1
      · exact ButS.refl _
theorem DiskAt.look {w : World} {S : Nat → Prop} {d : Nat} {D : Dk} (h : DiskAt w S d D) : ∃ (a : Option Addr) (cap : Nat) (vs : List Value), w.cell? ⟨d, 34, none⟩ = some (.slice a D.loose.length cap) ∧ vs.length = D.loose.length ∧ (D.loose = [] ∨ ∃ g, a = some ⟨g, 0, none⟩ ∧ S g ∧ g ≠ d ∧ ∀ i v, vs[i]? = some v → w.cell? ⟨g, i, none⟩ = some v) ∧ ∀ (i : Nat) (v : Value) (c : Lc), vs[i]? = some v → D.loose[i]? = some c → LcIs w S d (.slice a D.loose.length cap) v c := by
  obtain ⟨lv, vs, l1, l2, l3, l4, l5⟩ := h.lo
  obtain ⟨a, cap, rfl⟩ := ownShape l2
  refine ⟨a, cap, vs, l1, l3, ?_, l5⟩
  rcases l2.2 with ⟨hv, hn⟩ | ⟨g, cap', cur, hv, hB, hg, _⟩
  · exact Or.inl (List.length_eq_zero_iff.1 hn)
  · right
    simp only [Value.slice.injEq] at hv
    obtain ⟨hg1, hg2⟩ := l4 g (by rw [hv.1]; rfl)
    refine ⟨g, hv.1, hg1, hg2, fun i v hiv => ?_⟩
    have hi := (List.getElem?_eq_some_iff.1 hiv).1
    obtain ⟨rfl, _, rfl⟩ := hv
    have := World.ownsRow.cellAt l2 i (by omega)
    rw [this]; exact hiv
set_option maxRecDepth 100000 in
set_option maxHeartbeats 2000000 in
theorem disk_Crash (w : World) {S : Nat → Prop} {d : Nat} {D : Dk} (k b : Int) (h : DiskAt w S d D) (hl : D.loose.length ≤ 1000000) (hm : ∀ c ∈ D.loose, c.may) (_hk : -1073741824 ≤ k) (hbd : ∀ n, n ≤ D.loose.length → ∀ i, i < 16 → (crashN D.sure k b (D.loose.take n) 0 i).length ≤ 1073741824) :
    Calls Try.prog 18 #[.pointer (some ⟨d, 0, none⟩), .int .i64 k, .int .i64 b] w fun e w' => e = .returned (.int .i64 0) ∧ DiskAt w' S d (D.crash k b) ∧ ButS (fun k => k = d) w w' := by
  have HN := Lib.hid (disk_none w d D.n h.c0 h.n16.1)
  obtain ⟨a, cap, vs, l1, l2, l3, l4⟩ := h.look
  have f35 := h.fz 35; have c35 := h.c35
  have H := Lib.hid h; have HBD := Lib.hid hbd; have HM := Lib.hid hm
  have hrng : w.rangeAt d 18 (nowV D.sure) := fun j v hv => by
    have hj : j < 16 := by have := (List.getElem?_eq_some_iff.1 hv).1; simpa [nowV_length] using this
    rw [nowV_at _ _ hj] at hv
    cases hv
    exact h.sure j hj
  have hthere : w.there d 2 16 := fun j hj => ⟨by rw [h.now j hj]; rfl, h.fz _⟩
  obtain ⟨V, hV⟩ : ∃ V, nowV D.sure = V := ⟨_, rfl⟩
  have hVl : V.length = 16 := by rw [← hV]; rfl
  have hV1 : V.toArray.all (·.oneCell') = true := by rw [← hV]; exact nowV_one _
  rw [hV] at hrng
  have HR := Lib.hid hrng; have HT := Lib.hid hthere; have HVL := Lib.hid hVl; have HV1 := Lib.hid hV1
  have e35 : (w.setCells d 2 V).cell? ⟨d, 35, none⟩ = some (.int .i64 D.fuse) := (World.cell?_setCells_out d V 2 w ⟨d, 35, none⟩ (fun _ _ => Or.inr (by rw [hVl]; show 18 ≤ 35; omega))).trans c35
  have g35 : (w.setCells d 2 V).frozen? ⟨d, 35, none⟩ = false := by rw [World.frozen?_setCells]; exact f35
  have HD1 : Hid (DiskAt ((w.setCells d 2 V).setCell ⟨d, 35, none⟩ (.int .i64 (-1))) S d { D with now := D.sure, fuse := -1 }) := Lib.hid (by
    have := (h.setNows D.sure).setFuse (-1)
    rw [hV] at this
    exact this)
  have HB1 : Hid (ButS (fun k => k = d) w ((w.setCells d 2 V).setCell ⟨d, 35, none⟩ (.int .i64 (-1)))) := Lib.hid ((ButS.setCells d V 2 w).trans (ButS.set (S := fun k => k = d) _ (p := ⟨d, 35, none⟩) rfl _))
  have h34 : ((w.setCells d 2 V).setCell ⟨d, 35, none⟩ (.int .i64 (-1))).cell? ⟨d, 34, none⟩ = some (.slice a D.loose.length cap) := (World.cell?_setCell_other _ _ _ _ (by intro e; injection e with _ e; omega)).trans ((World.cell?_setCells_out d V 2 w ⟨d, 34, none⟩ (fun _ _ => Or.inr (by rw [hVl]; show 18 ≤ 34; omega))).trans l1)
  have L2 := Lib.hid l2; have L3 := Lib.hid l3; have L4 := Lib.hid l4
  obtain ⟨n, hn⟩ : ∃ n, D.loose.length = n := ⟨_, rfl⟩
  rw [hn] at hl h34
  have HNN := Lib.hid hn
  clear h hbd hm hrng hthere hV hVl hV1 l1 l2 l3 l4 c35 f35 hn
  go_enter Try.func18, Try.ntmps18
  go_wp2_with fail
  refine HN.out.mono ?_
  rintro e w1 ⟨rfl, hw⟩
  subst w1
  go_wp2_with (first
    | (refine wpList_load_mid rfl 65 (.tmp 15) rfl d 18 rfl V _ HR.out Try.underlying65 rfl (by rw [info16, HVL.out]) ?_)
    | (refine wpList_store_mid rfl 65 (.tmp 18) (.tmp 16) rfl d 2 V.toArray rfl rfl (by rw [List.size_toArray, HVL.out]; exact HT.out) (by rw [info16, List.size_toArray, HVL.out]) HV1.out ?_)
    | fail)
  obtain ⟨W1, hW1⟩ : ∃ W1, (w.setCells d 2 V).setCell ⟨d, 35, none⟩ (.int .i64 (-1)) = W1 := ⟨_, rfl⟩
  rw [hW1]
  rw [hW1] at HD1 HB1 h34
  clear hW1 e35 g35
  go_loopw [26] (fun i wr => ∃ q : Nat, q ≤ n ∧ i = .int .i64 q ∧ Hid (DiskAt wr S d { D with now := crashN D.sure k b (D.loose.take q) 0, fuse := -1 }) ∧ Hid (ButS (fun k => k = d) w wr)) (fun i _ => n - (intOf i).toNat)
  case atStart => exact ⟨0, Nat.zero_le _, rfl, HD1, HB1⟩
  case round =>
    obtain ⟨q, hq, rfl, HDr, HBr⟩ := hrel
    by_cases hlt : q < n
    · have hqi : (q : Int) < (n : Int) := by omega
      have HLT := Lib.hid hlt
      obtain ⟨c, hc⟩ : ∃ c, D.loose[q]? = some c := ⟨_, List.getElem?_eq_getElem (by rw [HNN.out]; exact hlt)⟩
      obtain ⟨v, hv⟩ : ∃ v, vs[q]? = some v := ⟨_, List.getElem?_eq_getElem (by rw [L2.out, HNN.out]; exact hlt)⟩
      obtain ⟨g, rfl, hSg, hgd, hcells⟩ := L3.out.resolve_left (fun e => by have := HNN.out; rw [e] at this; simp at this; omega)
      have cq : wr.cell? ⟨g, q, none⟩ = some v := (HBr.out.cell (p := ⟨g, q, none⟩) (H.out.own g hSg) hgd).trans (hcells q v hv)
      have hmem : c ∈ D.loose := List.mem_of_getElem? hc
      have hcm := HM.out c hmem
      have hbd := HBD.out q (by rw [HNN.out]; exact hq)
      have HST : Hid (crashN D.sure k b (D.loose.take (q + 1)) 0 = if (q : Int) < k then c.done (crashN D.sure k b (D.loose.take q) 0) allB else if (q : Int) = k then c.done (crashN D.sure k b (D.loose.take q) 0) (min b (allB - 1)) else crashN D.sure k b (D.loose.take q) 0) := Lib.hid (by
        have h1 := List.getElem?_eq_some_iff.1 hc
        obtain ⟨h2, h3⟩ := h1
        rw [List.take_succ_eq_append_getElem h2, h3, crashN_snoc, List.length_take, Nat.min_eq_left (by omega)]
        simp)
      obtain ⟨fn, b1, b2, rfl, eg, hC⟩ := loose_call (L4.out q v c hv hc) HBr.out H.out.own HDr.out hcm hbd (if (q : Int) < k then allB else min b (allB - 1))
      dsimp only at hC
      have HC := Lib.hid hC
      clear hC hc hv hcells hcm hbd hmem hSg hgd
      by_cases h1 : (q : Int) < k
      · rw [if_pos h1] at HST HC
        have h1b : decide ((q : Int) < k) = true := by simpa using h1
        go_wp2_with fail
        refine HC.out.mono ?_
        rintro e w3 ⟨rfl, h3, hb3⟩
        rw [← HST.out] at h3
        have HD3 := Lib.hid h3; have HB3 := Lib.hid (HBr.out.trans hb3)
        clear h3 hb3
        go_wp2_with fail
        go_roundw
        case rel => exact ⟨q + 1, by have := HLT.out; omega, by go_num, HD3, HB3⟩
        case measure => have := HLT.out; simp [intOf]; omega
      · have h1b : decide ((q : Int) < k) = false := by simpa using h1
        rw [if_neg h1] at HST HC
        by_cases h2 : (q : Int) = k
        · have h2b : ((q : Int) == k) = true := by simpa using h2
          rw [if_pos h2] at HST
          obtain ⟨mn, hmn⟩ : ∃ x, min b (allB - 1) = x := ⟨_, rfl⟩
          rw [hmn] at HC HST
          have hmn2 : (if (4611686018427387903 : Int) < b then (4611686018427387903 : Int) else b) = mn := by rw [← hmn]; show _ = min b 4611686018427387903; omega
          have HH2 := Lib.hid h2
          clear h2 hmn
          go_wp2_with fail
          refine HC.out.mono ?_
          rintro e w3 ⟨rfl, h3, hb3⟩
          rw [← HST.out] at h3
          have HD3 := Lib.hid h3; have HB3 := Lib.hid (HBr.out.trans hb3)
          clear h3 hb3
          go_wp2_with fail
          go_roundw
          case rel => exact ⟨q + 1, by have := HLT.out; omega, by go_num, HD3, HB3⟩
          case measure => have := HLT.out; simp [intOf]; omega
        · have h2b : ((q : Int) == k) = false := by simpa using h2
          rw [if_neg h2] at HST
          clear HC
          go_wp2_with fail
          go_roundw
          case rel => exact ⟨q + 1, by have := HLT.out; omega, by go_num, by rw [HST.out]; exact HDr, HBr⟩
          case measure => have := HLT.out; simp [intOf]; omega
    · obtain rfl : q = n := by omega
      have hall : D.loose.take q = D.loose := by rw [← HNN.out, List.take_length]
      have hdr := HDr.out
      rw [hall] at hdr
      obtain ⟨G, hG⟩ : ∃ G, crashN D.sure k b D.loose 0 = G := ⟨_, rfl⟩
      have HCR : Hid (D.crash k b = { D with now := G, sure := G, loose := [], fuse := -1 }) := Lib.hid (by unfold Dk.crash; rw [hG])
      rw [hG] at hdr
      have hrng2 : wr.rangeAt d 2 (nowV G) := fun j v hv => by
        have hj : j < 16 := by have := (List.getElem?_eq_some_iff.1 hv).1; simpa [nowV_length] using this
        rw [nowV_at _ _ hj] at hv
        cases hv
        exact hdr.now j hj
      have hthere2 : wr.there d 18 16 := fun j hj => ⟨by rw [hdr.sure j hj]; rfl, hdr.fz _⟩
      obtain ⟨lv2, vs2, l12, _⟩ := hdr.lo
      obtain ⟨U, hU⟩ : ∃ U, nowV G = U := ⟨_, rfl⟩
      have hUl : U.length = 16 := by rw [← hU]; rfl
      have hU1 : U.toArray.all (·.oneCell') = true := by rw [← hU]; exact nowV_one _
      rw [hU] at hrng2
      have HR2 := Lib.hid hrng2; have HT2 := Lib.hid hthere2; have HUL := Lib.hid hUl; have HU1 := Lib.hid hU1
      have e34 : (wr.setCells d 18 U).cell? ⟨d, 34, none⟩ = some lv2 := (World.cell?_setCells_out d U 18 wr ⟨d, 34, none⟩ (fun _ _ => Or.inr (by rw [hUl]; show 34 ≤ 34; omega))).trans l12
      have g34 : (wr.setCells d 18 U).frozen? ⟨d, 34, none⟩ = false := by rw [World.frozen?_setCells]; exact hdr.fz 34
      have HFIN : Hid (DiskAt ((wr.setCells d 18 U).setCell ⟨d, 34, none⟩ (.slice none 0 0)) S d (D.crash k b)) := Lib.hid (by
        have := (hdr.setSure G).noLoose
        rw [hU] at this
        rw [HCR.out]
        exact this)
      clear hrng2 hthere2 hU hUl hU1 l12 hdr hall hG
      go_wp2_with (first
        | (refine wpList_load_mid rfl 65 (.tmp 56) rfl d 2 rfl U _ HR2.out Try.underlying65 rfl (by rw [info16, HUL.out]) ?_)
        | (refine wpList_store_mid rfl 65 (.tmp 59) (.tmp 57) rfl d 18 U.toArray rfl rfl (by rw [List.size_toArray, HUL.out]; exact HT2.out) (by rw [info16, List.size_toArray, HUL.out]) HU1.out ?_)
        | fail)
      go_ret
      exact ⟨rfl, HFIN.out, (HBr.out.trans (ButS.setCells d U 18 wr)).trans (ButS.set (S := fun k => k = d) _ (p := ⟨d, 34, none⟩) rfl _)⟩
end Go.Proofs.Ytniflkggcceagaa
