/- Contract: sha.turned. Contract: sha.Words. -/
import Derived.Test.YthcmcjoenepkbaaGreatDoorWordG
import Derived.Deep.RegionHeld3
import Derived.Deep.RegionWith
namespace Go.Proofs.YthcmcjoenepkbaaGreatDoor
open Go Go.RowKit

def mix (x : Nat) (ks : List Nat) : Nat := ks.foldl (fun y k => y ^^^ Sh.turn x k) 0
theorem mix_lt {x : Nat} (hx : x < 4294967296) (ks : List Nat) : mix x ks < 4294967296 := by
  unfold mix
  have : ∀ (l : List Nat) (y : Nat), y < 4294967296 → l.foldl (fun y k => y ^^^ Sh.turn x k) y < 4294967296 := by
    intro l
    induction l with
    | nil => intro y h; exact h
    | cons a l ih => intro y h; exact ih _ (Sh.xor_lt h (Sh.turn_lt hx))
  exact this ks 0 (by decide)
theorem mix_snoc (x : Nat) (ks : List Nat) (k : Nat) : mix x (ks ++ [k]) = mix x ks ^^^ Sh.turn x k := by simp [mix]

set_option maxRecDepth 100000 in
set_option maxHeartbeats 2000000 in
theorem sha_turned (x : Nat) (hx : x < 4294967296) (ks : List Nat) (hk : ∀ j, j < ks.length → 0 < ks.getD j 0 ∧ ks.getD j 0 < 32) (hl : ks.length ≤ 10) (b : Nat) (cap : Nat) (t : TypeId) (w : World)
    (hb : w.heap[b]? = some (.cells (ks.map (fun k : Nat => Value.int .i64 (k : Int))).toArray t (0, 0))) :
    Calls Tryz.prog 163 #[.int .u32 (x : Int), .slice (some ⟨b, 0, none⟩) ks.length cap] w fun e w' => e = .returned (.int .u32 (mix x ks : Nat)) ∧ Below w.heap.size w w' := by
  have hlt : b < w.heap.size := lt_of_block hb
  have hc : ∀ j, j < ks.length → w.cell? ⟨b, j, none⟩ = some (.int .i64 ((ks.getD j 0 : Nat) : Int)) := by
    intro j hj
    unfold World.cell?
    simp only [hb]
    simp [List.getD_eq_getElem?_getD, hj]
  have Hc := Lib.hid hc; have Hk := Lib.hid hk; clear hc hb hk
  go_enter Tryz.func163, Tryz.ntmps163
  go_wp2_with fail
  go_loopw [4, 9] (fun vy i wr => ∃ k : Nat, k ≤ ks.length ∧ i = .int .i64 k ∧ vy = .int .u32 (mix x (ks.take k) : Nat) ∧ Hid (Below w.heap.size w wr)) (fun _ i _ => ks.length - (intOf i).toNat)
  case atStart => exact ⟨0, Nat.zero_le _, rfl, rfl, Lib.hid (Below.refl _ _)⟩
  case round =>
    obtain ⟨k, hkl, rfl, rfl, Hbw⟩ := hrel
    by_cases hlt2 : k < ks.length
    · have hcx := (Hbw.out.cell (p := ⟨b, k, none⟩) hlt).trans (Hc.out k hlt2)
      obtain ⟨h0, h31⟩ := Hk.out k hlt2
      obtain ⟨m, hm⟩ : ∃ m, ks.getD k 0 = m := ⟨_, rfl⟩
      rw [hm] at hcx h0 h31
      obtain ⟨y, hy⟩ : ∃ y, mix x (ks.take k) = y := ⟨_, rfl⟩
      have hyl : y < 4294967296 := hy ▸ mix_lt hx _
      obtain ⟨z, hz⟩ : ∃ z, Sh.turn x m = z := ⟨_, rfl⟩
      have hzl : z < 4294967296 := hz ▸ Sh.turn_lt hx
      have ex := u32_xor_nat y z hyl hzl
      have hn : mix x (ks.take (k + 1)) = y ^^^ z := by
        rw [List.take_add_one, show ks[k]? = some m by rw [← hm, List.getD_eq_getElem?_getD, List.getElem?_eq_getElem hlt2]; rfl]
        rw [← hy, ← hz]; exact mix_snoc _ _ _
      have HN := Lib.hid hn; have HT := Lib.hid (word_Turn x m hx h0 h31 wr)
      rw [hy]
      rw [hz] at HT
      clear hn hm hy hz h0 h31
      go_wp2_with (go_at_call 181; refine HT.out.mono ?_; rintro e w1 ⟨rfl, hb1⟩; have Hb1 := Lib.hid hb1; clear hb1)
      go_roundw
      case rel => exact ⟨k + 1, by omega, by go_num, by rw [HN.out], Lib.hid (Hbw.out.trans (Hb1.out.mono Hbw.out.size))⟩
      case measure => simp [intOf]; omega
    · obtain rfl : k = ks.length := by omega
      rw [List.take_length]
      go_wp2_with fail
      go_ret
      exact ⟨rfl, Hbw.out⟩
end Go.Proofs.YthcmcjoenepkbaaGreatDoor

namespace Go.Proofs.YthcmcjoenepkbaaGreatDoor
open Go Go.RowKit

theorem two1 (W : World) (A B : Obj) : ((W.alloc A).alloc B).heap[W.heap.size]? = some A := (Below.heap_alloc _ _ _ (by simp)).trans (MapKept.heap_alloc _ _).1
theorem two2 (W : World) (A B : Obj) : ((W.alloc A).alloc B).heap[W.heap.size + 1]? = some B := by
  have h := (MapKept.heap_alloc (W.alloc A) B).1
  rwa [World.size_alloc] at h
/-- The row of 64 words, of which k are there. -/
structure RowW (B : Nat) (F : Nat → Nat) (k : Nat) (W : World) : Prop where
  lt : B < W.heap.size
  c : ∀ j, j < 64 → W.cell? ⟨B, j, none⟩ = some (.int .u32 ((if j < k then F j else 0 : Nat) : Int))
  f : ∀ j, W.frozen? ⟨B, j, none⟩ = false
/-- The same, but for the k-th word. -/
structure RowX (B : Nat) (F : Nat → Nat) (k : Nat) (W : World) : Prop where
  lt : B < W.heap.size
  c : ∀ j, j < 64 → j ≠ k → W.cell? ⟨B, j, none⟩ = some (.int .u32 ((if j < k then F j else 0 : Nat) : Int))
  e : ∃ u, W.cell? ⟨B, k, none⟩ = some u
  f : ∀ j, W.frozen? ⟨B, j, none⟩ = false
theorem RowW.x {B : Nat} {F : Nat → Nat} {k : Nat} {W : World} (h : RowW B F k W) (hk : k < 64) : RowX B F k W := ⟨h.lt, fun j hj _ => h.c j hj, ⟨_, h.c k hk⟩, h.f⟩
theorem RowW.below {B : Nat} {F : Nat → Nat} {k : Nat} {W W' : World} (h : RowW B F k W) (hb : Below W.heap.size W W') : RowW B F k W' :=
  ⟨Nat.lt_of_lt_of_le h.lt hb.size, fun j hj => (hb.cell (p := ⟨B, j, none⟩) h.lt).trans (h.c j hj), fun j => (hb.frozen (p := ⟨B, j, none⟩) h.lt).trans (h.f j)⟩
theorem RowX.below {B : Nat} {F : Nat → Nat} {k : Nat} {W W' : World} (h : RowX B F k W) (hb : Below W.heap.size W W') : RowX B F k W' :=
  ⟨Nat.lt_of_lt_of_le h.lt hb.size, fun j hj hne => (hb.cell (p := ⟨B, j, none⟩) h.lt).trans (h.c j hj hne), by obtain ⟨u, hu⟩ := h.e; exact ⟨u, (hb.cell (p := ⟨B, k, none⟩) h.lt).trans hu⟩, fun j => (hb.frozen (p := ⟨B, j, none⟩) h.lt).trans (h.f j)⟩
theorem RowX.alloc {B : Nat} {F : Nat → Nat} {k : Nat} {W : World} (h : RowX B F k W) (o : Obj) : RowX B F k (W.alloc o) := h.below ((Below.refl _ _).alloc (Nat.le_refl _) _)
theorem RowX.drew {B : Nat} {F : Nat → Nat} {k : Nat} {W : World} (h : RowX B F k W) : RowX B F k W.drew := h.below (Below.refl _ _).drew
theorem RowX.set {B : Nat} {F : Nat → Nat} {k : Nat} {W : World} (h : RowX B F k W) (v : Value) : RowX B F k (W.setCell ⟨B, k, none⟩ v) := by
  refine ⟨by simpa using h.lt, fun j hj hne => ?_, ?_, fun j => by rw [World.frozen?_setCell]; exact h.f j⟩
  · rw [World.cell?_setCell_other _ _ _ _ (by intro x; injection x with _ x; exact hne x.symm)]; exact h.c j hj hne
  · obtain ⟨u, hu⟩ := h.e
    exact ⟨v, World.cell?_setCell_same' _ _ _ (by rw [hu]; rfl)⟩
theorem RowX.done {B : Nat} {F : Nat → Nat} {k : Nat} {W : World} (h : RowX B F k W) (hk : k < 64) {m : Nat} (hm : m = F k) : RowW B F (k + 1) (W.setCell ⟨B, k, none⟩ (.int .u32 (m : Int))) := by
  subst hm
  refine ⟨by simpa using h.lt, fun j hj => ?_, fun j => by rw [World.frozen?_setCell]; exact h.f j⟩
  by_cases e : j = k
  · subst e
    obtain ⟨u, hu⟩ := h.e
    rw [World.cell?_setCell_same' _ _ _ (by rw [hu]; rfl), if_pos (by omega)]
  · rw [World.cell?_setCell_other _ _ _ _ (by intro x; injection x with _ x; exact e x.symm), h.c j hj e]
    congr 3
    by_cases h1 : j < k
    · rw [if_pos h1, if_pos (by omega)]
    · rw [if_neg h1, if_neg (by omega)]

theorem take4 (l : List Nat) (a : Nat) (h : a + 4 ≤ l.length) : Sh.num ((l.drop a).take 4) 0 = ((l.getD a 0 * 256 + l.getD (a + 1) 0) * 256 + l.getD (a + 2) 0) * 256 + l.getD (a + 3) 0 := by
  have e : (l.drop a).take 4 = [l.getD a 0, l.getD (a + 1) 0, l.getD (a + 2) 0, l.getD (a + 3) 0] := by
    refine List.ext_getElem (by simp; omega) (fun i h1 h2 => ?_)
    simp only [List.length_cons, List.length_nil] at h2
    rw [List.getElem_take, List.getElem_drop]
    rcases (show i = 0 ∨ i = 1 ∨ i = 2 ∨ i = 3 by omega) with rfl | rfl | rfl | rfl <;> simp [List.getD_eq_getElem?_getD, show a + 3 < l.length by omega, show a + 2 < l.length by omega, show a + 1 < l.length by omega, show a < l.length by omega]
  rw [e]
  simp [Sh.num]
theorem word_num (s : ByteArray) (t : Nat) (h : 4 * t + 4 ≤ s.size) : Sh.num (((nb s).drop (4 * t)).take 4) 0 = Sh.word (nb s) t := by
  rw [take4 _ _ (by rw [nb_length]; exact h)]; rfl
/-- The words that are there do not change. -/
theorem words_stable (b : List Nat) {k j n : Nat} (hj : j < k) (hn : j < n) : (Sh.words b k).getD j 0 = (Sh.words b n).getD j 0 := by rw [Sh.words_getD b hj, Sh.words_getD b hn]
theorem next_eq (b : List Nat) {k : Nat} (h16 : 16 ≤ k) (h64 : k < 64) : (Sh.words b 64).getD k 0 = ((Sh.words b 64).getD (k - 16) 0 + Sh.sig0 ((Sh.words b 64).getD (k - 15) 0) + (Sh.words b 64).getD (k - 7) 0 + Sh.sig1 ((Sh.words b 64).getD (k - 2) 0)) % 4294967296 := by
  rw [Sh.words_getD b h64, if_neg (by omega)]
  unfold Sh.next
  rw [words_stable b (show k - 16 < k by omega) (show k - 16 < 64 by omega), words_stable b (show k - 15 < k by omega) (show k - 15 < 64 by omega), words_stable b (show k - 7 < k by omega) (show k - 7 < 64 by omega), words_stable b (show k - 2 < k by omega) (show k - 2 < 64 by omega)]
theorem sig0_int {x : Nat} (hx : x < 4294967296) : bits .xor .u32 ((mix x [7, 18] : Nat) : Int) ((x : Int) / 8) = ((Sh.sig0 x : Nat) : Int) := by
  rw [show ((x : Int) / 8) = ((x / 8 : Nat) : Int) by omega, u32_xor_nat _ _ (mix_lt hx _) (Sh.div_lt hx)]
  simp [mix, Sh.sig0]
theorem sig1_int {x : Nat} (hx : x < 4294967296) : bits .xor .u32 ((mix x [17, 19] : Nat) : Int) ((x : Int) / 1024) = ((Sh.sig1 x : Nat) : Int) := by
  rw [show ((x : Int) / 1024) = ((x / 1024 : Nat) : Int) by omega, u32_xor_nat _ _ (mix_lt hx _) (Sh.div_lt hx)]
  simp [mix, Sh.sig1]
theorem infoU32 : (Tryz.prog.info? 28).map (fun i => (i.zero, i.size, i.bytes)) = some (some (.int .u32 0), 1, 4) := by kernel_rfl

set_option maxRecDepth 100000 in
set_option maxHeartbeats 8000000 in
theorem sha_Words (s : ByteArray) (hs : s.size = 64) (w : World) :
    Calls Tryz.prog 162 #[.string s] w fun e w' => e = .returned (.slice (some ⟨w.heap.size, 0, none⟩) 64 64) ∧ RowW w.heap.size (fun j => (Sh.words (nb s) 64).getD j 0) 64 w' ∧ Below w.heap.size w w' := by
  obtain ⟨F, hF⟩ : ∃ F : Nat → Nat, ∀ j, (Sh.words (nb s) 64).getD j 0 = F j := ⟨fun j => (Sh.words (nb s) 64).getD j 0, fun _ => rfl⟩
  have hFl : ∀ j, F j < 4294967296 := fun j => hF j ▸ Sh.words_getD_lt (nb_bytes s) 64 j
  have hF16 : ∀ j, j < 16 → F j = Sh.num (((nb s).drop (4 * j)).take 4) 0 := fun j hj => by
    rw [← hF, Sh.words_getD _ (by omega), if_pos hj, word_num s j (by omega)]
  have hFn : ∀ k, 16 ≤ k → k < 64 → F k = (F (k - 16) + Sh.sig0 (F (k - 15)) + F (k - 7) + Sh.sig1 (F (k - 2))) % 4294967296 := fun k h1 h2 => by
    rw [← hF, next_eq _ h1 h2, hF, hF, hF, hF]
  have hmk : ∀ w, (Instr.makeSlice 64 (.int .i64 64) (.int .i64 64)).run Tryz.prog w = .ok (.slice (some ⟨w.heap.size, 0, none⟩) 64 64) (w.alloc (.cells (madeCells #[.int .u32 0] 64) 28)) := fun w =>
    run_make_row' (P := Tryz.prog) 64 28 (.int .u32 0) 4 Tryz.underlying64 infoU32 rfl .i64 .i64 64 (by decide) (by decide) w
  have hR0 : RowW w.heap.size F 0 (w.alloc (.cells (madeCells #[.int .u32 0] 64) 28)) := by
    have h1 := One.of w (madeCells #[.int .u32 0] 64) 28
    refine ⟨h1.lt, fun j hj => ?_, h1.f⟩
    rw [h1.c]
    simp [madeCells, hj, Nat.mod_one]
  have Hb0 : Hid (Below w.heap.size w (w.alloc (.cells (madeCells #[.int .u32 0] 64) 28))) := Lib.hid ((Below.refl _ _).alloc (Nat.le_refl _) _)
  have HR0 := Lib.hid hR0; have HFl := Lib.hid hFl; have HF16 := Lib.hid hF16; have HFn := Lib.hid hFn; have HF := Lib.hid hF
  clear hR0 hFl hF16 hFn hF
  go_enter Tryz.func162, Tryz.ntmps162
  go_wp2_with fail
  clear hmk
  go_loopg [13] 64 (fun g i wr => ∃ k : Nat, k ≤ 64 ∧ 64 - k ≤ g ∧ i = .int .i64 k ∧ Hid (RowW w.heap.size F k wr) ∧ Hid (Below w.heap.size w wr))
  case atStart => exact ⟨0, by omega, by omega, rfl, HR0, Hb0⟩
  case round =>
    obtain ⟨k, hk, hg, rfl, HR, Hbw⟩ := hrel
    by_cases hlt : k < 64
    · by_cases h16 : k < 16
      · have hck : wr.cell? ⟨w.heap.size, k, none⟩ = some (.int .u32 0) := by rw [HR.out.c k hlt, if_neg (by omega)]; rfl
        have hfk := HR.out.f k
        have hget := word_Get32 s (4 * k) (by omega) (by omega) wr
        rw [show ((4 * k : Nat) : Int) = 4 * (k : Int) by omega, ← HF16.out k h16] at hget
        have HG := Lib.hid hget; clear hget
        go_wp2_with (go_at_call 180; refine HG.out.mono ?_; rintro e w1 ⟨rfl, rfl⟩)
        go_roundg (64 - (k + 1))
        case measure => omega
        case rel => exact ⟨k + 1, by omega, by omega, by go_num, Lib.hid ((HR.out.x hlt).done hlt rfl), Lib.hid (Hbw.out.setCell (Nat.le_refl _) _)⟩
      · have c15 : wr.cell? ⟨w.heap.size, k - 15, none⟩ = some (.int .u32 (F (k - 15) : Nat)) := by rw [HR.out.c (k - 15) (by omega), if_pos (by omega)]
        have c2 : wr.cell? ⟨w.heap.size, k - 2, none⟩ = some (.int .u32 (F (k - 2) : Nat)) := by rw [HR.out.c (k - 2) (by omega), if_pos (by omega)]
        obtain ⟨x, hx⟩ : ∃ x, F (k - 15) = x := ⟨_, rfl⟩
        obtain ⟨y, hy⟩ : ∃ y, F (k - 2) = y := ⟨_, rfl⟩
        obtain ⟨p, hp⟩ : ∃ p, F (k - 16) = p := ⟨_, rfl⟩
        obtain ⟨q, hq⟩ : ∃ q, F (k - 7) = q := ⟨_, rfl⟩
        have hxl : x < 4294967296 := hx ▸ HFl.out _
        have hyl : y < 4294967296 := hy ▸ HFl.out _
        have hpl : p < 4294967296 := hp ▸ HFl.out _
        have hql : q < 4294967296 := hq ▸ HFl.out _
        have hfin := HFn.out k (by omega) hlt
        rw [hx, hy, hp, hq] at hfin
        rw [hx] at c15; rw [hy] at c2
        obtain ⟨V, hV⟩ : ∃ V : World → Value, ∀ w', (∃ u, w'.cell? ⟨w.heap.size, k, none⟩ = some u) → w'.cell? ⟨w.heap.size, k, none⟩ = some (V w') :=
          ⟨fun w' => (w'.cell? ⟨w.heap.size, k, none⟩).getD undef, fun w' ⟨u, hu⟩ => by show _ = some ((w'.cell? ⟨w.heap.size, k, none⟩).getD undef); rw [hu]; rfl⟩
        have hkeep : ∀ w', RowX w.heap.size F k w' → Below w.heap.size w w' → (w'.cell? ⟨w.heap.size, k - 16, none⟩ = some (.int .u32 (p : Int)) ∧ w'.cell? ⟨w.heap.size, k - 7, none⟩ = some (.int .u32 (q : Int)) ∧ w'.cell? ⟨w.heap.size, k, none⟩ = some (V w') ∧ w'.frozen? ⟨w.heap.size, k, none⟩ = false ∧ Hid (RowX w.heap.size F k w' ∧ Below w.heap.size w w')) := fun w' h1 h2 =>
          ⟨by rw [h1.c (k - 16) (by omega) (by omega), if_pos (by omega), hp], by rw [h1.c (k - 7) (by omega) (by omega), if_pos (by omega), hq], hV w' h1.e, h1.f k, Lib.hid ⟨h1, h2⟩⟩
        obtain ⟨k16, hk16, hk16', hk16n⟩ : ∃ m : Nat, (k : Int) - 16 = (m : Int) ∧ k - 16 = m ∧ m < 64 := ⟨k - 16, by omega, rfl, by omega⟩
        obtain ⟨k7, hk7, hk7', hk7n⟩ : ∃ m : Nat, (k : Int) - 7 = (m : Int) ∧ k - 7 = m ∧ m < 64 := ⟨k - 7, by omega, rfl, by omega⟩
        rw [hk16', hk7'] at hkeep
        have HK := Lib.hid hkeep
        clear hk16' hk7' hV
        have hw16 : IntKind.i64.wrap ((k : Int) - 16) = (k16 : Int) := by rw [IntKind.wrap_i64]; omega
        have hw7 : IntKind.i64.wrap ((k : Int) - 7) = (k7 : Int) := by rw [IntKind.wrap_i64]; omega
        have hw16' : IntKind.i64.wrap (k16 : Int) = (k16 : Int) := by rw [IntKind.wrap_i64]; omega
        have hw7' : IntKind.i64.wrap (k7 : Int) = (k7 : Int) := by rw [IntKind.wrap_i64]; omega
        have hi16 : (k16 : Int) < 64 := by omega
        have hi7 : (k7 : Int) < 64 := by omega
        have hi16' : (0 : Int) ≤ (k16 : Int) := by omega
        have hi7' : (0 : Int) ≤ (k7 : Int) := by omega
        have hik : (k : Int) < 64 := by omega
        have hik' : (0 : Int) ≤ (k : Int) := by omega
        have HX := Lib.hid (HR.out.x hlt)
        have HFin := Lib.hid hfin
        have e1 := sig0_int hxl; have e2 := sig1_int hyl
        obtain ⟨s0, hs0⟩ : ∃ n, Sh.sig0 x = n := ⟨_, rfl⟩
        obtain ⟨s1, hs1⟩ : ∃ n, Sh.sig1 y = n := ⟨_, rfl⟩
        rw [hs0] at e1; rw [hs1] at e2
        have hs0l : s0 < 4294967296 := hs0 ▸ Sh.sig0_lt hxl
        have hs1l : s1 < 4294967296 := hs1 ▸ Sh.sig1_lt hyl
        rw [hs0, hs1] at HFin
        clear hkeep hfin hx hy hp hq hs0 hs1
        go_wp2_with fail
        go_quiet (fail)
        go_upto_region 10 with fail
        have HX2 := Lib.hid (HX.out.below (below_dr (Below.refl _ _) nq))
        have HB2 := Lib.hid (below_dr Hbw.out nq)
        clear c15 c2 HX Hbw HR
        refine wp_abs (F := fun wx => RowX w.heap.size F k wx ∧ Below w.heap.size w wx) ⟨HX2.out, HB2.out⟩ ?_
        intro wa hwa
        have HA := Lib.hid hwa
        clear hwa HX2 HB2 nq
        have HKB : Hid (∀ w' : World, (w'.cell? ⟨w.heap.size, k16, none⟩ = some (.int .u32 (p : Int)) ∧ w'.cell? ⟨w.heap.size, k7, none⟩ = some (.int .u32 (q : Int)) ∧ w'.cell? ⟨w.heap.size, k, none⟩ = some (V w') ∧ w'.frozen? ⟨w.heap.size, k, none⟩ = false ∧ Hid (RowX w.heap.size F k w' ∧ Below w.heap.size w w')) → RowX w.heap.size F k w' ∧ Below w.heap.size w w') := Lib.hid (fun w' h => h.2.2.2.2.out)
        go_region_held3 (fun w' => w'.cell? ⟨w.heap.size, k16, none⟩ = some (.int .u32 (p : Int)) ∧ w'.cell? ⟨w.heap.size, k7, none⟩ = some (.int .u32 (q : Int)) ∧ w'.cell? ⟨w.heap.size, k, none⟩ = some (V w') ∧ w'.frozen? ⟨w.heap.size, k, none⟩ = false ∧ Hid (RowX w.heap.size F k w' ∧ Below w.heap.size w w'))
          (first
            | exact HK.out _ HN1.out.1 HN1.out.2
            | exact HK.out _ ((HKB.out _ (by assumption)).1.set _) ((HKB.out _ (by assumption)).2.setCell (Nat.le_refl _) _)
            | exact HK.out _ ((HKB.out _ (by assumption)).1.alloc _) ((HKB.out _ (by assumption)).2.alloc (HKB.out _ (by assumption)).2.size _)
            | exact HK.out _ ((HA.out.1.alloc _).alloc _).drew ((HA.out.2.alloc HA.out.2.size _).alloc (HA.out.2.alloc HA.out.2.size _).size _).drew
            | exact HK.out _ (HA.out.1.alloc _).drew (HA.out.2.alloc HA.out.2.size _).drew
            | exact HK.out _ HA.out.1.drew HA.out.2.drew)
          (first
            | (go_at_call_of 163 (Value.int .u32 (x : Int)); refine (sha_turned x hxl [7, 18] (by decide) (by decide) _ 2 3 _ ?hb).mono ?_; (case hb => (first | exact (MapKept.heap_alloc _ _).1 | exact two1 _ _ _ | exact two2 _ _ _ | exact (HC1.out.block _ (by simp <;> omega)).trans (MapKept.heap_alloc _ _).1 | exact (HC1.out.block _ (by simp <;> omega)).trans (two1 _ _ _) | exact (HC1.out.block _ (by simp <;> omega)).trans (two2 _ _ _))); rintro e w1 ⟨rfl, hb⟩; have HN1 := Lib.hid (And.intro ((HKB.out _ (by assumption)).1.below hb) ((HKB.out _ (by assumption)).2.trans (hb.mono (HKB.out _ (by assumption)).2.size))); have HC1 := Lib.hid hb; clear hb)
            | (go_at_call_of 163 (Value.int .u32 (y : Int)); refine (sha_turned y hyl [17, 19] (by decide) (by decide) _ 2 3 _ ?hb2).mono ?_; (case hb2 => (first | exact (MapKept.heap_alloc _ _).1 | exact two1 _ _ _ | exact two2 _ _ _ | exact (HC1.out.block _ (by simp <;> omega)).trans (MapKept.heap_alloc _ _).1 | exact (HC1.out.block _ (by simp <;> omega)).trans (two1 _ _ _) | exact (HC1.out.block _ (by simp <;> omega)).trans (two2 _ _ _))); rintro e w1 ⟨rfl, hb⟩; have HN1 := Lib.hid (And.intro ((HKB.out _ (by assumption)).1.below hb) ((HKB.out _ (by assumption)).2.trans (hb.mono (HKB.out _ (by assumption)).2.size))); have HC1 := Lib.hid hb; clear hb))
        all_goals
          have hv : IntKind.u32.wrap (IntKind.u32.wrap (IntKind.u32.wrap ((p : Int) + (s0 : Int)) + (q : Int)) + (s1 : Int)) = ((F k : Nat) : Int) := by
            rw [HFin.out]; simp only [IntKind.wrap_u32']; omega
          rw [hv]
          clear hv
          go_wp2_with fail
          go_roundg (64 - (k + 1))
          case measure => omega
          case rel => exact ⟨k + 1, by omega, by omega, by go_num, Lib.hid (HN1.out.1.done hlt rfl), Lib.hid (HN1.out.2.setCell (Nat.le_refl _) _)⟩
    · obtain rfl : k = 64 := by omega
      go_wp2_with fail
      go_ret
      exact ⟨rfl, by rw [show (fun j => (Sh.words (nb s) 64).getD j 0) = F from funext HF.out]; exact HR.out, Hbw.out⟩
end Go.Proofs.YthcmcjoenepkbaaGreatDoor
