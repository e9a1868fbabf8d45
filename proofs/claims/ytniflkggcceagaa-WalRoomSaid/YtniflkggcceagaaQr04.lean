/- Contracts: the log's does, Sync; its closures. Contract: wal.Make on a disk whose files are empty. Contracts: frame.frames as a sequence; frame.Scan. Contract: frame.Scan. -/
import Derived.Test.YtniflkggcceagaaQr00
import Derived.Test.YtniflkggcceagaaQr03
import Derived.RangeFuncLeaves
import Derived.RangeFuncWrites
import Derived.RangeFuncBox
import Derived.RangeFuncBound
import Derived.RangeFuncCalls
import Derived.RangeFuncNested
import Derived.Shelf.Abstract
import Derived.OwnWalkIn
import Derived.TacticsInMore
import Derived.LoopIn
import Derived.LoopNIn
namespace Go.Proofs.Ytniflkggcceagaa
open Go Go.RowKit
def LgG (S T : Nat → Prop) (x d : Nat) (w : World) (er : Int) (D : Dk) (W : Wa) (e : Ending) (w' : World) : Prop := e = .returned (.int .i64 er) ∧ DiskAt w' (Gr S w w') d D ∧ WalAt w' T x d W ∧ ButS (fun k => S k ∨ k = x) w w'
theorem not_gr {S T : Nat → Prop} {w w' : World} (hd : ∀ k, S k → ¬ T k) (hl : ∀ k, T k → k < w.heap.size) : ∀ k, T k → ¬ Gr S w w' k := fun k hk hg => by
  rcases hg with h | h
  · exact hd k h hk
  · have := hl k hk; omega
set_option maxRecDepth 100000 in
set_option maxHeartbeats 1000000 in
theorem wal_does (w : World) {S T : Nat → Prop} {x d : Nat} {W : Wa} {D : Dk} (h : WalAt w T x d W) (hd : DiskAt w S d D) (hST : ∀ k, S k → ¬ T k) (hk : DkOk D) (a : Option Addr) (cap : Nat) (vs : List Value) (cs : List Dc) (hl : D.loose.length + cs.length ≤ 1000000) (hlen : vs.length = cs.length)
    (hrow : cs = [] ∨ ∃ g, a = some ⟨g, 0, none⟩ ∧ ¬ S g ∧ g < w.heap.size ∧ ∀ i v, vs[i]? = some v → w.cell? ⟨g, i, none⟩ = some v) (hdo : ∀ (i : Nat) (v : Value) (c : Dc), vs[i]? = some v → cs[i]? = some c → Doer S w d v c) (hfit : fitsS cs D) :
    Calls Try.prog 35 #[.pointer (some ⟨x, 0, none⟩), .slice a cs.length cap] w (LgG S T x d w (Dk.steps cs D).1 (Dk.steps cs D).2 { W with down := (Dk.steps cs D).1 }) := by
  have HS := Lib.hid (wal_steps w a cap vs cs hd hk hl hlen hrow hdo hfit)
  have H := Lib.hid h; have HST := Lib.hid hST
  have HO := Lib.hid h.own
  obtain ⟨r, hr⟩ : ∃ r, Dk.steps cs D = r := ⟨_, rfl⟩
  rw [hr] at HS ⊢
  obtain ⟨n, hn⟩ : ∃ n, cs.length = n := ⟨_, rfl⟩
  rw [hn] at HS ⊢
  clear h hd hST hk hl hlen hrow hdo hfit hr hn
  go_enter Try.func35, Try.ntmps35
  go_wp2_with fail
  refine HS.out.mono ?_
  rintro e w1 ⟨rfl, g1, b1⟩
  have hw1 := H.out.but b1 (fun k hk hs => HST.out k hs hk)
  have c10 := hw1.c10; have f10 := hw1.fz 10
  have HW := Lib.hid (hw1.setDown r.1)
  have HD := Lib.hid (g1.but (ButS.set (S := fun k => k = x) w1 (p := ⟨x, 10, none⟩) rfl (.int .i64 r.1)) (fun k hk e => by subst e; exact not_gr HST.out HO.out k H.out.xx hk))
  have HB := Lib.hid ((b1.mono (S' := fun k => S k ∨ k = x) (fun k hk => Or.inl hk)).trans (ButS.set (S := fun k => S k ∨ k = x) w1 (p := ⟨x, 10, none⟩) (Or.inr rfl) (.int .i64 r.1)))
  have d10 := HW.out.c10
  dsimp only at d10
  obtain ⟨w2, hw2⟩ : ∃ w2, w1.setCell ⟨x, 10, none⟩ (.int .i64 r.1) = w2 := ⟨_, rfl⟩
  have hsz : w2.heap.size = w1.heap.size := by rw [← hw2]; exact setCell_size _ _ _
  rw [hw2] at HW HD HB d10
  have HSZ := Lib.hid hsz
  clear hw1 g1 b1 hsz
  go_wp2_with fail
  go_ret
  refine ⟨rfl, ?_, HW.out, HB.out⟩
  refine HD.out.more (fun k hk => ?_) (fun k hk => ?_)
  · rcases hk with hk | hk
    · exact Or.inl hk
    · exact Or.inr ⟨hk.1, by rw [HSZ.out]; exact hk.2⟩
  · exact HD.out.own k (by rcases hk with hk | hk; (· exact Or.inl hk); (· exact Or.inr ⟨hk.1, by rw [← HSZ.out]; exact hk.2⟩))
set_option maxRecDepth 100000 in
set_option maxHeartbeats 1000000 in
theorem wal_Sync (w : World) {S T : Nat → Prop} {x d : Nat} {W : Wa} {D : Dk} (h : WalAt w T x d W) (hd : DiskAt w S d D) (hST : ∀ k, S k → ¬ T k) (hk : DkOk D) (hl : D.loose.length + 1 ≤ 1000000) :
    Calls Try.prog 16 #[.pointer (some ⟨x, 0, none⟩)] w (LgG S T x d w (if W.down ≠ 0 then 121 else (Dk.steps [.sync] D).1) (if W.down ≠ 0 then D else (Dk.steps [.sync] D).2) (if W.down ≠ 0 then W else { W with down := (Dk.steps [.sync] D).1 })) := by
  have HM := Lib.hid (wal_mayW w h)
  unfold Wa.mayE at HM
  have c0 := h.c0
  have hxl := h.lt
  have H := Lib.hid h; have HD := Lib.hid hd
  obtain ⟨dn, hdn⟩ : ∃ z, W.down = z := ⟨_, rfl⟩
  rw [hdn] at HM ⊢
  by_cases hz : dn = 0
  · rw [if_neg (by simpa using hz)] at HM
    simp only [if_neg (show ¬ dn ≠ 0 from fun h => h hz)]
    obtain ⟨W1, hW1⟩ : ∃ W1, w.alloc (.cells #[.func (.func 38) #[.pointer (some ⟨d, 0, none⟩)] #[]] 41) = W1 := ⟨_, rfl⟩
    have hb : Below w.heap.size w W1 := by rw [← hW1]; exact (Below.refl _ _).alloc (Nat.le_refl _) _
    have hx1 : Bx W1 w.heap.size 41 (.func (.func 38) #[.pointer (some ⟨d, 0, none⟩)] #[]) := by rw [← hW1]; exact Bx.new _ _ _
    have hx1l := hx1.lt
    have HDO := Lib.hid (wal_does W1 (h.step hb) (hd.step hb) hST hk (some ⟨w.heap.size, 0, none⟩) 1 [.func (.func 38) #[.pointer (some ⟨d, 0, none⟩)] #[]] [.sync] hl rfl
      (Or.inr ⟨w.heap.size, rfl, fun hs => by have := hd.own _ hs; omega, hx1l, fun i v hv => by
        have hi : i = 0 := by have := (List.getElem?_eq_some_iff.1 hv).1; simpa using this
        subst hi
        simp only [List.getElem?_cons_zero, Option.some.injEq] at hv
        subst hv
        exact hx1.c⟩)
      (fun i v c hv hc => by
        have hi : i = 0 := by have := (List.getElem?_eq_some_iff.1 hv).1; simpa using this
        subst hi
        simp only [List.getElem?_cons_zero, Option.some.injEq] at hv hc
        subst hv; subst hc
        exact doer_sync _ _ _) ⟨trivial, fun _ => trivial⟩)
    have HB := Lib.hid hb
    obtain ⟨r, hr⟩ : ∃ r, Dk.steps [.sync] D = r := ⟨_, rfl⟩
    rw [hr] at HDO ⊢
    have HOWN := Lib.hid hd.own
    clear h hd hk hl hb hx1 hx1l hr hz hdn
    go_enter Try.func16, Try.ntmps16
    go_wp2_with fail
    refine HM.out.mono ?_
    rintro e w2 ⟨rfl, hw2⟩
    subst w2
    go_wp2_with fail
    refine HDO.out.mono ?_
    rintro e w2 ⟨rfl, g1, g2, g3⟩
    have G1 := Lib.hid g1; have G2 := Lib.hid g2; have G3 := Lib.hid g3
    clear g1 g2 g3
    go_wp2_with fail
    go_ret
    have hs1 := HB.out.size; have hs2 := G3.out.size
    refine ⟨rfl, G1.out.more (fun k hk => ?_) (fun k hk => ?_), G2.out, (ButS.of HB.out).trans G3.out⟩
    · rcases hk with hk | hk
      · exact Or.inl hk
      · exact Or.inr ⟨by omega, hk.2⟩
    · rcases hk with hk | hk
      · have := HOWN.out k hk; omega
      · exact hk.2
  · rw [if_pos hz] at HM
    simp only [if_pos hz]
    clear h hd hk hl hdn
    go_enter Try.func16, Try.ntmps16
    go_wp2_with fail
    refine HM.out.mono ?_
    rintro e w2 ⟨rfl, hw2⟩
    subst w2
    go_wp2_with fail
    go_ret
    exact ⟨rfl, HD.out.more (fun k hk => Or.inl hk) (fun k hk => by rcases hk with hk | hk; (· exact HD.out.own k hk); (· exact hk.2)), H.out, ButS.refl _⟩
end Go.Proofs.Ytniflkggcceagaa

namespace Go.Proofs.Ytniflkggcceagaa
open Go Go.RowKit
theorem burn_neg {D : Dk} (h : D.fuse < 0) : D.burn = (0, D) := by unfold Dk.burn; rw [if_neg (by omega), if_neg (by omega)]
theorem write_neg {D : Dk} (h : D.fuse < 0) {f : Nat} (hf : f < D.n) {s : List UInt8} (hs : (s.length : Int) ≤ D.left) (hs2 : s.length ≤ 1073741824) : D.write (f : Int) s = (0, { D with now := upd D.now f (D.now f ++ s), loose := D.loose ++ [.wr f s] }) := by
  unfold Dk.write
  rw [burn_neg h]
  dsimp only
  rw [if_neg (by decide), if_neg (by omega), if_neg (by omega)]
  unfold Lc.done
  dsimp only
  rw [take_all s hs2]
  rfl
theorem sync_neg {D : Dk} (h : D.fuse < 0) : D.sync = (0, { D with sure := D.now, loose := [] }) := by
  unfold Dk.sync
  rw [burn_neg h]
  dsimp only
  rw [if_neg (by decide)]
theorem cut_neg {D : Dk} (h : D.fuse < 0) {f n : Nat} (hf : f < D.n) : D.cutF (f : Int) n = (0, { D with now := upd D.now f ((D.now f).take n), loose := D.loose ++ [.cut f n] }) := by
  unfold Dk.cutF
  rw [burn_neg h]
  dsimp only
  rw [if_neg (by decide), if_neg (by omega)]
  rfl
theorem make_steps {D : Dk} (h : D.fuse < 0) (hn : 1 ≤ D.n) {s : List UInt8} (hs : (s.length : Int) ≤ D.left) (hs2 : s.length ≤ 1073741824) : Dk.steps [.write 0 s, .sync] D = (0, { D with now := upd D.now 0 (D.now 0 ++ s), sure := upd D.now 0 (D.now 0 ++ s), loose := [] }) := by
  have h1 := write_neg h (f := 0) (by omega) hs hs2
  show (if (D.write 0 s).1 = 0 then Dk.steps [.sync] (D.write 0 s).2 else D.write 0 s) = _
  rw [show D.write 0 s = D.write ((0 : Nat) : Int) s from rfl, h1]
  dsimp only
  rw [if_pos rfl]
  have h2 := sync_neg (D := { D with now := upd D.now 0 (D.now 0 ++ s), loose := D.loose ++ [.wr 0 s] }) h
  show (if (Dk.sync _).1 = 0 then Dk.steps [] (Dk.sync _).2 else Dk.sync _) = _
  rw [h2]
  rfl
theorem infoFn0 : (Try.prog.info? 41).map (fun i => (i.zero, i.size, i.bytes)) = some (some .nilFunc, 1, 8) := by kernel_rfl
theorem one_row (w : World) (v : Value) (e : TypeId) : (w.alloc (.cells #[v] e)).ownsRow 0 e 1 (.slice (some ⟨w.heap.size, 0, none⟩) 1 1) 1 [v] :=
  ⟨rfl, Or.inr ⟨w.heap.size, 1, #[v], rfl, Nat.zero_le _, (MapKept.heap_alloc w _).1, Nat.le_refl _, by decide, rfl, rfl⟩⟩
theorem wal_new (w : World) (d : Nat) (g f n L : Nat) (fl : Int) :
    WalAt (((w.alloc (.cells #[.int .i64 fl] 3)).alloc (.cells #[.int .i64 (L : Int)] 3)).alloc (.cells #[.pointer (some ⟨d, 0, none⟩), .int .i64 3, .int .i64 100, .int .i64 60, .int .u64 (g : Int), .int .u64 (f : Int), .int .u64 (n : Int), .slice (some ⟨w.heap.size, 0, none⟩) 1 1, .slice (some ⟨w.heap.size + 1, 0, none⟩) 1 1, .int .i64 0, .int .i64 0] 62)) (fun k => w.heap.size ≤ k ∧ k < w.heap.size + 3) (w.heap.size + 2) d ⟨g, f, n, [fl], [L], 0, 0⟩ := by
  obtain ⟨w1, hw1⟩ : ∃ w1, w.alloc (.cells #[.int .i64 fl] 3) = w1 := ⟨_, rfl⟩
  have r1 := one_row w (.int .i64 fl) 3
  have s1 : w1.heap.size = w.heap.size + 1 := by rw [← hw1]; simp
  rw [hw1] at r1 ⊢
  obtain ⟨w2, hw2⟩ : ∃ w2, w1.alloc (.cells #[.int .i64 (L : Int)] 3) = w2 := ⟨_, rfl⟩
  have r2 := one_row w1 (.int .i64 (L : Int)) 3
  have s2 : w2.heap.size = w.heap.size + 2 := by rw [← hw2]; simp; omega
  have b2 : Below w1.heap.size w1 w2 := by rw [← hw2]; exact (Below.refl _ _).alloc (Nat.le_refl _) _
  rw [hw2] at r2 ⊢
  rw [s1] at r2
  obtain ⟨C, hC⟩ : ∃ C : Array Value, #[.pointer (some ⟨d, 0, none⟩), .int .i64 3, .int .i64 100, .int .i64 60, .int .u64 (g : Int), .int .u64 (f : Int), .int .u64 (n : Int), .slice (some ⟨w.heap.size, 0, none⟩) 1 1, .slice (some ⟨w.heap.size + 1, 0, none⟩) 1 1, .int .i64 0, .int .i64 0] = C := ⟨_, rfl⟩
  have ho := One.of w2 C 62
  have b3 : Below w2.heap.size w2 (w2.alloc (.cells C 62)) := (Below.refl _ _).alloc (Nat.le_refl _) _
  rw [hC]
  have s3 : (w2.alloc (.cells C 62)).heap.size = w.heap.size + 3 := by simp; omega
  rw [s2] at ho
  refine ⟨fun k hk => by omega, ⟨by omega, by omega⟩, ?_, ?_, ?_, ?_, ?_, ?_, ?_, ?_, ?_, ho.f, .slice (some ⟨w.heap.size, 0, none⟩) 1 1, .slice (some ⟨w.heap.size + 1, 0, none⟩) 1 1, ?_, ?_, ?_, ?_, ?_, ?_⟩
  all_goals first | (rw [ho.c]; subst hC; rfl) | skip
  · exact ownBelow (ownBelow r1 b2) b3
  · exact ownBelow r2 b3
  · intro b hb; cases hb; exact ⟨⟨Nat.le_refl _, by show w.heap.size < _; omega⟩, by show w.heap.size ≠ _; omega, fun h => by injection h with h; have h2 : w.heap.size + 1 = w.heap.size := h; omega⟩
  · intro b hb; cases hb; exact ⟨⟨by show _ ≤ w.heap.size + 1; omega, by show w.heap.size + 1 < _; omega⟩, by show w.heap.size + 1 ≠ _; omega⟩
def MakeG (S : Nat → Prop) (d : Nat) (D : Dk) (W : Wa) (w : World) (e : Ending) (w' : World) : Prop := ∃ (x : Nat) (S' T : Nat → Prop), e = .returned (.tuple #[.pointer (some ⟨x, 0, none⟩), .int .i64 0]) ∧ DiskAt w' S' d D ∧ WalAt w' T x d W ∧ (∀ k, S' k → ¬ T k) ∧ (∀ k, S' k → S k ∨ w.heap.size ≤ k) ∧ (∀ k, T k → w.heap.size ≤ k) ∧ ButS S w w'
set_option maxRecDepth 100000 in
set_option maxHeartbeats 4000000 in
theorem wal_Make (w : World) {S : Nat → Prop} {d : Nat} {D : Dk} (t : List UInt8) (h : DiskAt w S d D) (hk : DkOk D) (hn : 3 ≤ D.n) (hf : D.fuse < 0) (he : ∀ i, i < 3 → D.now i = []) (ht : t.length ≤ 42) (hl : D.loose.length ≤ 999998) (hroom : ((18 + t.length : Nat) : Int) ≤ D.left) :
    Calls Try.prog 26 #[.pointer (some ⟨d, 0, none⟩), confV, .string (bs t)] w (MakeG S d { D with now := upd D.now 0 (Wl.head sumF 1 1 1 t), sure := upd D.now 0 (Wl.head sumF 1 1 1 t), loose := [] } ⟨1, 1, 1, [0], [18 + t.length], 0, 0⟩ w) := by
  obtain ⟨i0, hi, hiz, his, hib⟩ := info_parts infoFn0
  have hq := make_steps hf (by omega) (s := Wl.head sumF 1 1 1 t) (by rw [Wl.head_length]; exact hroom) (by rw [Wl.head_length]; omega)
  rw [he 0 (by omega), List.nil_append] at hq
  have hHl := Wl.head_length sumF 1 1 1 t
  have HHD := Lib.hid (fun w => seg_Head 1 1 1 t ⟨by omega, by omega, by omega, fun h => by omega⟩ (by omega) (by omega) w)
  have hop := h.own
  have H := Lib.hid h; have HK := Lib.hid hk
  have HN := Lib.hid hn; have HF := Lib.hid hf; have HE := Lib.hid he; have HL := Lib.hid hl
  obtain ⟨Q, hQ⟩ : ∃ Q, Wl.head sumF 1 1 1 t = Q := ⟨_, rfl⟩
  obtain ⟨L, hL⟩ : ∃ L, 18 + t.length = L := ⟨_, rfl⟩
  rw [hQ] at hq hHl HHD ⊢
  rw [hL] at hHl hroom ⊢
  have hQs : (bs Q).size = L := by rw [bs_size, hHl]
  have hL60 : ¬ (60 : Int) < (L : Int) := by omega
  have hLb : decide ((60 : Int) < (L : Int)) = false := by simp; omega
  obtain ⟨D2, hD2⟩ : ∃ D2, ({ D with now := upd D.now 0 Q, sure := upd D.now 0 Q, loose := [] } : Dk) = D2 := ⟨_, rfl⟩
  rw [hD2] at hq ⊢
  have HQ := Lib.hid hq; have HQL := Lib.hid hHl
  obtain ⟨lf, hlf⟩ : ∃ lf, D.left = lf := ⟨_, rfl⟩
  rw [hlf] at hroom
  have HLF := Lib.hid hlf
  have hlw : -1125899906842624 ≤ lf ∧ lf ≤ 4194304 := by
    rw [← hlf]
    have h1 := hk.room
    have h2 : ∀ k, k ≤ 16 → lensN D.now k ≤ k * 1073741824 := fun k => by
      induction k with
      | zero => intro _; exact Nat.le_refl _
      | succ k ih => intro hk2; have := ih (by omega); have := hk.now k (by omega); show lensN D.now k + _ ≤ _; omega
    have h3 := h2 16 (by omega)
    unfold Dk.left; omega
  have HM := Lib.hid (fun w' (hb : Below w.heap.size w w') => wal_may w' (h.step hb) hn)
  have HRE := Lib.hid (fun w' (hb : Below w.heap.size w w') => wal_read w' (h.step hb) hn (by omega))
  have HRO := Lib.hid (fun w' (hb : Below w.heap.size w w') => disk_Room w' (h.step hb) hk.room hk.now)
  clear h hk hn hf he hl hq hQ hL hD2 hlf ht
  go_enter Try.func26, Try.ntmps26
  go_upto_region 1 with fail
  refine wp_abs (F := fun W => Hid (Below w.heap.size w W) ∧ Hid (Bx W w.heap.size 26 (.pointer (some ⟨d, 0, none⟩))) ∧ Hid (One (w.heap.size + 1) #[.int .i64 3, .int .i64 100, .int .i64 60] W)) ?_ ?_
  · have s1 : (w.alloc (.cells #[.pointer (some ⟨d, 0, none⟩)] 26)).heap.size = w.heap.size + 1 := by simp
    refine ⟨Lib.hid (((Below.refl _ _).alloc (Nat.le_refl _) _).alloc (by omega) _), Lib.hid ((Bx.new _ _ _).alloc _), Lib.hid ?_⟩
    have := One.of (w.alloc (.cells #[.pointer (some ⟨d, 0, none⟩)] 26)) #[.int .i64 3, .int .i64 100, .int .i64 60] 49
    rw [s1] at this
    exact this
  rintro W0 ⟨HB0, HX0, HC0⟩
  have c0 := HX0.out.c
  have k0 := HC0.out.c 0; have k1 := HC0.out.c 1; have k2 := HC0.out.c 2
  simp at k0 k1 k2
  go_wp2_with fail
  refine (HM.out W0 HB0.out).mono ?_
  rintro e w1 ⟨rfl, hb1⟩
  have HB1 := Lib.hid (HB0.out.trans (hb1.mono HB0.out.size))
  have HX1 := Lib.hid (HX0.out.below hb1); have HC1 := Lib.hid (HC0.out.step hb1)
  clear hb1 c0 k0 k1 k2
  go_wp2_with fail
  refine (HHD.out w1).mono ?_
  rintro e w2 ⟨rfl, hb2⟩
  have HB2 := Lib.hid (HB1.out.trans (hb2.mono HB1.out.size))
  have HX2 := Lib.hid (HX1.out.below hb2); have HC2 := Lib.hid (HC1.out.step hb2)
  clear hb2
  go_upto_region 5 with fail
  refine wp_abs (F := fun W => Hid (Below w.heap.size w W) ∧ Hid (Bx W w.heap.size 26 (.pointer (some ⟨d, 0, none⟩))) ∧ Hid (One (w.heap.size + 1) #[.int .i64 3, .int .i64 100, .int .i64 60] W) ∧ Hid (Bx W w2.heap.size 9 (.string (bs Q)))) ⟨Lib.hid (HB2.out.alloc HB2.out.size _), Lib.hid (HX2.out.alloc _), Lib.hid (HC2.out.step ((Below.refl _ _).alloc (Nat.le_refl _) _)), Lib.hid (Bx.new _ _ _)⟩ ?_
  rintro W3 ⟨HB3, HX3, HC3, HH3⟩
  have hw2 := HX2.out.lt
  obtain ⟨bh, hbh⟩ : ∃ x, w2.heap.size = x := ⟨_, rfl⟩
  rw [hbh] at HH3 hw2 ⊢
  clear HB2 HX2 HC2 hbh
  have c0 := HX3.out.c
  have k0 := HC3.out.c 0; have k1 := HC3.out.c 1; have k2 := HC3.out.c 2
  simp at k0 k1 k2
  have ch := HH3.out.c
  go_wp2_with fail
  refine (HRE.out W3 HB3.out).mono ?_
  rintro e w4 ⟨a, cap, rfl, hrow, hb4⟩
  have HB4 := Lib.hid (HB3.out.trans (hb4.mono HB3.out.size))
  have HX4 := Lib.hid (HX3.out.below hb4); have HH4 := Lib.hid (HH3.out.below hb4)
  obtain ⟨g, rfl⟩ : ∃ g, a = some ⟨g, 0, none⟩ := by
    rcases hrow.2 with ⟨h', hn'⟩ | ⟨g', cap', cur, h', _⟩
    · omega
    · simp only [Value.slice.injEq] at h'; exact ⟨g', h'.1⟩
  have HG : Hid (∀ k, k < 3 → w4.cell? ⟨g, k, none⟩ = some (.string ⟨#[]⟩)) := Lib.hid (fun k hk => by
    rw [World.ownsRow.cellAt hrow k (by omega)]
    have h1 : (filesV D.now 3)[k]? = some (.string (bs (D.now k))) := by
      unfold filesV
      rw [List.getElem?_map, List.getElem?_range (by omega)]; rfl
    rw [h1, HE.out k hk]; rfl)
  have HGL : Hid (g < w4.heap.size) := Lib.hid (cell_lt (HG.out 0 (by omega)))
  have HB34 := Lib.hid hb4
  have c0 := HX4.out.c
  have HRM := Lib.hid (HRO.out w4 HB4.out)
  rw [HLF.out] at HRM
  clear hb4 hrow k0 k1 k2 ch
  go_wp2_with fail
  refine HRM.out.mono ?_
  rintro e w5 ⟨rfl, hw5⟩
  subst w5
  have hz0 : (0 : Int) + lf = lf := by omega
  have hlfw : IntKind.i64.wrap lf = lf := by rw [IntKind.wrap_i64]; omega
  go_wp2_with fail
  go_loopw [12, 13, 50] (fun r cl i wr => ∃ k : Nat, k ≤ 3 ∧ i = .int .i64 k ∧ r = .int .i64 lf ∧ cl = .slice none 0 0 ∧ Hid (Below w4.heap.size w4 wr)) (fun _ _ i _ => 3 - (intOf i).toNat)
  case atStart => exact ⟨0, by omega, rfl, rfl, rfl, Lib.hid (Below.refl _ _)⟩
  case round =>
    obtain ⟨k, hk, rfl, rfl, rfl, HBr⟩ := hrel
    by_cases hlt : k < 3
    · have HLT := Lib.hid hlt
      have hki : (k : Int) < 3 := by omega
      have cg := (HBr.out.cell (p := ⟨g, k, none⟩) HGL.out).trans (HG.out k hlt)
      have cg2 : (wr.alloc (.cells #[.int .i64 (k : Int)] 3)).cell? ⟨g, k, none⟩ = some (.string ⟨#[]⟩) := (((Below.refl wr.heap.size wr).alloc (Nat.le_refl _) _).cell (p := ⟨g, k, none⟩) (by have := HBr.out.size; have := HGL.out; show g < _; omega)).trans cg
      go_wp2_with fail
      go_roundw
      case rel => exact ⟨k + 1, by have := HLT.out; omega, by go_num, rfl, rfl, Lib.hid (HBr.out.alloc HBr.out.size _)⟩
      case measure => have := HLT.out; simp [intOf]; omega
    · obtain rfl : k = 3 := by omega
      have hX := HX4.out.below HBr.out; have hH := HH4.out.below HBr.out
      have HBB := Lib.hid (HB4.out.trans (HBr.out.mono HB4.out.size))
      have HX5 := Lib.hid hX; have HH5 := Lib.hid hH
      have c0 := hX.c; have ch := hH.c
      have hlL : ¬ lf < (L : Int) := by omega
      have hlLb : decide (lf < (L : Int)) = false := by simp; omega
      clear hX hH HX4 HH4 HB4
      have hbwr := HBB.out.size
      go_upto_region 24 with (at_builtin; go_loud (refine wpList_append_own _ rfl _ _ 76 rfl w.heap.size 41 i0 .nilFunc 1 8 Try.underlying76 hi hiz his hib rfl (by decide) (.slice none 0 0) 0 [] rfl (World.ownsRow_nil _ _ _ _) ⟨wr.heap.size, 0, none⟩ 2 2 [.func (.func 52) #[] #[.pointer (some ⟨w.heap.size, 0, none⟩), .pointer (some ⟨bh, 0, none⟩)], .func (.func 38) #[.pointer (some ⟨d, 0, none⟩)] #[]] rfl rfl (World.news_of_block (MapKept.heap_alloc _ _).1) (by intro u hu; simp only [List.mem_cons, List.mem_nil_iff, or_false] at hu; rcases hu with rfl | rfl <;> rfl) (by simp [maxLen]) (by omega) (by simp; omega) ?_; intro v5 w5 hown5 hg5 _; obtain ⟨a6, c6, rfl⟩ := ownShape hown5; have Hown5 := Lib.hid hown5; have Hg5 := Lib.hid hg5; clear hown5 hg5))
      have hb5 : Below w.heap.size w w5 := (HBB.out.alloc HBB.out.size _).grown Hg5.out (by simp; omega) (fun j hj => by cases hj)
      have hb5r : Below wr.heap.size wr w5 := ((Below.refl _ _).alloc (Nat.le_refl _) _).grown Hg5.out (by simp) (fun j hj => by cases hj)
      obtain ⟨g5, rfl⟩ : ∃ g5, a6 = some ⟨g5, 0, none⟩ := by
        rcases Hown5.out.2 with ⟨h', hn'⟩ | ⟨g', cap', cur, h', _⟩
        · omega
        · simp only [Value.slice.injEq] at h'; exact ⟨g', h'.1⟩
      have hg5b := ownAbove Hown5.out g5 rfl
      have hrow5 : ∀ i v, ([.func (.func 52) #[] #[.pointer (some ⟨w.heap.size, 0, none⟩), .pointer (some ⟨bh, 0, none⟩)], .func (.func 38) #[.pointer (some ⟨d, 0, none⟩)] #[]] : List Value)[i]? = some v → w5.cell? ⟨g5, i, none⟩ = some v := fun i v hv => by
        have hi := (List.getElem?_eq_some_iff.1 hv).1
        rw [World.ownsRow.cellAt Hown5.out i (by simpa using hi)]
        simpa using hv
      have hx5 := HX5.out.below hb5r; have hh5 := HH5.out.below hb5r
      have HST := Lib.hid (wal_steps w5 (some ⟨g5, 0, none⟩) c6 [.func (.func 52) #[] #[.pointer (some ⟨w.heap.size, 0, none⟩), .pointer (some ⟨bh, 0, none⟩)], .func (.func 38) #[.pointer (some ⟨d, 0, none⟩)] #[]] [.write 0 Q, .sync] (H.out.step hb5) HK.out (by have := HL.out; show _ + 2 ≤ _; omega) rfl
        (Or.inr ⟨g5, rfl, fun hs => by have := hop _ hs; omega, cell_lt (hrow5 0 _ rfl), hrow5⟩)
        (fun i v c hv hc => by
          have hi : i = 0 ∨ i = 1 := by have := (List.getElem?_eq_some_iff.1 hv).1; simp at this; omega
          rcases hi with rfl | rfl
          · simp only [List.getElem?_cons_zero, Option.some.injEq] at hv hc
            subst hv; subst hc
            exact doer_make2 (fun hs => by have := hop _ hs; omega) (fun hs => by have := hop _ hs; omega) hx5.c hh5.c
          · simp only [List.getElem?_cons_succ, List.getElem?_cons_zero, Option.some.injEq] at hv hc
            subst hv; subst hc
            exact doer_sync _ _ _) ⟨by show Q.length ≤ _; rw [HQL.out]; omega, fun _ => ⟨trivial, fun _ => trivial⟩⟩)
      rw [HQ.out] at HST
      have HB35 := Lib.hid hb5r; have HB5 := Lib.hid hb5; have HX6 := Lib.hid hx5; have HH6 := Lib.hid hh5
      clear hb5 hb5r hrow5 hx5 hh5 c0 ch
      go_wp2_with fail
      refine HST.out.mono ?_
      rintro e w6 ⟨rfl, g1, b1⟩
      have hx6 : Bx w6 w.heap.size 26 (.pointer (some ⟨d, 0, none⟩)) := HX6.out.but b1 (fun hs => by have := hop _ hs; omega)
      have hh6 : Bx w6 bh 9 (.string (bs Q)) := HH6.out.but b1 (fun hs => by have := hop _ hs; omega)
      have b3 : Below W3.heap.size W3 w5 := HB34.out.trans ((HBr.out.mono HB34.out.size).trans (HB35.out.mono (by have := HB34.out.size; have := HBr.out.size; omega)))
      have hc6 := (HC3.out.step b3).but b1 (fun hs => by have := hop _ hs; omega)
      have c0 := hx6.c; have ch := hh6.c
      have k0 := hc6.c 0; have k1 := hc6.c 1; have k2 := hc6.c 2
      simp at k0 k1 k2
      have HB6 := Lib.hid (HB5.out); have G1 := Lib.hid g1; have B1 := Lib.hid b1
      have ch2 : (w6.alloc (.cells #[.int .i64 0] 3)).cell? ⟨bh, 0, none⟩ = some (.string (bs Q)) := (hh6.alloc _).c
      have hh6l := hh6.lt; have hc6l := hc6.lt
      clear hx6 hh6 hc6 g1 b1
      go_wp2_with fail
      have hwn := wal_new w6 d 1 1 1 L 0
      have bb : Below w6.heap.size w6 (((w6.alloc (.cells #[.int .i64 0] 3)).alloc (.cells #[.int .i64 (L : Int)] 3)).alloc (.cells #[.pointer (some ⟨d, 0, none⟩), .int .i64 3, .int .i64 100, .int .i64 60, .int .u64 ((1 : Nat) : Int), .int .u64 ((1 : Nat) : Int), .int .u64 ((1 : Nat) : Int), .slice (some ⟨w6.heap.size, 0, none⟩) 1 1, .slice (some ⟨w6.heap.size + 1, 0, none⟩) 1 1, .int .i64 0, .int .i64 0] 62)) := (((Below.refl _ _).alloc (Nat.le_refl _) _).alloc (by simp) _).alloc (by simp; omega) _
      go_ret2
      have s1 := HB6.out.size; have s2 := B1.out.size
      refine ⟨_, Gr S w5 w6, fun k => w6.heap.size ≤ k ∧ k < w6.heap.size + 3, rfl, G1.out.step bb, hwn, fun k hk ht => ?_, fun k hk => ?_, fun k hk => by have := hk.1; omega, ?_⟩
      · have := G1.out.own k hk; have := ht.1; omega
      · rcases hk with hk | hk
        · exact Or.inl hk
        · exact Or.inr (by omega)
      · exact (ButS.of HB6.out).trans (B1.out.trans (ButS.of bb))
end Go.Proofs.Ytniflkggcceagaa

namespace Go.Proofs.Ytniflkggcceagaa
open Go Go.RowKit
structure Fe where
  n : Nat
  t : List UInt8
  at_ : Nat
  er : Int
abbrev encFe (x : Fe) : Array Value := #[.agg #[.int .u64 (x.n : Int), .string (bs x.t)], .agg #[.int .i64 (x.at_ : Int), .int .i64 x.er]]
def fes : Nat → Nat → List UInt8 → List Fe
  | 0, _, _ => []
  | f + 1, p, s => match s with
    | [] => []
    | c :: r => match Wl.dec sumF (c :: r) with
      | none => [⟨0, [], p, decErr (c :: r)⟩]
      | some (n, t, u) => ⟨n, t, p + u, 0⟩ :: fes f (p + u) ((c :: r).drop u)
theorem fes_none (f p : Nat) (s : List UInt8) (h : s ≠ []) (hd : Wl.dec sumF s = none) : fes (f + 1) p s = [⟨0, [], p, decErr s⟩] := by
  cases s with
  | nil => exact absurd rfl h
  | cons c r => simp only [fes, hd]
theorem fes_some (f p : Nat) (s : List UInt8) {n : Nat} {t : List UInt8} {u : Nat} (hd : Wl.dec sumF s = some (n, t, u)) : fes (f + 1) p s = ⟨n, t, p + u, 0⟩ :: fes f (p + u) (s.drop u) := by
  cases s with
  | nil => simp [Wl.dec] at hd
  | cons c r => simp only [fes, hd]
theorem fes_nil (f p : Nat) : fes f p [] = [] := by cases f <;> rfl

theorem frame_frames (S : List UInt8) (w : World) : Calls Try.prog 82 #[.string (bs S)] w fun e w' => e = .returned (.func (.func 84) #[] #[.pointer (some ⟨w.heap.size, 0, none⟩)]) ∧ w' = w.alloc (.cells #[.string (bs S)] 9) := by
  go_enter Try.func82, Try.ntmps82
  go_wp2_with fail
  go_ret
  exact ⟨rfl, rfl⟩

attribute [local go_sem] Oper.semAt_some
open Go.Shelf in
set_option maxRecDepth 100000 in
set_option maxHeartbeats 4000000 in
theorem frames_stops (n : Nat) (hn : 1 ≤ n) (Bb : Nat) (S : List UInt8) (hl : S.length ≤ 1000000) (w : World) (hB : w.cell? ⟨Bb, 0, none⟩ = some (.string (bs S))) :
    SeqStopsK Fence.wide n Try.prog 84 #[.pointer (some ⟨Bb, 0, none⟩)] encFe (fun A B => B.cell? ⟨Bb, 0, none⟩ = A.cell? ⟨Bb, 0, none⟩) (fun ys => ys = fes (S.length + 1) 0 S) (fun pre => ∃ d x r, fes (S.length + 1) 0 S = d ++ x :: r ∧ pre = d ++ [x]) (fes (S.length + 1) 0 S).length w := fun l J Jx W hW hJa hJxa hY h0 => by
  have hBl := cell_lt hB
  have hBW : W.cell? ⟨Bb, 0, none⟩ = some (.string (bs S)) := (hW.cell (p := ⟨Bb, 0, none⟩) hBl).trans hB
  have HJA := Lib.hid hJa; have HY := Lib.hid hY
  obtain ⟨E, hE⟩ : ∃ E, fes (S.length + 1) 0 S = E := ⟨_, rfl⟩
  rw [hE] at HY ⊢
  obtain ⟨L, hL⟩ : ∃ L, S.length = L := ⟨_, rfl⟩
  have hsz : (bs S).size = L := by rw [bs_size, hL]
  rw [hL] at hl
  have H0 : Hid (∃ f d, E = d ++ fes f 0 (S.drop 0) ∧ (S.drop 0).length < f ∧ J d W) := Lib.hid ⟨S.length + 1, [], by rw [← hE]; rfl, by simp, h0⟩
  have HL := Lib.hid hL
  clear hBl hB hJa hJxa hY h0 hW hE hL
  refine callsIn_of_wp Try.func84 rfl trivial ?_ rfl
  simp only [Try.ntmps84, List.size_toArray, List.length_cons, List.length_nil, Nat.reduceAdd, Nat.reduceSub, Array.replicate_succ, Array.replicate_zero, List.push_toArray, List.append_toArray, List.nil_append, List.cons_append]
  gi_wp2
  gi_loopw [3] (fun i wr => ∃ p : Nat, p ≤ L ∧ i = .int .i64 p ∧ Hid (∃ f d, E = d ++ fes f p (S.drop p) ∧ (S.drop p).length < f ∧ J d wr) ∧ wr.cell? ⟨Bb, 0, none⟩ = some (.string (bs S))) (fun i _ => L - (intOf i).toNat)
  case atStart => exact ⟨0, Nat.zero_le _, rfl, H0, hBW⟩
  case round =>
    clear H0 hBW
    obtain ⟨p, hp, rfl, HI, hBr⟩ := hrel
    by_cases hlt : p < L
    · have hli : ((p : Int) < (L : Int)) = True := by simp; omega
      have hli' : (p : Int) < (L : Int) := by omega
      have hpl : ¬ (L : Int) < (p : Int) := by omega
      have hx : (bs S).extract p L = bs (S.drop p) := by
        rw [bs_extract, List.take_of_length_le (by rw [List.length_drop, HL.out]; omega)]
      have HD := Lib.hid (frame_Decode (S.drop p) (by rw [List.length_drop, HL.out]; omega) wr)
      obtain ⟨f, d, hE, hf, hJd⟩ := HI.out
      have HE := Lib.hid hE; have HF := Lib.hid hf; have HJD := Lib.hid hJd
      clear hE hf hJd
      gi_wp2
      refine ⟨trivial, (callsIn_wide.2 HD.out).mono ?_⟩
      rintro en w1 ⟨hD, hb1⟩
      have hBl := cell_lt hBr
      have hB1 : w1.cell? ⟨Bb, 0, none⟩ = some (.string (bs S)) := (hb1.cell (p := ⟨Bb, 0, none⟩) hBl).trans hBr
      have hJ1 := HJA.out _ wr w1 none HJD.out (below_grown hb1) (fun r h => by cases h)
      obtain ⟨f, rfl⟩ : ∃ g, f = g + 1 := ⟨f - 1, by have := HF.out; omega⟩
      have hne : S.drop p ≠ [] := by
        intro e
        have : (S.drop p).length = 0 := by rw [e]; rfl
        rw [List.length_drop, HL.out] at this; omega
      clear HD HJD hBr hb1
      rcases hD with ⟨m, t, u, hd, rfl⟩ | ⟨hd, rfl⟩
      · have hbA : Below w1.heap.size w1 (w1.alloc (.cells #[.int .u64 (m : Int), .string (bs t)] 93)) := (Below.refl _ _).alloc (Nat.le_refl _) _
        have hJ2 := HJA.out _ w1 _ none hJ1 (below_grown hbA) (fun r h => by cases h)
        have hB2 := (hbA.cell (p := ⟨Bb, 0, none⟩) (cell_lt hB1)).trans hB1
        have hE2 := HE.out
        rw [fes_some f p _ hd] at hE2
        have hu := Wl.dec_used sumF hd
        rw [List.length_drop, HL.out] at hu
        obtain ⟨q, hq⟩ : ∃ q, p + u = q := ⟨_, rfl⟩
        have hqi : (p : Int) + (u : Int) = (q : Int) := by omega
        have hqL : q ≤ L := by omega
        rw [hq] at hE2
        have hyy := HY.out d ⟨m, t, q, 0⟩ _ hJ2 (by rw [hE2]; simp)
        obtain ⟨fn, tmps, assign, body, hy, hR⟩ := hyy
        simp only [encFe] at hy
        have HRR := Lib.hid hR
        have HE2 := Lib.hid hE2
        have HQ := Lib.hid hq
        have HDD : Hid ((S.drop p).drop u = S.drop q) := Lib.hid (by rw [List.drop_drop, hq])
        have HF2 : Hid ((S.drop q).length < f) := Lib.hid (by have := HF.out; rw [List.length_drop, HL.out] at this ⊢; omega)
        have hpq : p < q := by omega
        clear hR hE2 hJ1 hJ2 hbA HY HJA HE HF hd hu hB1 hq
        gi_wp2
        refine HRR.out.mono ?_
        rintro en W3 (⟨rfl, hJ3, hk3⟩ | ⟨rfl, hJx3⟩)
        · have hB3 := hk3.trans hB2
          clear hk3
          gi_wp2
          go_roundw
          case rel => exact ⟨q, hqL, rfl, Lib.hid ⟨f, _, by rw [HE2.out, HDD.out, List.append_assoc]; rfl, HF2.out, hJ3⟩, hB3⟩
          case measure => simp [intOf]; omega
        · gi_wp2
          refine bodyPost_ret (results_none rfl _ _ _) rfl ?_
          exact ⟨⟨_, rfl⟩, .inr ⟨_, ⟨_, _, _, HE2.out, rfl⟩, hJx3⟩⟩
      · have hbA : Below w1.heap.size w1 (w1.alloc (.cells #[.int .u64 0, .string ⟨#[]⟩] 93)) := (Below.refl _ _).alloc (Nat.le_refl _) _
        have hJ2 := HJA.out _ w1 _ none hJ1 (below_grown hbA) (fun r h => by cases h)
        have hB2 := (hbA.cell (p := ⟨Bb, 0, none⟩) (cell_lt hB1)).trans hB1
        have hE2 := HE.out
        rw [fes_none f p _ hne hd] at hE2
        have hyy := HY.out d ⟨0, [], p, decErr (S.drop p)⟩ _ hJ2 (by rw [hE2]; simp)
        obtain ⟨er, her⟩ : ∃ er, decErr (S.drop p) = er := ⟨_, rfl⟩
        have hern : er ≠ 0 := by rw [← her]; exact decErr_ne _
        rw [her] at hE2 hyy ⊢
        obtain ⟨fn, tmps, assign, body, hy, hR⟩ := hyy
        simp only [encFe, show bs [] = (⟨#[]⟩ : ByteArray) from rfl, show ((0 : Nat) : Int) = 0 from rfl] at hy
        have HRR := Lib.hid hR
        have HE2 := Lib.hid hE2
        have hern2 : (er != 0) = true := by simpa using hern
        clear hR hE2 hJ1 hJ2 hbA HY HJA HE HF hd hB1 her
        gi_wp2
        refine HRR.out.mono ?_
        rintro en W3 (⟨rfl, hJ3, hk3⟩ | ⟨rfl, hJx3⟩)
        · gi_wp2
          refine bodyPost_ret (results_none rfl _ _ _) rfl ?_
          exact ⟨⟨_, rfl⟩, .inl ⟨_, HE2.out.symm, hJ3⟩⟩
        · gi_wp2
          refine bodyPost_ret (results_none rfl _ _ _) rfl ?_
          exact ⟨⟨_, rfl⟩, .inr ⟨_, ⟨_, _, _, HE2.out, rfl⟩, hJx3⟩⟩
    · have hli : ((p : Int) < (L : Int)) = False := by simp; omega
      have hli' : ¬ (p : Int) < (L : Int) := by omega
      have hJE : Hid (J E wr) := Lib.hid (by
        obtain ⟨f, d, h1, h2, h3⟩ := HI.out
        rw [List.drop_of_length_le (by rw [HL.out]; omega), fes_nil, List.append_nil] at h1
        rw [h1]; exact h3)
      gi_wp2
      go_end0
      exact ⟨⟨_, rfl⟩, .inl (by first | exact hJE.out | exact ⟨_, rfl, hJE.out⟩)⟩
end Go.Proofs.Ytniflkggcceagaa

namespace Go.Proofs.Ytniflkggcceagaa
open Go Go.RowKit
def recV (n : Nat) : List (List UInt8) → List Value
  | [] => []
  | t :: r => .int .u64 (n : Int) :: .string (bs t) :: recV (n + 1) r
theorem recV_snoc (n : Nat) (l : List (List UInt8)) (t : List UInt8) : recV n (l ++ [t]) = recV n l ++ [.int .u64 ((n + l.length : Nat) : Int), .string (bs t)] := by
  induction l generalizing n with
  | nil => simp [recV]
  | cons x r ih => simp only [List.cons_append, recV, ih, List.length_cons, show n + 1 + r.length = n + (r.length + 1) by omega]
theorem infoRec : (Try.prog.info? 93).map (fun i => (i.zero, i.size, i.bytes)) = some (some (.agg #[.int .u64 0, .string ⟨#[]⟩]), 2, 24) := by kernel_rfl
def Gd (first : Nat) (l : List Fe) : Prop := ∀ i x, l[i]? = some x → x.er = 0 ∧ x.n = first + i
theorem Gd.nil (first : Nat) : Gd first [] := fun i x h => by simp at h
theorem Gd.snoc {first : Nat} {l : List Fe} {x : Fe} (h : Gd first l) (h1 : x.er = 0) (h2 : x.n = first + l.length) : Gd first (l ++ [x]) := fun i y hy => by
  rcases Nat.lt_trichotomy i l.length with hi | hi | hi
  · rw [List.getElem?_append_left hi] at hy; exact h i y hy
  · subst hi; simp at hy; subst hy; exact ⟨h1, h2⟩
  · rw [List.getElem?_append_right (by omega)] at hy
    rw [List.getElem?_eq_none (by simp; omega)] at hy; cases hy
theorem Gd.tail {first : Nat} {x : Fe} {l : List Fe} (h : Gd first (x :: l)) : Gd (first + 1) l := fun i y hy => by
  obtain ⟨a, b⟩ := h (i + 1) y (by simpa using hy)
  exact ⟨a, by omega⟩
theorem scan_none (f n : Nat) (s : List UInt8) (h : Wl.dec sumF s = none) : Wl.scan sumF f n s = [] := by
  cases f with
  | zero => rfl
  | succ f => simp only [Wl.scan, h]
theorem fes_length : ∀ (f p : Nat) (s : List UInt8), (fes f p s).length ≤ s.length
  | 0, _, _ => Nat.zero_le _
  | f + 1, p, s => by
    cases hd : Wl.dec sumF s with
    | none =>
      cases s with
      | nil => exact Nat.zero_le _
      | cons c r => rw [fes_none f p _ (by simp) hd]; simp
    | some x =>
      obtain ⟨n, t, u⟩ := x
      have hu := Wl.dec_used sumF hd
      have h := fes_length f (p + u) (s.drop u)
      rw [fes_some f p _ hd, List.length_cons]
      rw [List.length_drop] at h; omega
theorem scan_done : ∀ (f p first g : Nat) (s : List UInt8), s.length < f → s.length < g → Gd first (fes f p s) → Wl.scan sumF g first s = (fes f p s).map Fe.t
  | 0, _, _, _, _, h, _, _ => by omega
  | f + 1, p, first, g, s, hf, hg, hG => by
    cases hd : Wl.dec sumF s with
    | none =>
      rw [scan_none _ _ _ hd]
      cases s with
      | nil => rfl
      | cons c r =>
        rw [fes_none f p _ (by simp) hd] at hG
        exact absurd (hG 0 _ rfl).1 (decErr_ne _)
    | some x =>
      obtain ⟨n, t, u⟩ := x
      rw [fes_some f p _ hd] at hG ⊢
      obtain ⟨g, rfl⟩ : ∃ k, g = k + 1 := ⟨g - 1, by omega⟩
      have hu := Wl.dec_used sumF hd
      have hn : n = first := (hG 0 _ rfl).2
      simp only [Wl.scan, hd, if_pos hn, List.map_cons]
      rw [scan_done f (p + u) (first + 1) g (s.drop u) (by rw [List.length_drop]; omega) (by rw [List.length_drop]; omega) hG.tail]
theorem scan_stop : ∀ (f p first g : Nat) (s : List UInt8) (d r : List Fe) (x : Fe), s.length < f → s.length < g → fes f p s = d ++ x :: r → Gd first d → (x.er ≠ 0 ∨ x.n ≠ first + d.length) → Wl.scan sumF g first s = d.map Fe.t
  | 0, _, _, _, _, _, _, _, h, _, _, _, _ => by omega
  | f + 1, p, first, g, s, d, r, x, hf, hg, hE, hG, hx => by
    cases hd : Wl.dec sumF s with
    | none =>
      rw [scan_none _ _ _ hd]
      cases s with
      | nil => rw [fes_nil] at hE; simp at hE
      | cons c q =>
        rw [fes_none f p _ (by simp) hd] at hE
        cases d with
        | nil => rfl
        | cons y d => simp at hE
    | some y =>
      obtain ⟨n, t, u⟩ := y
      rw [fes_some f p _ hd] at hE
      obtain ⟨g, rfl⟩ : ∃ k, g = k + 1 := ⟨g - 1, by omega⟩
      have hu := Wl.dec_used sumF hd
      cases d with
      | nil =>
        simp only [List.nil_append, List.cons.injEq] at hE
        obtain ⟨rfl, _⟩ := hE
        rcases hx with hx | hx
        · exact absurd rfl hx
        · simp only [Wl.scan, hd, List.map_nil]
          rw [if_neg (by simpa using hx)]
      | cons y d =>
        simp only [List.cons_append, List.cons.injEq] at hE
        obtain ⟨rfl, hE⟩ := hE
        have hn : n = first := (hG 0 _ rfl).2
        simp only [Wl.scan, hd, if_pos hn, List.map_cons]
        rw [scan_stop f (p + u) (first + 1) g (s.drop u) d r x (by rw [List.length_drop]; omega) (by rw [List.length_drop]; omega) hE hG.tail (by rcases hx with h | h; (· exact Or.inl h); (· right; simp only [List.length_cons] at h; omega))]

def ScanG (S : List UInt8) (first : Nat) (w : World) (e : Ending) (w' : World) : Prop :=
  ∃ a cp used er, e = .returned (.tuple #[.slice a (Wl.scan sumF (S.length + 1) first S).length cp, used, er]) ∧ w'.ownsRow w.heap.size 93 2 (.slice a (Wl.scan sumF (S.length + 1) first S).length cp) (Wl.scan sumF (S.length + 1) first S).length (recV first (Wl.scan sumF (S.length + 1) first S)) ∧ Below w.heap.size w w'
structure ScI (S : List UInt8) (first b : Nat) (w1 : World) (ts : List (List UInt8)) (W : World) : Prop where
  l : ∃ a cp, Bx W (b + 1) 105 (.slice a ts.length cp) ∧ W.ownsRow (b + 5) 93 2 (.slice a ts.length cp) ts.length (recV first ts)
  u : ∃ v : Int, Bx W (b + 2) 3 (.int .i64 v)
  e : ∃ v : Int, Bx W (b + 3) 36 (.int .i64 v)
  f : Bx W b 31 (.int .u64 (first : Int))
  s : Bx W (b + 4) 9 (.string (bs S))
  k : ButS (fun k => k = b + 1 ∨ k = b + 2 ∨ k = b + 3 ∨ b + 5 ≤ k) w1 W
theorem ScI.grown {S : List UInt8} {first b : Nat} {w1 A B : World} {ts : List (List UInt8)} {row : Option Nat} (h : ScI S first b w1 ts A) (hg : A.grownBy B row) (hr : ∀ r, row = some r → ∃ o : Obj, A.heap[r]? = some o ∧ o.isCells = false) (hb : ∀ r, row = some r → b + 5 ≤ r) : ScI S first b w1 ts B := by
  obtain ⟨⟨a, cp, h1, h2⟩, ⟨v, h3⟩, ⟨v2, h4⟩, h5, h6, h7⟩ := h
  exact ⟨⟨a, cp, h1.grown hg (notCells hr h1), own_kept h2 hg hr⟩, ⟨v, h3.grown hg (notCells hr h3)⟩, ⟨v2, h4.grown hg (notCells hr h4)⟩, h5.grown hg (notCells hr h5), h6.grown hg (notCells hr h6), h7.trans (ButS.row hg (fun j e => Or.inr (Or.inr (Or.inr (hb j e)))))⟩
theorem ScI.below {S : List UInt8} {first b : Nat} {w1 A B : World} {ts : List (List UInt8)} (h : ScI S first b w1 ts A) (hb : Below A.heap.size A B) : ScI S first b w1 ts B := h.grown (below_grown hb) (fun r e => by cases e) (fun r e => by cases e)

theorem ScI.setl {S : List UInt8} {first b : Nat} {w1 W : World} {ts : List (List UInt8)} (h : ScI S first b w1 ts W) {v : Value} (hc : W.cell? ⟨b + 1, 0, none⟩ = some v) : ScI S first b w1 ts (W.setCell ⟨b + 1, 0, none⟩ v) := by
  obtain ⟨⟨a, cp, h1, h2⟩, ⟨v1, h3⟩, ⟨v2, h4⟩, h5, h6, h7⟩ := h
  rw [h1.c] at hc
  cases hc
  exact ⟨⟨a, cp, h1.set _, ownsRow_setCell_below h2 (by dsimp only; omega) _⟩, ⟨v1, h3.far (by dsimp only; omega) _⟩, ⟨v2, h4.far (by dsimp only; omega) _⟩, h5.far (by dsimp only; omega) _, h6.far (by dsimp only; omega) _, h7.trans (ButS.set W (p := ⟨b + 1, 0, none⟩) (Or.inl rfl) _)⟩
theorem ScI.setu {S : List UInt8} {first b : Nat} {w1 W : World} {ts : List (List UInt8)} (h : ScI S first b w1 ts W) (v : Int) : ScI S first b w1 ts (W.setCell ⟨b + 2, 0, none⟩ (.int .i64 v)) := by
  obtain ⟨⟨a, cp, h1, h2⟩, ⟨v1, h3⟩, ⟨v2, h4⟩, h5, h6, h7⟩ := h
  exact ⟨⟨a, cp, h1.far (by dsimp only; omega) _, ownsRow_setCell_below h2 (by dsimp only; omega) _⟩, ⟨v, h3.set _⟩, ⟨v2, h4.far (by dsimp only; omega) _⟩, h5.far (by dsimp only; omega) _, h6.far (by dsimp only; omega) _, h7.trans (ButS.set W (p := ⟨b + 2, 0, none⟩) (Or.inr (Or.inl rfl)) _)⟩
theorem ScI.sete {S : List UInt8} {first b : Nat} {w1 W : World} {ts : List (List UInt8)} (h : ScI S first b w1 ts W) (v : Int) : ScI S first b w1 ts (W.setCell ⟨b + 3, 0, none⟩ (.int .i64 v)) := by
  obtain ⟨⟨a, cp, h1, h2⟩, ⟨v1, h3⟩, ⟨v2, h4⟩, h5, h6, h7⟩ := h
  exact ⟨⟨a, cp, h1.far (by dsimp only; omega) _, ownsRow_setCell_below h2 (by dsimp only; omega) _⟩, ⟨v1, h3.far (by dsimp only; omega) _⟩, ⟨v, h4.set _⟩, h5.far (by dsimp only; omega) _, h6.far (by dsimp only; omega) _, h7.trans (ButS.set W (p := ⟨b + 3, 0, none⟩) (Or.inr (Or.inr (Or.inl rfl))) _)⟩
theorem ScI.drew {S : List UInt8} {first b : Nat} {w1 W : World} {ts : List (List UInt8)} (h : ScI S first b w1 ts W) : ScI S first b w1 ts W.drew := h.below ⟨rfl, rfl, rfl, Nat.le_refl _, fun _ _ => rfl⟩
theorem ScI.app {S : List UInt8} {first b n m : Nat} {w1 W W2 w8 : World} {ts : List (List UInt8)} {t : List UInt8} {a : Option Addr} {cp : Nat} {v' : Value} (h : ScI S first b w1 ts W) (hw : b + 5 ≤ W.heap.size) (hb : Below W.heap.size W W2) (_hc : W.cell? ⟨b + 1, 0, none⟩ = some (.slice a n cp))
    (hrow : W.ownsRow (b + 5) 93 2 (.slice a n cp) n (recV first ts)) (hg : W2.grownBy w8 (Value.slice a n cp).ownBlock) (hm : m = (ts ++ [t]).length) (hown : w8.ownsRow (b + 5) 93 2 v' m (recV first (ts ++ [t]))) :
    ScI S first b w1 (ts ++ [t]) (w8.setCell ⟨b + 1, 0, none⟩ v') ∧ (∀ k o, k < W.heap.size → (Value.slice a n cp).ownBlock ≠ some k → w8.cell? ⟨k, o, none⟩ = W.cell? ⟨k, o, none⟩ ∧ w8.frozen? ⟨k, o, none⟩ = W.frozen? ⟨k, o, none⟩) ∧ KeepsFrom w1.heap.size W w8 ∧ b + 5 ≤ w8.heap.size := by
  subst hm
  obtain ⟨a', cp', rfl⟩ := ownShape hown
  have hab := ownAbove hrow
  have hs2 := hb.size
  have hold : ∀ k, k < W.heap.size → (Value.slice a n cp).ownBlock ≠ some k → w8.heap[k]? = W.heap[k]? := fun k hk hn => (hg.block k (by omega) (fun e => hn e.symm)).trans (hb.block k hk)
  obtain ⟨⟨a0, cp0, h1, _⟩, ⟨v1, h3⟩, ⟨v2, h4⟩, h5, h6, h7⟩ := h
  have bx : ∀ k T v, k < b + 5 → Bx W k T v → Bx w8 k T v := fun k T v hk hx => (hold k (by omega) (fun e => by have := hab k e; omega)).trans hx
  refine ⟨⟨⟨a', cp', (bx _ _ _ (by omega) h1).set _, ownsRow_setCell_below hown (by dsimp only; omega) _⟩, ⟨v1, (bx _ _ _ (by omega) h3).far (by dsimp only; omega) _⟩, ⟨v2, (bx _ _ _ (by omega) h4).far (by dsimp only; omega) _⟩, (bx _ _ _ (by omega) h5).far (by dsimp only; omega) _, (bx _ _ _ (by omega) h6).far (by dsimp only; omega) _, ?_⟩, fun k o hk hn => ?_, ⟨by have := hg.size; omega, fun k o h1 h2 h3 => ?_⟩, by have := hg.size; omega⟩
  · refine h7.trans (ButS.trans ?_ (ButS.set w8 (p := ⟨b + 1, 0, none⟩) (Or.inl rfl) _))
    exact ⟨hg.os.trans hb.os, hg.tape.trans hb.tape, hg.output.trans hb.output, by have := hg.size; omega, fun k hk hn => hold k hk (fun e => hn (Or.inr (Or.inr (Or.inr (hab k e)))))⟩
  · have := hold k hk hn
    exact ⟨World.cell?_of_block (w := W) (a := ⟨k, o, none⟩) this, World.frozen?_of_block (w := W) (a := ⟨k, o, none⟩) this⟩
  · have hk := (Array.getElem?_eq_some_iff.1 h2).1
    refine (hold k hk (fun e => ?_)).trans h2
    obtain ⟨C, T, F, hc⟩ := own_cells hrow k e
    rw [hc] at h2; cases h2; cases h3
theorem keepsFrom_set {lo : Nat} (A : World) {p : Addr} (hp : p.block < lo) (v : Value) : KeepsFrom lo A (A.setCell p v) := ⟨by rw [setCell_size]; exact Nat.le_refl _, fun k o hk h _ => (Below.heap_setCell A p v k (by omega)).trans h⟩
theorem keepsFrom_drew {lo : Nat} {A B : World} (h : KeepsFrom lo A B) : KeepsFrom lo A B.drew := ⟨h.1, h.2⟩

attribute [local go_sem] Oper.semAt_some
set_option maxRecDepth 100000 in
set_option maxHeartbeats 4000000 in
theorem frame_Scan (S : List UInt8) (first : Nat) (w : World) (hl : S.length ≤ 1000000) (hf : first ≤ 9223372036854775808) :
    Calls Try.prog 70 #[.string (bs S), .int .u64 (first : Int)] w (ScanG S first w) := by
  obtain ⟨i0, hi, hz0i, hz1i, hz2i⟩ := info_parts infoRec
  refine (callsIn_wide (n := 14)).1 ?_
  refine callsIn_of_wp_marks Try.func70 rfl trivial ?_ rfl
  simp only [Try.ntmps70, List.size_toArray, List.length_cons, List.length_nil, Nat.reduceAdd, Nat.reduceSub, Array.replicate_succ, Array.replicate_zero, List.push_toArray, List.append_toArray, List.nil_append, List.cons_append]
  gi_wp2_with fail
  obtain ⟨W0, hW0⟩ : ∃ W0, (((w.alloc (.cells #[.int .u64 (first : Int)] 31)).alloc (.cells #[.slice none 0 0] 105)).alloc (.cells #[.int .i64 0] 3)).alloc (.cells #[.int .i64 0] 36) = W0 := ⟨_, rfl⟩
  obtain ⟨hB0, hz0, hc0, hc1, hc2, hc3⟩ : Below w.heap.size w W0 ∧ W0.heap.size = w.heap.size + 4 ∧ Bx W0 w.heap.size 31 (.int .u64 (first : Int)) ∧ Bx W0 (w.heap.size + 1) 105 (.slice none 0 0) ∧ Bx W0 (w.heap.size + 2) 3 (.int .i64 0) ∧ Bx W0 (w.heap.size + 3) 36 (.int .i64 0) := by
    rw [← hW0]; exact boxes4 _ _ _ _ _ _ _ _ _
  rw [hW0]
  have HZ0 := Lib.hid hz0
  have HB0 := Lib.hid hB0; have HC0 := Lib.hid (And.intro hc0 (And.intro hc1 (And.intro hc2 hc3)))
  clear hW0 hc0 hc1 hc2 hc3 hB0 hz0
  refine ⟨trivial, (callsIn_wide.2 (frame_frames S W0)).mono ?_⟩
  rintro en w1 ⟨rfl, hw1⟩
  have hb1 : Below W0.heap.size W0 w1 := by rw [hw1]; exact (Below.refl _ _).alloc (Nat.le_refl _) _
  have hs1 : w1.heap.size = w.heap.size + 5 := by rw [hw1]; simp [HZ0.out]
  have hbm : Bx w1 (w.heap.size + 4) 9 (.string (bs S)) := by rw [hw1, ← HZ0.out]; exact (MapKept.heap_alloc _ _).1
  have hI0 : ScI S first w.heap.size w1 [] w1 := by
    obtain ⟨a, b, c, d⟩ := HC0.out
    exact ⟨⟨none, 0, b.below hb1, World.ownsRow_nil _ _ _ _⟩, ⟨0, c.below hb1⟩, ⟨0, d.below hb1⟩, a.below hb1, hbm, ButS.refl _⟩
  have hseq := frames_stops 13 (by decide) W0.heap.size S hl w1 (by rw [HZ0.out]; exact hbm.c)
  have HEL : Hid ((fes (S.length + 1) 0 S).length ≤ 1000000) := Lib.hid (Nat.le_trans (fes_length _ _ _) hl)
  have HSEQ := Lib.hid hseq; have HI0 := Lib.hid hI0; have HS1 := Lib.hid hs1; have HB1 := Lib.hid (HB0.out.trans (hb1.mono HB0.out.size))
  clear hseq hI0 hs1 hbm hw1 hb1
  gi_wp2_with fail
  apply wpIn_rangeFunc_ownH rfl (by decide) (gf := 84) (lb := #[.pointer (some ⟨W0.heap.size, 0, none⟩)]) rfl trivial (enters_of Try.func84 (by kernel_rfl) rfl)
    HSEQ.out (fun h h' => h'.trans h) (fun W l o o' hl h1 h2 h3 => ?hkb) (Below.refl _ _) (fun _ => rfl)
    (fun pre W => Gd first pre ∧ ScI S first w.heap.size w1 (pre.map Fe.t) W)
    (fun c pre W => c = .ret ∧ ∃ p x, pre = p ++ [x] ∧ Gd first p ∧ (x.er ≠ 0 ∨ x.n ≠ first + p.length) ∧ ScI S first w.heap.size w1 (p.map Fe.t) W)
    (Ax := fun x a' W => ∃ Bk, a' = { tmps := #[.string (bs S), .int .u64 (first : Int), undef, .pointer (some ⟨w.heap.size, 0, none⟩), .pointer (some ⟨w.heap.size + 1, 0, none⟩), .pointer (some ⟨w.heap.size + 1 + 1, 0, none⟩), .pointer (some ⟨w.heap.size + 1 + 1 + 1, 0, none⟩), .pointer (some ⟨Bk, 0, none⟩), .pointer (some ⟨Bk + 1, 0, none⟩), .string (bs S), .func (.func 84) #[] #[.pointer (some ⟨W0.heap.size, 0, none⟩)], .agg #[.int .u64 (x.n : Int), .string (bs x.t)], .agg #[.int .i64 (x.at_ : Int), .int .i64 x.er], undef, undef, undef, undef, undef, undef, undef, undef, undef, undef, undef, undef, undef, undef, undef, undef, undef, undef, undef, undef, undef, undef, undef, undef, undef, undef, undef], defers := [] } ∧ w.heap.size + 5 ≤ Bk ∧ W.heap[Bk]? = some (.cells #[.int .u64 (x.n : Int), .string (bs x.t)] 93 (0, 0)) ∧ W.heap[Bk + 1]? = some (.cells #[.int .i64 (x.at_ : Int), .int .i64 x.er] 134 (0, 0)) ∧ (∃ v, Bx W (w.heap.size + 1) 105 v ∧ ∀ g, v.ownBlock = some g → Bk ≠ g ∧ Bk + 1 ≠ g))
  case hkb =>
    show (W.putObj l o').cell? ⟨W0.heap.size, 0, none⟩ = W.cell? ⟨W0.heap.size, 0, none⟩
    exact World.cell?_of_block (w := W) (a := ⟨W0.heap.size, 0, none⟩) (World.putObj_heap_other (by have := HS1.out; have := HZ0.out; dsimp only; omega))
  case hI =>
    rintro s A B row ⟨h1, h2⟩ hg hr
    exact ⟨h1, h2.grown hg (fun r e => (hr r e).2) (fun r e => by have := (hr r e).1; have := HS1.out; omega)⟩
  case hIx =>
    rintro c s A B row ⟨rfl, p, x, h1, h2, h3, h4⟩ hg hr
    exact ⟨rfl, p, x, h1, h2, h3, h4.grown hg (fun r e => (hr r e).2) (fun r e => by have := (hr r e).1; have := HS1.out; omega)⟩
  case h0 => exact ⟨Gd.nil _, HI0.out⟩
  case hAx =>
    rintro x a' s A B row ⟨Bk, h1, h2, h3, h4, v, h5, h6⟩ hg hr
    have hr' := fun r e => (hr r e).2
    exact ⟨Bk, h1, h2, (hg.block Bk (lt_of_block h3) (fun e => notCells hr' h3 e.symm)).trans h3, (hg.block (Bk + 1) (lt_of_block h4) (fun e => notCells hr' h4 e.symm)).trans h4, v, h5.grown hg (notCells hr' h5), h6⟩
  case hassign =>
    rintro l pre x W K ⟨h1, h2⟩ hK
    have hbA : Below W.heap.size W (W.alloc (.cells #[.int .u64 (x.n : Int), .string (bs x.t)] 93)) := (Below.refl _ _).alloc (Nat.le_refl _) _
    have hbB : Below W.heap.size W ((W.alloc (.cells #[.int .u64 (x.n : Int), .string (bs x.t)] 93)).alloc (.cells #[.int .i64 (x.at_ : Int), .int .i64 x.er] 134)) := hbA.alloc hbA.size _
    have hws : w.heap.size + 5 ≤ W.heap.size := by have := h2.k.size; have := HS1.out; omega
    have hkk := hK { tmps := #[.string (bs S), .int .u64 (first : Int), undef, .pointer (some ⟨w.heap.size, 0, none⟩), .pointer (some ⟨w.heap.size + 1, 0, none⟩), .pointer (some ⟨w.heap.size + 1 + 1, 0, none⟩), .pointer (some ⟨w.heap.size + 1 + 1 + 1, 0, none⟩), .pointer (some ⟨W.heap.size, 0, none⟩), .pointer (some ⟨W.heap.size + 1, 0, none⟩), .string (bs S), .func (.func 84) #[] #[.pointer (some ⟨W0.heap.size, 0, none⟩)], .agg #[.int .u64 (x.n : Int), .string (bs x.t)], .agg #[.int .i64 (x.at_ : Int), .int .i64 x.er], undef, undef, undef, undef, undef, undef, undef, undef, undef, undef, undef, undef, undef, undef, undef, undef, undef, undef, undef, undef, undef, undef, undef, undef, undef, undef, undef], defers := [] } _ (keepsFrom_below hbB (Nat.le_refl _)) (hbB.cell (p := ⟨W0.heap.size, 0, none⟩) (by have := HZ0.out; show W0.heap.size < _; omega)) ⟨h1, h2.below hbB⟩ ⟨W.heap.size, rfl, hws, ?_, ?_, ?_⟩
    · gi_wp2
      exact hkk
    · exact (Below.heap_alloc _ _ _ (by simp)).trans (MapKept.heap_alloc _ _).1
    · have := (MapKept.heap_alloc (W.alloc (.cells #[.int .u64 (x.n : Int), .string (bs x.t)] 93)) (.cells #[.int .i64 (x.at_ : Int), .int .i64 x.er] 134)).1
      rw [show (W.alloc (.cells #[.int .u64 (x.n : Int), .string (bs x.t)] 93)).heap.size = W.heap.size + 1 by simp] at this
      exact this
    · obtain ⟨a, cp, g1, g2⟩ := h2.l
      exact ⟨_, g1.below hbB, fun g hg => by obtain ⟨C, T, F, hc⟩ := own_cells g2 g hg; have := lt_of_block hc; omega⟩
  case hbody =>
    rintro l pre x a' W hl hrec ⟨hG, hI⟩ ⟨Bk, rfl, hB, hBc, hBd, vl, hvl, hne⟩ hpre
    obtain ⟨⟨a, cp, hl1, hrow⟩, ⟨v2, hu⟩, ⟨v3, he⟩, hf0, hs0, hk⟩ := id hI
    have c4 := hl1.c; have q4 := hl1.f
    have c5 : W.cell? ⟨w.heap.size + 1 + 1, 0, none⟩ = some (.int .i64 v2) := hu.c
    have q5 : W.frozen? ⟨w.heap.size + 1 + 1, 0, none⟩ = false := hu.f
    have c6 : W.cell? ⟨w.heap.size + 1 + 1 + 1, 0, none⟩ = some (.int .i64 v3) := he.c
    have q6 : W.frozen? ⟨w.heap.size + 1 + 1 + 1, 0, none⟩ = false := he.f
    have c3 := hf0.c
    have r0 : W.cell? ⟨Bk, 0, none⟩ = some (.int .u64 (x.n : Int)) := cell_of hBc 0
    have r1 : W.cell? ⟨Bk, 1, none⟩ = some (.string (bs x.t)) := cell_of hBc 1
    have a0 : W.cell? ⟨Bk + 1, 0, none⟩ = some (.int .i64 (x.at_ : Int)) := cell_of hBd 0
    have a1 : W.cell? ⟨Bk + 1, 1, none⟩ = some (.int .i64 x.er) := cell_of hBd 1
    have hvl2 := hvl.c.symm.trans hl1.c
    cases hvl2
    have hlB := lt_of_block hBc; have hlB2 := lt_of_block hBd
    obtain ⟨er, her⟩ : ∃ z, x.er = z := ⟨_, rfl⟩
    obtain ⟨xn, hxn⟩ : ∃ z, x.n = z := ⟨_, rfl⟩
    obtain ⟨xt, hxt⟩ : ∃ z, x.t = z := ⟨_, rfl⟩
    obtain ⟨xa, hxa⟩ : ∃ z, x.at_ = z := ⟨_, rfl⟩
    obtain ⟨n, hn⟩ : ∃ n, (pre.map Fe.t).length = n := ⟨_, rfl⟩
    rw [hn] at c4 hrow hne
    rw [her] at a1 ⊢; rw [hxn] at r0 ⊢; rw [hxt] at r1 ⊢; rw [hxa] at a0 ⊢
    have HER := Lib.hid her; have HXN := Lib.hid hxn; have HXT := Lib.hid hxt; have HXA := Lib.hid hxa; have HN := Lib.hid hn
    have HI := Lib.hid hI; have HG := Lib.hid hG; have HROW := Lib.hid hrow; have HNE := Lib.hid hne; have HHF := Lib.hid hf
    have HREC := Lib.hid hrec; have HPRE := Lib.hid hpre; have HBk := Lib.hid hB
    clear hl1 hrow hu he hf0 hs0 hk hI hG hne hvl her hxn hxt hxa hn hBc hBd hrec hpre
    have HWS : Hid (w.heap.size + 5 ≤ W.heap.size) := Lib.hid (by have := HI.out.k.size; have := HS1.out; omega)
    have hnl : n ≤ 1000000 := by
      have := HPRE.out; have := HN.out; have := HEL.out
      rw [List.length_map] at *; omega
    by_cases h0 : er = 0
    · have hb : (er != 0) = false := by simp [h0]
      have hnw : IntKind.u64.wrap (n : Int) = n := by rw [IntKind.wrap_u64]; omega
      obtain ⟨fn, hfn⟩ : ∃ k, first + n = k := ⟨_, rfl⟩
      have hfi : (first : Int) + (n : Int) = (fn : Int) := by omega
      have hfw : IntKind.u64.wrap (fn : Int) = fn := by rw [IntKind.wrap_u64]; omega
      by_cases hmm : xn = fn
      · have hb2 : ((xn : Int) != (fn : Int)) = false := by simp [hmm]
        have HEQ : Hid (first + n = xn) := Lib.hid (by omega)
        have HER0 : Hid (x.er = 0) := Lib.hid (HER.out.trans h0)
        clear h0 hmm hfn
        gi_wp2_with fail
        have HBA : Hid (Below W.heap.size W (W.alloc (.cells #[.int .u64 (xn : Int), .string (bs xt)] 93)).drew) := Lib.hid (Below.drew ((Below.refl _ _).alloc (Nat.le_refl _) _))
        have HNEWS : Hid (∀ j u, ([.int .u64 (xn : Int), .string (bs xt)] : List Value)[j]? = some u → (W.alloc (.cells #[.int .u64 (xn : Int), .string (bs xt)] 93)).drew.cell? ((⟨W.heap.size, 0, none⟩ : Addr).add j) = some u) := Lib.hid (World.news_of_block (MapKept.heap_alloc W (.cells #[.int .u64 (xn : Int), .string (bs xt)] 93)).1)
        refine wpIn_region_held (S := fun w' => w'.cell? ⟨Bk, 0, none⟩ = some (.int .u64 (xn : Int)) ∧ w'.cell? ⟨Bk, 1, none⟩ = some (.string (bs xt)) ∧ w'.cell? ⟨Bk + 1, 0, none⟩ = some (.int .i64 (xa : Int))) rfl ?nd8 ?lo8 ⟨r0, r1, a0⟩ (fun hS => ?go8)
        case nd8 =>
          intro i o h c hc
          rcases i with _ | _ | _ | _ | _ | _ | _ | _ | _ | i <;> simp at h <;> subst h <;> cases hc
        case lo8 =>
          rintro ⟨_, _, h⟩
          exact h
        case go8 =>
          refine wpAnyH_take (i := 1) (v := .agg #[.int .u64 (xn : Int), .string (bs xt)]) rfl (by kernel_rfl) (by kernel_rfl) (by kernel_rfl) (fun _ _ _ h => h) (Or.inl ⟨by rfl, fun w' hw => ?_⟩) hS ?_
          · obtain ⟨h1, h2, h3⟩ := hw
            go_simp
          go_frame
          refine wpAnyH_take (i := 4) (v := .pointer (some ⟨Bk + 1, 0, none⟩)) rfl (by kernel_rfl) (by kernel_rfl) (by kernel_rfl) (fun _ _ _ h => h) (Or.inl ⟨by rfl, fun w' hw => ?_⟩) hS ?_
          · obtain ⟨h1, h2, h3⟩ := hw
            go_simp
          go_frame
          refine wpAnyH_take (i := 5) (v := .int .i64 (xa : Int)) rfl (by kernel_rfl) (by kernel_rfl) (by kernel_rfl) (fun _ _ _ h => h) (Or.inl ⟨by rfl, fun w' hw => ?_⟩) hS ?_
          · obtain ⟨h1, h2, h3⟩ := hw
            go_simp
          go_frame
          refine wpAnyH_ready (rs := [0, 2]) (by kernel_rfl) (by simp) ?_
          refine AllReadyH.cons rfl (fun K hK => ?_) (AllReadyH.cons rfl (fun K hK => ?_) AllReadyH.nil)
          · rw [if_pos (by rfl)]
            go_simp
            refine hK.out _ _ hS (fun _ => ?_)
            clear hK
            refine wpAnyH_ready (rs := [2]) (by kernel_rfl) (by simp) ?_
            refine AllReadyH.cons rfl (fun K hK => ?_) AllReadyH.nil
            rw [if_pos (by rfl)]
            go_simp
            have q0 := (HBA.out.cell (p := ⟨Bk, 0, none⟩) hlB).trans r0
            have q1 := (HBA.out.cell (p := ⟨Bk, 1, none⟩) hlB).trans r1
            have q3 := (HBA.out.cell (p := ⟨w.heap.size + 1, 0, none⟩) (by have := HWS.out; show w.heap.size + 1 < _; omega)).trans c4
            have q2 := (HBA.out.cell (p := ⟨Bk + 1, 0, none⟩) hlB2).trans a0
            generalize (W.alloc (.cells #[.int .u64 (xn : Int), .string (bs xt)] 93)).drew = W2 at HBA HNEWS q0 q1 q2 q3 ⊢
            refine hK.out _ _ ⟨q0, q1, q2⟩ (fun hS => ?_)
            clear hK
            refine wpAnyH_ready (rs := [3]) (by kernel_rfl) (by simp) ?_
            refine AllReadyH.cons rfl (fun K hK => ?_) AllReadyH.nil
            refine step_append_lies _ rfl (.tmp 32) (.tmp 34) 105 rfl (w.heap.size + 5) 93 i0 (.agg #[.int .u64 0, .string ⟨#[]⟩]) 2 24 Try.underlying105 hi hz0i hz1i hz2i rfl (by decide) _ n (recV first (pre.map Fe.t)) rfl (ownBelow HROW.out HBA.out) ⟨W.heap.size, 0, none⟩ 1 1 [.int .u64 (xn : Int), .string (bs xt)] rfl rfl HNEWS.out (by intro u hu; simp only [List.mem_cons, List.mem_nil_iff, or_false] at hu; rcases hu with rfl | rfl <;> rfl) (by decide) (by unfold maxLen; omega) (by omega) (by have := HBA.out.size; omega) _ rfl ?_
            intro g8 cp8 w8 hown8 hg8 _ _
            rw [show recV first (pre.map Fe.t) ++ [.int .u64 (xn : Int), .string (bs xt)] = recV first (pre.map Fe.t ++ [xt]) by rw [recV_snoc, HN.out, HEQ.out]] at hown8
            obtain ⟨J1, J2, J3, J4⟩ := HI.out.app HWS.out HBA.out c4 HROW.out hg8 (by rw [List.length_append, HN.out]; rfl) hown8
            have HJ1 := Lib.hid J1; have HJ3 := Lib.hid J3
            have d4 := (J2 (w.heap.size + 1) 0 (by have := HWS.out; omega) (fun e => by have := ownAbove HROW.out _ e; omega)).1.trans c4
            have p4 := (J2 (w.heap.size + 1) 0 (by have := HWS.out; omega) (fun e => by have := ownAbove HROW.out _ e; omega)).2.trans q4
            have d5 := (J2 (w.heap.size + 1 + 1) 0 (by have := HWS.out; omega) (fun e => by have := ownAbove HROW.out _ e; omega)).1.trans c5
            have p5 := (J2 (w.heap.size + 1 + 1) 0 (by have := HWS.out; omega) (fun e => by have := ownAbove HROW.out _ e; omega)).2.trans q5
            have s0 := (J2 Bk 0 hlB (fun e => (HNE.out _ e).1 rfl)).1.trans r0
            have s1 := (J2 Bk 1 hlB (fun e => (HNE.out _ e).1 rfl)).1.trans r1
            have s2 := (J2 (Bk + 1) 0 hlB2 (fun e => (HNE.out _ e).2 rfl)).1.trans a0
            clear J1 J2 J3 hown8 hg8
            refine hK.out _ _ ⟨s0, s1, s2⟩ (fun _ => ?_)
            clear hK
            go_frame
            refine wpAnyH_ready (rs := [6]) (by kernel_rfl) (by simp) ?_
            refine AllReadyH.cons rfl (fun K hK => ?_) AllReadyH.nil
            rw [if_pos (by rfl)]
            go_simp
            have y0 := (World.cell?_setCell_far w8 ⟨w.heap.size + 1, 0, none⟩ ⟨Bk, 0, none⟩ (.slice (some ⟨g8, 0, none⟩) (n + 1) cp8) (by have := HBk.out; dsimp only; omega)).trans s0
            have y1 := (World.cell?_setCell_far w8 ⟨w.heap.size + 1, 0, none⟩ ⟨Bk, 1, none⟩ (.slice (some ⟨g8, 0, none⟩) (n + 1) cp8) (by have := HBk.out; dsimp only; omega)).trans s1
            have y2 := (World.cell?_setCell_far w8 ⟨w.heap.size + 1, 0, none⟩ ⟨Bk + 1, 0, none⟩ (.slice (some ⟨g8, 0, none⟩) (n + 1) cp8) (by have := HBk.out; dsimp only; omega)).trans s2
            have z5 := (World.cell?_setCell_far w8 ⟨w.heap.size + 1, 0, none⟩ ⟨w.heap.size + 1 + 1, 0, none⟩ (.slice (some ⟨g8, 0, none⟩) (n + 1) cp8) (by dsimp only; omega)).trans d5
            have zf : (w8.setCell ⟨w.heap.size + 1, 0, none⟩ (.slice (some ⟨g8, 0, none⟩) (n + 1) cp8)).frozen? ⟨w.heap.size + 1 + 1, 0, none⟩ = false := by rw [World.frozen?_setCell]; exact p5
            have HK9 : Hid (KeepsFrom w1.heap.size W (w8.setCell ⟨w.heap.size + 1, 0, none⟩ (.slice (some ⟨g8, 0, none⟩) (n + 1) cp8))) := Lib.hid (HJ3.out.trans (keepsFrom_set w8 (p := ⟨w.heap.size + 1, 0, none⟩) (by have := HS1.out; dsimp only; omega) _))
            generalize w8.setCell ⟨w.heap.size + 1, 0, none⟩ (.slice (some ⟨g8, 0, none⟩) (n + 1) cp8) = w9 at y0 y1 y2 z5 zf HK9 HJ1 ⊢
            refine hK.out _ _ ⟨y0, y1, y2⟩ (fun _ => ?_)
            clear hK
            refine wpAnyH_ready (rs := [7]) (by kernel_rfl) (by simp) ?_
            refine AllReadyH.cons rfl (fun K hK => ?_) AllReadyH.nil
            rw [if_pos (by rfl)]
            go_simp
            refine hK.out _ _ ⟨?_, ?_, ?_⟩ (fun _ => ?_)
            · exact (World.cell?_setCell_far w9 ⟨w.heap.size + 1 + 1, 0, none⟩ ⟨Bk, 0, none⟩ _ (by have := HBk.out; dsimp only; omega)).trans y0
            · exact (World.cell?_setCell_far w9 ⟨w.heap.size + 1 + 1, 0, none⟩ ⟨Bk, 1, none⟩ _ (by have := HBk.out; dsimp only; omega)).trans y1
            · exact (World.cell?_setCell_far w9 ⟨w.heap.size + 1 + 1, 0, none⟩ ⟨Bk + 1, 0, none⟩ _ (by have := HBk.out; dsimp only; omega)).trans y2
            refine wpAnyH_done (by kernel_rfl) ?_ _
            gi_wp2_with fail
            have I9 := HJ1.out.setu (xa : Int)
            exact ⟨HK9.out.trans (keepsFrom_set w9 (p := ⟨w.heap.size + 1 + 1, 0, none⟩) (by have := HS1.out; dsimp only; omega) _), by rw [HZ0.out]; exact I9.s.c.trans HI.out.s.c.symm, HG.out.snoc HER0.out (by rw [HXN.out, ← HEQ.out, ← HN.out, List.length_map]), by rw [List.map_append, List.map_singleton, HXT.out]; exact I9⟩
          · rw [if_pos (by rfl)]
            go_simp
            have q0 := (HBA.out.cell (p := ⟨Bk, 0, none⟩) hlB).trans r0
            have q1 := (HBA.out.cell (p := ⟨Bk, 1, none⟩) hlB).trans r1
            have q3 := (HBA.out.cell (p := ⟨w.heap.size + 1, 0, none⟩) (by have := HWS.out; show w.heap.size + 1 < _; omega)).trans c4
            have q2 := (HBA.out.cell (p := ⟨Bk + 1, 0, none⟩) hlB2).trans a0
            generalize (W.alloc (.cells #[.int .u64 (xn : Int), .string (bs xt)] 93)).drew = W2 at HBA HNEWS q0 q1 q2 q3 ⊢
            refine hK.out _ _ ⟨q0, q1, q2⟩ (fun hS => ?_)
            clear hK
            refine wpAnyH_ready (rs := [0]) (by kernel_rfl) (by simp) ?_
            refine AllReadyH.cons rfl (fun K hK => ?_) AllReadyH.nil
            rw [if_pos (by rfl)]
            go_simp
            refine hK.out _ _ hS (fun _ => ?_)
            clear hK
            refine wpAnyH_ready (rs := [3]) (by kernel_rfl) (by simp) ?_
            refine AllReadyH.cons rfl (fun K hK => ?_) AllReadyH.nil
            refine step_append_lies _ rfl (.tmp 32) (.tmp 34) 105 rfl (w.heap.size + 5) 93 i0 (.agg #[.int .u64 0, .string ⟨#[]⟩]) 2 24 Try.underlying105 hi hz0i hz1i hz2i rfl (by decide) _ n (recV first (pre.map Fe.t)) rfl (ownBelow HROW.out HBA.out) ⟨W.heap.size, 0, none⟩ 1 1 [.int .u64 (xn : Int), .string (bs xt)] rfl rfl HNEWS.out (by intro u hu; simp only [List.mem_cons, List.mem_nil_iff, or_false] at hu; rcases hu with rfl | rfl <;> rfl) (by decide) (by unfold maxLen; omega) (by omega) (by have := HBA.out.size; omega) _ rfl ?_
            intro g8 cp8 w8 hown8 hg8 _ _
            rw [show recV first (pre.map Fe.t) ++ [.int .u64 (xn : Int), .string (bs xt)] = recV first (pre.map Fe.t ++ [xt]) by rw [recV_snoc, HN.out, HEQ.out]] at hown8
            obtain ⟨J1, J2, J3, J4⟩ := HI.out.app HWS.out HBA.out c4 HROW.out hg8 (by rw [List.length_append, HN.out]; rfl) hown8
            have HJ1 := Lib.hid J1; have HJ3 := Lib.hid J3
            have d4 := (J2 (w.heap.size + 1) 0 (by have := HWS.out; omega) (fun e => by have := ownAbove HROW.out _ e; omega)).1.trans c4
            have p4 := (J2 (w.heap.size + 1) 0 (by have := HWS.out; omega) (fun e => by have := ownAbove HROW.out _ e; omega)).2.trans q4
            have d5 := (J2 (w.heap.size + 1 + 1) 0 (by have := HWS.out; omega) (fun e => by have := ownAbove HROW.out _ e; omega)).1.trans c5
            have p5 := (J2 (w.heap.size + 1 + 1) 0 (by have := HWS.out; omega) (fun e => by have := ownAbove HROW.out _ e; omega)).2.trans q5
            have s0 := (J2 Bk 0 hlB (fun e => (HNE.out _ e).1 rfl)).1.trans r0
            have s1 := (J2 Bk 1 hlB (fun e => (HNE.out _ e).1 rfl)).1.trans r1
            have s2 := (J2 (Bk + 1) 0 hlB2 (fun e => (HNE.out _ e).2 rfl)).1.trans a0
            clear J1 J2 J3 hown8 hg8
            refine hK.out _ _ ⟨s0, s1, s2⟩ (fun _ => ?_)
            clear hK
            go_frame
            refine wpAnyH_ready (rs := [6]) (by kernel_rfl) (by simp) ?_
            refine AllReadyH.cons rfl (fun K hK => ?_) AllReadyH.nil
            rw [if_pos (by rfl)]
            go_simp
            have y0 := (World.cell?_setCell_far w8 ⟨w.heap.size + 1, 0, none⟩ ⟨Bk, 0, none⟩ (.slice (some ⟨g8, 0, none⟩) (n + 1) cp8) (by have := HBk.out; dsimp only; omega)).trans s0
            have y1 := (World.cell?_setCell_far w8 ⟨w.heap.size + 1, 0, none⟩ ⟨Bk, 1, none⟩ (.slice (some ⟨g8, 0, none⟩) (n + 1) cp8) (by have := HBk.out; dsimp only; omega)).trans s1
            have y2 := (World.cell?_setCell_far w8 ⟨w.heap.size + 1, 0, none⟩ ⟨Bk + 1, 0, none⟩ (.slice (some ⟨g8, 0, none⟩) (n + 1) cp8) (by have := HBk.out; dsimp only; omega)).trans s2
            have z5 := (World.cell?_setCell_far w8 ⟨w.heap.size + 1, 0, none⟩ ⟨w.heap.size + 1 + 1, 0, none⟩ (.slice (some ⟨g8, 0, none⟩) (n + 1) cp8) (by dsimp only; omega)).trans d5
            have zf : (w8.setCell ⟨w.heap.size + 1, 0, none⟩ (.slice (some ⟨g8, 0, none⟩) (n + 1) cp8)).frozen? ⟨w.heap.size + 1 + 1, 0, none⟩ = false := by rw [World.frozen?_setCell]; exact p5
            have HK9 : Hid (KeepsFrom w1.heap.size W (w8.setCell ⟨w.heap.size + 1, 0, none⟩ (.slice (some ⟨g8, 0, none⟩) (n + 1) cp8))) := Lib.hid (HJ3.out.trans (keepsFrom_set w8 (p := ⟨w.heap.size + 1, 0, none⟩) (by have := HS1.out; dsimp only; omega) _))
            generalize w8.setCell ⟨w.heap.size + 1, 0, none⟩ (.slice (some ⟨g8, 0, none⟩) (n + 1) cp8) = w9 at y0 y1 y2 z5 zf HK9 HJ1 ⊢
            refine hK.out _ _ ⟨y0, y1, y2⟩ (fun _ => ?_)
            clear hK
            refine wpAnyH_ready (rs := [7]) (by kernel_rfl) (by simp) ?_
            refine AllReadyH.cons rfl (fun K hK => ?_) AllReadyH.nil
            rw [if_pos (by rfl)]
            go_simp
            refine hK.out _ _ ⟨?_, ?_, ?_⟩ (fun _ => ?_)
            · exact (World.cell?_setCell_far w9 ⟨w.heap.size + 1 + 1, 0, none⟩ ⟨Bk, 0, none⟩ _ (by have := HBk.out; dsimp only; omega)).trans y0
            · exact (World.cell?_setCell_far w9 ⟨w.heap.size + 1 + 1, 0, none⟩ ⟨Bk, 1, none⟩ _ (by have := HBk.out; dsimp only; omega)).trans y1
            · exact (World.cell?_setCell_far w9 ⟨w.heap.size + 1 + 1, 0, none⟩ ⟨Bk + 1, 0, none⟩ _ (by have := HBk.out; dsimp only; omega)).trans y2
            refine wpAnyH_done (by kernel_rfl) ?_ _
            gi_wp2_with fail
            have I9 := HJ1.out.setu (xa : Int)
            exact ⟨HK9.out.trans (keepsFrom_set w9 (p := ⟨w.heap.size + 1 + 1, 0, none⟩) (by have := HS1.out; dsimp only; omega) _), by rw [HZ0.out]; exact I9.s.c.trans HI.out.s.c.symm, HG.out.snoc HER0.out (by rw [HXN.out, ← HEQ.out, ← HN.out, List.length_map]), by rw [List.map_append, List.map_singleton, HXT.out]; exact I9⟩
      · have hb2 : ((xn : Int) != (fn : Int)) = true := by simp; omega
        rw [← hfn] at hmm
        have hmm : xn ≠ first + pre.length := by rw [← HN.out, List.length_map] at hmm; exact hmm
        clear hfn
        gi_wp2_with fail
        refine wpIn_region_held (S := fun w' => w'.cell? ⟨w.heap.size + 1, 0, none⟩ = some (.slice a n cp) ∧ w'.cell? ⟨w.heap.size + 1 + 1, 0, none⟩ = some (.int .i64 v2)) rfl ?nd7 ?lo7 ⟨c4, c5⟩ (fun hS => ?go7)
        case nd7 =>
          intro i o h c hc
          rcases i with _ | _ | _ | _ | _ | i <;> simp at h <;> subst h <;> cases hc
        case lo7 =>
          rintro ⟨_, _, h⟩
          exact h
        case go7 =>
          refine wpAnyH_take (i := 0) (v := .slice a n cp) rfl (by kernel_rfl) (by kernel_rfl) (by kernel_rfl) (fun _ _ _ h => h) (Or.inl ⟨by rfl, fun w' hw => ?_⟩) hS ?_
          · obtain ⟨h1, h2⟩ := hw
            go_simp
          go_frame
          refine wpAnyH_take (i := 1) (v := .int .i64 v2) rfl (by kernel_rfl) (by kernel_rfl) (by kernel_rfl) (fun _ _ _ h => h) (Or.inl ⟨by rfl, fun w' hw => ?_⟩) hS ?_
          · obtain ⟨h1, h2⟩ := hw
            go_simp
          go_frame
          refine wpAnyH_ready (rs := [2]) (by kernel_rfl) (by simp) ?_
          refine AllReadyH.cons rfl (fun K hK => ?_) AllReadyH.nil
          rw [if_pos (by rfl)]
          go_simp
          have I4 := Lib.hid ((HI.out.setl c4).drew)
          have k4 : Hid (KeepsFrom w1.heap.size W (W.setCell ⟨w.heap.size + 1, 0, none⟩ (.slice a n cp)).drew) := Lib.hid (keepsFrom_drew (keepsFrom_set (lo := w1.heap.size) W (p := ⟨w.heap.size + 1, 0, none⟩) (by have := HS1.out; dsimp only; omega) _))
          have far4 : ∀ (o : Nat) (b' : Nat), b' ≠ w.heap.size + 1 → (W.setCell ⟨w.heap.size + 1, 0, none⟩ (.slice a n cp)).drew.cell? ⟨b', o, none⟩ = W.cell? ⟨b', o, none⟩ := fun o b' h => World.cell?_setCell_far W ⟨w.heap.size + 1, 0, none⟩ ⟨b', o, none⟩ _ (fun e => h e.symm)
          have d4 : (W.setCell ⟨w.heap.size + 1, 0, none⟩ (.slice a n cp)).drew.cell? ⟨w.heap.size + 1, 0, none⟩ = some (.slice a n cp) := World.cell?_setCell_same' _ _ _ (by rw [c4]; rfl)
          have d5 := (far4 0 (w.heap.size + 1 + 1) (by omega)).trans c5
          have d6 := (far4 0 (w.heap.size + 1 + 1 + 1) (by omega)).trans c6
          have p5 : (W.setCell ⟨w.heap.size + 1, 0, none⟩ (.slice a n cp)).drew.frozen? ⟨w.heap.size + 1 + 1, 0, none⟩ = false := by show World.frozen? (W.setCell _ _) _ = false; rw [World.frozen?_setCell]; exact q5
          have p6 : (W.setCell ⟨w.heap.size + 1, 0, none⟩ (.slice a n cp)).drew.frozen? ⟨w.heap.size + 1 + 1 + 1, 0, none⟩ = false := by show World.frozen? (W.setCell _ _) _ = false; rw [World.frozen?_setCell]; exact q6
          generalize (W.setCell ⟨w.heap.size + 1, 0, none⟩ (.slice a n cp)).drew = W4 at I4 k4 far4 d4 d5 d6 p5 p6 ⊢
          clear far4
          refine hK.out _ _ ⟨d4, d5⟩ (fun _ => ?_)
          clear hK
          refine wpAnyH_ready (rs := [3]) (by kernel_rfl) (by simp) ?_
          refine AllReadyH.cons rfl (fun K hK => ?_) AllReadyH.nil
          rw [if_pos (by rfl)]
          go_simp
          have I5 := Lib.hid (I4.out.setu v2)
          have k5 : Hid (KeepsFrom w1.heap.size W (W4.setCell ⟨w.heap.size + 1 + 1, 0, none⟩ (.int .i64 v2))) := Lib.hid (k4.out.trans (keepsFrom_set W4 (p := ⟨w.heap.size + 1 + 1, 0, none⟩) (by have := HS1.out; dsimp only; omega) _))
          have x4 : (W4.setCell ⟨w.heap.size + 1 + 1, 0, none⟩ (.int .i64 v2)).cell? ⟨w.heap.size + 1, 0, none⟩ = some (.slice a n cp) := (World.cell?_setCell_far W4 ⟨w.heap.size + 1 + 1, 0, none⟩ ⟨w.heap.size + 1, 0, none⟩ _ (by dsimp only; omega)).trans d4
          have x5 : (W4.setCell ⟨w.heap.size + 1 + 1, 0, none⟩ (.int .i64 v2)).cell? ⟨w.heap.size + 1 + 1, 0, none⟩ = some (.int .i64 v2) := World.cell?_setCell_same' _ _ _ (by rw [d5]; rfl)
          have x6 : (W4.setCell ⟨w.heap.size + 1 + 1, 0, none⟩ (.int .i64 v2)).cell? ⟨w.heap.size + 1 + 1 + 1, 0, none⟩ = some (.int .i64 v3) := (World.cell?_setCell_far W4 ⟨w.heap.size + 1 + 1, 0, none⟩ ⟨w.heap.size + 1 + 1 + 1, 0, none⟩ _ (by dsimp only; omega)).trans d6
          have xf : (W4.setCell ⟨w.heap.size + 1 + 1, 0, none⟩ (.int .i64 v2)).frozen? ⟨w.heap.size + 1 + 1 + 1, 0, none⟩ = false := by rw [World.frozen?_setCell]; exact p6
          generalize W4.setCell ⟨w.heap.size + 1 + 1, 0, none⟩ (.int .i64 v2) = W5 at I5 k5 x4 x5 x6 xf ⊢
          refine hK.out _ _ ⟨x4, x5⟩ (fun _ => ?_)
          clear hK
          refine wpAnyH_ready (rs := [4]) (by kernel_rfl) (by simp) ?_
          refine AllReadyH.cons rfl (fun K hK => ?_) AllReadyH.nil
          rw [if_pos (by rfl)]
          go_simp
          refine hK.out _ _ ⟨?_, ?_⟩ (fun _ => ?_)
          · exact (World.cell?_setCell_far W5 ⟨w.heap.size + 1 + 1 + 1, 0, none⟩ ⟨w.heap.size + 1, 0, none⟩ _ (by dsimp only; omega)).trans x4
          · exact (World.cell?_setCell_far W5 ⟨w.heap.size + 1 + 1 + 1, 0, none⟩ ⟨w.heap.size + 1 + 1, 0, none⟩ _ (by dsimp only; omega)).trans x5
          refine wpAnyH_done (by kernel_rfl) ?_ _
          gi_wp2_with fail
          exact ⟨k5.out.trans (keepsFrom_set W5 (p := ⟨w.heap.size + 1 + 1 + 1, 0, none⟩) (by have := HS1.out; dsimp only; omega) _), rfl, pre, x, rfl, HG.out, Or.inr (by rw [HXN.out]; exact hmm), I5.out.sete 7⟩
    · have hb : (er != 0) = true := by simpa using h0
      gi_wp2_with fail
      refine wpIn_region_held (S := fun w' => w'.cell? ⟨w.heap.size + 1, 0, none⟩ = some (.slice a n cp) ∧ w'.cell? ⟨w.heap.size + 1 + 1, 0, none⟩ = some (.int .i64 v2) ∧ w'.cell? ⟨Bk + 1, 1, none⟩ = some (.int .i64 er)) rfl ?nd1 ?lo1 ⟨c4, c5, a1⟩ (fun hS => ?go1)
      case nd1 =>
        intro i o h c hc
        rcases i with _ | _ | _ | _ | _ | _ | _ | _ | i <;> simp at h <;> subst h <;> cases hc
      case lo1 =>
        rintro ⟨_, _, h⟩
        exact h
      case go1 =>
        refine wpAnyH_take (i := 0) (v := .slice a n cp) rfl (by kernel_rfl) (by kernel_rfl) (by kernel_rfl) (fun _ _ _ h => h) (Or.inl ⟨by rfl, fun w' hw => ?_⟩) hS ?_
        · obtain ⟨h1, h2, h3⟩ := hw
          go_simp
        go_frame
        refine wpAnyH_take (i := 1) (v := .int .i64 v2) rfl (by kernel_rfl) (by kernel_rfl) (by kernel_rfl) (fun _ _ _ h => h) (Or.inl ⟨by rfl, fun w' hw => ?_⟩) hS ?_
        · obtain ⟨h1, h2, h3⟩ := hw
          go_simp
        go_frame
        refine wpAnyH_take (i := 2) (v := .pointer (some ⟨Bk + 1, 1, none⟩)) rfl (by kernel_rfl) (by kernel_rfl) (by kernel_rfl) (fun _ _ _ h => h) (Or.inl ⟨by rfl, fun w' hw => ?_⟩) hS ?_
        · obtain ⟨h1, h2, h3⟩ := hw
          go_simp
        go_frame
        refine wpAnyH_take (i := 3) (v := .int .i64 er) rfl (by kernel_rfl) (by kernel_rfl) (by kernel_rfl) (fun _ _ _ h => h) (Or.inl ⟨by rfl, fun w' hw => ?_⟩) hS ?_
        · obtain ⟨h1, h2, h3⟩ := hw
          go_simp
        go_frame
        refine wpAnyH_ready (rs := [4]) (by kernel_rfl) (by simp) ?_
        refine AllReadyH.cons rfl (fun K hK => ?_) AllReadyH.nil
        rw [if_pos (by rfl)]
        go_simp
        have I4 := Lib.hid ((HI.out.setl c4).drew)
        have k4 : Hid (KeepsFrom w1.heap.size W (W.setCell ⟨w.heap.size + 1, 0, none⟩ (.slice a n cp)).drew) := Lib.hid (keepsFrom_drew (keepsFrom_set (lo := w1.heap.size) W (p := ⟨w.heap.size + 1, 0, none⟩) (by have := HS1.out; dsimp only; omega) _))
        have far4 : ∀ (o : Nat) (b' : Nat), b' ≠ w.heap.size + 1 → (W.setCell ⟨w.heap.size + 1, 0, none⟩ (.slice a n cp)).drew.cell? ⟨b', o, none⟩ = W.cell? ⟨b', o, none⟩ := fun o b' h => World.cell?_setCell_far W ⟨w.heap.size + 1, 0, none⟩ ⟨b', o, none⟩ _ (fun e => h e.symm)
        have d4 : (W.setCell ⟨w.heap.size + 1, 0, none⟩ (.slice a n cp)).drew.cell? ⟨w.heap.size + 1, 0, none⟩ = some (.slice a n cp) := World.cell?_setCell_same' _ _ _ (by rw [c4]; rfl)
        have d5 := (far4 0 (w.heap.size + 1 + 1) (by omega)).trans c5
        have d6 := (far4 0 (w.heap.size + 1 + 1 + 1) (by omega)).trans c6
        have e1 := (far4 1 (Bk + 1) (by have := HBk.out; omega)).trans a1
        have p5 : (W.setCell ⟨w.heap.size + 1, 0, none⟩ (.slice a n cp)).drew.frozen? ⟨w.heap.size + 1 + 1, 0, none⟩ = false := by show World.frozen? (W.setCell _ _) _ = false; rw [World.frozen?_setCell]; exact q5
        have p6 : (W.setCell ⟨w.heap.size + 1, 0, none⟩ (.slice a n cp)).drew.frozen? ⟨w.heap.size + 1 + 1 + 1, 0, none⟩ = false := by show World.frozen? (W.setCell _ _) _ = false; rw [World.frozen?_setCell]; exact q6
        generalize (W.setCell ⟨w.heap.size + 1, 0, none⟩ (.slice a n cp)).drew = W4 at I4 k4 far4 d4 d5 d6 e1 p5 p6 ⊢
        clear far4
        refine hK.out _ _ ⟨d4, d5, e1⟩ (fun _ => ?_)
        clear hK
        refine wpAnyH_ready (rs := [5]) (by kernel_rfl) (by simp) ?_
        refine AllReadyH.cons rfl (fun K hK => ?_) AllReadyH.nil
        rw [if_pos (by rfl)]
        go_simp
        have I5 := Lib.hid (I4.out.setu v2)
        have k5 : Hid (KeepsFrom w1.heap.size W (W4.setCell ⟨w.heap.size + 1 + 1, 0, none⟩ (.int .i64 v2))) := Lib.hid (k4.out.trans (keepsFrom_set W4 (p := ⟨w.heap.size + 1 + 1, 0, none⟩) (by have := HS1.out; dsimp only; omega) _))
        have x4 : (W4.setCell ⟨w.heap.size + 1 + 1, 0, none⟩ (.int .i64 v2)).cell? ⟨w.heap.size + 1, 0, none⟩ = some (.slice a n cp) := (World.cell?_setCell_far W4 ⟨w.heap.size + 1 + 1, 0, none⟩ ⟨w.heap.size + 1, 0, none⟩ _ (by dsimp only; omega)).trans d4
        have x5 : (W4.setCell ⟨w.heap.size + 1 + 1, 0, none⟩ (.int .i64 v2)).cell? ⟨w.heap.size + 1 + 1, 0, none⟩ = some (.int .i64 v2) := World.cell?_setCell_same' _ _ _ (by rw [d5]; rfl)
        have x6 : (W4.setCell ⟨w.heap.size + 1 + 1, 0, none⟩ (.int .i64 v2)).cell? ⟨w.heap.size + 1 + 1 + 1, 0, none⟩ = some (.int .i64 v3) := (World.cell?_setCell_far W4 ⟨w.heap.size + 1 + 1, 0, none⟩ ⟨w.heap.size + 1 + 1 + 1, 0, none⟩ _ (by dsimp only; omega)).trans d6
        have xe : (W4.setCell ⟨w.heap.size + 1 + 1, 0, none⟩ (.int .i64 v2)).cell? ⟨Bk + 1, 1, none⟩ = some (.int .i64 er) := (World.cell?_setCell_far W4 ⟨w.heap.size + 1 + 1, 0, none⟩ ⟨Bk + 1, 1, none⟩ _ (by have := HBk.out; dsimp only; omega)).trans e1
        have xf : (W4.setCell ⟨w.heap.size + 1 + 1, 0, none⟩ (.int .i64 v2)).frozen? ⟨w.heap.size + 1 + 1 + 1, 0, none⟩ = false := by rw [World.frozen?_setCell]; exact p6
        generalize W4.setCell ⟨w.heap.size + 1 + 1, 0, none⟩ (.int .i64 v2) = W5 at I5 k5 x4 x5 x6 xe xf ⊢
        refine hK.out _ _ ⟨x4, x5, xe⟩ (fun _ => ?_)
        clear hK
        refine wpAnyH_ready (rs := [6]) (by kernel_rfl) (by simp) ?_
        refine AllReadyH.cons rfl (fun K hK => ?_) AllReadyH.nil
        rw [if_pos (by rfl)]
        go_simp
        refine hK.out _ _ ⟨?_, ?_, ?_⟩ (fun _ => ?_)
        · exact (World.cell?_setCell_far W5 ⟨w.heap.size + 1 + 1 + 1, 0, none⟩ ⟨w.heap.size + 1, 0, none⟩ _ (by dsimp only; omega)).trans x4
        · exact (World.cell?_setCell_far W5 ⟨w.heap.size + 1 + 1 + 1, 0, none⟩ ⟨w.heap.size + 1 + 1, 0, none⟩ _ (by dsimp only; omega)).trans x5
        · exact (World.cell?_setCell_far W5 ⟨w.heap.size + 1 + 1 + 1, 0, none⟩ ⟨Bk + 1, 1, none⟩ _ (by have := HBk.out; dsimp only; omega)).trans xe
        refine wpAnyH_done (by kernel_rfl) ?_ _
        gi_wp2_with fail
        exact ⟨k5.out.trans (keepsFrom_set W5 (p := ⟨w.heap.size + 1 + 1 + 1, 0, none⟩) (by have := HS1.out; dsimp only; omega) _), rfl, pre, x, rfl, HG.out, Or.inl (by rw [HER.out]; exact h0), I5.out.sete er⟩
  case hdone =>
    rintro D xs W hD rfl ⟨hG, hI⟩ hdef
    have hsc := scan_done (S.length + 1) 0 first (S.length + 1) S (by omega) (by omega) hG
    obtain ⟨⟨a, cp, hl1, hrow⟩, ⟨v2, hu⟩, ⟨v3, he⟩, hf0, hs0, hk⟩ := id hI
    rw [← hsc] at hl1 hrow hI
    obtain ⟨T, hT⟩ : ∃ T, Wl.scan sumF (S.length + 1) first S = T := ⟨_, rfl⟩
    rw [hT] at hl1 hrow hI
    obtain ⟨n, hn⟩ : ∃ n, T.length = n := ⟨_, rfl⟩
    rw [hn] at hl1 hrow
    have c4 := hl1.c; have q4 := hl1.f
    have c5 : W.cell? ⟨w.heap.size + 1 + 1, 0, none⟩ = some (.int .i64 v2) := hu.c
    have q5 : W.frozen? ⟨w.heap.size + 1 + 1, 0, none⟩ = false := hu.f
    have c6 : W.cell? ⟨w.heap.size + 1 + 1 + 1, 0, none⟩ = some (.int .i64 v3) := he.c
    have q6 : W.frozen? ⟨w.heap.size + 1 + 1 + 1, 0, none⟩ = false := he.f
    have HI := Lib.hid hI; have HT := Lib.hid hT; have HN := Lib.hid hn; have HDEF := Lib.hid hdef
    clear hG hsc hl1 hrow hu he hf0 hs0 hk hI hT hn hdef
    have hDb : w.heap.size + 5 ≤ D := by have := HS1.out; omega
    gi_wp2_with fail
    refine wpIn_normal _ ?_ (fun _ _ h => h)
    refine wpIn_region_heldW (S := fun w' => w'.cell? ⟨w.heap.size + 1, 0, none⟩ = some (.slice a n cp) ∧ w'.cell? ⟨w.heap.size + 1 + 1, 0, none⟩ = some (.int .i64 v2)) rfl ?lo9 ⟨c4, c5⟩ (fun hS => ?go9)
    case lo9 =>
      rintro ⟨_, _, h⟩
      exact h
    case go9 =>
      refine wpAnyH_take (i := 0) (v := .slice a n cp) rfl (by kernel_rfl) (by kernel_rfl) (by kernel_rfl) (fun _ _ _ h => h) (Or.inl ⟨by rfl, fun w' hw => ?_⟩) hS ?_
      · obtain ⟨h1, h2⟩ := hw
        go_simp
      go_frame
      refine wpAnyH_take (i := 1) (v := .int .i64 v2) rfl (by kernel_rfl) (by kernel_rfl) (by kernel_rfl) (fun _ _ _ h => h) (Or.inl ⟨by rfl, fun w' hw => ?_⟩) hS ?_
      · obtain ⟨h1, h2⟩ := hw
        go_simp
      go_frame
      refine wpAnyH_ready (rs := [2]) (by kernel_rfl) (by simp) ?_
      refine AllReadyH.cons rfl (fun K hK => ?_) AllReadyH.nil
      rw [if_pos (by rfl)]
      go_simp
      have I4 := Lib.hid ((HI.out.setl c4).drew)
      have far4 : ∀ (o : Nat) (b' : Nat), b' ≠ w.heap.size + 1 → (W.setCell ⟨w.heap.size + 1, 0, none⟩ (.slice a n cp)).drew.cell? ⟨b', o, none⟩ = W.cell? ⟨b', o, none⟩ := fun o b' h => World.cell?_setCell_far W ⟨w.heap.size + 1, 0, none⟩ ⟨b', o, none⟩ _ (fun e => h e.symm)
      have d4 : (W.setCell ⟨w.heap.size + 1, 0, none⟩ (.slice a n cp)).drew.cell? ⟨w.heap.size + 1, 0, none⟩ = some (.slice a n cp) := World.cell?_setCell_same' _ _ _ (by rw [c4]; rfl)
      have d5 := (far4 0 (w.heap.size + 1 + 1) (by omega)).trans c5
      have d6 := (far4 0 (w.heap.size + 1 + 1 + 1) (by omega)).trans c6
      have p5 : (W.setCell ⟨w.heap.size + 1, 0, none⟩ (.slice a n cp)).drew.frozen? ⟨w.heap.size + 1 + 1, 0, none⟩ = false := by show World.frozen? (W.setCell _ _) _ = false; rw [World.frozen?_setCell]; exact q5
      have p6 : (W.setCell ⟨w.heap.size + 1, 0, none⟩ (.slice a n cp)).drew.frozen? ⟨w.heap.size + 1 + 1 + 1, 0, none⟩ = false := by show World.frozen? (W.setCell _ _) _ = false; rw [World.frozen?_setCell]; exact q6
      have hd4 : (W.setCell ⟨w.heap.size + 1, 0, none⟩ (.slice a n cp)).drew.heap[D]? = some (.deferred (some [])) := (Below.heap_setCell W _ _ D (by dsimp only; omega)).trans HDEF.out
      have HD4 := Lib.hid hd4
      clear hd4
      generalize (W.setCell ⟨w.heap.size + 1, 0, none⟩ (.slice a n cp)).drew = W4 at I4 far4 d4 d5 d6 p5 p6 HD4 ⊢
      clear far4
      refine hK.out _ _ ⟨d4, d5⟩ (fun _ => ?_)
      clear hK
      refine wpAnyH_ready (rs := [3]) (by kernel_rfl) (by simp) ?_
      refine AllReadyH.cons rfl (fun K hK => ?_) AllReadyH.nil
      rw [if_pos (by rfl)]
      go_simp
      have I5 := Lib.hid (I4.out.setu v2)
      have x4 : (W4.setCell ⟨w.heap.size + 1 + 1, 0, none⟩ (.int .i64 v2)).cell? ⟨w.heap.size + 1, 0, none⟩ = some (.slice a n cp) := (World.cell?_setCell_far W4 ⟨w.heap.size + 1 + 1, 0, none⟩ ⟨w.heap.size + 1, 0, none⟩ _ (by dsimp only; omega)).trans d4
      have x5 : (W4.setCell ⟨w.heap.size + 1 + 1, 0, none⟩ (.int .i64 v2)).cell? ⟨w.heap.size + 1 + 1, 0, none⟩ = some (.int .i64 v2) := World.cell?_setCell_same' _ _ _ (by rw [d5]; rfl)
      have x6 : (W4.setCell ⟨w.heap.size + 1 + 1, 0, none⟩ (.int .i64 v2)).cell? ⟨w.heap.size + 1 + 1 + 1, 0, none⟩ = some (.int .i64 v3) := (World.cell?_setCell_far W4 ⟨w.heap.size + 1 + 1, 0, none⟩ ⟨w.heap.size + 1 + 1 + 1, 0, none⟩ _ (by dsimp only; omega)).trans d6
      have xf : (W4.setCell ⟨w.heap.size + 1 + 1, 0, none⟩ (.int .i64 v2)).frozen? ⟨w.heap.size + 1 + 1 + 1, 0, none⟩ = false := by rw [World.frozen?_setCell]; exact p6
      have HD5 : Hid ((W4.setCell ⟨w.heap.size + 1 + 1, 0, none⟩ (.int .i64 v2)).heap[D]? = some (.deferred (some []))) := Lib.hid ((Below.heap_setCell W4 _ _ D (by dsimp only; omega)).trans HD4.out)
      generalize W4.setCell ⟨w.heap.size + 1 + 1, 0, none⟩ (.int .i64 v2) = W5 at I5 x4 x5 x6 xf HD5 ⊢
      refine hK.out _ _ ⟨x4, x5⟩ (fun _ => ?_)
      clear hK
      refine wpAnyH_ready (rs := [4]) (by kernel_rfl) (by simp) ?_
      refine AllReadyH.cons rfl (fun K hK => ?_) AllReadyH.nil
      rw [if_pos (by rfl)]
      go_simp
      have I6 := Lib.hid (I5.out.sete 0)
      have y4 := (World.cell?_setCell_far W5 ⟨w.heap.size + 1 + 1 + 1, 0, none⟩ ⟨w.heap.size + 1, 0, none⟩ (.int .i64 0) (by dsimp only; omega)).trans x4
      have y5 := (World.cell?_setCell_far W5 ⟨w.heap.size + 1 + 1 + 1, 0, none⟩ ⟨w.heap.size + 1 + 1, 0, none⟩ (.int .i64 0) (by dsimp only; omega)).trans x5
      have HD6 : Hid ((W5.setCell ⟨w.heap.size + 1 + 1 + 1, 0, none⟩ (.int .i64 0)).heap[D]? = some (.deferred (some []))) := Lib.hid ((Below.heap_setCell W5 _ _ D (by dsimp only; omega)).trans HD5.out)
      generalize W5.setCell ⟨w.heap.size + 1 + 1 + 1, 0, none⟩ (.int .i64 0) = W6 at I6 y4 y5 HD6 ⊢
      refine hK.out _ _ ⟨y4, y5⟩ (fun _ => ?_)
      refine wpAnyH_done (by kernel_rfl) ?_ _
      clear hK hS
      gi_wp2_with fail
      obtain ⟨⟨a', cp', hl1, hrow⟩, ⟨v2', hu⟩, ⟨v3', he⟩, hf0, hs0, hk⟩ := I6.out
      have HB1k := HB1.out.trans (hk.below (B := w.heap.size + 1) (fun k hk => by rcases hk with h | h | h | h <;> omega) (by have := HS1.out; omega) |>.mono (by omega))
      have hpb : Below (w.heap.size + 5) W6 (W6.putObj D (.deferred none)) := belowK_b (w := w1) (by have := HS1.out; omega) W6 D _ _ hD HD6.out rfl rfl
      refine ⟨by simp, .inl ⟨_, _, rfl, run_takeDeferred HD6.out, ?_⟩⟩
      have d4 := (hpb.cell (p := ⟨w.heap.size + 1, 0, none⟩) (by show w.heap.size + 1 < w.heap.size + 5; omega)).trans hl1.c
      have d5 : (W6.putObj D (.deferred none)).cell? ⟨w.heap.size + 1 + 1, 0, none⟩ = some (.int .i64 v2') := (hpb.cell (p := ⟨w.heap.size + 1 + 1, 0, none⟩) (by show w.heap.size + 1 + 1 < w.heap.size + 5; omega)).trans hu.c
      have d6 : (W6.putObj D (.deferred none)).cell? ⟨w.heap.size + 1 + 1 + 1, 0, none⟩ = some (.int .i64 v3') := (hpb.cell (p := ⟨w.heap.size + 1 + 1 + 1, 0, none⟩) (by show w.heap.size + 1 + 1 + 1 < w.heap.size + 5; omega)).trans he.c
      unfold ScanG
      rw [HT.out]
      refine ⟨.tuple #[.slice a' T.length cp', .int .i64 v2', .int .i64 v3'], by simp [results, Try.results70, go_sem, d4, d5, d6], ⟨a', cp', _, _, rfl, ?_, HB1k.trans (hpb.mono (by omega))⟩⟩
      exact ownsRow_lower (ownsRow_putObj hrow _ HD6.out rfl) (by omega)
  case hstop =>
    rintro D c pre W hD ⟨d, y, r, hE, rfl⟩ ⟨rfl, p, x, hp, hG, hx, hI⟩ hdef
    obtain ⟨rfl, rfl⟩ : d = p ∧ y = x := by
      have h2 := List.append_inj_right' hp rfl
      exact ⟨List.append_inj_left' hp rfl, by simpa using h2⟩
    have hsc := scan_stop (S.length + 1) 0 first (S.length + 1) S d r y (by omega) (by omega) hE hG hx
    obtain ⟨⟨a, cp, hl1, hrow⟩, ⟨v2, hu⟩, ⟨v3, he⟩, hf0, hs0, hk⟩ := id hI
    rw [← hsc] at hl1 hrow hI
    have HB1k := HB1.out.trans (hk.below (B := w.heap.size + 1) (fun k hk => by rcases hk with h | h | h | h <;> omega) (by have := HS1.out; omega) |>.mono (by omega))
    gi_wp2_with fail
    have hpb : Below (w.heap.size + 5) W (W.putObj D (.deferred none)) := belowK_b (w := w1) (by have := HS1.out; omega) W D _ _ hD hdef rfl rfl
    refine ⟨by simp, .inl ⟨_, _, rfl, run_takeDeferred hdef, ?_⟩⟩
    have d4 := (hpb.cell (p := ⟨w.heap.size + 1, 0, none⟩) (by show w.heap.size + 1 < w.heap.size + 5; omega)).trans hl1.c
    have d5 : (W.putObj D (.deferred none)).cell? ⟨w.heap.size + 1 + 1, 0, none⟩ = some (.int .i64 v2) := (hpb.cell (p := ⟨w.heap.size + 1 + 1, 0, none⟩) (by show w.heap.size + 1 + 1 < w.heap.size + 5; omega)).trans hu.c
    have d6 : (W.putObj D (.deferred none)).cell? ⟨w.heap.size + 1 + 1 + 1, 0, none⟩ = some (.int .i64 v3) := (hpb.cell (p := ⟨w.heap.size + 1 + 1 + 1, 0, none⟩) (by show w.heap.size + 1 + 1 + 1 < w.heap.size + 5; omega)).trans he.c
    refine ⟨.tuple #[.slice a (Wl.scan sumF (S.length + 1) first S).length cp, .int .i64 v2, .int .i64 v3], by simp [results, Try.results70, go_sem, d4, d5, d6], ⟨a, cp, _, _, rfl, ?_, HB1k.trans (hpb.mono (by omega))⟩⟩
    exact ownsRow_lower (ownsRow_putObj hrow _ hdef rfl) (by omega)
end Go.Proofs.Ytniflkggcceagaa
