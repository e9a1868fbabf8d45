/- Contracts: the log's frees, free, piece, does. Contracts: the log's does, Sync; its closures. Contract: wal.Make on a disk whose files are empty. Contracts: frame.frames as a sequence; frame.Scan. -/
import Derived.Test.YtniflkggcceagaaQv00
import Derived.Test.YtniflkggcceagaaQv03
import Derived.RangeFuncLeaves
import Derived.RangeFuncWrites
import Derived.RangeFuncBox
import Derived.RangeFuncBound
import Derived.RangeFuncCalls
import Derived.RangeFuncNested
import Derived.Shelf.Abstract
import Derived.OwnWalkIn
import Derived.TacticsInMore
import Derived.LoopIn
import Derived.LoopNIn
namespace Go.Proofs.Ytniflkggcceagaa
open Go Go.RowKit
def cntE (g : Nat → List UInt8) : Nat → Nat
  | 0 => 0
  | k + 1 => cntE g k + (if g k = [] then 1 else 0)
theorem cntE_le (g : Nat → List UInt8) : ∀ k, cntE g k ≤ k
  | 0 => Nat.le_refl _
  | k + 1 => by have := cntE_le g k; unfold cntE; split <;> omega
def freesP (D : Dk) : Nat := if D.fuse = 0 then 3 else cntE D.now 3
def freeP (D : Dk) : Int := if D.fuse = 0 then -1 else if D.now 0 = [] then 0 else if D.now 1 = [] then 1 else if D.now 2 = [] then 2 else -1
theorem bs_empty (s : List UInt8) : (bs s).toList.isEmpty = decide (s = []) := by
  cases s with
  | nil => simp [bs]
  | cons c r => simp [bs]
set_option maxRecDepth 100000 in
set_option maxHeartbeats 1000000 in
theorem wal_frees (w : World) {S T : Nat → Prop} {x d : Nat} {W : Wa} {D : Dk} (h : WalAt w T x d W) (hd : DiskAt w S d D) (hn : 3 ≤ D.n) : Calls Try.prog 33 #[.pointer (some ⟨x, 0, none⟩)] w fun e w' => e = .returned (.int .i64 (freesP D : Nat)) ∧ w' = w := by
  have c0 := h.c0; have c1 := h.c1
  have HD := Lib.hid hd
  clear h hd
  unfold freesP
  by_cases hf : D.fuse = 0
  · rw [if_pos hf]
    have HRD := Lib.hid (disk_Read w ((0 : Nat) : Int) HD.out)
    have hr0 : D.read ((0 : Nat) : Int) = ([], 90) := by unfold Dk.read; rw [if_pos hf]
    rw [hr0] at HRD
    clear hr0 hf
    dsimp only at HRD
    go_enter Try.func33, Try.ntmps33
    go_wp2_with fail
    go_loopw [2, 11] (fun z i wr => i = .int .i64 ((0 : Nat) : Int) ∧ wr = w) (fun _ _ _ => 0)
    case atStart => exact ⟨rfl, rfl⟩
    case round =>
      obtain ⟨rfl, hw⟩ := hrel
      subst wr
      go_wp2_with fail
      refine HRD.out.mono ?_
      rintro e w2 ⟨rfl, hw2⟩
      subst w2
      go_wp2_with fail
      go_ret
      exact ⟨rfl, rfl⟩
  · rw [if_neg hf]
    have HRR : Hid (∀ k : Nat, k < 3 → D.read (k : Int) = (D.now k, 0)) := Lib.hid (fun k hk => by
      unfold Dk.read; rw [if_neg hf, if_pos (by omega)]; rfl)
    go_enter Try.func33, Try.ntmps33
    go_wp2_with fail
    go_loopw [2, 11] (fun z i wr => ∃ k m : Nat, k ≤ 3 ∧ i = .int .i64 k ∧ z = .int .i64 m ∧ Hid (m = cntE D.now k) ∧ wr = w) (fun _ i _ => 3 - (intOf i).toNat)
    case atStart => exact ⟨0, 0, by omega, rfl, rfl, Lib.hid rfl, rfl⟩
    case round =>
      obtain ⟨k, m, hk, rfl, rfl, HM, hw⟩ := hrel
      subst wr
      have hmk : m ≤ 3 := by have := cntE_le D.now k; have := HM.out; omega
      by_cases hlt : k < 3
      · have HLT := Lib.hid hlt
        have hki : (k : Int) < 3 := by omega
        have HRD := Lib.hid (disk_Read w (k : Int) HD.out)
        rw [HRR.out k hlt] at HRD
        dsimp only at HRD
        have hemp := bs_empty (D.now k)
        have HST : Hid (cntE D.now (k + 1) = m + (if D.now k = [] then 1 else 0)) := Lib.hid (by show _ + _ = _; rw [← HM.out])
        obtain ⟨s, hs⟩ : ∃ s, D.now k = s := ⟨_, rfl⟩
        rw [hs] at HRD hemp HST
        clear hs
        by_cases hse : s = []
        · rw [decide_eq_true hse] at hemp
          rw [if_pos hse] at HST
          clear hse
          go_wp2_with fail
          refine HRD.out.mono ?_
          rintro e w2 ⟨rfl, hw2⟩
          subst w2
          go_wp2_with fail
          go_roundw
          case rel => exact ⟨k + 1, m + 1, by have := HLT.out; omega, by go_num, by go_num, Lib.hid HST.out.symm, trivial⟩
          case measure => have := HLT.out; simp [intOf]; omega
        · rw [decide_eq_false hse] at hemp
          rw [if_neg hse] at HST
          clear hse
          go_wp2_with fail
          refine HRD.out.mono ?_
          rintro e w2 ⟨rfl, hw2⟩
          subst w2
          go_wp2_with fail
          go_roundw
          case rel => exact ⟨k + 1, m, by have := HLT.out; omega, by go_num, rfl, Lib.hid (by rw [HST.out]; rfl), trivial⟩
          case measure => have := HLT.out; simp [intOf]; omega
      · obtain rfl : k = 3 := by omega
        go_wp2_with fail
        go_ret
        exact ⟨by rw [HM.out]; rfl, rfl⟩
set_option maxRecDepth 100000 in
set_option maxHeartbeats 1000000 in
theorem wal_free (w : World) {S T : Nat → Prop} {x d : Nat} {W : Wa} {D : Dk} (h : WalAt w T x d W) (hd : DiskAt w S d D) (hn : 3 ≤ D.n) : Calls Try.prog 34 #[.pointer (some ⟨x, 0, none⟩)] w fun e w' => e = .returned (.int .i64 (freeP D)) ∧ w' = w := by
  have c0 := h.c0; have c1 := h.c1
  have HD := Lib.hid hd
  clear h hd
  obtain ⟨v, hv⟩ : ∃ v, freeP D = v := ⟨_, rfl⟩
  rw [hv]
  have HRR : Hid (∀ k : Nat, k < 3 → D.read (k : Int) = if D.fuse = 0 then ([], 90) else (D.now k, 0)) := Lib.hid (fun k hk => by
    unfold Dk.read
    split
    · rfl
    · rw [if_pos (by omega)]; rfl)
  have HV : Hid (∀ k : Nat, k ≤ 3 → (∀ j, j < k → D.fuse = 0 ∨ D.now j ≠ []) → (k = 3 → v = -1) ∧ (k < 3 → D.fuse ≠ 0 → D.now k = [] → v = (k : Int))) := Lib.hid (fun k hk hj => by
    rw [← hv]
    unfold freeP
    by_cases hf : D.fuse = 0
    · exact ⟨fun _ => by rw [if_pos hf], fun _ h _ => absurd hf h⟩
    · have hj' : ∀ j, j < k → D.now j ≠ [] := fun j h => (hj j h).resolve_left hf
      rw [if_neg hf]
      refine ⟨fun e => ?_, fun _ _ he => ?_⟩
      · subst e
        rw [if_neg (hj' 0 (by omega)), if_neg (hj' 1 (by omega)), if_neg (hj' 2 (by omega))]
      · rcases (show k = 0 ∨ k = 1 ∨ k = 2 ∨ k = 3 by omega) with rfl | rfl | rfl | rfl
        · rw [if_pos he]; rfl
        · rw [if_neg (hj' 0 (by omega)), if_pos he]; rfl
        · rw [if_neg (hj' 0 (by omega)), if_neg (hj' 1 (by omega)), if_pos he]; rfl
        · omega)
  clear hv
  go_enter Try.func34, Try.ntmps34
  go_wp2_with fail
  go_loopw [11] (fun i wr => ∃ k : Nat, k ≤ 3 ∧ i = .int .i64 k ∧ Hid (∀ j, j < k → D.fuse = 0 ∨ D.now j ≠ []) ∧ wr = w) (fun i _ => 3 - (intOf i).toNat)
  case atStart => exact ⟨0, by omega, rfl, Lib.hid (fun j h => by omega), rfl⟩
  case round =>
    obtain ⟨k, hk, rfl, HJ, hw⟩ := hrel
    subst wr
    obtain ⟨v3, vk⟩ := HV.out k hk HJ.out
    by_cases hlt : k < 3
    · have HLT := Lib.hid hlt
      have hki : (k : Int) < 3 := by omega
      have HRD := Lib.hid (disk_Read w (k : Int) HD.out)
      rw [HRR.out k hlt] at HRD
      have e0 : bs [] = (⟨#[]⟩ : ByteArray) := rfl
      by_cases hf : D.fuse = 0
      · rw [if_pos hf] at HRD
        dsimp only at HRD
        rw [e0] at HRD
        have HN : Hid (∀ j, j < k + 1 → D.fuse = 0 ∨ D.now j ≠ []) := Lib.hid (fun j _ => Or.inl hf)
        clear hf v3 vk
        go_wp2_with fail
        refine HRD.out.mono ?_
        rintro e w2 ⟨rfl, hw2⟩
        subst w2
        go_wp2_with fail
        go_roundw
        case rel => exact ⟨k + 1, by have := HLT.out; omega, by go_num, HN, trivial⟩
        case measure => have := HLT.out; simp [intOf]; omega
      · rw [if_neg hf] at HRD
        dsimp only at HRD
        have hemp := bs_empty (D.now k)
        obtain ⟨s, hs⟩ : ∃ s, D.now k = s := ⟨_, rfl⟩
        rw [hs] at HRD hemp vk
        by_cases hse : s = []
        · rw [decide_eq_true hse] at hemp
          have HVK := Lib.hid (vk hlt hf hse)
          clear hse hs v3 vk hf
          go_wp2_with fail
          refine HRD.out.mono ?_
          rintro e w2 ⟨rfl, hw2⟩
          subst w2
          go_wp2_with fail
          go_ret
          rw [HVK.out]
          exact ⟨rfl, rfl⟩
        · rw [decide_eq_false hse] at hemp
          have HN : Hid (∀ j, j < k + 1 → D.fuse = 0 ∨ D.now j ≠ []) := Lib.hid (fun j hj => by
            by_cases e : j = k
            · subst e; right; rw [hs]; exact hse
            · exact HJ.out j (by omega))
          clear hse hs v3 vk hf
          go_wp2_with fail
          refine HRD.out.mono ?_
          rintro e w2 ⟨rfl, hw2⟩
          subst w2
          go_wp2_with fail
          go_roundw
          case rel => exact ⟨k + 1, by have := HLT.out; omega, by go_num, HN, trivial⟩
          case measure => have := HLT.out; simp [intOf]; omega
    · obtain rfl : k = 3 := by omega
      have HV3 := Lib.hid (v3 rfl)
      clear v3 vk
      go_wp2_with fail
      go_ret
      rw [HV3.out]
      exact ⟨rfl, rfl⟩
def pieceP (gen n : Nat) (t : List UInt8) (size : Nat) : List UInt8 := if 100 ≤ size then Wl.head sumF 0 gen n [] ++ Wl.enc sumF n t else Wl.enc sumF n t
set_option maxRecDepth 100000 in
set_option maxHeartbeats 1000000 in
theorem wal_piece (w : World) {T : Nat → Prop} {x d : Nat} {W : Wa} (h : WalAt w T x d W) (n : Nat) (t : List UInt8) (size : Nat) (hn : 1 ≤ n ∧ n ≤ 281474976710656) (ht : t.length ≤ 65536) (hg : 1 ≤ W.gen ∧ W.gen < 128) :
    Calls Try.prog 32 #[.pointer (some ⟨x, 0, none⟩), .int .u64 (n : Int), .string (bs t), .int .i64 (size : Int)] w fun e w' => e = .returned (.tuple #[.string (bs (pieceP W.gen n t size)), .bool (decide (100 ≤ size))]) ∧ Below w.heap.size w w' := by
  have H := Lib.hid h
  have HE := Lib.hid (frame_Encode n t (by omega) ht w)
  have HHD := fun w => seg_Head 0 W.gen n [] ⟨by omega, ⟨hg.1, by omega⟩, hn, fun _ => rfl⟩ hg.2 (by simp) w
  have e0 : bs [] = (⟨#[]⟩ : ByteArray) := rfl
  rw [e0] at HHD
  obtain ⟨R, hR⟩ : ∃ R, Wl.enc sumF n t = R := ⟨_, rfl⟩
  obtain ⟨Q, hQ⟩ : ∃ Q, Wl.head sumF 0 W.gen n [] = Q := ⟨_, rfl⟩
  have hRl : R.length ≤ 65552 := by rw [← hR, Wl.enc_length]; omega
  have hQl : Q.length = 18 := by rw [← hQ, Wl.head_length]; rfl
  unfold pieceP
  rw [hR] at HE ⊢
  rw [hQ] at HHD ⊢
  have ha : bs Q ++ bs R = bs (Q ++ R) := by refine ba_ext ?_; simp [bs]
  have hj : ¬ 9223372036854775807 < (bs Q).size + (bs R).size := by rw [bs_size, bs_size]; omega
  have HHH := Lib.hid HHD
  clear h hR hQ hRl hQl HHD
  by_cases h1 : 100 ≤ size
  · rw [if_pos h1]
    have HF := Lib.hid (fun w' (hb : Below w.heap.size w w') => wal_full w' (H.out.step hb) size)
    rw [decide_eq_true h1] at HF ⊢
    go_enter Try.func32, Try.ntmps32
    go_wp2_with fail
    refine HE.out.mono ?_
    rintro e w1 ⟨rfl, hb1⟩
    have HB1 := Lib.hid hb1
    have c4 := (H.out.step hb1).c4
    clear hb1
    go_wp2_with fail
    refine (HF.out w1 HB1.out).mono ?_
    rintro e w2 ⟨rfl, hw2⟩
    subst w2
    go_wp2_with fail
    refine (HHH.out w1).mono ?_
    rintro e w2 ⟨rfl, hb2⟩
    have HB2 := Lib.hid (HB1.out.trans (hb2.mono HB1.out.size))
    clear hb2
    go_wp2_with fail
    go_ret2
    exact ⟨rfl, HB2.out⟩
  · rw [if_neg h1]
    have HF := Lib.hid (fun w' (hb : Below w.heap.size w w') => wal_full w' (H.out.step hb) size)
    rw [decide_eq_false h1] at HF ⊢
    go_enter Try.func32, Try.ntmps32
    go_wp2_with fail
    refine HE.out.mono ?_
    rintro e w1 ⟨rfl, hb1⟩
    have HB1 := Lib.hid hb1
    clear hb1
    go_wp2_with fail
    refine (HF.out w1 HB1.out).mono ?_
    rintro e w2 ⟨rfl, hw2⟩
    subst w2
    go_wp2_with fail
    go_ret2
    exact ⟨rfl, HB1.out⟩
end Go.Proofs.Ytniflkggcceagaa

namespace Go.Proofs.Ytniflkggcceagaa
open Go Go.RowKit
def LgG (S T : Nat → Prop) (x d : Nat) (w : World) (er : Int) (D : Dk) (W : Wa) (e : Ending) (w' : World) : Prop := e = .returned (.int .i64 er) ∧ DiskAt w' (Gr S w w') d D ∧ WalAt w' T x d W ∧ ButS (fun k => S k ∨ k = x) w w'
theorem not_gr {S T : Nat → Prop} {w w' : World} (hd : ∀ k, S k → ¬ T k) (hl : ∀ k, T k → k < w.heap.size) : ∀ k, T k → ¬ Gr S w w' k := fun k hk hg => by
  rcases hg with h | h
  · exact hd k h hk
  · have := hl k hk; omega
set_option maxRecDepth 100000 in
set_option maxHeartbeats 1000000 in
theorem wal_does (w : World) {S T : Nat → Prop} {x d : Nat} {W : Wa} {D : Dk} (h : WalAt w T x d W) (hd : DiskAt w S d D) (hST : ∀ k, S k → ¬ T k) (hk : DkOk D) (a : Option Addr) (cap : Nat) (vs : List Value) (cs : List Dc) (hl : D.loose.length + cs.length ≤ 1000000) (hlen : vs.length = cs.length)
    (hrow : cs = [] ∨ ∃ g, a = some ⟨g, 0, none⟩ ∧ ¬ S g ∧ g < w.heap.size ∧ ∀ i v, vs[i]? = some v → w.cell? ⟨g, i, none⟩ = some v) (hdo : ∀ (i : Nat) (v : Value) (c : Dc), vs[i]? = some v → cs[i]? = some c → Doer S w d v c) (hfit : fitsS cs D) :
    Calls Try.prog 35 #[.pointer (some ⟨x, 0, none⟩), .slice a cs.length cap] w (LgG S T x d w (Dk.steps cs D).1 (Dk.steps cs D).2 { W with down := (Dk.steps cs D).1 }) := by
  have HS := Lib.hid (wal_steps w a cap vs cs hd hk hl hlen hrow hdo hfit)
  have H := Lib.hid h; have HST := Lib.hid hST
  have HO := Lib.hid h.own
  obtain ⟨r, hr⟩ : ∃ r, Dk.steps cs D = r := ⟨_, rfl⟩
  rw [hr] at HS ⊢
  obtain ⟨n, hn⟩ : ∃ n, cs.length = n := ⟨_, rfl⟩
  rw [hn] at HS ⊢
  clear h hd hST hk hl hlen hrow hdo hfit hr hn
  go_enter Try.func35, Try.ntmps35
  go_wp2_with fail
  refine HS.out.mono ?_
  rintro e w1 ⟨rfl, g1, b1⟩
  have hw1 := H.out.but b1 (fun k hk hs => HST.out k hs hk)
  have c10 := hw1.c10; have f10 := hw1.fz 10
  have HW := Lib.hid (hw1.setDown r.1)
  have HD := Lib.hid (g1.but (ButS.set (S := fun k => k = x) w1 (p := ⟨x, 10, none⟩) rfl (.int .i64 r.1)) (fun k hk e => by subst e; exact not_gr HST.out HO.out k H.out.xx hk))
  have HB := Lib.hid ((b1.mono (S' := fun k => S k ∨ k = x) (fun k hk => Or.inl hk)).trans (ButS.set (S := fun k => S k ∨ k = x) w1 (p := ⟨x, 10, none⟩) (Or.inr rfl) (.int .i64 r.1)))
  have d10 := HW.out.c10
  dsimp only at d10
  obtain ⟨w2, hw2⟩ : ∃ w2, w1.setCell ⟨x, 10, none⟩ (.int .i64 r.1) = w2 := ⟨_, rfl⟩
  have hsz : w2.heap.size = w1.heap.size := by rw [← hw2]; exact setCell_size _ _ _
  rw [hw2] at HW HD HB d10
  have HSZ := Lib.hid hsz
  clear hw1 g1 b1 hsz
  go_wp2_with fail
  go_ret
  refine ⟨rfl, ?_, HW.out, HB.out⟩
  refine HD.out.more (fun k hk => ?_) (fun k hk => ?_)
  · rcases hk with hk | hk
    · exact Or.inl hk
    · exact Or.inr ⟨hk.1, by rw [HSZ.out]; exact hk.2⟩
  · exact HD.out.own k (by rcases hk with hk | hk; (· exact Or.inl hk); (· exact Or.inr ⟨hk.1, by rw [← HSZ.out]; exact hk.2⟩))
set_option maxRecDepth 100000 in
set_option maxHeartbeats 1000000 in
theorem wal_Sync (w : World) {S T : Nat → Prop} {x d : Nat} {W : Wa} {D : Dk} (h : WalAt w T x d W) (hd : DiskAt w S d D) (hST : ∀ k, S k → ¬ T k) (hk : DkOk D) (hl : D.loose.length + 1 ≤ 1000000) :
    Calls Try.prog 16 #[.pointer (some ⟨x, 0, none⟩)] w (LgG S T x d w (if W.down ≠ 0 then 121 else (Dk.steps [.sync] D).1) (if W.down ≠ 0 then D else (Dk.steps [.sync] D).2) (if W.down ≠ 0 then W else { W with down := (Dk.steps [.sync] D).1 })) := by
  have HM := Lib.hid (wal_mayW w h)
  unfold Wa.mayE at HM
  have c0 := h.c0
  have hxl := h.lt
  have H := Lib.hid h; have HD := Lib.hid hd
  obtain ⟨dn, hdn⟩ : ∃ z, W.down = z := ⟨_, rfl⟩
  rw [hdn] at HM ⊢
  by_cases hz : dn = 0
  · rw [if_neg (by simpa using hz)] at HM
    simp only [if_neg (show ¬ dn ≠ 0 from fun h => h hz)]
    obtain ⟨W1, hW1⟩ : ∃ W1, w.alloc (.cells #[.func (.func 38) #[.pointer (some ⟨d, 0, none⟩)] #[]] 41) = W1 := ⟨_, rfl⟩
    have hb : Below w.heap.size w W1 := by rw [← hW1]; exact (Below.refl _ _).alloc (Nat.le_refl _) _
    have hx1 : Bx W1 w.heap.size 41 (.func (.func 38) #[.pointer (some ⟨d, 0, none⟩)] #[]) := by rw [← hW1]; exact Bx.new _ _ _
    have hx1l := hx1.lt
    have HDO := Lib.hid (wal_does W1 (h.step hb) (hd.step hb) hST hk (some ⟨w.heap.size, 0, none⟩) 1 [.func (.func 38) #[.pointer (some ⟨d, 0, none⟩)] #[]] [.sync] hl rfl
      (Or.inr ⟨w.heap.size, rfl, fun hs => by have := hd.own _ hs; omega, hx1l, fun i v hv => by
        have hi : i = 0 := by have := (List.getElem?_eq_some_iff.1 hv).1; simpa using this
        subst hi
        simp only [List.getElem?_cons_zero, Option.some.injEq] at hv
        subst hv
        exact hx1.c⟩)
      (fun i v c hv hc => by
        have hi : i = 0 := by have := (List.getElem?_eq_some_iff.1 hv).1; simpa using this
        subst hi
        simp only [List.getElem?_cons_zero, Option.some.injEq] at hv hc
        subst hv; subst hc
        exact doer_sync _ _ _) ⟨trivial, fun _ => trivial⟩)
    have HB := Lib.hid hb
    obtain ⟨r, hr⟩ : ∃ r, Dk.steps [.sync] D = r := ⟨_, rfl⟩
    rw [hr] at HDO ⊢
    have HOWN := Lib.hid hd.own
    clear h hd hk hl hb hx1 hx1l hr hz hdn
    go_enter Try.func16, Try.ntmps16
    go_wp2_with fail
    refine HM.out.mono ?_
    rintro e w2 ⟨rfl, hw2⟩
    subst w2
    go_wp2_with fail
    refine HDO.out.mono ?_
    rintro e w2 ⟨rfl, g1, g2, g3⟩
    have G1 := Lib.hid g1; have G2 := Lib.hid g2; have G3 := Lib.hid g3
    clear g1 g2 g3
    go_wp2_with fail
    go_ret
    have hs1 := HB.out.size; have hs2 := G3.out.size
    refine ⟨rfl, G1.out.more (fun k hk => ?_) (fun k hk => ?_), G2.out, (ButS.of HB.out).trans G3.out⟩
    · rcases hk with hk | hk
      · exact Or.inl hk
      · exact Or.inr ⟨by omega, hk.2⟩
    · rcases hk with hk | hk
      · have := HOWN.out k hk; omega
      · exact hk.2
  · rw [if_pos hz] at HM
    simp only [if_pos hz]
    clear h hd hk hl hdn
    go_enter Try.func16, Try.ntmps16
    go_wp2_with fail
    refine HM.out.mono ?_
    rintro e w2 ⟨rfl, hw2⟩
    subst w2
    go_wp2_with fail
    go_ret
    exact ⟨rfl, HD.out.more (fun k hk => Or.inl hk) (fun k hk => by rcases hk with hk | hk; (· exact HD.out.own k hk); (· exact hk.2)), H.out, ButS.refl _⟩
end Go.Proofs.Ytniflkggcceagaa

namespace Go.Proofs.Ytniflkggcceagaa
open Go Go.RowKit
theorem burn_neg {D : Dk} (h : D.fuse < 0) : D.burn = (0, D) := by unfold Dk.burn; rw [if_neg (by omega), if_neg (by omega)]
theorem write_neg {D : Dk} (h : D.fuse < 0) {f : Nat} (hf : f < D.n) {s : List UInt8} (hs : (s.length : Int) ≤ D.left) (hs2 : s.length ≤ 1073741824) : D.write (f : Int) s = (0, { D with now := upd D.now f (D.now f ++ s), loose := D.loose ++ [.wr f s] }) := by
  unfold Dk.write
  rw [burn_neg h]
  dsimp only
  rw [if_neg (by decide), if_neg (by omega), if_neg (by omega)]
  unfold Lc.done
  dsimp only
  rw [take_all s hs2]
  rfl
theorem sync_neg {D : Dk} (h : D.fuse < 0) : D.sync = (0, { D with sure := D.now, loose := [] }) := by
  unfold Dk.sync
  rw [burn_neg h]
  dsimp only
  rw [if_neg (by decide)]
theorem cut_neg {D : Dk} (h : D.fuse < 0) {f n : Nat} (hf : f < D.n) : D.cutF (f : Int) n = (0, { D with now := upd D.now f ((D.now f).take n), loose := D.loose ++ [.cut f n] }) := by
  unfold Dk.cutF
  rw [burn_neg h]
  dsimp only
  rw [if_neg (by decide), if_neg (by omega)]
  rfl
theorem make_steps {D : Dk} (h : D.fuse < 0) (hn : 1 ≤ D.n) {s : List UInt8} (hs : (s.length : Int) ≤ D.left) (hs2 : s.length ≤ 1073741824) : Dk.steps [.write 0 s, .sync] D = (0, { D with now := upd D.now 0 (D.now 0 ++ s), sure := upd D.now 0 (D.now 0 ++ s), loose := [] }) := by
  have h1 := write_neg h (f := 0) (by omega) hs hs2
  show (if (D.write 0 s).1 = 0 then Dk.steps [.sync] (D.write 0 s).2 else D.write 0 s) = _
  rw [show D.write 0 s = D.write ((0 : Nat) : Int) s from rfl, h1]
  dsimp only
  rw [if_pos rfl]
  have h2 := sync_neg (D := { D with now := upd D.now 0 (D.now 0 ++ s), loose := D.loose ++ [.wr 0 s] }) h
  show (if (Dk.sync _).1 = 0 then Dk.steps [] (Dk.sync _).2 else Dk.sync _) = _
  rw [h2]
  rfl
theorem infoFn0 : (Try.prog.info? 41).map (fun i => (i.zero, i.size, i.bytes)) = some (some .nilFunc, 1, 8) := by kernel_rfl
theorem one_row (w : World) (v : Value) (e : TypeId) : (w.alloc (.cells #[v] e)).ownsRow 0 e 1 (.slice (some ⟨w.heap.size, 0, none⟩) 1 1) 1 [v] :=
  ⟨rfl, Or.inr ⟨w.heap.size, 1, #[v], rfl, Nat.zero_le _, (MapKept.heap_alloc w _).1, Nat.le_refl _, by decide, rfl, rfl⟩⟩
theorem wal_new (w : World) (d : Nat) (g f n L : Nat) (fl : Int) :
    WalAt (((w.alloc (.cells #[.int .i64 fl] 3)).alloc (.cells #[.int .i64 (L : Int)] 3)).alloc (.cells #[.pointer (some ⟨d, 0, none⟩), .int .i64 3, .int .i64 100, .int .i64 60, .int .u64 (g : Int), .int .u64 (f : Int), .int .u64 (n : Int), .slice (some ⟨w.heap.size, 0, none⟩) 1 1, .slice (some ⟨w.heap.size + 1, 0, none⟩) 1 1, .int .i64 0, .int .i64 0] 62)) (fun k => w.heap.size ≤ k ∧ k < w.heap.size + 3) (w.heap.size + 2) d ⟨g, f, n, [fl], [L], 0, 0⟩ := by
  obtain ⟨w1, hw1⟩ : ∃ w1, w.alloc (.cells #[.int .i64 fl] 3) = w1 := ⟨_, rfl⟩
  have r1 := one_row w (.int .i64 fl) 3
  have s1 : w1.heap.size = w.heap.size + 1 := by rw [← hw1]; simp
  rw [hw1] at r1 ⊢
  obtain ⟨w2, hw2⟩ : ∃ w2, w1.alloc (.cells #[.int .i64 (L : Int)] 3) = w2 := ⟨_, rfl⟩
  have r2 := one_row w1 (.int .i64 (L : Int)) 3
  have s2 : w2.heap.size = w.heap.size + 2 := by rw [← hw2]; simp; omega
  have b2 : Below w1.heap.size w1 w2 := by rw [← hw2]; exact (Below.refl _ _).alloc (Nat.le_refl _) _
  rw [hw2] at r2 ⊢
  rw [s1] at r2
  obtain ⟨C, hC⟩ : ∃ C : Array Value, #[.pointer (some ⟨d, 0, none⟩), .int .i64 3, .int .i64 100, .int .i64 60, .int .u64 (g : Int), .int .u64 (f : Int), .int .u64 (n : Int), .slice (some ⟨w.heap.size, 0, none⟩) 1 1, .slice (some ⟨w.heap.size + 1, 0, none⟩) 1 1, .int .i64 0, .int .i64 0] = C := ⟨_, rfl⟩
  have ho := One.of w2 C 62
  have b3 : Below w2.heap.size w2 (w2.alloc (.cells C 62)) := (Below.refl _ _).alloc (Nat.le_refl _) _
  rw [hC]
  have s3 : (w2.alloc (.cells C 62)).heap.size = w.heap.size + 3 := by simp; omega
  rw [s2] at ho
  refine ⟨fun k hk => by omega, ⟨by omega, by omega⟩, ?_, ?_, ?_, ?_, ?_, ?_, ?_, ?_, ?_, ho.f, .slice (some ⟨w.heap.size, 0, none⟩) 1 1, .slice (some ⟨w.heap.size + 1, 0, none⟩) 1 1, ?_, ?_, ?_, ?_, ?_, ?_⟩
  all_goals first | (rw [ho.c]; subst hC; rfl) | skip
  · exact ownBelow (ownBelow r1 b2) b3
  · exact ownBelow r2 b3
  · intro b hb; cases hb; exact ⟨⟨Nat.le_refl _, by show w.heap.size < _; omega⟩, by show w.heap.size ≠ _; omega, fun h => by injection h with h; have h2 : w.heap.size + 1 = w.heap.size := h; omega⟩
  · intro b hb; cases hb; exact ⟨⟨by show _ ≤ w.heap.size + 1; omega, by show w.heap.size + 1 < _; omega⟩, by show w.heap.size + 1 ≠ _; omega⟩
def MakeG (S : Nat → Prop) (d : Nat) (D : Dk) (W : Wa) (w : World) (e : Ending) (w' : World) : Prop := ∃ (x : Nat) (S' T : Nat → Prop), e = .returned (.tuple #[.pointer (some ⟨x, 0, none⟩), .int .i64 0]) ∧ DiskAt w' S' d D ∧ WalAt w' T x d W ∧ (∀ k, S' k → ¬ T k) ∧ (∀ k, S' k → S k ∨ w.heap.size ≤ k) ∧ (∀ k, T k → w.heap.size ≤ k) ∧ ButS S w w'
set_option maxRecDepth 100000 in
set_option maxHeartbeats 4000000 in
theorem wal_Make (w : World) {S : Nat → Prop} {d : Nat} {D : Dk} (t : List UInt8) (h : DiskAt w S d D) (hk : DkOk D) (hn : 3 ≤ D.n) (hf : D.fuse < 0) (he : ∀ i, i < 3 → D.now i = []) (ht : t.length ≤ 42) (hl : D.loose.length ≤ 999998) (hroom : ((18 + t.length : Nat) : Int) ≤ D.left) :
    Calls Try.prog 26 #[.pointer (some ⟨d, 0, none⟩), confV, .string (bs t)] w (MakeG S d { D with now := upd D.now 0 (Wl.head sumF 1 1 1 t), sure := upd D.now 0 (Wl.head sumF 1 1 1 t), loose := [] } ⟨1, 1, 1, [0], [18 + t.length], 0, 0⟩ w) := by
  obtain ⟨i0, hi, hiz, his, hib⟩ := info_parts infoFn0
  have hq := make_steps hf (by omega) (s := Wl.head sumF 1 1 1 t) (by rw [Wl.head_length]; exact hroom) (by rw [Wl.head_length]; omega)
  rw [he 0 (by omega), List.nil_append] at hq
  have hHl := Wl.head_length sumF 1 1 1 t
  have HHD := Lib.hid (fun w => seg_Head 1 1 1 t ⟨by omega, by omega, by omega, fun h => by omega⟩ (by omega) (by omega) w)
  have hop := h.own
  have H := Lib.hid h; have HK := Lib.hid hk
  have HN := Lib.hid hn; have HF := Lib.hid hf; have HE := Lib.hid he; have HL := Lib.hid hl
  obtain ⟨Q, hQ⟩ : ∃ Q, Wl.head sumF 1 1 1 t = Q := ⟨_, rfl⟩
  obtain ⟨L, hL⟩ : ∃ L, 18 + t.length = L := ⟨_, rfl⟩
  rw [hQ] at hq hHl HHD ⊢
  rw [hL] at hHl hroom ⊢
  have hQs : (bs Q).size = L := by rw [bs_size, hHl]
  have hL60 : ¬ (60 : Int) < (L : Int) := by omega
  have hLb : decide ((60 : Int) < (L : Int)) = false := by simp; omega
  obtain ⟨D2, hD2⟩ : ∃ D2, ({ D with now := upd D.now 0 Q, sure := upd D.now 0 Q, loose := [] } : Dk) = D2 := ⟨_, rfl⟩
  rw [hD2] at hq ⊢
  have HQ := Lib.hid hq; have HQL := Lib.hid hHl
  obtain ⟨lf, hlf⟩ : ∃ lf, D.left = lf := ⟨_, rfl⟩
  rw [hlf] at hroom
  have HLF := Lib.hid hlf
  have hlw : -1125899906842624 ≤ lf ∧ lf ≤ 4194304 := by
    rw [← hlf]
    have h1 := hk.room
    have h2 : ∀ k, k ≤ 16 → lensN D.now k ≤ k * 1073741824 := fun k => by
      induction k with
      | zero => intro _; exact Nat.le_refl _
      | succ k ih => intro hk2; have := ih (by omega); have := hk.now k (by omega); show lensN D.now k + _ ≤ _; omega
    have h3 := h2 16 (by omega)
    unfold Dk.left; omega
  have HM := Lib.hid (fun w' (hb : Below w.heap.size w w') => wal_may w' (h.step hb) hn)
  have HRE := Lib.hid (fun w' (hb : Below w.heap.size w w') => wal_read w' (h.step hb) hn (by omega))
  have HRO := Lib.hid (fun w' (hb : Below w.heap.size w w') => disk_Room w' (h.step hb) hk.room hk.now)
  clear h hk hn hf he hl hq hQ hL hD2 hlf ht
  go_enter Try.func26, Try.ntmps26
  go_upto_region 1 with fail
  refine wp_abs (F := fun W => Hid (Below w.heap.size w W) ∧ Hid (Bx W w.heap.size 26 (.pointer (some ⟨d, 0, none⟩))) ∧ Hid (One (w.heap.size + 1) #[.int .i64 3, .int .i64 100, .int .i64 60] W)) ?_ ?_
  · have s1 : (w.alloc (.cells #[.pointer (some ⟨d, 0, none⟩)] 26)).heap.size = w.heap.size + 1 := by simp
    refine ⟨Lib.hid (((Below.refl _ _).alloc (Nat.le_refl _) _).alloc (by omega) _), Lib.hid ((Bx.new _ _ _).alloc _), Lib.hid ?_⟩
    have := One.of (w.alloc (.cells #[.pointer (some ⟨d, 0, none⟩)] 26)) #[.int .i64 3, .int .i64 100, .int .i64 60] 49
    rw [s1] at this
    exact this
  rintro W0 ⟨HB0, HX0, HC0⟩
  have c0 := HX0.out.c
  have k0 := HC0.out.c 0; have k1 := HC0.out.c 1; have k2 := HC0.out.c 2
  simp at k0 k1 k2
  go_wp2_with fail
  refine (HM.out W0 HB0.out).mono ?_
  rintro e w1 ⟨rfl, hb1⟩
  have HB1 := Lib.hid (HB0.out.trans (hb1.mono HB0.out.size))
  have HX1 := Lib.hid (HX0.out.below hb1); have HC1 := Lib.hid (HC0.out.step hb1)
  clear hb1 c0 k0 k1 k2
  go_wp2_with fail
  refine (HHD.out w1).mono ?_
  rintro e w2 ⟨rfl, hb2⟩
  have HB2 := Lib.hid (HB1.out.trans (hb2.mono HB1.out.size))
  have HX2 := Lib.hid (HX1.out.below hb2); have HC2 := Lib.hid (HC1.out.step hb2)
  clear hb2
  go_upto_region 5 with fail
  refine wp_abs (F := fun W => Hid (Below w.heap.size w W) ∧ Hid (Bx W w.heap.size 26 (.pointer (some ⟨d, 0, none⟩))) ∧ Hid (One (w.heap.size + 1) #[.int .i64 3, .int .i64 100, .int .i64 60] W) ∧ Hid (Bx W w2.heap.size 9 (.string (bs Q)))) ⟨Lib.hid (HB2.out.alloc HB2.out.size _), Lib.hid (HX2.out.alloc _), Lib.hid (HC2.out.step ((Below.refl _ _).alloc (Nat.le_refl _) _)), Lib.hid (Bx.new _ _ _)⟩ ?_
  rintro W3 ⟨HB3, HX3, HC3, HH3⟩
  have hw2 := HX2.out.lt
  obtain ⟨bh, hbh⟩ : ∃ x, w2.heap.size = x := ⟨_, rfl⟩
  rw [hbh] at HH3 hw2 ⊢
  clear HB2 HX2 HC2 hbh
  have c0 := HX3.out.c
  have k0 := HC3.out.c 0; have k1 := HC3.out.c 1; have k2 := HC3.out.c 2
  simp at k0 k1 k2
  have ch := HH3.out.c
  go_wp2_with fail
  refine (HRE.out W3 HB3.out).mono ?_
  rintro e w4 ⟨a, cap, rfl, hrow, hb4⟩
  have HB4 := Lib.hid (HB3.out.trans (hb4.mono HB3.out.size))
  have HX4 := Lib.hid (HX3.out.below hb4); have HH4 := Lib.hid (HH3.out.below hb4)
  obtain ⟨g, rfl⟩ : ∃ g, a = some ⟨g, 0, none⟩ := by
    rcases hrow.2 with ⟨h', hn'⟩ | ⟨g', cap', cur, h', _⟩
    · omega
    · simp only [Value.slice.injEq] at h'; exact ⟨g', h'.1⟩
  have HG : Hid (∀ k, k < 3 → w4.cell? ⟨g, k, none⟩ = some (.string ⟨#[]⟩)) := Lib.hid (fun k hk => by
    rw [World.ownsRow.cellAt hrow k (by omega)]
    have h1 : (filesV D.now 3)[k]? = some (.string (bs (D.now k))) := by
      unfold filesV
      rw [List.getElem?_map, List.getElem?_range (by omega)]; rfl
    rw [h1, HE.out k hk]; rfl)
  have HGL : Hid (g < w4.heap.size) := Lib.hid (cell_lt (HG.out 0 (by omega)))
  have HB34 := Lib.hid hb4
  have c0 := HX4.out.c
  have HRM := Lib.hid (HRO.out w4 HB4.out)
  rw [HLF.out] at HRM
  clear hb4 hrow k0 k1 k2 ch
  go_wp2_with fail
  refine HRM.out.mono ?_
  rintro e w5 ⟨rfl, hw5⟩
  subst w5
  have hz0 : (0 : Int) + lf = lf := by omega
  have hlfw : IntKind.i64.wrap lf = lf := by rw [IntKind.wrap_i64]; omega
  go_wp2_with fail
  go_loopw [12, 13, 50] (fun r cl i wr => ∃ k : Nat, k ≤ 3 ∧ i = .int .i64 k ∧ r = .int .i64 lf ∧ cl = .slice none 0 0 ∧ Hid (Below w4.heap.size w4 wr)) (fun _ _ i _ => 3 - (intOf i).toNat)
  case atStart => exact ⟨0, by omega, rfl, rfl, rfl, Lib.hid (Below.refl _ _)⟩
  case round =>
    obtain ⟨k, hk, rfl, rfl, rfl, HBr⟩ := hrel
    by_cases hlt : k < 3
    · have HLT := Lib.hid hlt
      have hki : (k : Int) < 3 := by omega
      have cg := (HBr.out.cell (p := ⟨g, k, none⟩) HGL.out).trans (HG.out k hlt)
      have cg2 : (wr.alloc (.cells #[.int .i64 (k : Int)] 3)).cell? ⟨g, k, none⟩ = some (.string ⟨#[]⟩) := (((Below.refl wr.heap.size wr).alloc (Nat.le_refl _) _).cell (p := ⟨g, k, none⟩) (by have := HBr.out.size; have := HGL.out; show g < _; omega)).trans cg
      go_wp2_with fail
      go_roundw
      case rel => exact ⟨k + 1, by have := HLT.out; omega, by go_num, rfl, rfl, Lib.hid (HBr.out.alloc HBr.out.size _)⟩
      case measure => have := HLT.out; simp [intOf]; omega
    · obtain rfl : k = 3 := by omega
      have hX := HX4.out.below HBr.out; have hH := HH4.out.below HBr.out
      have HBB := Lib.hid (HB4.out.trans (HBr.out.mono HB4.out.size))
      have HX5 := Lib.hid hX; have HH5 := Lib.hid hH
      have c0 := hX.c; have ch := hH.c
      have hlL : ¬ lf < (L : Int) := by omega
      have hlLb : decide (lf < (L : Int)) = false := by simp; omega
      clear hX hH HX4 HH4 HB4
      have hbwr := HBB.out.size
      go_upto_region 24 with (at_builtin; go_loud (refine wpList_append_own _ rfl _ _ 76 rfl w.heap.size 41 i0 .nilFunc 1 8 Try.underlying76 hi hiz his hib rfl (by decide) (.slice none 0 0) 0 [] rfl (World.ownsRow_nil _ _ _ _) ⟨wr.heap.size, 0, none⟩ 2 2 [.func (.func 52) #[] #[.pointer (some ⟨w.heap.size, 0, none⟩), .pointer (some ⟨bh, 0, none⟩)], .func (.func 38) #[.pointer (some ⟨d, 0, none⟩)] #[]] rfl rfl (World.news_of_block (MapKept.heap_alloc _ _).1) (by intro u hu; simp only [List.mem_cons, List.mem_nil_iff, or_false] at hu; rcases hu with rfl | rfl <;> rfl) (by simp [maxLen]) (by omega) (by simp; omega) ?_; intro v5 w5 hown5 hg5 _; obtain ⟨a6, c6, rfl⟩ := ownShape hown5; have Hown5 := Lib.hid hown5; have Hg5 := Lib.hid hg5; clear hown5 hg5))
      have hb5 : Below w.heap.size w w5 := (HBB.out.alloc HBB.out.size _).grown Hg5.out (by simp; omega) (fun j hj => by cases hj)
      have hb5r : Below wr.heap.size wr w5 := ((Below.refl _ _).alloc (Nat.le_refl _) _).grown Hg5.out (by simp) (fun j hj => by cases hj)
      obtain ⟨g5, rfl⟩ : ∃ g5, a6 = some ⟨g5, 0, none⟩ := by
        rcases Hown5.out.2 with ⟨h', hn'⟩ | ⟨g', cap', cur, h', _⟩
        · omega
        · simp only [Value.slice.injEq] at h'; exact ⟨g', h'.1⟩
      have hg5b := ownAbove Hown5.out g5 rfl
      have hrow5 : ∀ i v, ([.func (.func 52) #[] #[.pointer (some ⟨w.heap.size, 0, none⟩), .pointer (some ⟨bh, 0, none⟩)], .func (.func 38) #[.pointer (some ⟨d, 0, none⟩)] #[]] : List Value)[i]? = some v → w5.cell? ⟨g5, i, none⟩ = some v := fun i v hv => by
        have hi := (List.getElem?_eq_some_iff.1 hv).1
        rw [World.ownsRow.cellAt Hown5.out i (by simpa using hi)]
        simpa using hv
      have hx5 := HX5.out.below hb5r; have hh5 := HH5.out.below hb5r
      have HST := Lib.hid (wal_steps w5 (some ⟨g5, 0, none⟩) c6 [.func (.func 52) #[] #[.pointer (some ⟨w.heap.size, 0, none⟩), .pointer (some ⟨bh, 0, none⟩)], .func (.func 38) #[.pointer (some ⟨d, 0, none⟩)] #[]] [.write 0 Q, .sync] (H.out.step hb5) HK.out (by have := HL.out; show _ + 2 ≤ _; omega) rfl
        (Or.inr ⟨g5, rfl, fun hs => by have := hop _ hs; omega, cell_lt (hrow5 0 _ rfl), hrow5⟩)
        (fun i v c hv hc => by
          have hi : i = 0 ∨ i = 1 := by have := (List.getElem?_eq_some_iff.1 hv).1; simp at this; omega
          rcases hi with rfl | rfl
          · simp only [List.getElem?_cons_zero, Option.some.injEq] at hv hc
            subst hv; subst hc
            exact doer_make2 (fun hs => by have := hop _ hs; omega) (fun hs => by have := hop _ hs; omega) hx5.c hh5.c
          · simp only [List.getElem?_cons_succ, List.getElem?_cons_zero, Option.some.injEq] at hv hc
            subst hv; subst hc
            exact doer_sync _ _ _) ⟨by show Q.length ≤ _; rw [HQL.out]; omega, fun _ => ⟨trivial, fun _ => trivial⟩⟩)
      rw [HQ.out] at HST
      have HB35 := Lib.hid hb5r; have HB5 := Lib.hid hb5; have HX6 := Lib.hid hx5; have HH6 := Lib.hid hh5
      clear hb5 hb5r hrow5 hx5 hh5 c0 ch
      go_wp2_with fail
      refine HST.out.mono ?_
      rintro e w6 ⟨rfl, g1, b1⟩
      have hx6 : Bx w6 w.heap.size 26 (.pointer (some ⟨d, 0, none⟩)) := HX6.out.but b1 (fun hs => by have := hop _ hs; omega)
      have hh6 : Bx w6 bh 9 (.string (bs Q)) := HH6.out.but b1 (fun hs => by have := hop _ hs; omega)
      have b3 : Below W3.heap.size W3 w5 := HB34.out.trans ((HBr.out.mono HB34.out.size).trans (HB35.out.mono (by have := HB34.out.size; have := HBr.out.size; omega)))
      have hc6 := (HC3.out.step b3).but b1 (fun hs => by have := hop _ hs; omega)
      have c0 := hx6.c; have ch := hh6.c
      have k0 := hc6.c 0; have k1 := hc6.c 1; have k2 := hc6.c 2
      simp at k0 k1 k2
      have HB6 := Lib.hid (HB5.out); have G1 := Lib.hid g1; have B1 := Lib.hid b1
      have ch2 : (w6.alloc (.cells #[.int .i64 0] 3)).cell? ⟨bh, 0, none⟩ = some (.string (bs Q)) := (hh6.alloc _).c
      have hh6l := hh6.lt; have hc6l := hc6.lt
      clear hx6 hh6 hc6 g1 b1
      go_wp2_with fail
      have hwn := wal_new w6 d 1 1 1 L 0
      have bb : Below w6.heap.size w6 (((w6.alloc (.cells #[.int .i64 0] 3)).alloc (.cells #[.int .i64 (L : Int)] 3)).alloc (.cells #[.pointer (some ⟨d, 0, none⟩), .int .i64 3, .int .i64 100, .int .i64 60, .int .u64 ((1 : Nat) : Int), .int .u64 ((1 : Nat) : Int), .int .u64 ((1 : Nat) : Int), .slice (some ⟨w6.heap.size, 0, none⟩) 1 1, .slice (some ⟨w6.heap.size + 1, 0, none⟩) 1 1, .int .i64 0, .int .i64 0] 62)) := (((Below.refl _ _).alloc (Nat.le_refl _) _).alloc (by simp) _).alloc (by simp; omega) _
      go_ret2
      have s1 := HB6.out.size; have s2 := B1.out.size
      refine ⟨_, Gr S w5 w6, fun k => w6.heap.size ≤ k ∧ k < w6.heap.size + 3, rfl, G1.out.step bb, hwn, fun k hk ht => ?_, fun k hk => ?_, fun k hk => by have := hk.1; omega, ?_⟩
      · have := G1.out.own k hk; have := ht.1; omega
      · rcases hk with hk | hk
        · exact Or.inl hk
        · exact Or.inr (by omega)
      · exact (ButS.of HB6.out).trans (B1.out.trans (ButS.of bb))
end Go.Proofs.Ytniflkggcceagaa

namespace Go.Proofs.Ytniflkggcceagaa
open Go Go.RowKit
structure Fe where
  n : Nat
  t : List UInt8
  at_ : Nat
  er : Int
abbrev encFe (x : Fe) : Array Value := #[.agg #[.int .u64 (x.n : Int), .string (bs x.t)], .agg #[.int .i64 (x.at_ : Int), .int .i64 x.er]]
def fes : Nat → Nat → List UInt8 → List Fe
  | 0, _, _ => []
  | f + 1, p, s => match s with
    | [] => []
    | c :: r => match Wl.dec sumF (c :: r) with
      | none => [⟨0, [], p, decErr (c :: r)⟩]
      | some (n, t, u) => ⟨n, t, p + u, 0⟩ :: fes f (p + u) ((c :: r).drop u)
theorem fes_none (f p : Nat) (s : List UInt8) (h : s ≠ []) (hd : Wl.dec sumF s = none) : fes (f + 1) p s = [⟨0, [], p, decErr s⟩] := by
  cases s with
  | nil => exact absurd rfl h
  | cons c r => simp only [fes, hd]
theorem fes_some (f p : Nat) (s : List UInt8) {n : Nat} {t : List UInt8} {u : Nat} (hd : Wl.dec sumF s = some (n, t, u)) : fes (f + 1) p s = ⟨n, t, p + u, 0⟩ :: fes f (p + u) (s.drop u) := by
  cases s with
  | nil => simp [Wl.dec] at hd
  | cons c r => simp only [fes, hd]
theorem fes_nil (f p : Nat) : fes f p [] = [] := by cases f <;> rfl

theorem frame_frames (S : List UInt8) (w : World) : Calls Try.prog 82 #[.string (bs S)] w fun e w' => e = .returned (.func (.func 84) #[] #[.pointer (some ⟨w.heap.size, 0, none⟩)]) ∧ w' = w.alloc (.cells #[.string (bs S)] 9) := by
  go_enter Try.func82, Try.ntmps82
  go_wp2_with fail
  go_ret
  exact ⟨rfl, rfl⟩

attribute [local go_sem] Oper.semAt_some
open Go.Shelf in
set_option maxRecDepth 100000 in
set_option maxHeartbeats 4000000 in
theorem frames_stops (n : Nat) (hn : 1 ≤ n) (Bb : Nat) (S : List UInt8) (hl : S.length ≤ 1000000) (w : World) (hB : w.cell? ⟨Bb, 0, none⟩ = some (.string (bs S))) :
    SeqStopsK Fence.wide n Try.prog 84 #[.pointer (some ⟨Bb, 0, none⟩)] encFe (fun A B => B.cell? ⟨Bb, 0, none⟩ = A.cell? ⟨Bb, 0, none⟩) (fun ys => ys = fes (S.length + 1) 0 S) (fun pre => ∃ d x r, fes (S.length + 1) 0 S = d ++ x :: r ∧ pre = d ++ [x]) (fes (S.length + 1) 0 S).length w := fun l J Jx W hW hJa hJxa hY h0 => by
  have hBl := cell_lt hB
  have hBW : W.cell? ⟨Bb, 0, none⟩ = some (.string (bs S)) := (hW.cell (p := ⟨Bb, 0, none⟩) hBl).trans hB
  have HJA := Lib.hid hJa; have HY := Lib.hid hY
  obtain ⟨E, hE⟩ : ∃ E, fes (S.length + 1) 0 S = E := ⟨_, rfl⟩
  rw [hE] at HY ⊢
  obtain ⟨L, hL⟩ : ∃ L, S.length = L := ⟨_, rfl⟩
  have hsz : (bs S).size = L := by rw [bs_size, hL]
  rw [hL] at hl
  have H0 : Hid (∃ f d, E = d ++ fes f 0 (S.drop 0) ∧ (S.drop 0).length < f ∧ J d W) := Lib.hid ⟨S.length + 1, [], by rw [← hE]; rfl, by simp, h0⟩
  have HL := Lib.hid hL
  clear hBl hB hJa hJxa hY h0 hW hE hL
  refine callsIn_of_wp Try.func84 rfl trivial ?_ rfl
  simp only [Try.ntmps84, List.size_toArray, List.length_cons, List.length_nil, Nat.reduceAdd, Nat.reduceSub, Array.replicate_succ, Array.replicate_zero, List.push_toArray, List.append_toArray, List.nil_append, List.cons_append]
  gi_wp2
  gi_loopw [3] (fun i wr => ∃ p : Nat, p ≤ L ∧ i = .int .i64 p ∧ Hid (∃ f d, E = d ++ fes f p (S.drop p) ∧ (S.drop p).length < f ∧ J d wr) ∧ wr.cell? ⟨Bb, 0, none⟩ = some (.string (bs S))) (fun i _ => L - (intOf i).toNat)
  case atStart => exact ⟨0, Nat.zero_le _, rfl, H0, hBW⟩
  case round =>
    clear H0 hBW
    obtain ⟨p, hp, rfl, HI, hBr⟩ := hrel
    by_cases hlt : p < L
    · have hli : ((p : Int) < (L : Int)) = True := by simp; omega
      have hli' : (p : Int) < (L : Int) := by omega
      have hpl : ¬ (L : Int) < (p : Int) := by omega
      have hx : (bs S).extract p L = bs (S.drop p) := by
        rw [bs_extract, List.take_of_length_le (by rw [List.length_drop, HL.out]; omega)]
      have HD := Lib.hid (frame_Decode (S.drop p) (by rw [List.length_drop, HL.out]; omega) wr)
      obtain ⟨f, d, hE, hf, hJd⟩ := HI.out
      have HE := Lib.hid hE; have HF := Lib.hid hf; have HJD := Lib.hid hJd
      clear hE hf hJd
      gi_wp2
      refine ⟨trivial, (callsIn_wide.2 HD.out).mono ?_⟩
      rintro en w1 ⟨hD, hb1⟩
      have hBl := cell_lt hBr
      have hB1 : w1.cell? ⟨Bb, 0, none⟩ = some (.string (bs S)) := (hb1.cell (p := ⟨Bb, 0, none⟩) hBl).trans hBr
      have hJ1 := HJA.out _ wr w1 none HJD.out (below_grown hb1) (fun r h => by cases h)
      obtain ⟨f, rfl⟩ : ∃ g, f = g + 1 := ⟨f - 1, by have := HF.out; omega⟩
      have hne : S.drop p ≠ [] := by
        intro e
        have : (S.drop p).length = 0 := by rw [e]; rfl
        rw [List.length_drop, HL.out] at this; omega
      clear HD HJD hBr hb1
      rcases hD with ⟨m, t, u, hd, rfl⟩ | ⟨hd, rfl⟩
      · have hbA : Below w1.heap.size w1 (w1.alloc (.cells #[.int .u64 (m : Int), .string (bs t)] 93)) := (Below.refl _ _).alloc (Nat.le_refl _) _
        have hJ2 := HJA.out _ w1 _ none hJ1 (below_grown hbA) (fun r h => by cases h)
        have hB2 := (hbA.cell (p := ⟨Bb, 0, none⟩) (cell_lt hB1)).trans hB1
        have hE2 := HE.out
        rw [fes_some f p _ hd] at hE2
        have hu := Wl.dec_used sumF hd
        rw [List.length_drop, HL.out] at hu
        obtain ⟨q, hq⟩ : ∃ q, p + u = q := ⟨_, rfl⟩
        have hqi : (p : Int) + (u : Int) = (q : Int) := by omega
        have hqL : q ≤ L := by omega
        rw [hq] at hE2
        have hyy := HY.out d ⟨m, t, q, 0⟩ _ hJ2 (by rw [hE2]; simp)
        obtain ⟨fn, tmps, assign, body, hy, hR⟩ := hyy
        simp only [encFe] at hy
        have HRR := Lib.hid hR
        have HE2 := Lib.hid hE2
        have HQ := Lib.hid hq
        have HDD : Hid ((S.drop p).drop u = S.drop q) := Lib.hid (by rw [List.drop_drop, hq])
        have HF2 : Hid ((S.drop q).length < f) := Lib.hid (by have := HF.out; rw [List.length_drop, HL.out] at this ⊢; omega)
        have hpq : p < q := by omega
        clear hR hE2 hJ1 hJ2 hbA HY HJA HE HF hd hu hB1 hq
        gi_wp2
        refine HRR.out.mono ?_
        rintro en W3 (⟨rfl, hJ3, hk3⟩ | ⟨rfl, hJx3⟩)
        · have hB3 := hk3.trans hB2
          clear hk3
          gi_wp2
          go_roundw
          case rel => exact ⟨q, hqL, rfl, Lib.hid ⟨f, _, by rw [HE2.out, HDD.out, List.append_assoc]; rfl, HF2.out, hJ3⟩, hB3⟩
          case measure => simp [intOf]; omega
        · gi_wp2
          refine bodyPost_ret (results_none rfl _ _ _) rfl ?_
          exact ⟨⟨_, rfl⟩, .inr ⟨_, ⟨_, _, _, HE2.out, rfl⟩, hJx3⟩⟩
      · have hbA : Below w1.heap.size w1 (w1.alloc (.cells #[.int .u64 0, .string ⟨#[]⟩] 93)) := (Below.refl _ _).alloc (Nat.le_refl _) _
        have hJ2 := HJA.out _ w1 _ none hJ1 (below_grown hbA) (fun r h => by cases h)
        have hB2 := (hbA.cell (p := ⟨Bb, 0, none⟩) (cell_lt hB1)).trans hB1
        have hE2 := HE.out
        rw [fes_none f p _ hne hd] at hE2
        have hyy := HY.out d ⟨0, [], p, decErr (S.drop p)⟩ _ hJ2 (by rw [hE2]; simp)
        obtain ⟨er, her⟩ : ∃ er, decErr (S.drop p) = er := ⟨_, rfl⟩
        have hern : er ≠ 0 := by rw [← her]; exact decErr_ne _
        rw [her] at hE2 hyy ⊢
        obtain ⟨fn, tmps, assign, body, hy, hR⟩ := hyy
        simp only [encFe, show bs [] = (⟨#[]⟩ : ByteArray) from rfl, show ((0 : Nat) : Int) = 0 from rfl] at hy
        have HRR := Lib.hid hR
        have HE2 := Lib.hid hE2
        have hern2 : (er != 0) = true := by simpa using hern
        clear hR hE2 hJ1 hJ2 hbA HY HJA HE HF hd hB1 her
        gi_wp2
        refine HRR.out.mono ?_
        rintro en W3 (⟨rfl, hJ3, hk3⟩ | ⟨rfl, hJx3⟩)
        · gi_wp2
          refine bodyPost_ret (results_none rfl _ _ _) rfl ?_
          exact ⟨⟨_, rfl⟩, .inl ⟨_, HE2.out.symm, hJ3⟩⟩
        · gi_wp2
          refine bodyPost_ret (results_none rfl _ _ _) rfl ?_
          exact ⟨⟨_, rfl⟩, .inr ⟨_, ⟨_, _, _, HE2.out, rfl⟩, hJx3⟩⟩
    · have hli : ((p : Int) < (L : Int)) = False := by simp; omega
      have hli' : ¬ (p : Int) < (L : Int) := by omega
      have hJE : Hid (J E wr) := Lib.hid (by
        obtain ⟨f, d, h1, h2, h3⟩ := HI.out
        rw [List.drop_of_length_le (by rw [HL.out]; omega), fes_nil, List.append_nil] at h1
        rw [h1]; exact h3)
      gi_wp2
      go_end0
      exact ⟨⟨_, rfl⟩, .inl (by first | exact hJE.out | exact ⟨_, rfl, hJE.out⟩)⟩
end Go.Proofs.Ytniflkggcceagaa
