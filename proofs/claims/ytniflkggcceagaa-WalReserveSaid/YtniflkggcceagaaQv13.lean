/- Disk and log in memory, over blocks P: its calls; small contracts of the law: Conf, Same. wal.Open where one segment stands there; what the law's known answers come to, plainly. The law's known answers: alive answers true. What the ends of a law of this seat share: a call that answers true and makes new memory alone meets a law's row, whatever its arguments are; a conf, opened. A log's numbers, plainly: what its files have, what Append and Checkpoint do to them while the disk runs. What Append and Checkpoint do while the disk runs, plainly. -/
import Derived.Test.YtniflkggcceagaaQv10
import Derived.Test.YtniflkggcceagaaQv12
import Derived.Test.YtniflkggcceagaaRows
import Derived.WalkKit
import Derived.ProofKit
import Derived.OpenShut
import Derived.ChangeSlices
import Derived.Deep.DeepHandedRow
import Derived.Shelf.Vars
import Derived.LaidLaws
import Derived.Lib.SmallJoins
namespace Go.Proofs.Ytniflkggcceagaa
open Go Go.RowKit
def LgS (P : Nat → Prop) (x d : Nat) (D : Dk) (W : Wa) (w : World) : Prop := ∃ S T : Nat → Prop, DiskAt w S d D ∧ WalAt w T x d W ∧ (∀ k, S k → ¬ T k) ∧ (∀ k, S k → P k) ∧ (∀ k, T k → P k)
def DkS (P : Nat → Prop) (d : Nat) (D : Dk) (w : World) : Prop := ∃ S : Nat → Prop, DiskAt w S d D ∧ (∀ k, S k → P k)
section
variable {P P' : Nat → Prop} {x d : Nat} {D : Dk} {W : Wa} {w w' : World}
theorem LgS.disk (h : LgS P x d D W w) : DkS P d D w := by
  obtain ⟨S, T, h1, h2, h3, h4, h5⟩ := h; exact ⟨S, h1, h4⟩
theorem LgS.mono (h : LgS P x d D W w) (hP : ∀ k, P k → k < w.heap.size → P' k) : LgS P' x d D W w := by
  obtain ⟨S, T, h1, h2, h3, h4, h5⟩ := h; exact ⟨S, T, h1, h2, h3, fun k hk => hP k (h4 k hk) (h1.own k hk), fun k hk => hP k (h5 k hk) (h2.own k hk)⟩
theorem DkS.mono (h : DkS P d D w) (hP : ∀ k, P k → k < w.heap.size → P' k) : DkS P' d D w := by
  obtain ⟨S, h1, h4⟩ := h; exact ⟨S, h1, fun k hk => hP k (h4 k hk) (h1.own k hk)⟩
theorem LgS.step (h : LgS P x d D W w) (hb : Below w.heap.size w w') : LgS P x d D W w' := by
  obtain ⟨S, T, h1, h2, h3, h4, h5⟩ := h; exact ⟨S, T, h1.step hb, h2.step hb, h3, h4, h5⟩
theorem DkS.step (h : DkS P d D w) (hb : Below w.heap.size w w') : DkS P d D w' := by
  obtain ⟨S, h1, h4⟩ := h; exact ⟨S, h1.step hb, h4⟩
theorem LgS.but {X : Nat → Prop} (h : LgS P x d D W w) (hb : ButS X w w') (hX : ∀ k, P k → ¬ X k) : LgS P x d D W w' := by
  obtain ⟨S, T, h1, h2, h3, h4, h5⟩ := h; exact ⟨S, T, h1.but hb (fun k hk => hX k (h4 k hk)), h2.but hb (fun k hk => hX k (h5 k hk)), h3, h4, h5⟩
def LgR (P : Nat → Prop) (x d : Nat) (v : Value) (D : Dk) (W : Wa) (w : World) (e : Ending) (w' : World) : Prop := e = .returned v ∧ LgS (Gr P w w') x d D W w' ∧ ButS P w w'
theorem LgAt.lgs {S T : Nat → Prop} (h : LgAt w S T x d D W w') (hS : ∀ k, S k → P k) (hT : ∀ k, T k → P k) : LgS (Gr P w w') x d D W w' ∧ ButS P w w' := by
  obtain ⟨S', T', h1, h2, h3, h4, h5, h6⟩ := h
  exact ⟨⟨S', T', h1, h2, h3, fun k hk => (h4 k hk).elim (fun h => Or.inl (hS k h)) (fun h => Or.inr ⟨h, h1.own k hk⟩), fun k hk => (h5 k hk).elim (fun h => Or.inl (hT k h)) (fun h => Or.inr ⟨h, h2.own k hk⟩)⟩, h6.mono (fun k hk => hk.elim (hS k) (hT k))⟩
theorem LgS.append (h : LgS P x d D W w) (hk : DkOk D) (ho : WaOk W) (ha : AOk W 0) (hg : 1 ≤ W.gen ∧ W.gen < 128) (hn1 : 1 ≤ W.next) (hn3 : 3 ≤ D.n) (use : Int) (hu : 0 ≤ use ∧ use ≤ W.reserved)
    (l : List (List UInt8)) (lv : Value) (hl : IsStrs w lv (l.map bs)) (hlen : l.length ≤ 20) (ht : ∀ t ∈ l, t.length ≤ 65536) (hloose : D.loose.length + 20 ≤ 1000000) :
    Calls Try.prog 13 #[.pointer (some ⟨x, 0, none⟩), .int .i64 use, lv] w (LgR P x d (.tuple #[.int .u64 ((apR D W use l).1.1 : Int), .int .i64 (apR D W use l).1.2]) (apR D W use l).2.1 (apR D W use l).2.2 w) := by
  obtain ⟨S, T, h1, h2, h3, h4, h5⟩ := h
  refine (wal_Append w h2 h1 h3 hk ho ha hg hn1 hn3 use hu l lv hl hlen ht hloose).mono ?_
  rintro e w' ⟨rfl, hL⟩
  exact ⟨rfl, hL.lgs h4 h5⟩
theorem LgS.check (h : LgS P x d D W w) (hk : DkOk D) (ho : WaOk W) (ha : AOk W 0) (hg : 1 ≤ W.gen ∧ W.gen < 127) (hn1 : 1 ≤ W.next) (hn3 : 3 ≤ D.n) (t : List UInt8) (ht : t.length ≤ 65534) (hloose : D.loose.length + 200 ≤ 1000000) :
    Calls Try.prog 17 #[.pointer (some ⟨x, 0, none⟩), .string (bs t)] w (LgR P x d (.int .i64 (ckR D W t).1) (ckR D W t).2.1 (ckR D W t).2.2 w) := by
  obtain ⟨S, T, h1, h2, h3, h4, h5⟩ := h
  refine (wal_Checkpoint w h2 h1 h3 hk ho ha hg hn1 hn3 t ht hloose).mono ?_
  rintro e w' ⟨rfl, hL⟩
  exact ⟨rfl, hL.lgs h4 h5⟩
def syR (D : Dk) (W : Wa) : Int × Dk × Wa := (if W.down ≠ 0 then 121 else D.sync.1, if W.down ≠ 0 then D else D.sync.2, if W.down ≠ 0 then W else { W with down := D.sync.1 })
theorem LgS.sync (h : LgS P x d D W w) (hk : DkOk D) (hl : D.loose.length + 1 ≤ 1000000) :
    Calls Try.prog 16 #[.pointer (some ⟨x, 0, none⟩)] w (LgR P x d (.int .i64 (syR D W).1) (syR D W).2.1 (syR D W).2.2 w) := by
  obtain ⟨S, T, h1, h2, h3, h4, h5⟩ := h
  refine (wal_Sync w h2 h1 h3 hk hl).mono ?_
  rintro e w' ⟨rfl, g1, g2, g3⟩
  rw [steps_one] at g1 g2 ⊢
  exact ⟨rfl, ⟨Gr S w w', T, g1, g2, fun k hk ht => not_gr h3 h2.own k ht hk, fun k hk => hk.elim (fun h => Or.inl (h4 k h)) Or.inr, fun k hk => Or.inl (h5 k hk)⟩, g3.mono (fun k hk => hk.elim (h4 k) (fun e => by subst e; exact h5 k h2.xx))⟩
theorem LgS.room (h : LgS P x d D W w) (hk : DkOk D) (ho : WaOk W) : Calls Try.prog 10 #[.pointer (some ⟨x, 0, none⟩)] w fun e w' => e = .returned (.int .i64 (roomP D W)) ∧ ∃ n, w' = w.drewN n := by
  obtain ⟨S, T, h1, h2, h3, h4, h5⟩ := h
  exact wal_Room w h2 h1 hk ho
theorem LgS.next (h : LgS P x d D W w) : Calls Try.prog 11 #[.pointer (some ⟨x, 0, none⟩)] w fun e w' => e = .returned (.int .u64 (W.next : Int)) ∧ w' = w := by
  obtain ⟨S, T, h1, h2, h3, h4, h5⟩ := h
  exact wal_Next w h2
theorem LgS.first (h : LgS P x d D W w) : Calls Try.prog 25 #[.pointer (some ⟨x, 0, none⟩)] w fun e w' => e = .returned (.int .u64 (W.first : Int)) ∧ w' = w := by
  obtain ⟨S, T, h1, h2, h3, h4, h5⟩ := h
  exact wal_First w h2
end
theorem law_Conf (w : World) : Calls Try.prog 20 #[] w fun e w' => e = .returned confV ∧ Below w.heap.size w w' := by
  go_enter Try.func20, Try.ntmps20
  go_wp2_with fail
  refine bodyPost_ret (v := confV) ?_ rfl ⟨rfl, ?_⟩
  · simp [results, Try.results20, go_sem, confV]
  · exact (((Below.refl _ _).alloc (Nat.le_refl _) _))
set_option maxRecDepth 100000 in
set_option maxHeartbeats 1000000 in
theorem ref08_Same (w : World) (v1 v2 : Value) (l1 l2 : List (List UInt8)) (h1 : IsStrs w v1 (l1.map bs)) (h2 : IsStrs w v2 (l2.map bs)) (hb : l1.length ≤ 1000000) :
    Calls Try.prog 22 #[v1, v2] w fun e w' => e = .returned (.bool (decide (l1 = l2))) ∧ Below w.heap.size w w' := by
  have cell : ∀ (v : Value) (l : List (List UInt8)), IsStrs w v (l.map bs) → ∃ a cap, v = .slice a l.length cap ∧ Hid (l = [] ∨ ∃ b off, a = some ⟨b, off, none⟩ ∧ b < w.heap.size ∧ ∀ i, i < l.length → w.cell? ⟨b, off + i, none⟩ = some (.string (bs (l.getD i [])))) := fun v l ⟨a, cap, hv, hc⟩ => by
    refine ⟨a, cap, by rw [hv, List.length_map], Lib.hid ?_⟩
    rcases hc with hc | ⟨b, off, e1, e2, e3⟩
    · exact Or.inl (List.map_eq_nil_iff.1 hc)
    · refine Or.inr ⟨b, off, e1, e2, fun i hi => ?_⟩
      rw [e3 i (by rw [List.length_map]; exact hi), List.getD_eq_getElem?_getD, List.getD_eq_getElem?_getD, List.getElem?_map, List.getElem?_eq_getElem hi]; rfl
  obtain ⟨a1, c1, rfl, H1⟩ := cell v1 l1 h1
  obtain ⟨a2, c2, rfl, H2⟩ := cell v2 l2 h2
  obtain ⟨n1, hn1⟩ : ∃ z, l1.length = z := ⟨_, rfl⟩
  obtain ⟨n2, hn2⟩ : ∃ z, l2.length = z := ⟨_, rfl⟩
  have HN1 := Lib.hid hn1; have HN2 := Lib.hid hn2
  rw [hn1] at hb
  rw [hn1, hn2]
  clear h1 h2 cell
  by_cases hne : n1 = n2
  · subst hne
    have HDEC : Hid (∀ r : Bool, (r = true ↔ ∀ i, i < n1 → l1.getD i [] = l2.getD i []) → decide (l1 = l2) = r) := Lib.hid (fun r hr => by
      have e : l1 = l2 ↔ ∀ i, i < n1 → l1.getD i [] = l2.getD i [] := ⟨fun e _ _ => by rw [e], fun hh => List.ext_getElem (by rw [HN1.out, HN2.out]) (fun i hi1 hi2 => by
        have := hh i (by rw [← HN1.out]; exact hi1)
        rw [List.getD_eq_getElem?_getD, List.getD_eq_getElem?_getD, List.getElem?_eq_getElem hi1, List.getElem?_eq_getElem hi2] at this
        exact this)⟩
      cases r with
      | true => simpa using e.2 (hr.1 rfl)
      | false =>
        have : ¬ l1 = l2 := fun h => by have := hr.2 (e.1 h); cases this
        simpa using this)
    clear hn1 hn2
    go_enter Try.func22, Try.ntmps22
    go_wp2_with fail
    go_loopw [5] (fun i wr => ∃ q : Nat, q ≤ n1 ∧ i = .int .i64 q ∧ Hid (Below w.heap.size w wr) ∧ Hid (∀ i, i < q → l1.getD i [] = l2.getD i [])) (fun i _ => n1 - (intOf i).toNat)
    case atStart => exact ⟨0, Nat.zero_le _, rfl, Lib.hid (Below.refl _ _), Lib.hid (fun i hi => absurd hi (Nat.not_lt_zero i))⟩
    case round =>
      obtain ⟨q, hq, rfl, HB, HE⟩ := hrel
      by_cases hlt : q < n1
      · have HLT := Lib.hid hlt
        have hqi : (q : Int) < (n1 : Int) := by omega
        obtain ⟨b1, o1, rfl, hl1, hc1⟩ := H1.out.resolve_left (fun e => by have := HN1.out; rw [e] at this; simp at this; omega)
        obtain ⟨b2, o2, rfl, hl2, hc2⟩ := H2.out.resolve_left (fun e => by have := HN2.out; rw [e] at this; simp at this; omega)
        have k1 := (HB.out.cell (p := ⟨b1, o1 + q, none⟩) hl1).trans (hc1 q (by rw [HN1.out]; exact hlt))
        have k2 := (HB.out.cell (p := ⟨b2, o2 + q, none⟩) hl2).trans (hc2 q (by rw [HN2.out]; exact hlt))
        obtain ⟨s1, hs1⟩ : ∃ z, l1.getD q [] = z := ⟨_, rfl⟩
        obtain ⟨s2, hs2⟩ : ∃ z, l2.getD q [] = z := ⟨_, rfl⟩
        rw [hs1] at k1
        rw [hs2] at k2
        have HS1 := Lib.hid hs1; have HS2 := Lib.hid hs2
        clear hc1 hc2 hs1 hs2
        by_cases hss : s1 = s2
        · subst hss
          go_upto_region 6 with fail
          go_region
          go_wp2_with fail
          go_roundw
          case rel => exact ⟨q + 1, HLT.out, by go_num, Lib.hid (HB.out.trans ((Below.drew (Below.refl _ _)).mono HB.out.size)), Lib.hid (fun i hi => by
            by_cases e : i = q
            · subst e; rw [HS1.out, HS2.out]
            · exact HE.out i (by omega))⟩
          case measure => have := HLT.out; simp [intOf]; omega
        · have hbb : ((bs s1).toList == (bs s2).toList) = false := by
            have : ¬ (bs s1).toList = (bs s2).toList := by simpa [bs] using hss
            simpa using this
          have HSS := Lib.hid hss
          clear hss
          go_upto_region 6 with fail
          go_region
          go_wp2_with fail
          go_ret
          refine ⟨?_, HB.out.trans ((Below.drew (Below.refl _ _)).mono HB.out.size)⟩
          rw [HDEC.out false ⟨fun h => (by cases h), fun h => absurd ((HS1.out.symm.trans (h q HLT.out)).trans HS2.out) HSS.out⟩]
          rfl
      · obtain rfl : q = n1 := by omega
        go_wp2_with fail
        go_ret
        refine ⟨?_, HB.out⟩
        rw [HDEC.out true ⟨fun _ => HE.out, fun _ => rfl⟩]
        rfl
  · have hnei : ¬ (n1 : Int) = (n2 : Int) := by omega
    have hd : decide (l1 = l2) = false := by
      have : ¬ l1 = l2 := fun e => hne (by rw [← hn1, ← hn2, e])
      simpa using this
    rw [hd]
    clear hn1 hn2 hd
    go_enter Try.func22, Try.ntmps22
    go_wp2_with fail
    go_ret
    exact ⟨rfl, Below.refl _ _⟩
end Go.Proofs.Ytniflkggcceagaa

namespace Go.Proofs.Ytniflkggcceagaa
open Go Go.RowKit
theorem row_one (y : Nat × Wl.Sg) (hk : y.2.kind = 1) (hb : y.2.first + y.2.recs.length < 18446744073709551616) (W : World) (v : Value) (T : List Sm) (hT : T.map smP = [y]) (hS : SgsAt W v T) : Calls Try.prog 46 #[v] W (RowG [0] W) := by
  obtain ⟨t, rfl⟩ : ∃ t, T = [t] := by
    match T, hT with
    | [t], _ => exact ⟨t, rfl⟩
    | [], h => cases h
    | _ :: _ :: _, h => cases h
  have ht : smP t = y := by simpa using hT
  obtain ⟨g, cp, rfl, hg, hc⟩ := hS
  obtain ⟨⟨a, cp2, h5⟩, h6⟩ := hc 0 t rfl
  have h1 : t.2.1 = y.2 := by rw [← ht]; rfl
  refine (seg_Row1 W g cp t.2.1 (by rw [h1]; exact hk) a cp2 hg (by rw [h1]; exact hb) (fun j u hu => ?_)).mono ?_
  · have h7 := h6 j u (by unfold sgV; rw [h5, Array.getElem?_toList]; exact hu)
    rwa [show 0 * 7 + j = j from by omega] at h7
  · rintro e w' ⟨a', c', rfl, ho, hbl⟩
    exact ⟨a', c', rfl, ho, hbl⟩
def OpS (P : Nat → Prop) (d : Nat) (D : Dk) (W : Wa) (t0 : List UInt8) (R : List (List UInt8)) (w : World) (e : Ending) (w' : World) : Prop := ∃ (x : Nat) (a : Option Addr) (cp : Nat), e = .returned (.tuple #[.pointer (some ⟨x, 0, none⟩), .agg (kepC t0 W.first (.slice a R.length cp)), .int .i64 0]) ∧
  LgS (fun k => Gr P w w' k ∧ (Value.slice a R.length cp).ownBlock ≠ some k) x d D W w' ∧ ButS P w w' ∧ w'.ownsRow w.heap.size 9 1 (.slice a R.length cp) R.length (strsV R)
theorem OpenG.ops {P S : Nat → Prop} {d : Nat} {D : Dk} {W : Wa} {t0 : List UInt8} {R : List (List UInt8)} {w w' : World} {e : Ending} (h : OpenG S d D W t0 R w e w') (hS : ∀ k, S k → P k) : OpS P d D W t0 R w e w' := by
  obtain ⟨x, S', T, a, cp, rfl, h1, h2, h3, h4, h5, h6, h7, h8⟩ := h
  exact ⟨x, a, cp, rfl, ⟨S', T, h1, h2, h3, fun k hk => ⟨(h4 k hk).elim (fun h => Or.inl (hS k h)) (fun h => Or.inr ⟨h, h1.own k hk⟩), fun e => (h8 k e).1 hk⟩, fun k hk => ⟨Or.inr ⟨h5 k hk, h2.own k hk⟩, fun e => (h8 k e).2 hk⟩⟩, h6.mono hS, h7⟩
theorem open_one {P : Nat → Prop} {d : Nat} {D : Dk} {w : World} (h : DkS P d D w) (hk : DkOk D) (hn : 3 ≤ D.n) (hf : D.fuse < 0) (hl : D.loose.length ≤ 999990) (hT : ∀ i, i < 3 → Txt (D.now i)) (hN : ∀ i, i < 3 → (D.now i).length ≤ 1000000)
    (y : Nat × Wl.Sg) (hp : psF D.now 3 = [y]) (hkind : y.2.kind = 1) :
    Calls Try.prog 19 #[.pointer (some ⟨d, 0, none⟩), confV] w (OpS P d (opD [y] D) (opW [y] y.2.first) y.2.text y.2.recs w) := by
  obtain ⟨S, h1, h2⟩ := h
  have hy : y ∈ psF D.now 3 := by rw [hp]; simp
  have hm := psF_mem hy
  have hb := parse_bound hm.2 (hT _ hm.1)
  have hgs : gsOf (psF D.now 3) [0] = [y] := by rw [hp]; rfl
  have h3 := wal_Open w h1 hk hn hf hl hT hN [0] (by decide) (by intro i hi; rw [hp]; simp at hi; subst hi; simp) (by simp) (fun W v T hT2 hS => row_one y hkind (by have := hb.1; omega) W v T (by rw [hT2, hp]) hS)
  rw [hgs] at h3
  have e1 : (psF D.now 3).getD ([0].getD 0 0) (0, sgZ) = y := by rw [hp]; rfl
  rw [e1] at h3
  refine h3.mono ?_
  intro e w' hh
  have := hh.ops h2
  rwa [show (lqOf [] 0 [y]).R = y.2.recs from by unfold lqOf; simp] at this
def st (a b : List UInt8) : Nat → List UInt8 := fun i => if i = 0 then a else if i = 1 then b else []
def dk (a b a' b' : List UInt8) (lo : List Lc) : Dk := ⟨3, 1000, st a b, st a' b', lo, -1⟩
theorem upd0 (a b s : List UInt8) : upd (st a b) 0 s = st s b := by
  funext i; unfold upd st; by_cases h : i = 0 <;> simp [h]
theorem upd1 (a b s : List UInt8) : upd (st a b) 1 s = st a s := by
  funext i; unfold upd st
  by_cases h : i = 1
  · simp [h]
  · simp [h]
theorem lens_st (a b : List UInt8) : lensN (st a b) 16 = a.length + b.length := by
  have h : ∀ k, lensN (st a b) (k + 2) = a.length + b.length := fun k => by
    induction k with
    | zero => simp [lensN, st]
    | succ k ih => show lensN (st a b) (k + 2) + _ = _; rw [ih]; simp [st]
  exact h 14
theorem dk_fuse (a b a' b' : List UInt8) (lo : List Lc) : (dk a b a' b' lo).fuse < 0 := by show (-1 : Int) < 0; decide
theorem dk_n (a b a' b' : List UInt8) (lo : List Lc) : (dk a b a' b' lo).n = 3 := rfl
theorem dk_left (a b a' b' : List UInt8) (lo : List Lc) : (dk a b a' b' lo).left = 1000 - ((a.length + b.length : Nat) : Int) := by
  unfold Dk.left dk
  dsimp only
  rw [lens_st]; rfl
theorem dk_write0 (a b a' b' s : List UInt8) (lo : List Lc) (h : s.length + a.length + b.length ≤ 1000) : (dk a b a' b' lo).write 0 s = (0, dk (a ++ s) b a' b' (lo ++ [.wr 0 s])) := by
  have := write_neg (D := dk a b a' b' lo) (dk_fuse ..) (f := 0) (by rw [dk_n]; decide) (s := s) (by rw [dk_left]; omega) (by omega)
  rw [show ((0 : Nat) : Int) = 0 from rfl] at this
  rw [this]
  show (0, (⟨3, 1000, upd (st a b) 0 (st a b 0 ++ s), _, _, _⟩ : Dk)) = _
  rw [upd0]; rfl
theorem dk_write1 (a b a' b' s : List UInt8) (lo : List Lc) (h : s.length + a.length + b.length ≤ 1000) : (dk a b a' b' lo).write 1 s = (0, dk a (b ++ s) a' b' (lo ++ [.wr 1 s])) := by
  have := write_neg (D := dk a b a' b' lo) (dk_fuse ..) (f := 1) (by rw [dk_n]; decide) (s := s) (by rw [dk_left]; omega) (by omega)
  rw [show ((1 : Nat) : Int) = 1 from rfl] at this
  rw [this]
  show (0, (⟨3, 1000, upd (st a b) 1 (st a b 1 ++ s), _, _, _⟩ : Dk)) = _
  rw [upd1]; rfl
theorem dk_cut0 (a b a' b' : List UInt8) (n : Nat) (lo : List Lc) : (dk a b a' b' lo).cutF 0 n = (0, dk (a.take n) b a' b' (lo ++ [.cut 0 n])) := by
  have := cut_neg (D := dk a b a' b' lo) (dk_fuse ..) (f := 0) (n := n) (by rw [dk_n]; decide)
  rw [show ((0 : Nat) : Int) = 0 from rfl] at this
  rw [this]
  show (0, (⟨3, 1000, upd (st a b) 0 ((st a b 0).take n), _, _, _⟩ : Dk)) = _
  rw [upd0]; rfl
theorem dk_sync (a b a' b' : List UInt8) (lo : List Lc) : (dk a b a' b' lo).sync = (0, dk a b a b []) := by
  rw [sync_neg (dk_fuse ..)]; rfl
theorem dk_ok (a b a' b' : List UInt8) (lo : List Lc) (h : a.length ≤ 1000 ∧ b.length ≤ 1000) (hl : lo.length ≤ 1000) : DkOk (dk a b a' b' lo) := by
  refine ⟨by show 1000 ≤ _; omega, fun i _ => ?_, by show lo.length ≤ _; omega, by show (-1 : Int) < _; omega⟩
  show (st a b i).length ≤ _
  unfold st
  split
  · omega
  · split
    · omega
    · simp
theorem pcs_one (g n z : Nat) (t : List UInt8) (hz : z < 100) : pcs g n z [t] = [(Wl.enc sumF n t, false)] := by
  unfold pcs pcs pieceP
  rw [if_neg (by omega), show decide (100 ≤ z) = false from by simp; omega]
theorem pcs_two (g n z : Nat) (t u : List UInt8) (hz : z + 16 + t.length < 100) : pcs g n z [t, u] = [(Wl.enc sumF n t, false), (Wl.enc sumF (n + 1) u, false)] := by
  rw [show pcs g n z [t, u] = (pieceP g n t z, decide (100 ≤ z)) :: pcs g (n + 1) ((if 100 ≤ z then 0 else z) + (pieceP g n t z).length) [u] from rfl]
  have e : pieceP g n t z = Wl.enc sumF n t := by unfold pieceP; rw [if_neg (by omega)]
  rw [e, if_neg (by omega), pcs_one _ _ _ _ (by rw [Wl.enc_length]; omega), show decide (100 ≤ z) = false from by simp; omega]
theorem txt_seg {k g n : Nat} {t : List UInt8} {l : List (List UInt8)} {j : Nat} (_hk : k ≤ 1) (hg : 1 ≤ g ∧ g < 128) (hn : 1 ≤ n ∧ n ≤ 1000000) (ht : t.length ≤ 60000) (hl : (Wl.seg sumF k g n t l).length ≤ 1000000) : Txt ((Wl.seg sumF k g n t l).take j) := by
  intro m u z hd
  have hjl : ((Wl.seg sumF k g n t l).take j).length ≤ 1000000 := by rw [List.length_take]; omega
  by_cases hj : j < 18 + t.length
  · unfold Wl.seg at hd
    rw [List.take_append_of_le_length (by rw [Wl.head_length]; omega)] at hd
    unfold Wl.head at hd
    rw [Wl.dec_torn sumF (by simp; omega) (by simp; omega)] at hd
    cases hd
  · have e : (Wl.seg sumF k g n t l).take j = Wl.head sumF k g n t ++ (Wl.frs sumF n l).take (j - (18 + t.length)) := by
      unfold Wl.seg
      rw [List.take_append, Wl.head_length, List.take_of_length_le (by rw [Wl.head_length]; omega)]
    rw [e] at hd
    unfold Wl.head at hd
    rw [Wl.dec_enc sumF sumF_lt (by omega) (by simp; omega)] at hd
    cases hd
    refine ⟨by omega, fun k' g' r hr => ?_⟩
    injection hr with h1 h2
    injection h2 with h2 h3
    rw [← h2]; simp; omega
theorem txt_nil : Txt [] := fun m u z hd => by simp [Wl.dec] at hd
def h1' : List UInt8 := Wl.head sumF 1 1 1 [97]
def h2' : List UInt8 := Wl.head sumF 1 2 3 [101]
def e1' : List UInt8 := Wl.enc sumF 1 [98]
def e2' : List UInt8 := Wl.enc sumF 2 [99]
def e3' : List UInt8 := Wl.enc sumF 3 [100]
def e4' : List UInt8 := Wl.enc sumF 3 [102]
theorem l_h1 : h1'.length = 19 := by unfold h1'; rw [Wl.head_length]; rfl
theorem l_h2 : h2'.length = 19 := by unfold h2'; rw [Wl.head_length]; rfl
theorem l_e1 : e1'.length = 17 := by unfold e1'; rw [Wl.enc_length]; rfl
theorem l_e2 : e2'.length = 17 := by unfold e2'; rw [Wl.enc_length]; rfl
theorem l_e3 : e3'.length = 17 := by unfold e3'; rw [Wl.enc_length]; rfl
theorem l_e4 : e4'.length = 17 := by unfold e4'; rw [Wl.enc_length]; rfl
theorem dk0_eq : dk0 3 1000 = dk [] [] [] [] [] := by
  unfold dk0 dk
  congr 1
  · funext i; unfold st; simp
  · funext i; unfold st; simp
theorem room_of (a b a' b' : List UInt8) (lo : List Lc) (W : Wa) (z : Nat) (hz : sumL W.sizes = z) (hr : W.reserved = 0) (h : a.length + b.length ≤ 700) (hzb : z ≤ 200) : roomP (dk a b a' b' lo) W = 200 - (z : Int) := by
  unfold roomP openP
  rw [dk_left, hz, hr]; omega
theorem frees_of (a b a' b' : List UInt8) (lo : List Lc) : 1 ≤ freesP (dk a b a' b' lo) := by
  unfold freesP
  rw [if_neg (by show ¬ (-1 : Int) = 0; decide)]
  show 1 ≤ cntE (st a b) 3
  show 1 ≤ cntE (st a b) 2 + (if st a b 2 = [] then 1 else 0)
  rw [if_pos (show st a b 2 = [] by simp [st])]; omega
theorem ap_b (a' b' : List UInt8) : apR (dk h1' [] a' b' []) ⟨1, 1, 1, [0], [19], 0, 0⟩ 0 [[98], [99]] = ((1, 0), dk (h1' ++ e1' ++ e2') [] a' b' [.wr 0 e1', .wr 0 e2'], ⟨1, 1, 3, [0], [53], 0, 0⟩) := by
  have w1 := dk_write0 h1' [] a' b' e1' [] (by rw [l_h1, l_e1]; decide)
  have w2 := dk_write0 (h1' ++ e1') [] a' b' e2' ([] ++ [.wr 0 e1']) (by rw [List.length_append, l_h1, l_e1, l_e2]; decide)
  unfold apR
  rw [if_neg (by simp)]
  simp only [lastN, List.length_cons, List.length_nil, List.getD_cons_zero, Nat.sub_self, Nat.zero_add]
  rw [pcs_two 1 1 19 [98] [99] (by decide), room_of _ _ _ _ _ _ 19 rfl rfl (by rw [l_h1]; decide) (by decide)]
  have hn : needP [(Wl.enc sumF 1 [98], false), (Wl.enc sumF 2 [99], false)] = 34 := by
    show sumL [e1'.length, e2'.length] = 34
    rw [l_e1, l_e2]; rfl
  rw [hn, if_neg (by simp [headsP])]
  have hw : wrs [(Wl.enc sumF 1 [98], false), (Wl.enc sumF 2 [99], false)] (dk h1' [] a' b' []) ⟨1, 1, 1, [0], [19], 0, 0⟩ = (0, dk (h1' ++ e1' ++ e2') [] a' b' [.wr 0 e1', .wr 0 e2'], ⟨1, 1, 3, [0], [53], 0, 0⟩) := by
    rw [wrs_cons (V1 := ⟨1, 1, 1, [0], [19], 0, 0⟩) (er := 0) (D2 := dk (h1' ++ e1') [] a' b' ([] ++ [.wr 0 e1'])) _ rfl w1, if_pos rfl]
    rw [wrs_cons (V1 := ⟨1, 1, 2, [0], [36], 0, 0⟩) (er := 0) (D2 := dk (h1' ++ e1' ++ e2') [] a' b' ([] ++ [.wr 0 e1'] ++ [.wr 0 e2'])) _ (by rw [if_neg (by decide)]; rw [Wl.enc_length]; rfl) w2, if_pos rfl, Wl.enc_length]
    rfl
  rw [hw, if_neg (by simp)]
  rfl
theorem ap_d (a a' b' : List UInt8) (ha : a.length ≤ 300) : apR (dk a [] a' b' []) ⟨1, 1, 3, [0], [53], 0, 0⟩ 0 [[100]] = ((3, 0), dk (a ++ e3') [] a' b' [.wr 0 e3'], ⟨1, 1, 4, [0], [70], 0, 0⟩) := by
  have w1 := dk_write0 a [] a' b' e3' [] (by rw [l_e3]; simp; omega)
  unfold apR
  rw [if_neg (by simp)]
  simp only [lastN, List.length_cons, List.length_nil, List.getD_cons_zero, Nat.sub_self, Nat.zero_add]
  rw [pcs_one 1 3 53 [100] (by decide), room_of _ _ _ _ _ _ 53 rfl rfl (by simp; omega) (by decide)]
  have hn : needP [(Wl.enc sumF 3 [100], false)] = 17 := by
    show sumL [e3'.length] = 17
    rw [l_e3]; rfl
  rw [hn, if_neg (by simp [headsP])]
  have hw : wrs [(Wl.enc sumF 3 [100], false)] (dk a [] a' b' []) ⟨1, 1, 3, [0], [53], 0, 0⟩ = (0, dk (a ++ e3') [] a' b' [.wr 0 e3'], ⟨1, 1, 4, [0], [70], 0, 0⟩) := by
    rw [wrs_cons (V1 := ⟨1, 1, 3, [0], [53], 0, 0⟩) (er := 0) (D2 := dk (a ++ e3') [] a' b' ([] ++ [.wr 0 e3'])) _ rfl w1, if_pos rfl, Wl.enc_length]
    rfl
  rw [hw, if_neg (by simp)]
  rfl
theorem ap_f (b a' b' : List UInt8) (hb : b.length ≤ 300) : apR (dk [] b a' b' []) ⟨2, 3, 3, [1], [19], 0, 0⟩ 0 [[102]] = ((3, 0), dk [] (b ++ e4') a' b' [.wr 1 e4'], ⟨2, 3, 4, [1], [36], 0, 0⟩) := by
  have w1 := dk_write1 [] b a' b' e4' [] (by rw [l_e4]; simp; omega)
  unfold apR
  rw [if_neg (by simp)]
  simp only [lastN, List.length_cons, List.length_nil, List.getD_cons_zero, Nat.sub_self, Nat.zero_add]
  rw [pcs_one 2 3 19 [102] (by decide), room_of _ _ _ _ _ _ 19 rfl rfl (by simp; omega) (by decide)]
  have hn : needP [(Wl.enc sumF 3 [102], false)] = 17 := by
    show sumL [e4'.length] = 17
    rw [l_e4]; rfl
  rw [hn, if_neg (by simp [headsP])]
  have hw : wrs [(Wl.enc sumF 3 [102], false)] (dk [] b a' b' []) ⟨2, 3, 3, [1], [19], 0, 0⟩ = (0, dk [] (b ++ e4') a' b' [.wr 1 e4'], ⟨2, 3, 4, [1], [36], 0, 0⟩) := by
    rw [wrs_cons (V1 := ⟨2, 3, 3, [1], [19], 0, 0⟩) (er := 0) (D2 := dk [] (b ++ e4') a' b' ([] ++ [.wr 1 e4'])) _ rfl w1, if_pos rfl, Wl.enc_length]
    rfl
  rw [hw, if_neg (by simp)]
  rfl
theorem sy_of (a b a' b' : List UInt8) (lo : List Lc) (W : Wa) (h : W.down = 0) : syR (dk a b a' b' lo) W = (0, dk a b a b [], W) := by
  unfold syR
  rw [dk_sync, if_neg (by rw [h]; simp), if_neg (by rw [h]; simp), if_neg (by rw [h]; simp)]
  obtain ⟨g, f, n, F, Z, r, d⟩ := W
  dsimp only at h; subst h; rfl
def f0' : List UInt8 := h1' ++ e1' ++ e2'
theorem f0_seg : f0' ++ e3'.take 3 = (Wl.seg sumF 1 1 1 [97] [[98], [99], [100]]).take 56 := by
  have e : Wl.seg sumF 1 1 1 [97] [[98], [99], [100]] = f0' ++ e3' := by
    unfold Wl.seg f0'
    simp only [Wl.frs, List.append_nil, List.append_assoc]
    rfl
  have hl : f0'.length = 53 := by unfold f0'; simp [l_h1, l_e1, l_e2]
  rw [e, List.take_append, hl, List.take_of_length_le (l := f0') (by rw [hl]; decide)]
theorem cr_of (_a' b' : List UInt8) : (dk (f0' ++ e3') [] f0' b' [.wr 0 e3']).crash 0 3 = dk (f0' ++ e3'.take 3) b' (f0' ++ e3'.take 3) b' [] := by
  have e : crashN (st f0' b') 0 3 [.wr 0 e3'] 0 = st (f0' ++ e3'.take 3) b' := by
    unfold crashN crashN
    rw [if_neg (by decide), if_pos rfl]
    unfold Lc.done
    dsimp only
    rw [upd0]
    have h1 : (max 0 (min (min 3 (allB - 1)) (e3'.length : Int))).toNat = 3 := by rw [l_e3]; decide
    rw [h1]; rfl
  unfold Dk.crash dk
  dsimp only
  rw [e]
theorem ps_a : Wl.parse sumF (f0' ++ e3'.take 3) = some ⟨1, 1, 1, [97], [[98], [99]], 53, false⟩ := by
  rw [f0_seg]
  obtain ⟨m, h1, h2, h3, h4, h5⟩ := Wl.parse_seg sumF sumF_lt (k := 1) (g := 1) (n := 1) (t := [97]) (l := [[98], [99], [100]]) (j := 56) (by decide) (by decide) (by decide) (fun h => by cases h) (by decide) (by decide) (by decide) (by decide)
  have hm : m = 2 := by
    have q2 := h5 2 (by decide) (by decide)
    simp only [List.length_cons, List.length_nil] at h1
    by_cases e : m = 3
    · subst e; exact absurd h3 (by decide)
    · omega
  subst hm
  rw [h2]
  have hl : ((Wl.seg sumF 1 1 1 [97] [[98], [99], [100]]).take 56).length = 56 := by
    rw [← f0_seg]; unfold f0'; simp [l_h1, l_e1, l_e2, l_e3]
  rw [hl]; rfl
theorem ps_e : Wl.parse sumF (h2' ++ e4') = some ⟨1, 2, 3, [101], [[102]], 36, true⟩ := by
  have e : Wl.seg sumF 1 2 3 [101] [[102]] = h2' ++ e4' := by
    unfold Wl.seg; simp only [Wl.frs, List.append_nil]; rfl
  have hl : (h2' ++ e4').length = 36 := by simp [l_h2, l_e4]
  obtain ⟨m, h1, h2, h3, h4, h5⟩ := Wl.parse_seg sumF sumF_lt (k := 1) (g := 2) (n := 3) (t := [101]) (l := [[102]]) (j := 36) (by decide) (by decide) (by decide) (fun h => by cases h) (by decide) (by decide) (by decide) (by decide)
  have hm : m = 1 := h4 (by decide)
  subst hm
  rw [e, List.take_of_length_le (by rw [hl]; exact Nat.le_refl _)] at h2
  rw [h2, hl]; rfl
theorem ps_nil : Wl.parse sumF [] = none := by simp [Wl.parse, Wl.dec]
theorem psF_a (a' b' : List UInt8) : psF (dk (f0' ++ e3'.take 3) [] a' b' []).now 3 = [(0, ⟨1, 1, 1, [97], [[98], [99]], 53, false⟩)] := by
  have e0 : (dk (f0' ++ e3'.take 3) [] a' b' []).now 0 = f0' ++ e3'.take 3 := rfl
  have e1 : (dk (f0' ++ e3'.take 3) [] a' b' []).now 1 = [] := rfl
  have e2 : (dk (f0' ++ e3'.take 3) [] a' b' []).now 2 = [] := rfl
  rw [psF_none (k := 2) (by rw [e2]; exact ps_nil), psF_none (k := 1) (by rw [e1]; exact ps_nil), psF_some (k := 0) (by rw [e0]; exact ps_a)]
  rfl
theorem psF_e (a' b' : List UInt8) : psF (dk [] (h2' ++ e4') a' b' []).now 3 = [(1, ⟨1, 2, 3, [101], [[102]], 36, true⟩)] := by
  have e0 : (dk [] (h2' ++ e4') a' b' []).now 0 = [] := rfl
  have e1 : (dk [] (h2' ++ e4') a' b' []).now 1 = h2' ++ e4' := rfl
  have e2 : (dk [] (h2' ++ e4') a' b' []).now 2 = [] := rfl
  rw [psF_none (k := 2) (by rw [e2]; exact ps_nil), psF_some (k := 1) (by rw [e1]; exact ps_e), psF_none (k := 0) (by rw [e0]; exact ps_nil)]
  rfl
theorem opD_a (a' b' : List UInt8) : opD [(0, ⟨1, 1, 1, [97], [[98], [99]], 53, false⟩)] (dk (f0' ++ e3'.take 3) [] a' b' []) = dk f0' [] f0' [] [] := by
  have e : cutAll (st (f0' ++ e3'.take 3) []) [(0, 53)] = st f0' [] := by
    show cutAll (upd (st (f0' ++ e3'.take 3) []) 0 (List.take 53 (f0' ++ e3'.take 3))) [] = _
    rw [upd0, List.take_append_of_le_length (by unfold f0'; simp [l_h1, l_e1, l_e2]), List.take_of_length_le (by unfold f0'; simp [l_h1, l_e1, l_e2])]
    rfl
  have hc : cutsL [(0, ⟨1, 1, 1, [97], [[98], [99]], 53, false⟩)] (st (f0' ++ e3'.take 3) []) = [(0, 53)] := by
    unfold cutsL
    have h1 : restC [0] (st (f0' ++ e3'.take 3) []) 3 = [] := by simp [restC, st]
    rw [show List.map (fun x : Nat × Wl.Sg => x.1) [(0, (⟨1, 1, 1, [97], [[98], [99]], 53, false⟩ : Wl.Sg))] = [0] from rfl, h1]; rfl
  unfold opD
  show (⟨3, 1000, cutAll (st (f0' ++ e3'.take 3) []) (cutsL _ (st (f0' ++ e3'.take 3) [])), cutAll (st (f0' ++ e3'.take 3) []) (cutsL _ (st (f0' ++ e3'.take 3) [])), [], -1⟩ : Dk) = _
  rw [hc, e]; rfl
theorem ck_e (a : List UInt8) (ha : 1 ≤ a.length ∧ a.length ≤ 300) : ckR (dk a [] a [] []) ⟨1, 1, 3, [0], [53], 0, 0⟩ [101] = (0, dk [] h2' [] h2' [], ⟨2, 3, 3, [1], [19], 0, 0⟩) := by
  have hfree : freeP (dk a [] a [] []) = 1 := by
    unfold freeP
    rw [if_neg (by show ¬ (-1 : Int) = 0; decide), if_neg (by show ¬ a = []; intro e; rw [e] at ha; simp at ha), if_pos (show (dk a [] a [] []).now 1 = [] from rfl)]
  have hst : Dk.steps (ckCs 1 h2' [0]) (dk a [] a [] []) = (0, dk [] h2' [] h2' []) := by
    have w1 := dk_write1 a [] a [] h2' [] (by rw [l_h2]; simp; omega)
    unfold ckCs
    show Dk.steps [.write 1 h2', .sync, .cut 0 0, .sync] _ = _
    rw [steps_cons (c := .write 1 h2') w1, steps_cons (c := .sync) (dk_sync ..), steps_cons (c := .cut 0 0) (dk_cut0 ..), steps_cons (c := .sync) (dk_sync ..)]
    rfl
  unfold ckR
  rw [if_neg (by simp), if_neg (by decide)]
  have hh : ckHead ⟨1, 1, 3, [0], [53], 0, 0⟩ [101] = h2' := rfl
  rw [hh, hfree]
  dsimp only
  rw [hst, if_neg, if_neg (by simp)]
  · rfl
  · rintro (h | h)
    · have := frees_of a [] a [] []; omega
    · unfold openP at h
      rw [dk_left] at h
      simp [sumL] at h
      omega
end Go.Proofs.Ytniflkggcceagaa

namespace Go.Proofs.Ytniflkggcceagaa
open Go Go.RowKit
theorem LgS.back {P : Nat → Prop} {x d : Nat} {D : Dk} {W : Wa} {w w' : World} (h : LgS (Gr P w w') x d D W w') (hP : ∀ k, w.heap.size ≤ k → P k) : LgS P x d D W w' := h.mono (fun k hk _ => hk.elim id (fun h => hP k h.1))
theorem make_S {P : Nat → Prop} {d : Nat} {D : Dk} {w : World} (t : List UInt8) (h : DkS P d D w) (hk : DkOk D) (hn : 3 ≤ D.n) (hf : D.fuse < 0) (he : ∀ i, i < 3 → D.now i = []) (ht : t.length ≤ 42) (hl : D.loose.length ≤ 999998) (hroom : ((18 + t.length : Nat) : Int) ≤ D.left) :
    Calls Try.prog 26 #[.pointer (some ⟨d, 0, none⟩), confV, .string (bs t)] w (fun e w' => ∃ x, e = .returned (.tuple #[.pointer (some ⟨x, 0, none⟩), .int .i64 0]) ∧ LgS (Gr P w w') x d { D with now := upd D.now 0 (Wl.head sumF 1 1 1 t), sure := upd D.now 0 (Wl.head sumF 1 1 1 t), loose := [] } ⟨1, 1, 1, [0], [18 + t.length], 0, 0⟩ w' ∧ ButS P w w') := by
  obtain ⟨S, h1, h2⟩ := h
  refine (wal_Make w t h1 hk hn hf he ht hl hroom).mono ?_
  rintro e w' ⟨x, S', T, rfl, g1, g2, g3, g4, g5, g6⟩
  exact ⟨x, rfl, ⟨S', T, g1, g2, g3, fun k hk => (g4 k hk).elim (fun h => Or.inl (h2 k h)) (fun h => Or.inr ⟨h, g1.own k hk⟩), fun k hk => Or.inr ⟨g5 k hk, g2.own k hk⟩⟩, g6.mono h2⟩
theorem mk_a : ({ dk [] [] [] [] [] with now := upd (dk [] [] [] [] []).now 0 (Wl.head sumF 1 1 1 [97]), sure := upd (dk [] [] [] [] []).now 0 (Wl.head sumF 1 1 1 [97]), loose := [] } : Dk) = dk h1' [] h1' [] [] := by
  show (⟨3, 1000, upd (st [] []) 0 h1', upd (st [] []) 0 h1', [], -1⟩ : Dk) = _
  rw [upd0]; rfl
theorem strs_new (w : World) (l : List (List UInt8)) : IsStrs (w.alloc (.cells (strsV l).toArray 9)) (.slice (some ⟨w.heap.size, 0, none⟩) l.length l.length) (l.map bs) := by
  have := IsStrs.new w (l.map bs) l.length 9 (0, 0)
  rw [List.length_map, List.map_map] at this
  exact this
theorem own_strs {w : World} {B : Nat} {v : Value} {l : List (List UInt8)} (h : w.ownsRow B 9 1 v l.length (strsV l)) : IsStrs w v (l.map bs) := by
  refine IsStrs.own (B := B) (e := 9) ?_
  rw [List.length_map, List.map_map]
  exact h
set_option maxRecDepth 100000 in
set_option maxHeartbeats 4000000 in
theorem law12_alive (w : World) : Calls Try.prog 8 #[] w fun e w' => e = .returned (.bool true) ∧ Below w.heap.size w w' := by
  obtain ⟨A, hA⟩ : ∃ z, w.heap.size = z := ⟨_, rfl⟩
  have HA := Lib.hid hA
  have HNEW := disk_New 3 1000 (by decide) (by decide) w
  rw [show ((3 : Nat) : Int) = 3 from rfl, show ((1000 : Nat) : Int) = 1000 from rfl, hA, dk0_eq] at HNEW
  have HN := Lib.hid HNEW
  rw [hA]
  clear hA HNEW
  go_enter Try.func8, Try.ntmps8
  go_wp2_with fail
  refine HN.out.mono ?_
  rintro e w1 ⟨rfl, hd1, hb1⟩
  have HB1 := Lib.hid hb1
  have HD1 : Hid (DkS (fun k => A ≤ k) A (dk [] [] [] [] []) w1) := Lib.hid ⟨_, hd1, fun k hk => by subst hk; exact Nat.le_refl _⟩
  have hs1 : A ≤ w1.heap.size := by have := hd1.lt; omega
  have HS1 := Lib.hid hs1
  clear hd1 hb1 hs1
  go_wp2_with fail
  refine (law_Conf w1).mono ?_
  rintro e w2 ⟨rfl, hb2⟩
  have HB2 := Lib.hid (HB1.out.trans (hb2.mono HS1.out))
  have hmk := make_S [97] (HD1.out.step hb2) (dk_ok _ _ _ _ _ (by decide) (by decide)) (by decide) (dk_fuse ..) (fun i _ => by show st [] [] i = []; simp [st]) (by decide) (by decide) (by rw [dk_left]; decide)
  rw [mk_a, show 18 + ([97] : List UInt8).length = 19 from rfl, show bs [97] = (⟨#[97]⟩ : ByteArray) from rfl] at hmk
  have HMK := Lib.hid hmk
  have HS2 : Hid (A ≤ w2.heap.size) := Lib.hid (by have := HS1.out; have := hb2.size; omega)
  clear hb2 hmk
  go_wp2_with fail
  refine HMK.out.mono ?_
  rintro e w3 ⟨x, rfl, hl3, hb3⟩
  have HL3 := Lib.hid (hl3.back (fun k hk => by have := HS2.out; omega))
  have HB3 := Lib.hid (HB2.out.trans (hb3.below (fun k h => h) HS2.out))
  have HS3 : Hid (A ≤ w3.heap.size) := Lib.hid (by have := HS2.out; have := hb3.size; omega)
  clear hl3 hb3 HMK HB2 HD1
  -- the first Append
  obtain ⟨w4, hw4⟩ : ∃ z, w3.alloc (.cells #[.string ⟨#[98]⟩, .string ⟨#[99]⟩] 9) = z := ⟨_, rfl⟩
  have hb4 : Below w3.heap.size w3 w4 := by rw [← hw4]; exact (Below.refl _ _).alloc (Nat.le_refl _) _
  have hst : IsStrs w4 (.slice (some ⟨w3.heap.size, 0, none⟩) 2 2) ([[98], [99]].map bs) := by rw [← hw4]; exact strs_new w3 [[98], [99]]
  have hap := (HL3.out.step hb4).append (dk_ok _ _ _ _ _ (by rw [l_h1]; decide) (by decide)) ⟨by decide, by decide, by decide⟩ ⟨rfl, by decide, by decide, by decide, by decide⟩ (by decide) (by decide) (by decide) 0 (by decide) [[98], [99]] _ hst (by decide) (by decide) (by decide)
  rw [ap_b] at hap
  dsimp only at hap
  have HAP := Lib.hid hap
  have HB4 := Lib.hid (HB3.out.trans (hb4.mono HS3.out))
  have HS4 : Hid (A ≤ w4.heap.size) := Lib.hid (by have := HS3.out; have := hb4.size; omega)
  clear hb4 hst hap HL3 HB3
  unfold LgR at HAP
  go_wp2_with fail
  refine HAP.out.mono ?_
  rintro e w5 ⟨rfl, hl5, hb5⟩
  have HL5 := Lib.hid (hl5.back (fun k hk => by have := HS4.out; omega))
  have HB5 := Lib.hid (HB4.out.trans (hb5.below (fun k h => h) HS4.out))
  have HS5 : Hid (A ≤ w5.heap.size) := Lib.hid (by have := HS4.out; have := hb5.size; omega)
  clear hl5 hb5 HAP HB4 hw4
  -- Sync
  have hsy := HL5.out.sync (dk_ok _ _ _ _ _ (by simp [l_h1, l_e1, l_e2]) (by decide)) (by decide)
  rw [sy_of _ _ _ _ _ _ rfl] at hsy
  dsimp only at hsy
  have HSY := Lib.hid hsy
  clear hsy
  unfold LgR at HSY
  go_wp2_with fail
  refine HSY.out.mono ?_
  rintro e w6 ⟨rfl, hl6, hb6⟩
  have HL6 := Lib.hid (hl6.back (fun k hk => by have := HS5.out; omega))
  have HB6 := Lib.hid (HB5.out.trans (hb6.below (fun k h => h) HS5.out))
  have HS6 : Hid (A ≤ w6.heap.size) := Lib.hid (by have := HS5.out; have := hb6.size; omega)
  clear hl6 hb6 HSY HB5 HL5
  -- the second Append
  obtain ⟨w7, hw7⟩ : ∃ z, w6.alloc (.cells #[.string ⟨#[100]⟩] 9) = z := ⟨_, rfl⟩
  have hb7 : Below w6.heap.size w6 w7 := by rw [← hw7]; exact (Below.refl _ _).alloc (Nat.le_refl _) _
  have hst : IsStrs w7 (.slice (some ⟨w6.heap.size, 0, none⟩) 1 1) ([[100]].map bs) := by rw [← hw7]; exact strs_new w6 [[100]]
  have hap := (HL6.out.step hb7).append (dk_ok _ _ _ _ _ (by simp [l_h1, l_e1, l_e2]) (by decide)) ⟨by decide, by decide, by decide⟩ ⟨rfl, by decide, by decide, by decide, by decide⟩ (by decide) (by decide) (by decide) 0 (by decide) [[100]] _ hst (by decide) (by decide) (by decide)
  rw [ap_d _ _ _ (by simp [l_h1, l_e1, l_e2])] at hap
  dsimp only at hap
  have HAP := Lib.hid hap
  have HB7 := Lib.hid (HB6.out.trans (hb7.mono HS6.out))
  have HS7 : Hid (A ≤ w7.heap.size) := Lib.hid (by have := HS6.out; have := hb7.size; omega)
  clear hb7 hst hap HL6 HB6
  unfold LgR at HAP
  go_wp2_with fail
  refine HAP.out.mono ?_
  rintro e w8 ⟨rfl, hl8, hb8⟩
  have HL8 := Lib.hid (hl8.back (fun k hk => by have := HS7.out; omega))
  have HB8 := Lib.hid (HB7.out.trans (hb8.below (fun k h => h) HS7.out))
  have HS8 : Hid (A ≤ w8.heap.size) := Lib.hid (by have := HS7.out; have := hb8.size; omega)
  clear hl8 hb8 HAP HB7 hw7
  -- Crash
  have hcr : Calls Try.prog 18 #[.pointer (some ⟨A, 0, none⟩), .int .i64 0, .int .i64 3] w8 fun e w' => e = .returned (.int .i64 0) ∧ DkS (fun k => A ≤ k) A (dk (f0' ++ e3'.take 3) [] (f0' ++ e3'.take 3) [] []) w' ∧ ButS (fun k => A ≤ k) w8 w' := by
    obtain ⟨S, h1, h2⟩ := HL8.out.disk
    refine (disk_Crash w8 0 3 h1 (by decide) (fun c hc => by have hc2 : c ∈ [Lc.wr 0 e3'] := hc; simp at hc2; subst hc2; show e3'.length ≤ _; rw [l_e3]; decide) (by decide) (fun n hn i hi => ?_)).mono ?_
    · have hq : n = 0 ∨ n = 1 := by have h1 : n ≤ 1 := hn; omega
      rcases hq with rfl | rfl
      · show (st _ _ i).length ≤ _
        unfold st
        split
        · simp [l_h1, l_e1, l_e2]
        · split <;> simp
      · show (crashN (st f0' []) 0 3 [.wr 0 e3'] 0 i).length ≤ _
        have := congrArg (fun D : Dk => D.now) (cr_of f0' [])
        have h3 : crashN (st f0' []) 0 3 [.wr 0 e3'] 0 = st (f0' ++ e3'.take 3) [] := this
        rw [h3]
        unfold st f0'
        split
        · simp [l_h1, l_e1, l_e2, l_e3]
        · split <;> simp
    · rintro e w' ⟨rfl, g1, g2⟩
      refine ⟨rfl, ⟨S, ?_, h2⟩, g2.mono (fun k e => by subst e; exact h2 k h1.dd)⟩
      rw [← cr_of f0' []]
      exact g1
  have HCR := Lib.hid hcr
  clear hcr HL8
  go_wp2_with fail
  refine HCR.out.mono ?_
  rintro e w9 ⟨rfl, hd9, hb9⟩
  have HD9 := Lib.hid hd9
  have HB9 := Lib.hid (HB8.out.trans (hb9.below (fun k h => h) HS8.out))
  have HS9 : Hid (A ≤ w9.heap.size) := Lib.hid (by have := HS8.out; have := hb9.size; omega)
  clear hd9 hb9 HCR HB8
  -- Open
  go_wp2_with fail
  refine (law_Conf w9).mono ?_
  rintro e w10 ⟨rfl, hb10⟩
  have HB10 := Lib.hid (HB9.out.trans (hb10.mono HS9.out))
  have HS10 : Hid (A ≤ w10.heap.size) := Lib.hid (by have := HS9.out; have := hb10.size; omega)
  have hop := open_one (HD9.out.step hb10) (dk_ok _ _ _ _ _ (by simp [f0', l_h1, l_e1, l_e2, l_e3]) (by decide)) (by decide) (dk_fuse ..) (by decide)
    (fun i hi => by
      show Txt (st _ _ i)
      unfold st
      split
      · rw [f0_seg]; exact txt_seg (by decide) (by decide) (by decide) (by decide) (by unfold Wl.seg; rw [List.length_append, Wl.head_length, Wl.frs_length]; decide)
      · split <;> exact txt_nil)
    (fun i hi => by
      show (st _ _ i).length ≤ _
      unfold st
      split
      · simp [f0', l_h1, l_e1, l_e2, l_e3]
      · split <;> simp) _ (psF_a _ _) rfl
  rw [opD_a] at hop
  dsimp only at hop
  have hopw : opW [(0, ⟨1, 1, 1, [97], [[98], [99]], 53, false⟩)] 1 = ⟨1, 1, 3, [0], [53], 0, 0⟩ := rfl
  rw [hopw] at hop
  have HOP := Lib.hid hop
  clear hb10 hop HD9 HB9 hopw
  unfold OpS at HOP
  go_wp2_with fail
  refine HOP.out.mono ?_
  rintro e w11 ⟨x1, a1, c1, rfl, hl11, hb11, hr11⟩
  rw [show ([[98], [99]] : List (List UInt8)).length = 2 from rfl] at hl11 hr11
  have HL11 := Lib.hid hl11; have HR11 := Lib.hid hr11
  have HB11 := Lib.hid (HB10.out.trans (hb11.below (fun k h => h) HS10.out))
  have HS11 : Hid (w10.heap.size ≤ w11.heap.size) := Lib.hid hb11.size
  clear hl11 hb11 hr11 HOP HB10
  go_upto_region 12 with fail
  refine wp_abs (F := fun W => Hid (Below w11.heap.size w11 W) ∧ Hid (Cz W w11.heap.size 45 (kepC [97] 1 (.slice a1 2 c1)))) ⟨Lib.hid ((Below.refl _ _).alloc (Nat.le_refl _) _), Lib.hid (Cz.new _ _ _)⟩ ?_
  rintro w12 ⟨HB12, HK12⟩
  obtain ⟨kb, hkb⟩ : ∃ z, w11.heap.size = z := ⟨_, rfl⟩
  have HKB := Lib.hid hkb
  rw [hkb] at HK12 ⊢
  clear hkb
  -- what is kept: not the box, not the row
  have hkr : ∀ b, (Value.slice a1 2 c1).ownBlock = some b → b < w11.heap.size := fun b hb => (own_k HR11.out b hb).1
  have HL12 : Hid (LgS (fun k => A ≤ k ∧ k ≠ kb ∧ (Value.slice a1 2 c1).ownBlock ≠ some k) x1 A (dk f0' [] f0' [] []) ⟨1, 1, 3, [0], [53], 0, 0⟩ w12) := Lib.hid ((HL11.out.mono (fun k hk hl => ⟨hk.1.elim id (fun h => by have := HS10.out; omega), by have := HKB.out; omega, hk.2⟩)).step HB12.out)
  have HR12 := Lib.hid (ownBelow HR11.out HB12.out)
  have HBW12 := Lib.hid (HB11.out.trans (HB12.out.mono (by have := HS10.out; have := HS11.out; omega)))
  have HS12 : Hid (A ≤ w12.heap.size ∧ kb < w12.heap.size ∧ ∀ b, (Value.slice a1 2 c1).ownBlock = some b → b < w12.heap.size) := Lib.hid ⟨by have := HS10.out; have := HS11.out; have := HB12.out.size; omega, HK12.out.lt, fun b hb => by have := hkr b hb; have := HB12.out.size; omega⟩
  clear hkr HL11 HR11 HB11
  have hnew : ∀ W : World, w12.heap.size ≤ W.heap.size → ∀ k, W.heap.size ≤ k → (A ≤ k ∧ k ≠ kb ∧ (Value.slice a1 2 c1).ownBlock ≠ some k) := fun W hW k hk => ⟨by have := HS12.out.1; omega, by have := HS12.out.2.1; omega, fun e => by have := HS12.out.2.2 k e; omega⟩
  have HNEW := Lib.hid hnew
  clear hnew
  -- Checkpoint
  have hck := HL12.out.check (dk_ok _ _ _ _ _ (by simp [f0', l_h1, l_e1, l_e2]) (by decide)) ⟨by decide, by decide, by decide⟩ ⟨rfl, by decide, by decide, by decide, by decide⟩ (by decide) (by decide) (by decide) [101] (by decide) (by decide)
  rw [ck_e _ (by simp [f0', l_h1, l_e1, l_e2]), show bs [101] = (⟨#[101]⟩ : ByteArray) from rfl] at hck
  dsimp only at hck
  have HCK := Lib.hid hck
  clear hck
  unfold LgR at HCK
  go_wp2_with fail
  refine HCK.out.mono ?_
  rintro e w13 ⟨rfl, hl13, hb13⟩
  have HL13 := Lib.hid (hl13.back (HNEW.out w12 (Nat.le_refl _)))
  have HBW13 := Lib.hid (HBW12.out.trans (hb13.below (fun k h => h.1) HS12.out.1))
  have HK13 := Lib.hid (HK12.out.but hb13 (fun h => h.2.1 rfl))
  have HR13 := Lib.hid (own_but HR12.out hb13 (fun g hg h => h.2.2 hg))
  have HS13 := Lib.hid hb13.size
  clear hl13 hb13 HCK HL12 HBW12 HK12 HR12 HB12
  -- the third Append
  obtain ⟨w14, hw14⟩ : ∃ z, w13.alloc (.cells #[.string ⟨#[102]⟩] 9) = z := ⟨_, rfl⟩
  have hb14 : Below w13.heap.size w13 w14 := by rw [← hw14]; exact (Below.refl _ _).alloc (Nat.le_refl _) _
  have hst : IsStrs w14 (.slice (some ⟨w13.heap.size, 0, none⟩) 1 1) ([[102]].map bs) := by rw [← hw14]; exact strs_new w13 [[102]]
  have hap := (HL13.out.step hb14).append (dk_ok _ _ _ _ _ (by simp [l_h2]) (by decide)) ⟨by decide, by decide, by decide⟩ ⟨rfl, by decide, by decide, by decide, by decide⟩ (by decide) (by decide) (by decide) 0 (by decide) [[102]] _ hst (by decide) (by decide) (by decide)
  rw [ap_f _ _ _ (by simp [l_h2])] at hap
  dsimp only at hap
  have HAP := Lib.hid hap
  have HBW14 := Lib.hid (HBW13.out.trans (hb14.mono (by have := HS12.out.1; have := HS13.out; omega)))
  have HK14 := Lib.hid (HK13.out.step hb14); have HR14 := Lib.hid (ownBelow HR13.out hb14)
  have HS14 : Hid (w12.heap.size ≤ w14.heap.size) := Lib.hid (by have := HS13.out; have := hb14.size; omega)
  clear hb14 hst hap HL13 HBW13 HK13 HR13
  unfold LgR at HAP
  go_wp2_with fail
  refine HAP.out.mono ?_
  rintro e w15 ⟨rfl, hl15, hb15⟩
  have HL15 := Lib.hid (hl15.back (HNEW.out w14 HS14.out))
  have HBW15 := Lib.hid (HBW14.out.trans (hb15.below (fun k h => h.1) (by have := HS12.out.1; have := HS14.out; omega)))
  have HK15 := Lib.hid (HK14.out.but hb15 (fun h => h.2.1 rfl))
  have HR15 := Lib.hid (own_but HR14.out hb15 (fun g hg h => h.2.2 hg))
  have HS15 : Hid (w12.heap.size ≤ w15.heap.size) := Lib.hid (by have := HS14.out; have := hb15.size; omega)
  clear hl15 hb15 HAP HBW14 HK14 HR14 hw14
  -- Sync
  have hsy := HL15.out.sync (dk_ok _ _ _ _ _ (by simp [l_h2, l_e4]) (by decide)) (by decide)
  rw [sy_of _ _ _ _ _ _ rfl] at hsy
  dsimp only at hsy
  have HSY := Lib.hid hsy
  clear hsy
  unfold LgR at HSY
  go_wp2_with fail
  refine HSY.out.mono ?_
  rintro e w16 ⟨rfl, hl16, hb16⟩
  have HL16 := Lib.hid (hl16.back (HNEW.out w15 HS15.out))
  have HBW16 := Lib.hid (HBW15.out.trans (hb16.below (fun k h => h.1) (by have := HS12.out.1; have := HS15.out; omega)))
  have HK16 := Lib.hid (HK15.out.but hb16 (fun h => h.2.1 rfl))
  have HR16 := Lib.hid (own_but HR15.out hb16 (fun g hg h => h.2.2 hg))
  have HS16 : Hid (w12.heap.size ≤ w16.heap.size) := Lib.hid (by have := HS15.out; have := hb16.size; omega)
  clear hl16 hb16 HSY HBW15 HK15 HR15 HL15
  -- Open again: the log itself stays as it is
  go_wp2_with fail
  refine (law_Conf w16).mono ?_
  rintro e w17 ⟨rfl, hb17⟩
  have hop : Calls Try.prog 19 #[.pointer (some ⟨A, 0, none⟩), confV] w17 fun e w' => ∃ (x2 : Nat) (a2 : Option Addr) (c2 : Nat), e = .returned (.tuple #[.pointer (some ⟨x2, 0, none⟩), .agg (kepC [101] 3 (.slice a2 1 c2)), .int .i64 0]) ∧ w'.ownsRow w17.heap.size 9 1 (.slice a2 1 c2) 1 (strsV [[102]]) ∧ ButS (fun k => A ≤ k ∧ k ≠ kb ∧ (Value.slice a1 2 c1).ownBlock ≠ some k) w17 w' ∧ ∃ T, WalAt w' T x1 A ⟨2, 3, 4, [1], [36], 0, 0⟩ := by
    obtain ⟨S, T, g1, g2, g3, g4, g5⟩ := HL16.out.step hb17
    have h1 := open_one (P := S) ⟨S, g1, fun k h => h⟩ (dk_ok _ _ _ _ _ (by simp [l_h2, l_e4]) (by decide)) (by decide) (dk_fuse ..) (by decide)
      (fun i hi => by
        show Txt (st _ _ i)
        unfold st
        split
        · exact txt_nil
        · split
          · have e : h2' ++ e4' = (Wl.seg sumF 1 2 3 [101] [[102]]).take 36 := by
              have e : Wl.seg sumF 1 2 3 [101] [[102]] = h2' ++ e4' := by
                unfold Wl.seg; simp only [Wl.frs, List.append_nil]; rfl
              rw [e, List.take_of_length_le (by simp [l_h2, l_e4])]
            rw [e]; exact txt_seg (by decide) (by decide) (by decide) (by decide) (by unfold Wl.seg; rw [List.length_append, Wl.head_length, Wl.frs_length]; decide)
          · exact txt_nil)
      (fun i hi => by
        show (st _ _ i).length ≤ _
        unfold st
        split
        · simp
        · split
          · simp [l_h2, l_e4]
          · simp) _ (psF_e _ _) rfl
    refine h1.mono ?_
    rintro e w' ⟨x2, a2, c2, rfl, _, q2, q3⟩
    exact ⟨x2, a2, c2, rfl, q3, q2.mono g4, T, g2.but q2 (fun k hk hs => g3 k hs hk)⟩
  have HOP := Lib.hid hop
  have HBW17 := Lib.hid (HBW16.out.trans (hb17.mono (by have := HS12.out.1; have := HS16.out; omega)))
  have HK17 := Lib.hid (HK16.out.step hb17); have HR17 := Lib.hid (ownBelow HR16.out hb17)
  have HS17 : Hid (w12.heap.size ≤ w17.heap.size) := Lib.hid (by have := HS16.out; have := hb17.size; omega)
  clear hb17 hop HL16 HBW16 HK16 HR16
  go_wp2_with fail
  refine HOP.out.mono ?_
  rintro e w18 ⟨x2, a2, c2, rfl, hr18, hb18, T, hw18⟩
  have HW18 := Lib.hid hw18; have HR18b := Lib.hid hr18
  have HBW18 := Lib.hid (HBW17.out.trans (hb18.below (fun k h => h.1) (by have := HS12.out.1; have := HS17.out; omega)))
  have HK18 := Lib.hid (HK17.out.but hb18 (fun h => h.2.1 rfl))
  have HR18 := Lib.hid (own_but HR17.out hb18 (fun g hg h => h.2.2 hg))
  have HS18 : Hid (A ≤ w18.heap.size) := Lib.hid (by have := HS12.out.1; have := HS17.out; have := hb18.size; omega)
  clear hr18 hb18 hw18 HOP HBW17 HK17 HR17
  go_upto_region 18 with fail
  refine wp_abs (F := fun W => Hid (Below w18.heap.size w18 W) ∧ Hid (Cz W w18.heap.size 45 (kepC [101] 3 (.slice a2 1 c2)))) ⟨Lib.hid ((Below.refl _ _).alloc (Nat.le_refl _) _), Lib.hid (Cz.new _ _ _)⟩ ?_
  rintro w19 ⟨HB19, HM19⟩
  obtain ⟨mb, hmb⟩ : ∃ z, w18.heap.size = z := ⟨_, rfl⟩
  rw [hmb] at HM19 ⊢
  clear hmb
  have HK19 := Lib.hid (HK18.out.step HB19.out); have HR19 := Lib.hid (ownBelow HR18.out HB19.out); have HR19b := Lib.hid (ownBelow HR18b.out HB19.out); have HW19 := Lib.hid (HW18.out.step HB19.out)
  have HBW19 := Lib.hid (HBW18.out.trans (HB19.out.mono HS18.out))
  have HSA : Hid (∀ W, Below w19.heap.size w19 W → Calls Try.prog 22 #[.slice a1 2 c1, .slice (some ⟨W.heap.size, 0, none⟩) 2 2] (W.alloc (.cells #[.string ⟨#[98]⟩, .string ⟨#[99]⟩] 9)) fun e w' => e = .returned (.bool true) ∧ Below W.heap.size W w') := Lib.hid (fun W hW => by
    have hb : Below W.heap.size W (W.alloc (.cells #[.string ⟨#[98]⟩, .string ⟨#[99]⟩] 9)) := (Below.refl _ _).alloc (Nat.le_refl _) _
    refine (ref08_Same _ _ _ [[98], [99]] [[98], [99]] (own_strs (ownBelow (ownBelow HR19.out hW) hb)) (strs_new W [[98], [99]]) (by decide)).mono ?_
    rintro e w' ⟨rfl, h⟩
    exact ⟨by simp, hb.trans (h.mono hb.size)⟩)
  have HSB : Hid (∀ W, Below w19.heap.size w19 W → Calls Try.prog 22 #[.slice a2 1 c2, .slice (some ⟨W.heap.size, 0, none⟩) 1 1] (W.alloc (.cells #[.string ⟨#[102]⟩] 9)) fun e w' => e = .returned (.bool true) ∧ Below W.heap.size W w') := Lib.hid (fun W hW => by
    have hb : Below W.heap.size W (W.alloc (.cells #[.string ⟨#[102]⟩] 9)) := (Below.refl _ _).alloc (Nat.le_refl _) _
    refine (ref08_Same _ _ _ [[102]] [[102]] (own_strs (ownBelow (ownBelow HR19b.out hW) hb)) (strs_new W [[102]]) (by decide)).mono ?_
    rintro e w' ⟨rfl, h⟩
    exact ⟨by simp, hb.trans (h.mono hb.size)⟩)
  have k0 := HK19.out.c 0; have k1 := HK19.out.c 1; have k2 := HK19.out.c 2
  simp at k0 k1 k2
  rw [show bs [97] = (⟨#[97]⟩ : ByteArray) from rfl] at k0
  go_wp2_with fail
  refine (HSA.out w19 (Below.refl _ _)).mono ?_
  rintro e w20 ⟨rfl, hb20⟩
  have HB20 := Lib.hid hb20
  have m0 := (HM19.out.step hb20).c 0; have m1 := (HM19.out.step hb20).c 1; have m2 := (HM19.out.step hb20).c 2
  simp at m0 m1 m2
  rw [show bs [101] = (⟨#[101]⟩ : ByteArray) from rfl] at m0
  clear hb20 k0 k1 k2
  go_wp2_with fail
  refine (HSB.out w20 HB20.out).mono ?_
  rintro e w21 ⟨rfl, hb21⟩
  have HB21 := Lib.hid (HB20.out.trans (hb21.mono HB20.out.size))
  clear hb21 m0 m1 m2
  go_wp2_with fail
  refine (wal_Next w21 (HW19.out.step HB21.out)).mono ?_
  rintro e w22 ⟨rfl, hw22⟩
  subst w22
  go_wp2_with fail
  refine (wal_First w21 (HW19.out.step HB21.out)).mono ?_
  rintro e w22 ⟨rfl, hw22⟩
  subst w22
  go_wp2_with fail
  go_ret
  exact ⟨rfl, HBW19.out.trans (HB21.out.mono (by have := HS18.out; have := HB19.out.size; omega))⟩
end Go.Proofs.Ytniflkggcceagaa

namespace Go.Proofs.Ytniflkggcceagaa
open Go Go.ChangeShapes Go.WideShapes Go.ChangeAt Go.RowKit
section
variable {H : Type} {enc : TypeId × Value → H} {P : Program}
theorem trodAll_below (hl : laidOutB P = true) {W W' : World} (hb : Below W.heap.size W W') : ∀ (ts : List TypeId) (vs : List Value) (ds : List (DataW H)) (ps : List MemPlace),
    (∀ t ∈ ts, P.readableRec t = true ∧ t < P.types.size) → (∀ x ∈ ps, x.block < W.heap.size) → DataW.TrodAll enc P W 0 (fun _ => true) true ts vs ds ps → DataW.TrodAll enc P W' 0 (fun b => decide (b < W.heap.size)) true ts vs ds ps
  | [], [], [], _, _, _, h => h
  | [], [], _ :: _, _, _, _, h => h.elim
  | [], _ :: _, _, _, _, _, h => h.elim
  | _ :: _, [], _, _, _, _, h => h.elim
  | _ :: _, _ :: _, [], _, _, _, h => h.elim
  | t :: ts, v :: vs, d :: ds, ps, hr, hlt, h => by
    obtain ⟨p, q, h1, h2, rfl⟩ := h
    have ht := hr t (List.mem_cons_self)
    exact ⟨p, q, Below.trod hl ht.1 ht.2 h1 hb (fun x hx => hlt x (List.mem_append_left _ hx)), trodAll_below hl hb ts vs ds q (fun t' h' => hr t' (List.mem_cons_of_mem _ h')) (fun x hx => hlt x (List.mem_append_right _ hx)) h2, rfl⟩
theorem law_post {f : Func} {s : ChangeSpec} {tb : TypeId} (hl : laidOutB P = true) (hts : ∀ t ∈ f.params.toList, P.readableRec t = true ∧ t < P.types.size) (hrt : f.resultTypes.toList = [tb]) (htb : P.underlying tb = some .bool)
    (hv : s.vars = []) {W W' : World} {args : Array Value} {ds gs : List (DataW H)} {before : List MemPlace} (hW : DataW.Whole enc P f.params.toList s.vars false W args.toList ds gs before)
    (hfn : s.fn H ds = { results := [.lit (.bool true)], args := ds }) (hb : Below W.heap.size W W') : s.post enc P f false true false false W args (.bool true) W' := by
  have hW2 := hW
  obtain ⟨p, q, hA, hV, hpq, _, _⟩ := hW
  rw [hv] at hV
  have hg : gs = [] ∧ q = [] := by
    cases gs with
    | nil => exact ⟨rfl, hV⟩
    | cons a t => exact hV.elim
  obtain ⟨rfl, rfl⟩ := hg
  have hfn2 : s.fn H (ds ++ []) = { results := [.lit (.bool true)], args := ds } := by rw [List.append_nil]; exact hfn
  have hlt : ∀ x ∈ p, x.block < W.heap.size := fun x hx => hW2.lt x (by rw [hpq]; simpa using hx)
  refine ⟨ds, [], before, [], p, [], hW2, ?_, ?_, ?_, ?_, fun h => by cases h⟩
  · have hsz : f.resultTypes.size = 1 := by have := congrArg List.length hrt; simpa using this
    rw [hrt, hsz, hfn2]
    exact ⟨[], [], shut_bool htb true, rfl, rfl⟩
  · rw [hfn2]; exact trodAll_below hl hb _ _ _ _ hts hlt hA
  · rw [hfn2, hv]; rfl
  · exact hb.frame _
end
theorem ownNone : ownKnob Try.prog.godebug = none := by kernel_rfl
theorem laidOut : laidOutB Try.prog = true := by kernel_rfl

noncomputable def plainWorld (os : Os) : World := World.holding Try.prog os ⟨#[], #[], []⟩
theorem spot_none {w : World} {a : Addr} {v : Value} (h : w.cell? a = some v) : a = ⟨a.block, a.off, none⟩ := by
  obtain ⟨b, o, sp⟩ := a
  cases sp with
  | none => rfl
  | some x =>
    unfold World.cell? at h
    split at h
    · simp at h
    · cases h

theorem wf_u8 {n : Int} (h : (Lit.int .u8 n).wf = true) : 0 ≤ n ∧ n < 256 := by
  simp [Lit.wf, IntKind.min, IntKind.max, IntKind.signed, IntKind.bits] at h; omega
end Go.Proofs.Ytniflkggcceagaa

namespace Go.Proofs.Ytniflkggcceagaa
open Go Go.RowKit
def growL (Z : List Nat) (y : Pc) : List Nat := addLast (if y.2 then Z ++ [0] else Z) y.1.length
def grow : List Nat → List Pc → List Nat
  | Z, [] => Z
  | Z, y :: r => grow (growL Z y) r
def PcOk : List Nat → List Pc → Prop
  | _, [] => True
  | Z, y :: r => y.2 = decide (100 ≤ lastN Z) ∧ PcOk (growL Z y) r
def Full (Z : List Nat) : Prop := ∀ i, i + 1 < Z.length → 100 ≤ Z.getD i 0
theorem sumL_cons (a : Nat) (l : List Nat) : sumL (a :: l) = a + sumL l := by
  have h : ∀ (l : List Nat) (b : Nat), l.foldl (· + ·) b = b + l.foldl (· + ·) 0 := fun l => by
    induction l with
    | nil => intro b; simp
    | cons x r ih => intro b; rw [List.foldl_cons, List.foldl_cons, ih, ih (0 + x)]; omega
  unfold sumL
  rw [List.foldl_cons, h]; omega
theorem sumL_append (a b : List Nat) : sumL (a ++ b) = sumL a + sumL b := by
  induction a with
  | nil => simp [sumL]
  | cons x r ih => rw [List.cons_append, sumL_cons, sumL_cons, ih]; omega
theorem split_last {α : Type} (l : List α) (h : 1 ≤ l.length) : ∃ i z, l = i ++ [z] := by
  induction l with
  | nil => simp at h
  | cons x r ih =>
    cases r with
    | nil => exact ⟨[], x, rfl⟩
    | cons y r =>
      obtain ⟨i, z, e⟩ := ih (by simp)
      exact ⟨x :: i, z, by rw [e]; rfl⟩
theorem addLast_snoc (l : List Nat) (z k : Nat) : addLast (l ++ [z]) k = l ++ [z + k] := by
  unfold addLast
  rw [List.length_append, List.length_singleton, Nat.add_sub_cancel, List.getD_eq_getElem?_getD, List.getElem?_append_right (Nat.le_refl _), Nat.sub_self]
  simp
theorem lastN_snoc (l : List Nat) (z : Nat) : lastN (l ++ [z]) = z := by
  unfold lastN
  rw [List.length_append, List.length_singleton, Nat.add_sub_cancel, List.getD_eq_getElem?_getD, List.getElem?_append_right (Nat.le_refl _), Nat.sub_self]; rfl
theorem lastF_snoc (l : List Int) (z : Int) : lastF (l ++ [z]) = z := by
  unfold lastF
  rw [List.length_append, List.length_singleton, Nat.add_sub_cancel, List.getD_eq_getElem?_getD, List.getElem?_append_right (Nat.le_refl _), Nat.sub_self]; rfl
theorem growL_snoc (l : List Nat) (z : Nat) (y : Pc) : growL (l ++ [z]) y = if y.2 then l ++ [z] ++ [y.1.length] else l ++ [z + y.1.length] := by
  unfold growL
  cases y.2 with
  | true => rw [if_pos rfl, if_pos rfl, addLast_snoc, Nat.zero_add]
  | false => rw [if_neg (by decide), if_neg (by decide), addLast_snoc]
theorem growL_one (Z : List Nat) (h : 1 ≤ Z.length) (y : Pc) : 1 ≤ (growL Z y).length ∧ sumL (growL Z y) = sumL Z + y.1.length ∧ (growL Z y).length = Z.length + (if y.2 then 1 else 0) := by
  obtain ⟨i, z, rfl⟩ := split_last Z h
  rw [growL_snoc]
  cases y.2 with
  | true => rw [if_pos rfl, if_pos rfl]; refine ⟨by simp, ?_, by simp⟩; rw [sumL_append, sumL_append]; simp [sumL]
  | false => rw [if_neg (by decide), if_neg (by decide)]; refine ⟨by simp, ?_, by simp⟩; rw [sumL_append, sumL_append]; simp [sumL]; omega
theorem growL_full (Z : List Nat) (h : 1 ≤ Z.length) (y : Pc) (hf : Full Z) (hy : y.2 = decide (100 ≤ lastN Z)) : Full (growL Z y) := by
  obtain ⟨l, z, rfl⟩ := split_last Z h
  rw [lastN_snoc] at hy
  rw [growL_snoc, hy]
  intro i hi
  by_cases hz : 100 ≤ z
  · rw [decide_eq_true hz, if_pos rfl] at hi ⊢
    by_cases hl : i < l.length + 1
    · rw [List.getD_eq_getElem?_getD, List.getElem?_append_left (by simp; omega)]
      by_cases hl2 : i < l.length
      · have := hf i (by simp; omega)
        rw [List.getD_eq_getElem?_getD] at this; exact this
      · obtain rfl : i = l.length := by omega
        rw [List.getElem?_append_right (Nat.le_refl _), Nat.sub_self]; exact hz
    · simp at hi; omega
  · rw [decide_eq_false hz, if_neg (by decide)] at hi ⊢
    have h2 : i < l.length := by simp at hi; omega
    have := hf i (by simp; omega)
    rw [List.getD_eq_getElem?_getD, List.getElem?_append_left h2] at this ⊢
    exact this
theorem grow_all : ∀ (P : List Pc) (Z : List Nat), 1 ≤ Z.length → 1 ≤ (grow Z P).length ∧ sumL (grow Z P) = sumL Z + needP P ∧ (grow Z P).length = Z.length + headsP P ∧ (Full Z → PcOk Z P → Full (grow Z P))
  | [], Z, h => ⟨h, rfl, rfl, fun h _ => h⟩
  | y :: r, Z, h => by
    obtain ⟨h1, h2, h3⟩ := growL_one Z h y
    obtain ⟨i1, i2, i3, i4⟩ := grow_all r (growL Z y) h1
    have e1 : needP (y :: r) = y.1.length + needP r := by unfold needP; rw [List.map_cons, sumL_cons]
    have e2 : headsP (y :: r) = (if y.2 then 1 else 0) + headsP r := by
      unfold headsP
      rw [List.filter_cons]
      cases y.2 with
      | true => simp; omega
      | false => simp
    exact ⟨i1, by show sumL (grow (growL Z y) r) = _; omega, by show (grow (growL Z y) r).length = _; omega, fun hf hp => i4 (growL_full Z h y hf hp.1) hp.2⟩
theorem full_sum : ∀ (Z : List Nat), Full Z → 100 * (Z.length - 1) ≤ sumL Z
  | [], _ => by simp
  | [z], _ => by simp
  | z :: y :: r, h => by
    have h1 := h 0 (by simp)
    have h2 := full_sum (y :: r) (fun i hi => by have := h (i + 1) (by simp at hi ⊢; omega); simpa using this)
    rw [sumL_cons]
    simp at h1 h2 ⊢
    omega
theorem pcs_ok (g : Nat) : ∀ (l : List (List UInt8)) (n : Nat) (Z : List Nat), 1 ≤ Z.length → PcOk Z (pcs g n (lastN Z) l)
  | [], _, _, _ => trivial
  | t :: r, n, Z, h => by
    obtain ⟨i, z, rfl⟩ := split_last Z h
    refine ⟨rfl, ?_⟩
    have e : (if 100 ≤ lastN (i ++ [z]) then 0 else lastN (i ++ [z])) + (pieceP g n t (lastN (i ++ [z]))).length = lastN (growL (i ++ [z]) (pieceP g n t (lastN (i ++ [z])), decide (100 ≤ lastN (i ++ [z])))) := by
      rw [growL_snoc, lastN_snoc]
      by_cases hz : 100 ≤ z
      · rw [if_pos hz, decide_eq_true hz, if_pos rfl, lastN_snoc]; simp
      · rw [if_neg hz, decide_eq_false hz, if_neg (by simp), lastN_snoc]
    show PcOk _ (pcs g (n + 1) _ r)
    rw [e]
    exact pcs_ok g r (n + 1) _ (growL_one _ h _).1
theorem piece_len (g n : Nat) (t : List UInt8) (z : Nat) : (pieceP g n t z).length = 16 + t.length + (if 100 ≤ z then 18 else 0) := by
  unfold pieceP
  split
  · rw [List.length_append, Wl.head_length, Wl.enc_length]; simp; omega
  · rw [Wl.enc_length]; rfl
def lensT (l : List (List UInt8)) : Nat := sumL (l.map (fun t => 16 + t.length))
theorem pcs_need (g : Nat) : ∀ (l : List (List UInt8)) (n z : Nat), needP (pcs g n z l) = lensT l + 18 * headsP (pcs g n z l) ∧ headsP (pcs g n z l) ≤ l.length ∧ ∀ y ∈ pcs g n z l, 16 ≤ y.1.length
  | [], _, _ => ⟨rfl, Nat.le_refl _, fun y h => by cases h⟩
  | t :: r, n, z => by
    obtain ⟨h1, h2, h3⟩ := pcs_need g r (n + 1) ((if 100 ≤ z then 0 else z) + (pieceP g n t z).length)
    have e : pcs g n z (t :: r) = (pieceP g n t z, decide (100 ≤ z)) :: pcs g (n + 1) ((if 100 ≤ z then 0 else z) + (pieceP g n t z).length) r := rfl
    have hp := piece_len g n t z
    rw [e]
    have e1 : ∀ (y : Pc) (P : List Pc), needP (y :: P) = y.1.length + needP P := fun y P => by unfold needP; rw [List.map_cons, sumL_cons]
    have e2 : ∀ (y : Pc) (P : List Pc), headsP (y :: P) = (if y.2 then 1 else 0) + headsP P := fun y P => by
      unfold headsP
      rw [List.filter_cons]
      cases y.2 with
      | true => simp; omega
      | false => simp
    have e3 : lensT (t :: r) = 16 + t.length + lensT r := by unfold lensT; rw [List.map_cons, sumL_cons]
    obtain ⟨P, hP⟩ : ∃ P, pcs g (n + 1) ((if 100 ≤ z then 0 else z) + (pieceP g n t z).length) r = P := ⟨_, rfl⟩
    rw [hP] at h1 h2 h3 ⊢
    rw [e1, e2, e3]
    dsimp only
    obtain ⟨v, hv⟩ : ∃ v, (if decide (100 ≤ z) = true then 1 else 0) = v := ⟨_, rfl⟩
    have hp2 : (pieceP g n t z).length = 16 + t.length + 18 * v ∧ v ≤ 1 := by
      by_cases hz : 100 ≤ z
      · rw [if_pos hz] at hp; rw [decide_eq_true hz, if_pos rfl] at hv; omega
      · rw [if_neg hz] at hp; rw [decide_eq_false hz, if_neg (by simp)] at hv; omega
    rw [hv]
    refine ⟨by omega, by rw [List.length_cons]; omega, fun y hy => ?_⟩
    rcases List.mem_cons.1 hy with rfl | hy
    · show 16 ≤ (pieceP g n t z).length; omega
    · exact h3 y hy
structure LInv (D : Dk) (W : Wa) : Prop where
  n3 : 3 ≤ D.n
  n16 : D.n ≤ 16
  fu : D.fuse < 0
  dn : W.down = 0
  fl : W.files.length = W.sizes.length
  one : 1 ≤ W.sizes.length
  nd : W.files.Nodup
  rg : ∀ f ∈ W.files, 0 ≤ f ∧ f < 3
  sz : ∀ i, i < W.files.length → (D.now (W.files.getD i 0).toNat).length = W.sizes.getD i 0 ∧ 1 ≤ W.sizes.getD i 0
  em : ∀ i : Nat, (i : Int) ∉ W.files → D.now i = []
  full : Full W.sizes
theorem lensN_split (g : Nat → List UInt8) (f : Nat) : ∀ k, lensN g k = (if f < k then (g f).length else 0) + lensN (upd g f []) k
  | 0 => rfl
  | k + 1 => by
    have h := lensN_split g f k
    show lensN g k + (g k).length = _ + (lensN (upd g f []) k + (upd g f [] k).length)
    by_cases e : k = f
    · subst e
      have e2 : upd g k [] k = [] := by simp [upd]
      rw [e2, h, if_neg (Nat.lt_irrefl k), if_pos (Nat.lt_succ_self k)]; simp; omega
    · have e2 : upd g f [] k = g k := by simp [upd, e]
      rw [e2, h]
      by_cases h1 : f < k
      · rw [if_pos h1, if_pos (by omega)]; omega
      · rw [if_neg h1, if_neg (by omega)]; omega
theorem lens_files : ∀ (F : List Int) (Z : List Nat) (g : Nat → List UInt8), F.length = Z.length → F.Nodup → (∀ f ∈ F, 0 ≤ f ∧ f < 3) → (∀ i, i < F.length → (g (F.getD i 0).toNat).length = Z.getD i 0) → (∀ i : Nat, (i : Int) ∉ F → g i = []) → lensN g 16 = sumL Z
  | [], [], g, _, _, _, _, he => by
    have : ∀ k, lensN g k = 0 := fun k => by
      induction k with
      | zero => rfl
      | succ k ih => show lensN g k + (g k).length = 0; rw [ih, he k (by simp)]; rfl
    rw [this]; rfl
  | [], _ :: _, _, h, _, _, _, _ => by simp at h
  | _ :: _, [], _, h, _, _, _, _ => by simp at h
  | f :: F, z :: Z, g, hl, hn, hr, hs, he => by
    obtain ⟨n1, n2⟩ := List.nodup_cons.1 hn
    have hf := hr f (by simp)
    have h0 := hs 0 (by simp)
    simp at h0
    rw [lensN_split g f.toNat 16, if_pos (by omega), sumL_cons, h0]
    have ft : ∀ i : Nat, (i : Int) ≠ f → i ≠ f.toNat := fun i h e => h (by omega)
    rw [lens_files F Z (upd g f.toNat []) (by simpa using hl) n2 (fun x hx => hr x (List.mem_cons_of_mem _ hx)) (fun i hi => ?_) (fun i hi => ?_)]
    · have h1 := hs (i + 1) (by simp; omega)
      simp only [List.getD_cons_succ] at h1
      have hm : F.getD i 0 ∈ F := by rw [List.getD_eq_getElem?_getD, List.getElem?_eq_getElem hi]; exact List.getElem_mem _
      have hne : F.getD i 0 ≠ f := fun e => n1 (e ▸ hm)
      have hg := hr _ (List.mem_cons_of_mem _ hm)
      unfold upd
      rw [if_neg (by omega)]; exact h1
    · unfold upd
      by_cases e : i = f.toNat
      · rw [if_pos e]
      · rw [if_neg e]
        refine he i (fun h => ?_)
        rcases List.mem_cons.1 h with h | h
        · omega
        · exact hi h
theorem LInv.lens {D : Dk} {W : Wa} (h : LInv D W) : lensN D.now 16 = sumL W.sizes := lens_files W.files W.sizes D.now h.fl h.nd h.rg (fun i hi => (h.sz i hi).1) h.em
theorem LInv.left {D : Dk} {W : Wa} (h : LInv D W) : D.left = (D.room : Int) - (sumL W.sizes : Nat) := by unfold Dk.left; rw [h.lens]
theorem frees_files (F : List Int) (g : Nat → List UInt8) (hn : F.Nodup) (hr : ∀ f ∈ F, 0 ≤ f ∧ f < 3) (hs : ∀ f ∈ F, g f.toNat ≠ []) (he : ∀ i : Nat, (i : Int) ∉ F → g i = []) : cntE g 3 + F.length = 3 := by
  have key : ∀ i : Nat, g i = [] ↔ (i : Int) ∉ F := fun i => ⟨fun h hm => by have := hs _ hm; simp at this; exact this h, he i⟩
  have hc : cntE g 3 = (if (0 : Int) ∈ F then 0 else 1) + (if (1 : Int) ∈ F then 0 else 1) + (if (2 : Int) ∈ F then 0 else 1) := by
    have k0 : g 0 = [] ↔ ¬ (0 : Int) ∈ F := key 0
    have k1 : g 1 = [] ↔ ¬ (1 : Int) ∈ F := key 1
    have k2 : g 2 = [] ↔ ¬ (2 : Int) ∈ F := key 2
    show 0 + (if g 0 = [] then 1 else 0) + (if g 1 = [] then 1 else 0) + (if g 2 = [] then 1 else 0) = _
    have e : ∀ (p q : Prop) [Decidable p] [Decidable q], (p ↔ ¬ q) → (if p then 1 else 0) = (if q then 0 else 1) := fun p q _ _ h => by
      by_cases hq : q
      · rw [if_pos hq, if_neg (fun hp => h.1 hp hq)]
      · rw [if_neg hq, if_pos (h.2 hq)]
    rw [e _ _ k0, e _ _ k1, e _ _ k2]
    simp
  rw [hc]
  have perm : F.length = ([0, 1, 2].filter (fun i : Int => decide (i ∈ F))).length := by
    refine List.Perm.length_eq ?_
    refine (List.perm_ext_iff_of_nodup hn (List.Nodup.sublist List.filter_sublist (by decide))).2 (fun a => ?_)
    rw [List.mem_filter]
    constructor
    · intro ha
      have := hr a ha
      refine ⟨?_, by simpa using ha⟩
      have : a = 0 ∨ a = 1 ∨ a = 2 := by omega
      rcases this with rfl | rfl | rfl <;> simp
    · intro ha; simpa using ha.2
  rw [perm]
  by_cases h0 : (0 : Int) ∈ F <;> by_cases h1 : (1 : Int) ∈ F <;> by_cases h2 : (2 : Int) ∈ F <;> simp [h0, h1, h2]
theorem LInv.ne {D : Dk} {W : Wa} (h : LInv D W) : ∀ f ∈ W.files, D.now f.toNat ≠ [] := fun f hf e => by
  obtain ⟨i, hi, rfl⟩ := List.mem_iff_getElem.1 hf
  have := h.sz i hi
  rw [List.getD_eq_getElem?_getD, List.getElem?_eq_getElem hi] at this
  simp only [Option.getD_some] at this
  rw [e] at this
  simp at this; omega
theorem LInv.frees {D : Dk} {W : Wa} (h : LInv D W) : freesP D + W.files.length = 3 := by
  unfold freesP
  rw [if_neg (by have := h.fu; omega)]
  exact frees_files W.files D.now h.nd h.rg h.ne h.em
theorem LInv.free {D : Dk} {W : Wa} (h : LInv D W) (hf : 1 ≤ freesP D) : 0 ≤ freeP D ∧ freeP D < 3 ∧ freeP D ∉ W.files ∧ D.now (freeP D).toNat = [] := by
  have hfu := h.fu
  unfold freesP at hf
  rw [if_neg (by omega)] at hf
  have nn : ∀ i : Nat, D.now i = [] → (i : Int) ∉ W.files := fun i hi hm => by have := h.ne _ hm; simp at this; exact this hi
  have hc : 1 ≤ 0 + (if D.now 0 = [] then 1 else 0) + (if D.now 1 = [] then 1 else 0) + (if D.now 2 = [] then 1 else 0) := hf
  unfold freeP
  rw [if_neg (by omega)]
  by_cases h0 : D.now 0 = []
  · rw [if_pos h0]; exact ⟨by decide, by decide, nn 0 h0, h0⟩
  · rw [if_neg h0]
    by_cases h1 : D.now 1 = []
    · rw [if_pos h1]; exact ⟨by decide, by decide, nn 1 h1, h1⟩
    · rw [if_neg h1]
      by_cases h2 : D.now 2 = []
      · rw [if_pos h2]; exact ⟨by decide, by decide, nn 2 h2, h2⟩
      · rw [if_neg h0, if_neg h1, if_neg h2] at hc; omega
end Go.Proofs.Ytniflkggcceagaa

namespace Go.Proofs.Ytniflkggcceagaa
open Go Go.RowKit
theorem getD_snoc {α : Type} (l : List α) (z d : α) (i : Nat) : (l ++ [z]).getD i d = if i < l.length then l.getD i d else if i = l.length then z else d := by
  rw [List.getD_eq_getElem?_getD, List.getD_eq_getElem?_getD]
  by_cases h : i < l.length
  · rw [if_pos h, List.getElem?_append_left h]
  · rw [if_neg h, List.getElem?_append_right (by omega)]
    by_cases e : i = l.length
    · rw [if_pos e, e, Nat.sub_self]; rfl
    · rw [if_neg e]
      obtain ⟨k, hk⟩ : ∃ k, i - l.length = k + 1 := ⟨i - l.length - 1, by omega⟩
      rw [hk]; rfl
theorem LInv.new {D : Dk} {W : Wa} (h : LInv D W) {f : Int} (hf : 0 ≤ f ∧ f < 3) (hn : f ∉ W.files) (he : D.now f.toNat = []) {p : List UInt8} (hp : 1 ≤ p.length) (hl : 100 ≤ lastN W.sizes) (L : List Lc) (n : Nat) :
    LInv { D with now := upd D.now f.toNat (D.now f.toNat ++ p), loose := L } { W with files := W.files ++ [f], sizes := W.sizes ++ [p.length], next := n, down := 0 } := by
  refine ⟨h.n3, h.n16, h.fu, rfl, ?_, ?_, ?_, ?_, ?_, ?_, ?_⟩
  · show (W.files ++ [f]).length = (W.sizes ++ [p.length]).length
    rw [List.length_append, List.length_append, h.fl]; rfl
  · show 1 ≤ (W.sizes ++ [p.length]).length
    rw [List.length_append]; exact Nat.le_add_left _ _
  · exact List.nodup_append.2 ⟨h.nd, by simp, fun a ha b hb e => by simp at hb; subst hb; subst e; exact hn ha⟩
  · intro x hx
    rcases List.mem_append.1 hx with hx | hx
    · exact h.rg x hx
    · simp at hx; subst hx; exact hf
  · intro i hi
    have hi2 : i < W.files.length + 1 := by simpa using hi
    dsimp only
    rw [getD_snoc, getD_snoc, ← h.fl]
    by_cases hl : i < W.files.length
    · rw [if_pos hl, if_pos hl]
      have hm : W.files.getD i 0 ∈ W.files := by rw [List.getD_eq_getElem?_getD, List.getElem?_eq_getElem hl]; exact List.getElem_mem _
      have hg := h.rg _ hm
      have hne : W.files.getD i 0 ≠ f := fun e => hn (e ▸ hm)
      unfold upd
      rw [if_neg (by omega)]
      exact h.sz i hl
    · rw [if_neg hl, if_neg hl, if_pos (by omega), if_pos (by omega)]
      unfold upd
      rw [if_pos rfl, he]
      exact ⟨rfl, hp⟩
  · intro i hi
    have hi2 : (i : Int) ∉ W.files ∧ (i : Int) ≠ f := by simpa using hi
    show upd D.now f.toNat _ i = []
    unfold upd
    rw [if_neg (by omega)]
    exact h.em i hi2.1
  · show Full (W.sizes ++ [p.length])
    have := growL_full W.sizes h.one (p, true) h.full (by simpa using hl)
    obtain ⟨i, z, e⟩ := split_last W.sizes h.one
    rw [e] at this ⊢
    rw [growL_snoc] at this
    simpa using this
theorem LInv.put {D : Dk} {W : Wa} (h : LInv D W) {p : List UInt8} (hl : lastN W.sizes < 100) (L : List Lc) (n : Nat) :
    LInv { D with now := upd D.now (lastF W.files).toNat (D.now (lastF W.files).toNat ++ p), loose := L } { W with sizes := addLast W.sizes p.length, next := n, down := 0 } ∧ 0 ≤ lastF W.files ∧ lastF W.files < 3 := by
  have hone := h.one; have hfl := h.fl
  obtain ⟨F, f, hF⟩ := split_last W.files (by omega)
  obtain ⟨Z, z, hZ⟩ := split_last W.sizes hone
  have hlen : F.length = Z.length := by
    rw [hF, hZ, List.length_append, List.length_append] at hfl; simpa using hfl
  have hrf := h.rg f (by rw [hF]; simp)
  have hnd := h.nd
  rw [hF] at hnd
  have hfn : f ∉ F := fun hm => by
    have := (List.nodup_append.1 hnd).2.2 f hm f (by simp); exact this rfl
  have hlast : lastF W.files = f := by rw [hF, lastF_snoc]
  rw [hlast]
  refine ⟨⟨h.n3, h.n16, h.fu, rfl, ?_, ?_, h.nd, h.rg, ?_, ?_, ?_⟩, hrf.1, hrf.2⟩
  · show W.files.length = (addLast W.sizes p.length).length
    unfold addLast; rw [List.length_set]; exact hfl
  · show 1 ≤ (addLast W.sizes p.length).length
    unfold addLast; rw [List.length_set]; exact hone
  · intro i hi
    have hi1 : i < W.files.length := hi
    have hs := h.sz i hi1
    dsimp only
    rw [hF] at hs hi1 ⊢
    rw [hZ] at hs ⊢
    rw [addLast_snoc, getD_snoc, getD_snoc]
    rw [getD_snoc, getD_snoc] at hs
    rw [List.length_append, List.length_singleton] at hi1
    rw [← hlen] at hs ⊢
    by_cases hl : i < F.length
    · rw [if_pos hl, if_pos hl] at hs ⊢
      have hm : F.getD i 0 ∈ F := by rw [List.getD_eq_getElem?_getD, List.getElem?_eq_getElem hl]; exact List.getElem_mem _
      have hg := h.rg (F.getD i 0) (by rw [hF]; exact List.mem_append_left _ hm)
      have hne : F.getD i 0 ≠ f := fun e => hfn (e ▸ hm)
      unfold upd
      rw [if_neg (by omega)]
      exact hs
    · rw [if_neg hl, if_neg hl, if_pos (by omega), if_pos (by omega)] at hs ⊢
      unfold upd
      rw [if_pos rfl, List.length_append]; omega
  · intro i hi
    have hi2 : (i : Int) ∉ W.files := hi
    show upd D.now f.toNat _ i = []
    unfold upd
    have hne : (i : Int) ≠ f := fun e => hi2 (by rw [hF, e]; simp)
    rw [if_neg (by omega)]
    exact h.em i hi2
  · show Full (addLast W.sizes p.length)
    have hy : (p, false).2 = decide (100 ≤ lastN W.sizes) := (decide_eq_false (by omega)).symm
    have := growL_full W.sizes hone (p, false) h.full hy
    simpa [growL] using this
structure Kp (D D' : Dk) (W W' : Wa) (k : Nat) : Prop where
  next : W'.next = W.next + k
  res : W'.reserved = W.reserved
  gen : W'.gen = W.gen
  first : W'.first = W.first
  room : D'.room = D.room
  n : D'.n = D.n
  fuse : D'.fuse = D.fuse
  loose : D'.loose.length = D.loose.length + k
theorem wrs_ok : ∀ (P : List Pc) (D : Dk) (W : Wa), LInv D W → PcOk W.sizes P → headsP P ≤ freesP D → ((needP P : Nat) : Int) ≤ D.left → (∀ y ∈ P, 1 ≤ y.1.length ∧ y.1.length ≤ 1000000) →
    ∃ D' W', wrs P D W = (0, D', W') ∧ LInv D' W' ∧ W'.sizes = grow W.sizes P ∧ Kp D D' W W' P.length
  | [], D, W, h, _, _, _, _ => ⟨D, W, rfl, h, rfl, ⟨rfl, rfl, rfl, rfl, rfl, rfl, rfl, rfl⟩⟩
  | (p, b) :: r, D, W, h, hp, hh, hn, hl => by
    have e1 : needP ((p, b) :: r) = p.length + needP r := by unfold needP; rw [List.map_cons, sumL_cons]
    have e2 : headsP ((p, b) :: r) = (if b then 1 else 0) + headsP r := by
      unfold headsP
      rw [List.filter_cons]
      cases b with
      | true => simp; omega
      | false => simp
    rw [e1] at hn
    rw [e2] at hh
    have hpl := hl (p, b) (by simp)
    dsimp only at hpl
    have hb : b = decide (100 ≤ lastN W.sizes) := hp.1
    have hleft := h.left
    cases b with
    | true =>
      have hz : 100 ≤ lastN W.sizes := by simpa using hb.symm
      rw [if_pos rfl] at hh
      obtain ⟨f0, f3, fn, fe⟩ := h.free (by omega)
      obtain ⟨f, hf⟩ : ∃ z, freeP D = z := ⟨_, rfl⟩
      rw [hf] at f0 f3 fn fe
      have hV : (if true = true then W.fresh D else W) = W.fresh D := if_pos rfl
      have hlf : lastF (W.fresh D).files = f := by unfold Wa.fresh; dsimp only; rw [lastF_snoc, hf]
      have hw := write_neg h.fu (f := f.toNat) (s := p) (by have := h.n3; omega) (by omega) (by omega)
      rw [show ((f.toNat : Nat) : Int) = f from by omega] at hw
      rw [wrs_cons (er := 0) (D2 := { D with now := upd D.now f.toNat (D.now f.toNat ++ p), loose := D.loose ++ [.wr f.toNat p] }) r hV (by rw [hlf]; exact hw), if_pos rfl]
      have hi := h.new (f := f) ⟨f0, f3⟩ fn fe (p := p) hpl.1 hz (D.loose ++ [.wr f.toNat p]) (W.next + 1)
      have hW : (W.fresh D).wrote p.length = { W with files := W.files ++ [f], sizes := W.sizes ++ [p.length], next := W.next + 1, down := 0 } := by
        unfold Wa.wrote Wa.fresh
        dsimp only
        rw [addLast_snoc, Nat.zero_add, hf]
      rw [hW]
      have hg : growL W.sizes (p, true) = W.sizes ++ [p.length] := by
        obtain ⟨i, z, e⟩ := split_last W.sizes h.one
        rw [e, growL_snoc]; rfl
      have hp2 := hp.2
      rw [hg] at hp2
      have hfr := hi.frees
      have hfr0 := h.frees
      have hlf2 := hi.left
      dsimp only at hfr hlf2
      rw [List.length_append, List.length_singleton] at hfr
      rw [sumL_append, show sumL [p.length] = p.length from by simp [sumL]] at hlf2
      obtain ⟨D', W', g1, g2, g3, g4⟩ := wrs_ok r _ _ hi hp2 (by omega) (by omega) (fun y hy => hl y (List.mem_cons_of_mem _ hy))
      refine ⟨D', W', g1, g2, by rw [g3]; show grow (W.sizes ++ [p.length]) r = grow (growL W.sizes (p, true)) r; rw [hg], ?_⟩
      obtain ⟨k1, k2, k3, k4, k5, k6, k7, k8⟩ := g4
      dsimp only at k1 k2 k3 k4 k5 k6 k7 k8
      rw [List.length_append, List.length_singleton] at k8
      exact ⟨by rw [List.length_cons]; omega, k2, k3, k4, k5, k6, k7, by rw [List.length_cons]; omega⟩
    | false =>
      have hz : lastN W.sizes < 100 := by
        have : ¬ 100 ≤ lastN W.sizes := by simpa using hb.symm
        omega
      rw [if_neg (by decide)] at hh
      have hi0 := h.put (p := p) hz (D.loose ++ [.wr (lastF W.files).toNat p]) (W.next + 1)
      obtain ⟨hi, f0, f3⟩ := hi0
      have hV : (if false = true then W.fresh D else W) = W := if_neg (by decide)
      have hw := write_neg h.fu (f := (lastF W.files).toNat) (s := p) (by have := h.n3; omega) (by omega) (by omega)
      rw [show (((lastF W.files).toNat : Nat) : Int) = lastF W.files from by omega] at hw
      rw [wrs_cons (er := 0) (D2 := { D with now := upd D.now (lastF W.files).toNat (D.now (lastF W.files).toNat ++ p), loose := D.loose ++ [.wr (lastF W.files).toNat p] }) r hV hw, if_pos rfl]
      have hg : growL W.sizes (p, false) = addLast W.sizes p.length := rfl
      have hp2 := hp.2
      rw [hg] at hp2
      have hfr := hi.frees
      have hfr0 := h.frees
      have hlf2 := hi.left
      dsimp only at hfr hlf2
      have hsum := (growL_one W.sizes h.one (p, false)).2.1
      rw [hg] at hsum
      rw [hsum] at hlf2
      obtain ⟨D', W', g1, g2, g3, g4⟩ := wrs_ok r _ _ hi hp2 (by omega) (by dsimp only at hlf2 ⊢; omega) (fun y hy => hl y (List.mem_cons_of_mem _ hy))
      refine ⟨D', W', g1, g2, g3, ?_⟩
      obtain ⟨k1, k2, k3, k4, k5, k6, k7, k8⟩ := g4
      dsimp only at k1 k2 k3 k4 k5 k6 k7 k8
      rw [List.length_append, List.length_singleton] at k8
      exact ⟨by rw [List.length_cons]; omega, k2, k3, k4, k5, k6, k7, by rw [List.length_cons]; omega⟩
theorem LInv.roomP {D : Dk} {W : Wa} (h : LInv D W) (hr : 260 ≤ D.room) (hu : ((sumL W.sizes : Nat) : Int) + W.reserved ≤ 200) : roomP D W = 200 - ((sumL W.sizes : Nat) : Int) - W.reserved := by
  unfold Go.Proofs.Ytniflkggcceagaa.roomP openP
  rw [h.left]; omega
theorem ap_inv {D : Dk} {W : Wa} (h : LInv D W) (hr : 260 ≤ D.room) (hu : ((sumL W.sizes : Nat) : Int) + W.reserved ≤ 200) (hr0 : 0 ≤ W.reserved) (use : Int) (huse : 0 ≤ use ∧ use ≤ W.reserved) (l : List (List UInt8)) (hl : ∀ t ∈ l, t.length ≤ 65536) :
    (roomP D W + use < ((needP (pcs W.gen W.next (lastN W.sizes) l) : Nat) : Int) ∧ apR D W use l = ((0, 4), D, W)) ∨
    (((needP (pcs W.gen W.next (lastN W.sizes) l) : Nat) : Int) ≤ roomP D W + use ∧ ∃ D' W', apR D W use l = ((W.next, 0), D', { W' with reserved := W.reserved - use }) ∧ LInv D' W' ∧ sumL W'.sizes = sumL W.sizes + needP (pcs W.gen W.next (lastN W.sizes) l) ∧ Kp D D' W W' l.length) := by
  have hrm := h.roomP hr hu
  have hok := pcs_ok W.gen l W.next W.sizes h.one
  have hnd := pcs_need W.gen l W.next (lastN W.sizes)
  have hlen := pcs_length W.gen l W.next (lastN W.sizes)
  have hpl : ∀ y ∈ pcs W.gen W.next (lastN W.sizes) l, 1 ≤ y.1.length ∧ y.1.length ≤ 1000000 := by
    have h1 : ∀ (l : List (List UInt8)) (n z : Nat), (∀ t ∈ l, t.length ≤ 65536) → ∀ y ∈ pcs W.gen n z l, y.1.length ≤ 1000000 := fun l => by
      induction l with
      | nil => intro _ _ _ y hy; cases hy
      | cons t r ih =>
        intro n z hh y hy
        rcases List.mem_cons.1 hy with rfl | hy
        · have := hh t (by simp)
          have := piece_len W.gen n t z
          show (pieceP _ _ _ _).length ≤ _
          split at this <;> omega
        · exact ih _ _ (fun t ht => hh t (List.mem_cons_of_mem _ ht)) y hy
    exact fun y hy => ⟨by have := hnd.2.2 y hy; omega, h1 l W.next _ hl y hy⟩
  obtain ⟨P, hP⟩ : ∃ P, pcs W.gen W.next (lastN W.sizes) l = P := ⟨_, rfl⟩
  rw [hP] at hok hnd hlen hpl ⊢
  by_cases hroom : roomP D W + use < ((needP P : Nat) : Int)
  · refine Or.inl ⟨hroom, ?_⟩
    unfold apR
    rw [if_neg (by rw [h.dn]; simp), hP, if_pos (Or.inl hroom)]
  · have hfr := h.frees
    obtain ⟨g1, g2, g3, g4⟩ := grow_all P W.sizes h.one
    have hfs := full_sum _ (g4 h.full hok)
    have hheads : headsP P ≤ freesP D := by have := h.fl; omega
    obtain ⟨D', W', w1, w2, w3, w4⟩ := wrs_ok P D W h hok hheads (by rw [h.left]; omega) hpl
    refine Or.inr ⟨by omega, D', W', ?_, w2, by rw [w3, g2], by rw [← hlen]; exact w4⟩
    unfold apR
    rw [if_neg (by rw [h.dn]; simp), hP, if_neg (fun hh => hh.elim hroom (fun hh => by omega)), w1, if_neg (by simp), w4.res]
end Go.Proofs.Ytniflkggcceagaa
