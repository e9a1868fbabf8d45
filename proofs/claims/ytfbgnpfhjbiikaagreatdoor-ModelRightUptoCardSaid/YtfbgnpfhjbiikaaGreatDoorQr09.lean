/- Contracts: Table.Now, Last, Read. Contract: Table.Load, told exactly. Plain laws of scriniumlaw18.TablePlays: the table's answers are the document's. Contracts of scriniumlaw18: numbers over any two lists; edits kept beside what else is written. Contract: Table.Load of a table whose versions all lie in new blocks: they do so behind it too. Contract: Table.Rows: what it tells lies in blocks of the call's own. Contract: scriniumlaw18.does: one act, done by the table and by the document's. Contract: scriniumlaw18.stands, where the document's rows are the table's. Region lemma of TablePlays: the two new tables. scriniumlaw18.TablePlays: the walk. Two tables of scriniumlaw18.TableLoads' quota, side by side. Contracts: model.does and its closures. Contract: model.does. Contracts: model.without, model.Rows. -/
import Derived.Test.YtfbgnpfhjbiikaaGreatDoorQr05
import Derived.Test.YtfbgnpfhjbiikaaGreatDoorQr08
import Derived.Deep.RegionHeld3
import Derived.Maps.OwnSet
import Derived.Maps.Keyed
namespace Go.Proofs.YtfbgnpfhjbiikaaGreatDoor
open Go Go.RowKit
open Pth
open Go.Maps (has size Canon CanonK Tidy IsMap KeysOf Keyed Merged)
def readT (M : DataW Cel) (p : ByteArray) (n : Nat) : Ver × Nat := if mayP p = false then (dV, 2) else if has M (kS p) = false then (dV, 3) else readE (cellAt M p) n
set_option maxRecDepth 100000 in
set_option maxHeartbeats 2000000 in
theorem tab_read (w : World) {t b : Nat} {q1 q2 B : Int} {M : DataW Cel} (h : TabAt w t b q1 q2 M B) (hg : Good Tryz.prog 9 M) (hm : MX w) (p : ByteArray) (n : Nat) (hp : p.size ≤ 140737488351232) :
    Calls Tryz.prog 20 #[.pointer (some ⟨t, 0, none⟩), .string p, .int .u64 n] w fun e w' => e = .returned (.tuple #[verVal (readT M p n).1, .int .i64 (readT M p n).2]) ∧ Below w.heap.size w w' := by
  have HRR : Hid (readT M p n = if mayP p = false then (dV, 2) else if has M (kS p) = false then (dV, 3) else readE (cellAt M p) n) := Lib.hid rfl
  generalize readT M p n = r at HRR
  have HT := Lib.hid h; have HM := Lib.hid hm
  have Hmade := Lib.hid (fun (w' : World) (hb : Below w.heap.size w w') => tab_made w' (h.below hb))
  have HP := Lib.hid (fun (w' : World) (hb : Below w.heap.size w w') => path_may p hp w' (hm.below hb (Nat.le_refl _)))
  have HRD := Lib.hid (fun (s : Value) (w' : World) (hs : IsVers w' s (cellAt M p).l) => cell_read (cellAt M p) s n w' hs (by have := may_len (hg.cellAt p).1; omega))
  have HL := Lib.hid (fun (w' : World) (h' : TabAt w' t b q1 q2 M B) => h'.m.look2 p (by unfold maxLen; omega))
  have hy : mayP p = mayL p.data.toList := rfl
  rw [hy] at HRR
  clear hy
  generalize mayL p.data.toList = y at HRR HP
  generalize has M (kS p) = hs0 at HRR HL
  generalize readE (cellAt M p) n = E at HRR HRD
  generalize cellAt M p = C at HRD HL
  clear h hg hm
  go_enter Tryz.func20, Tryz.ntmps20
  go_upto_region 1 with fail
  refine wp_abs (F := fun W => One w.heap.size #[.int .u64 0, .int .u8 0, .string ByteArray.empty] W ∧ Below w.heap.size w W) ⟨One.of w _ _, (Below.refl _ _).alloc (Nat.le_refl _) _⟩ ?_
  rintro W ⟨ho, hb⟩
  have HO := Lib.hid ho; have HB := Lib.hid hb
  clear ho hb
  have Hend : Hid (∀ (U : World) (u0 u1 u2 : Value), Below w.heap.size w U → Below w.heap.size w (((U.setCell ⟨w.heap.size, 0, none⟩ u0).setCell ⟨w.heap.size, 1, none⟩ u1).setCell ⟨w.heap.size, 2, none⟩ u2)) := Lib.hid (fun U u0 u1 u2 h => ((h.setCell (Nat.le_refl _) _).setCell (Nat.le_refl _) _).setCell (Nat.le_refl _) _)
  go_wp2_with fail
  refine (Hmade.out _ HB.out).mono ?_
  rintro e w1 ⟨rfl, hb1⟩
  have HB1 := Lib.hid (HB.out.trans (hb1.mono HB.out.size))
  have HO1 := Lib.hid (HO.out.step hb1)
  clear hb1
  go_wp2_with fail
  refine (HP.out _ HB1.out).mono ?_
  rintro e w2 ⟨rfl, hb2⟩
  have HB2 := Lib.hid (HB1.out.trans (hb2.mono HB1.out.size))
  have HO2 := Lib.hid (HO1.out.step hb2)
  have hT2 := HT.out.below HB2.out
  have c2 := hT2.c2
  obtain ⟨s, is, hise, hs, hl, _⟩ := HL.out w2 hT2
  have HS := Lib.hid hs
  obtain ⟨sa, sc, rfl, _⟩ := hs
  have z0 := HO2.out.c 0; have z1 := HO2.out.c 1; have z2 := HO2.out.c 2; have g0 := HO2.out.f 0; have g1 := HO2.out.f 1; have g2 := HO2.out.f 2
  simp at z0 z1 z2
  clear hb2 hT2
  cases y with
  | false =>
    obtain rfl : r = (dV, 2) := by rw [HRR.out, if_pos rfl]
    go_wp2_with fail
    refine bodyPost_ret (v := .tuple #[verVal dV, .int .i64 2]) ?_ rfl ⟨rfl, Hend.out _ _ _ _ HB2.out⟩
    simp [results, Tryz.results20, go_sem, z0, z1, z2, verVal, dV]; rfl
  | true =>
    go_upto_region 6 with fail
    refine wp_abs (F := fun X => One w.heap.size #[.int .u64 0, .int .u8 0, .string ByteArray.empty] X ∧ One w2.heap.size #[.int .u64 C.last, .slice sa C.l.length sc] X ∧ IsVers X (.slice sa C.l.length sc) C.l ∧ Below w.heap.size w X) ⟨HO2.out.step ((Below.refl _ _).alloc (Nat.le_refl _) _), One.of _ _ _, HS.out.below ((Below.refl _ _).alloc (Nat.le_refl _) _) (Nat.le_refl _), HB2.out.alloc HB2.out.size _⟩ ?_
    rintro X ⟨o1, o2, hsX, hbX⟩
    clear z0 z1 z2 g0 g1 g2 c2 hl
    have y0 := o2.c 0; have y1 := o2.c 1
    have z0 := o1.c 0; have z1 := o1.c 1; have z2 := o1.c 2; have g0 := o1.f 0; have g1 := o1.f 1; have g2 := o1.f 2
    simp at y0 y1 z0 z1 z2
    have O1 := Lib.hid o1; have HSX := Lib.hid hsX; have HBX := Lib.hid hbX
    clear o1 o2 hsX hbX
    subst hise
    cases is with
    | false =>
      obtain rfl : r = (dV, 3) := by rw [HRR.out, if_neg (by simp), if_pos rfl]
      go_wp2_with fail
      refine bodyPost_ret (v := .tuple #[verVal dV, .int .i64 3]) ?_ rfl ⟨rfl, Hend.out _ _ _ _ HBX.out⟩
      simp [results, Tryz.results20, go_sem, z0, z1, z2, verVal, dV]; rfl
    | true =>
      obtain rfl : r = E := by rw [HRR.out, if_neg (by simp), if_neg (by simp)]
      go_wp2_with fail
      refine (HRD.out _ _ HSX.out).mono ?_
      rintro e w3 ⟨rfl, hb3⟩
      have HO3 := Lib.hid (O1.out.step hb3)
      have HB3 := Lib.hid (HBX.out.trans (hb3.mono HBX.out.size))
      clear z0 z1 z2 g0 g1 g2
      have z0 := HO3.out.c 0; have z1 := HO3.out.c 1; have z2 := HO3.out.c 2; have g0 := HO3.out.f 0; have g1 := HO3.out.f 1; have g2 := HO3.out.f 2
      simp at z0 z1 z2
      clear hb3
      unfold verVal
      go_wp2_with fail
      refine bodyPost_ret (v := .tuple #[verVal r.1, .int .i64 r.2]) ?_ rfl ⟨rfl, Hend.out _ _ _ _ HB3.out⟩
      simp [results, Tryz.results20, go_sem, z0, z1, z2, verVal]
end Go.Proofs.YtfbgnpfhjbiikaaGreatDoor

namespace Go.Proofs.YtfbgnpfhjbiikaaGreatDoor
open Go Go.RowKit
open Pth
open Go.Maps (has size Canon CanonK Tidy IsMap KeysOf Keyed Merged)
def seenN (l : List Rw) (k : Nat) (q : ByteArray) : Int := if (l.take k).any (fun x => decide (x.1 = q)) then 1 else 0
def SeenRel (l : List Rw) (k : Nat) (D : DataW Unit) : Prop := IsMap D ∧ ∀ q : ByteArray, D.atKey (kS q) (.lit (.int .i64 0)) = .lit (.int .i64 (seenN l k q))
theorem SeenRel.start (l : List Rw) : SeenRel l 0 (.map []) := ⟨Maps.isMap_empty, fun _q => rfl⟩
theorem SeenRel.step {l : List Rw} {k : Nat} {D : DataW Unit} (h : SeenRel l k D) (hk : k < l.length) {x : Rw} (hx : l.getD k dR = x) {cc : Int} (hcc : D.atKey (kS x.1) (.lit (.int .i64 0)) = .lit (.int .i64 cc)) (h0 : ¬ 0 < cc) : SeenRel l (k + 1) (D.put (kS x.1) (.lit (.int .i64 (wrap64 (cc + 1))))) := by
  have he : cc = seenN l k x.1 := by
    have := (h.2 x.1).symm.trans hcc
    injection this with this
    injection this with _ this
    exact this.symm
  have hc0 : cc = 0 := by
    unfold seenN at he
    split at he <;> omega
  have hs : ∀ q, seenN l (k + 1) q = if x.1 = q then 1 else seenN l k q := by
    intro q
    unfold seenN
    rw [List.take_succ_eq_append_getElem hk, List.any_append, List.any_cons, List.any_nil]
    have hg : l[k] = x := by rw [← hx, List.getD_eq_getElem?_getD, List.getElem?_eq_getElem hk]; rfl
    rw [hg]
    by_cases e : x.1 = q
    · rw [if_pos e]; simp [e]
    · have hd : decide (x.1 = q) = false := decide_eq_false e
      rw [if_neg e, hd, Bool.or_false, Bool.or_false]
  refine ⟨h.1.put _ _, fun q => ?_⟩
  rw [hs q]
  by_cases e : x.1 = q
  · subst e
    rw [if_pos rfl, Maps.atKey_put_same h.1 (kS_key _), hc0]
    exact congrArg (fun z => DataW.lit (.int .i64 z)) (by unfold wrap64; omega)
  · rw [if_neg e, Maps.atKey_put_other (kS_ne (fun h => e h.symm))]
    exact h.2 q

end Go.Proofs.YtfbgnpfhjbiikaaGreatDoor

namespace Go.Proofs.YtfbgnpfhjbiikaaGreatDoor
open Go Go.RowKit
open Pth
open Go.Maps (has size Canon CanonK Tidy IsMap KeysOf Keyed Merged)
theorem sorted_ext : ∀ (a b : List (List UInt8)), a.Pairwise (· < ·) → b.Pairwise (· < ·) → (∀ x, x ∈ a ↔ x ∈ b) → a = b
  | [], [], _, _, _ => rfl
  | [], y :: t, _, _, h => by have := (h y).2 (by simp); simp at this
  | x :: t, [], _, _, h => by have := (h x).1 (by simp); simp at this
  | x :: s, y :: t, ha, hb, h => by
    rw [List.pairwise_cons] at ha hb
    have hxy : x = y := by
      rcases List.mem_cons.1 ((h x).1 (by simp)) with e | h1
      · exact e
      · rcases List.mem_cons.1 ((h y).2 (by simp)) with e | h2
        · exact e.symm
        · exact absurd (List.lt_trans (ha.1 y h2) (hb.1 x h1)) (List.lt_irrefl _)
    subst hxy
    congr 1
    refine sorted_ext s t ha.2 hb.2 fun z => ?_
    constructor
    · intro hz
      rcases List.mem_cons.1 ((h z).1 (List.mem_cons_of_mem _ hz)) with e | h1
      · subst e; exact absurd (ha.1 z hz) (List.lt_irrefl _)
      · exact h1
    · intro hz
      rcases List.mem_cons.1 ((h z).2 (List.mem_cons_of_mem _ hz)) with e | h1
      · subst e; exact absurd (hb.1 z hz) (List.lt_irrefl _)
      · exact h1
theorem mem_kids (p x : List UInt8) (l : List (List UInt8)) : x ∈ kidsR p l ↔ x ∈ kidsL p l := by
  unfold kidsR kidsL
  rw [List.mem_filter, List.mem_map, List.mem_map]
  constructor
  · rintro ⟨⟨s, hs, rfl⟩, hne⟩
    rw [child_eq] at hne ⊢
    refine ⟨s, List.mem_filter.2 ⟨hs, ?_⟩, rfl⟩
    cases h : underL p s with
    | true => rfl
    | false => rw [child_none _ _ h] at hne; simp at hne
  · rintro ⟨s, hs, rfl⟩
    obtain ⟨hs, hu⟩ := List.mem_filter.1 hs
    refine ⟨⟨s, hs, child_eq p s⟩, ?_⟩
    have := child_ne p s hu
    simpa using this
theorem names_sorted (p : List UInt8) (l : List (List UInt8)) : (namesL p l).Pairwise (· < ·) := by
  unfold namesL
  have h1 := List.pairwise_mergeSort (le := fun x y : List UInt8 => decide (x ≤ y)) (fun a b c h1 h2 => by simp only [decide_eq_true_eq] at *; exact List.le_trans h1 h2) (fun a b => by simp only [Bool.or_eq_true, decide_eq_true_eq]; exact List.le_total a b) (nub (kidsL p l))
  have h2 : ((nub (kidsL p l)).mergeSort (fun x y => decide (x ≤ y))).Nodup := (List.mergeSort_perm _ _).nodup_iff.2 (nub_nodup _)
  have h3 := h1.and h2
  refine h3.imp ?_
  rintro a b ⟨hab, hne⟩
  simp only [decide_eq_true_eq] at hab
  rcases List.le_iff_lt_or_eq.1 hab with h | h
  · exact h
  · exact absurd h hne
theorem names_mem (p x : List UInt8) (l : List (List UInt8)) : x ∈ namesL p l ↔ x ∈ kidsL p l := by
  unfold namesL; rw [(List.mergeSort_perm _ _).mem_iff, mem_nub]
theorem ins_names {p : List UInt8} {l Z : List ByteArray} (h : InsRel p l l.length Z) : Z.map (·.data.toList) = namesL p (l.map (·.data.toList)) := by
  refine sorted_ext _ _ h.sorted (names_sorted _ _) fun x => ?_
  rw [h.mem, List.take_length, mem_kids, names_mem]
theorem names_len (p : List UInt8) (l : List (List UInt8)) : (namesL p l).length ≤ l.length := by
  unfold namesL
  rw [List.length_mergeSort]
  have h1 : ∀ m : List (List UInt8), (nub m).length ≤ m.length := by
    intro m; induction m with
    | nil => simp [nub]
    | cons a t ih => unfold nub; split <;> simp <;> omega
  refine Nat.le_trans (h1 _) ?_
  unfold kidsL; rw [List.length_map]; exact List.length_filter_le _ _
theorem kids_mem (p x : List UInt8) (l : List (List UInt8)) : x ∈ kidsL p l ↔ ∃ s ∈ l, underL p s = true ∧ childL p s = x := by
  unfold kidsL
  rw [List.mem_map]
  constructor
  · rintro ⟨s, hs, rfl⟩
    obtain ⟨hs, hu⟩ := List.mem_filter.1 hs
    exact ⟨s, hs, hu, rfl⟩
  · rintro ⟨s, hs, hu, rfl⟩
    exact ⟨s, List.mem_filter.2 ⟨hs, hu⟩, rfl⟩
theorem names_same {p : List UInt8} {L L' : List ByteArray} (h : ∀ s, s ∈ L ↔ s ∈ L') : namesL p (L.map (·.data.toList)) = namesL p (L'.map (·.data.toList)) := by
  refine sorted_ext _ _ (names_sorted _ _) (names_sorted _ _) fun x => ?_
  rw [names_mem, names_mem, kids_mem, kids_mem]
  constructor
  · rintro ⟨s, hs, h1⟩
    obtain ⟨y, hy, rfl⟩ := List.mem_map.1 hs
    exact ⟨_, List.mem_map.2 ⟨y, (h y).1 hy, rfl⟩, h1⟩
  · rintro ⟨s, hs, h1⟩
    obtain ⟨y, hy, rfl⟩ := List.mem_map.1 hs
    exact ⟨_, List.mem_map.2 ⟨y, (h y).2 hy, rfl⟩, h1⟩
theorem map_tl_bs (l : List ByteArray) : (l.map (·.data.toList)).map bs = l := by
  induction l with
  | nil => rfl
  | cons a t ih => rw [List.map_cons, List.map_cons, ih, bs_of_toList]
theorem ins_eq {p : List UInt8} {L L' Z : List ByteArray} (h : InsRel p L' L'.length Z) (hm : ∀ s, s ∈ L ↔ s ∈ L') : Z = (namesL p (L.map (·.data.toList))).map bs := by
  rw [names_same hm, ← ins_names h, map_tl_bs]
theorem live_mem {M : DataW Cel} (c : CanonK (KeysOf Tryz.prog 9) M) (s : ByteArray) : s ∈ liveR (rowsL M) ↔ (has M (kS s) = true ∧ 0 < nowC (cellAt M s)) := by
  unfold liveR
  rw [List.mem_map]
  constructor
  · rintro ⟨x, hx, rfl⟩
    obtain ⟨hx, hn⟩ := List.mem_filter.1 hx
    obtain ⟨h1, h2⟩ := (rows_mem c x).1 hx
    rw [h2]
    exact ⟨h1, by simpa using hn⟩
  · rintro ⟨h1, h2⟩
    exact ⟨(s, cellAt M s), List.mem_filter.2 ⟨(rows_mem c _).2 ⟨h1, rfl⟩, by simpa using h2⟩, rfl⟩
theorem Good.okR {M : DataW Cel} (h : Good Tryz.prog 9 M) : OkR (rowsL M) := ⟨rows_up h.canon, fun x hx => by
  obtain ⟨h1, h2⟩ := (rows_mem h.canon x).1 hx
  obtain ⟨p, c, e, hc, k1, k2, k3, k4⟩ := h.cells _ h1
  have hp : p = x.1 := by
    by_cases e2 : p = x.1
    · exact e2
    · exact absurd e.symm (kS_ne e2)
  subst hp
  rw [cellAt_of hc] at h2
  subst h2
  exact ⟨⟨k4, k1, k2⟩, k3⟩⟩
theorem tried_rows {M : DataW Cel} {B q1 q2 : Int} {l : List Edt} (hg : Good Tryz.prog 9 M) (hB : B = bytesR (rowsL M)) :
    triedR (rowsL M) q1 q2 l = ((triedT M B q1 q2 l).1, rowsL (triedT M B q1 q2 l).2.1, (triedT M B q1 q2 l).2.2.1) ∧ (triedT M B q1 q2 l).2.2.2 = bytesR (rowsL (triedT M B q1 q2 l).2.1) := by
  obtain ⟨a1, a2⟩ := run_rows l (vs := []) (B := B) (i := 0) hg hB
  obtain ⟨g1, _, _, _⟩ := runT_facts Tryz.underlying9 l (vs := []) (B := B) (i := 0) hg
  have ho : overR (rowsL (runT M [] B 0 l).2.1) (rowsL M) q1 q2 = overT ((runT M [] B 0 l).2.1, (runT M [] B 0 l).2.2.2) M B q1 q2 := by
    unfold overR overT
    simp only
    rw [rows_length g1.canon, rows_length hg.canon, a2]
    subst hB
    have e : decide (bytesR (rowsL M) < bytesR (rowsL (runT M [] (bytesR (rowsL M)) 0 l).2.1)) = decide ((bytesR (rowsL M) : Int) < (bytesR (rowsL (runT M [] (bytesR (rowsL M)) 0 l).2.1) : Int)) := decide_eq_decide.2 (by omega)
    rw [e]
  have e1 : (triedT M B q1 q2 l).2 = (runT M [] B 0 l).2 := tried_eq M B q1 q2 l
  refine ⟨?_, by rw [e1]; exact a2⟩
  rw [e1]
  unfold triedR triedT
  simp only
  rw [a1]
  simp only
  rw [ho]
  split
  · rfl
  · split <;> rfl
theorem read_rows {M : DataW Cel} (c : CanonK (KeysOf Tryz.prog 9) M) (p : ByteArray) (n : Nat) : readR (rowsL M) p n = readT M p n := by
  unfold readR readT
  rw [cellR_rows c]
  cases h : has M (kS p) with
  | true => rw [if_neg (fun h2 : ∀ x ∈ rowsL M, x.1 ≠ p => h2 (p, cellAt M p) ((rows_mem c _).2 ⟨h, rfl⟩) rfl), if_neg (c := true = false) (by decide)]
  | false =>
    have h2 : ∀ x ∈ rowsL M, x.1 ≠ p := by
      intro x hx e
      have := ((rows_mem c x).1 hx).1
      rw [e, h] at this; cases this
    rw [if_pos h2, if_pos rfl]
end Go.Proofs.YtfbgnpfhjbiikaaGreatDoor

namespace Go.Proofs.YtfbgnpfhjbiikaaGreatDoor
open Go Go.RowKit
open Pth
open Go.Maps (has size Canon CanonK Tidy IsMap KeysOf Keyed Merged)
theorem IsEdts.but2 {S : Nat → Prop} {w w' : World} {v : Value} {l : List Edt} (h : IsEdts w v l) (hb : ButS S w w') (hS : ∀ k, S k → NoStr w k) : IsEdts w' v l := by
  obtain ⟨a, cap, hv, h⟩ := h
  refine ⟨a, cap, hv, ?_⟩
  rcases h with h | ⟨b, off, ha, hlt, hc⟩
  · exact Or.inl h
  · by_cases hl : l = []
    · exact Or.inl hl
    have hn : ¬ S b := fun hs => hS b hs _ _ (hc 0 (List.length_pos_iff.2 hl)).2.1
    refine Or.inr ⟨b, off, ha, by have := hb.size; omega, fun i hi => ?_⟩
    obtain ⟨h0, h1, h2, h3, h4, h5⟩ := hc i hi
    exact ⟨(hb.cell hlt hn).trans h0, (hb.cell hlt hn).trans h1, (hb.cell hlt hn).trans h2, (hb.cell hlt hn).trans h3, (hb.cell hlt hn).trans h4, (hb.cell hlt hn).trans h5⟩

structure ActX where
  dd : Nat
  es : List Edt
  rs : List Rw
  pp : List ByteArray
def dX : ActX := ⟨0, [], [], []⟩
structure ActIs (w : World) (ve vr vp : Value) (x : ActX) : Prop where
  e : IsEdts w ve x.es
  r : ∃ a c, vr = .slice a x.rs.length c ∧ x.rs.length ≤ c ∧ IsRows w vr x.rs
  p : IsStrs w vp x.pp
structure ActSz (x : ActX) : Prop where
  d : x.dd < 256
  e : x.es.length ≤ 2048
  r : x.rs.length ≤ 2048
  p : x.pp.length ≤ 2048
  wf : RowsWf x.rs
  es : ∀ i, i < x.es.length → (x.es.getD i dE).path.size ≤ 140737488351232 ∧ (x.es.getD i dE).text.size ≤ 9223372036854775807
  rs : ∀ i, i < x.rs.length → (x.rs.getD i dR).1.size ≤ 140737488351232 ∧ (x.rs.getD i dR).2.l.length ≤ 4398046511104
  pz : ∀ i, i < x.pp.length → (x.pp.getD i ByteArray.empty).size ≤ 140737488351232
theorem ActIs.but {S : Nat → Prop} {w w' : World} {ve vr vp : Value} {x : ActX} (h : ActIs w ve vr vp x) (hb : ButS S w w') (hS : ∀ k, S k → NoStr w k ∧ NoVers w k) : ActIs w' ve vr vp x :=
  ⟨h.e.but2 hb (fun k hk => (hS k hk).1), (let ⟨a, c, h1, h2, h3⟩ := h.r; ⟨a, c, h1, h2, h3.but2 hb hS⟩), strs_but h.p hb (fun k hk => (hS k hk).1)⟩
theorem ActIs.below {w w' : World} {ve vr vp : Value} {x : ActX} (h : ActIs w ve vr vp x) (hb : Below w.heap.size w w') : ActIs w' ve vr vp x :=
  ⟨h.e.below hb (Nat.le_refl _), (let ⟨a, c, h1, h2, h3⟩ := h.r; ⟨a, c, h1, h2, h3.below hb (Nat.le_refl _)⟩), h.p.below hb (Nat.le_refl _)⟩
structure Duo (w : World) (t b r : Nat) (q1 q2 p1 p2 : Int) (M : DataW Cel) (R : List Rw) : Prop where
  hT : TabAt w t b q1 q2 M (bytesR (rowsL M))
  hG : Good Tryz.prog 9 M
  hR : RefAt w r p1 p2 R
  hO : OkR R
  n1 : t ≠ r
  n2 : b ≠ r
abbrev S3 (t b r : Nat) : Nat → Prop := fun k => k = t ∨ k = b ∨ k = r
theorem Duo.below {w w' : World} {t b r : Nat} {q1 q2 p1 p2 : Int} {M : DataW Cel} {R : List Rw} (h : Duo w t b r q1 q2 p1 p2 M R) (hb : Below w.heap.size w w') : Duo w' t b r q1 q2 p1 p2 M R :=
  ⟨h.hT.below hb, h.hG, h.hR.below hb, h.hO, h.n1, h.n2⟩
theorem good_bytes {M : DataW Cel} (h : Good Tryz.prog 9 M) : bytesR (rowsL M) ≤ size M * 33000 := by
  have := h.okR.bytes
  rw [rows_length h.canon] at this
  exact this
end Go.Proofs.YtfbgnpfhjbiikaaGreatDoor

namespace Go.Proofs.YtfbgnpfhjbiikaaGreatDoor
open Go Go.RowKit
open Pth
open Go.Maps (has size Canon CanonK Tidy IsMap KeysOf Keyed Merged)
def AbvMap (B0 : Nat) (w : World) (fb : Nat) (F : DataW Cel) : Prop :=
  HoldsMap Tryz.prog 9 (fun v c => ∃ s, v = .agg #[.int .u64 c.last, s] ∧ IsVers w s c.l ∧ (c.l ≠ [] → ∀ kb, s.ownBlock = some kb → B0 ≤ kb)) w fb F
theorem AbvMap.map {B0 : Nat} {w : World} {fb : Nat} {F : DataW Cel} (h : AbvMap B0 w fb F) : CelMap w fb F := h.move rfl (fun _ _ ⟨s, e, hs, _⟩ => ⟨s, e, hs⟩)
theorem AbvMap.below {B0 : Nat} {w w' : World} {fb : Nat} {F : DataW Cel} (h : AbvMap B0 w fb F) (hb : Below w.heap.size w w') : AbvMap B0 w' fb F :=
  HoldsMap.move h (hb.block fb (HoldsMap.lt h)) (fun _ _ ⟨s, e, hs, ho⟩ => ⟨s, e, hs.below hb (Nat.le_refl _), ho⟩)
theorem AbvMap.put {B0 : Nat} {w : World} {fb : Nat} {F : DataW Cel} (h : AbvMap B0 w fb F) : ∃ D, w.ownsMap Tryz.prog 9 heldR fb (size F) D ∧
    ∀ (w' : World) (n : Nat) (p : ByteArray) (c : Cel) (s : Value), p.size ≤ maxLen → IsVers w s c.l → (c.l ≠ [] → ∀ kb, s.ownBlock = some kb → B0 ≤ kb) →
      w'.ownsMap Tryz.prog 9 heldR fb n (D.put (kS p) (.held (.agg #[.int .u64 c.last, s]))) → w.grownBy w' (some fb) → AbvMap B0 w' fb (F.put (kS p) (.held c)) := by
  obtain ⟨D, ho, ha⟩ := h
  refine ⟨D, ho, fun w' n p c s hp hs hso ho' hg => ?_⟩
  have hnone := ownsMap_none ho
  exact HoldsMap.of ho' ((ha.mono (fun v c ⟨s, e, hs, hoff⟩ => ⟨s, e, hs.grown hg hnone, hoff⟩)).put strKeyed (ho.tidy strKeyed) ⟨_, keyS Tryz.underlying9 hp⟩ ⟨s, rfl, hs.grown hg hnone, hso⟩)
theorem AbvMap.nil {B0 : Nat} {w : World} {fb : Nat} (h : CelMap w fb (.map [])) : AbvMap B0 w fb (.map []) := by
  obtain ⟨D, ho, ha⟩ := h
  exact HoldsMap.of ho ⟨ha.canon, ha.keys, ha.sizes, fun k hk => by cases hk⟩
end Go.Proofs.YtfbgnpfhjbiikaaGreatDoor

namespace Go.Proofs.YtfbgnpfhjbiikaaGreatDoor
open Go Go.RowKit
open Go.Maps (has size Canon CanonK Tidy IsMap KeysOf Keyed Merged)
def RowsOwn (B : Nat) (w : World) (T : List (Rw × Value)) (o : Option Nat) : Prop := ∀ x ∈ T, w.ownsRow B 50 3 x.2 x.1.2.l.length (flat x.1.2.l) ∧ ∀ kb, x.2.ownBlock = some kb → o ≠ some kb
theorem RowsOwn.below {B : Nat} {w w' : World} {T : List (Rw × Value)} {o : Option Nat} (h : RowsOwn B w T o) (hb : Below w.heap.size w w') : RowsOwn B w' T o := fun x hx => ⟨ownBelow (h x hx).1 hb, (h x hx).2⟩
theorem own_lt {w : World} {B e n k : Nat} {v : Value} {xs : List Value} (h : w.ownsRow B e k v n xs) {kb : Nat} (hk : v.ownBlock = some kb) : kb < w.heap.size := by
  rcases h.2 with ⟨hv, _⟩ | ⟨g, cap, cur, hv, hB, hg, _⟩
  · rw [hv] at hk; cases hk
  · rw [hv] at hk; cases hk; exact lt_of_block hg
theorem own_off {w w' : World} {B e n k : Nat} {v : Value} {xs : List Value} {o : Option Nat} (h : w.ownsRow B e k v n xs) (hg : w.grownBy w' o) (ho : ∀ kb, v.ownBlock = some kb → o ≠ some kb) : w'.ownsRow B e k v n xs := by
  refine ⟨h.1, ?_⟩
  rcases h.2 with hn | ⟨g, cap, cur, hv, hBg, hc, rest⟩
  · exact Or.inl hn
  · exact Or.inr ⟨g, cap, cur, hv, hBg, (hg.block g (lt_of_block hc) (fun e => ho g (by rw [hv]; rfl) e.symm)).trans hc, rest⟩
theorem RowsOwn.row {B : Nat} {w w' : World} {T : List (Rw × Value)} {o o' : Option Nat} (h : RowsOwn B w T o) (hg : w.grownBy w' o) (ho : o' = o ∨ o' = some w.heap.size) : RowsOwn B w' T o' := by
  intro x hx
  obtain ⟨h1, h2⟩ := h x hx
  refine ⟨own_off h1 hg h2, fun kb hk => ?_⟩
  rcases ho with rfl | rfl
  · exact h2 kb hk
  · intro e
    have := own_lt h1 hk
    cases e; omega
theorem RowsOwn.off {B : Nat} {w : World} {T : List (Rw × Value)} {o : Option Nat} (h : RowsOwn B w T o) : RowsOff w T o := fun x hx => ⟨IsVers.own (h x hx).1, fun _ => (h x hx).2⟩
end Go.Proofs.YtfbgnpfhjbiikaaGreatDoor

namespace Go.Proofs.YtfbgnpfhjbiikaaGreatDoor
open Go Go.RowKit
open Pth
open Go.Maps (has size Canon CanonK Tidy IsMap KeysOf Keyed Merged)
theorem next_bytes {M : DataW Cel} {q1 q2 : Int} {l : List Edt} (hg : Good Tryz.prog 9 M) : nextB (triedT M (bytesR (rowsL M)) q1 q2 l) (bytesR (rowsL M)) = bytesR (rowsL (nextM (triedT M (bytesR (rowsL M)) q1 q2 l) M)) := by
  have h := (tried_rows (q1 := q1) (q2 := q2) (l := l) hg rfl).2
  unfold nextB nextM
  split
  · exact h
  · rfl
theorem next_len {M : DataW Cel} {B q1 q2 : Int} {l : List Edt} : (nextV (triedT M B q1 q2 l)).length ≤ l.length := by
  unfold nextV
  split
  · rw [tried_eq]; have := (runT_zero l (N := M) (vs := []) (B := B) (i := 0)).2; simpa using this
  · simp
end Go.Proofs.YtfbgnpfhjbiikaaGreatDoor

namespace Go.Proofs.YtfbgnpfhjbiikaaGreatDoor
open Go Go.RowKit
open Pth
open Go.Maps (has size Canon CanonK Tidy IsMap KeysOf Keyed Merged)
def ValC (t r m c : Nat) (by0 sz : Int) (a : Option Addr) : Nat → Value → Prop
  | 0 => fun v => v = .pointer (some ⟨t, 0, none⟩)
  | 2 => fun v => v = .pointer (some ⟨r, 0, none⟩)
  | 3 => fun v => v = .pointer (some ⟨r, 0, none⟩)
  | 4 => fun v => v = .pointer (some ⟨r, 2, none⟩)
  | 5 => fun v => v = .slice a m c
  | 6 => fun v => v = .bool true
  | 7 => fun v => v = .bool true
  | 8 => fun v => v = .int .i64 sz
  | 9 => fun v => v = .pointer (some ⟨r, 0, none⟩)
  | 10 => fun v => v = .pointer (some ⟨r, 0, none⟩)
  | 11 => fun v => v = .pointer (some ⟨r, 2, none⟩)
  | 12 => fun v => v = .slice a m c
  | 13 => fun v => v = .int .i64 (m : Int)
  | 14 => fun v => v = .bool true
  | 15 => fun v => v = .bool true
  | 16 => fun v => v = .bool true
  | 17 => fun v => v = .int .i64 by0
  | 18 => fun v => v = .pointer (some ⟨r, 0, none⟩)
  | 19 => fun v => v = .pointer (some ⟨r, 0, none⟩)
  | 20 => fun v => v = .pointer (some ⟨r, 2, none⟩)
  | 21 => fun v => v = .slice a m c
  | 22 => fun v => v = .int .i64 by0
  | 23 => fun v => v = .bool true
  | 24 => fun v => v = .bool true
  | 25 => fun v => v = .bool true
  | _ => fun _ => False
def ValS (L : List Rw) (t r m c : Nat) (by0 sz : Int) (a : Option Addr) (i : Nat) (v : Value) (w : World) : Prop := if i = 1 then IsRows w v L else ValC t r m c by0 sz a i v
theorem ValS.mono {L : List Rw} {t r m c : Nat} {by0 sz : Int} {a : Option Addr} {w w' : World} (hb : Below w.heap.size w w') (j : Nat) (u : Value) (h : ValS L t r m c by0 sz a j u w) : ValS L t r m c by0 sz a j u w' := by
  unfold ValS at h ⊢
  split at h
  · rename_i e; rw [if_pos e]; exact IsRows.below h hb (Nat.le_refl _)
  · rename_i e; rw [if_neg e]; exact h
end Go.Proofs.YtfbgnpfhjbiikaaGreatDoor

namespace Go.Proofs.YtfbgnpfhjbiikaaGreatDoor
open Go Go.RowKit
open Pth
open Go.Maps (has size Canon CanonK Tidy IsMap KeysOf Keyed Merged)
def NewT (B : Nat) (q1 q2 : Int) (v : Value) (w : World) : Prop := ∃ t b, v = .pointer (some ⟨t, 0, none⟩) ∧ B ≤ t ∧ B ≤ b ∧ TabAt w t b q1 q2 (.map []) 0
def NewR (B : Nat) (q1 q2 : Int) (v : Value) (w : World) : Prop := ∃ r, v = .pointer (some ⟨r, 0, none⟩) ∧ B ≤ r ∧ One r #[.int .i64 q1, .int .i64 q2, .slice none 0 0] w
def ValT (B : Nat) (q1 q2 : Int) : Nat → Value → World → Prop
  | 0 => fun v _ => v = .agg #[.int .i64 q1, .int .i64 q2]
  | 1 => NewT B q1 q2
  | 2 => fun v _ => v = .agg #[.int .i64 q1, .int .i64 q2]
  | 3 => fun v _ => v = .agg #[.int .i64 q1, .int .i64 q2, .slice none 0 0]
  | 4 => NewR B q1 q2
  | 5 => NewT B q1 q2
  | 6 => NewR B q1 q2
  | _ => fun _ _ => False
theorem NewT.below {B : Nat} {q1 q2 : Int} {v : Value} {w w' : World} (h : NewT B q1 q2 v w) (hb : Below w.heap.size w w') : NewT B q1 q2 v w' := by
  obtain ⟨t, b, h1, h2, h3, h4⟩ := h
  exact ⟨t, b, h1, h2, h3, h4.below hb⟩
theorem NewR.below {B : Nat} {q1 q2 : Int} {v : Value} {w w' : World} (h : NewR B q1 q2 v w) (hb : Below w.heap.size w w') : NewR B q1 q2 v w' := by
  obtain ⟨r, h1, h2, h3⟩ := h
  exact ⟨r, h1, h2, h3.step hb⟩
theorem ValT.mono {B : Nat} {q1 q2 : Int} {w w' : World} (hb : Below w.heap.size w w') (j : Nat) (u : Value) (h : ValT B q1 q2 j u w) : ValT B q1 q2 j u w' := by
  rcases j with _ | _ | _ | _ | _ | _ | _ | j
  · exact h
  · exact NewT.below h hb
  · exact h
  · exact h
  · exact NewR.below h hb
  · exact NewT.below h hb
  · exact NewR.below h hb
  · exact h
end Go.Proofs.YtfbgnpfhjbiikaaGreatDoor

namespace Go.Proofs.YtfbgnpfhjbiikaaGreatDoor
open Go Go.RowKit
open Pth
open Go.Maps (has size Canon CanonK Tidy IsMap KeysOf Keyed Merged)
def ActX.toM (x : ActX) : Actm := ⟨x.es, x.rs, x.pp.length⟩
def IsActX (w : World) (b off : Nat) (x : ActX) : Prop :=
  ∃ ve vr vp, w.cell? ⟨b, off, none⟩ = some (.int .u8 x.dd) ∧ w.cell? ⟨b, off + 1, none⟩ = some ve ∧ w.cell? ⟨b, off + 2, none⟩ = some vr ∧ w.cell? ⟨b, off + 3, none⟩ = some vp ∧ ActIs w ve vr vp x
def IsActsX (w : World) (v : Value) (l : List ActX) : Prop :=
  ∃ a cap, v = .slice a l.length cap ∧ (l = [] ∨ ∃ b off, a = some ⟨b, off, none⟩ ∧ b < w.heap.size ∧ ∀ i, i < l.length → IsActX w b (off + i * 4) (l.getD i dX))
theorem IsActX.below {w w' : World} {b off : Nat} {x : ActX} (h : IsActX w b off x) (hb : Below w.heap.size w w') (hlt : b < w.heap.size) : IsActX w' b off x := by
  obtain ⟨ve, vr, vp, h0, h1, h2, h3, h4⟩ := h
  exact ⟨ve, vr, vp, (hb.cell hlt).trans h0, (hb.cell hlt).trans h1, (hb.cell hlt).trans h2, (hb.cell hlt).trans h3, h4.below hb⟩
theorem IsActsX.below {w w' : World} {v : Value} {l : List ActX} (h : IsActsX w v l) (hb : Below w.heap.size w w') : IsActsX w' v l := by
  obtain ⟨a, cap, hv, h⟩ := h
  refine ⟨a, cap, hv, ?_⟩
  rcases h with h | ⟨b, off, ha, hlt, hc⟩
  · exact Or.inl h
  · exact Or.inr ⟨b, off, ha, by have := hb.size; omega, fun i hi => (hc i hi).below hb hlt⟩
theorem toM_getD (l : List ActX) (i : Nat) : (l.map ActX.toM).getD i dA = (l.getD i dX).toM := by
  simp only [List.getD_eq_getElem?_getD, List.getElem?_map]
  cases l[i]? <;> rfl
structure ActFit (x : ActX) : Prop where
  d : x.dd < 256
  wf : RowsWf x.rs
  li : Light 1048576 x.toM
  rp : ∀ i, i < x.rs.length → (x.rs.getD i dR).1.size ≤ 1048576
  pp : ∀ i, i < x.pp.length → (x.pp.getD i ByteArray.empty).size ≤ 1048576
theorem totW_mem : ∀ {l : List Actm} {i : Nat}, i < l.length → 8 * ((l.getD i dA).es.length + (l.getD i dA).rs.length + (l.getD i dA).ps) ≤ totW l
  | [], i, h => by simp at h
  | a :: t, 0, _ => by simp only [List.getD_cons_zero, totW]; omega
  | a :: t, i + 1, h => by
    have := totW_mem (l := t) (i := i) (by simpa using h)
    simp only [List.getD_cons_succ, totW]; omega
theorem ActFit.sz {l : List ActX} {i : Nat} (hi : i < l.length) (hf : ActFit (l.getD i dX)) (ht : totW (l.map ActX.toM) ≤ 8192) : ActSz (l.getD i dX) ∧ (l.getD i dX).es.length + (l.getD i dX).rs.length ≤ 1024 := by
  have h := totW_mem (l := l.map ActX.toM) (i := i) (by rw [List.length_map]; exact hi)
  rw [toM_getD] at h
  have h1 : 8 * ((l.getD i dX).es.length + (l.getD i dX).rs.length + (l.getD i dX).pp.length) ≤ totW (l.map ActX.toM) := h
  obtain ⟨_, _, _, a4, a5⟩ := hf.li
  refine ⟨⟨hf.d, by omega, by omega, by omega, hf.wf, fun j hj => ?_, fun j hj => ?_, fun j hj => ?_⟩, by omega⟩
  · have := a4 j hj
    have h2 : ((l.getD i dX).es.getD j dE).path.size ≤ 1048576 := this.1
    have h3 : ((l.getD i dX).es.getD j dE).text.size ≤ 1048576 := this.2
    constructor <;> omega
  · have h2 := hf.rp j hj
    have h3 : ((l.getD i dX).rs.getD j dR).2.l.length ≤ 1048576 := (a5 j hj).1
    constructor <;> omega
  · have := hf.pp j hj; omega
theorem rowsL_nil : rowsL (.map []) = [] := by simp [rowsL, keysL, strKeys]
end Go.Proofs.YtfbgnpfhjbiikaaGreatDoor

namespace Go.Proofs.YtfbgnpfhjbiikaaGreatDoor
open Go Go.RowKit
open Go.Maps (has size Canon CanonK Tidy IsMap KeysOf Keyed Merged)
structure Pair (w : World) (ta ba tb bb : Nat) (MA : DataW Cel) (BA : Int) (MB : DataW Cel) (BB : Int) : Prop where
  a : TabAt w ta ba 40 4096 MA BA
  b : TabAt w tb bb 40 4096 MB BB
  n1 : ta ≠ tb
  n2 : ta ≠ bb
  n3 : ba ≠ tb
  n4 : ba ≠ bb
theorem Pair.below {w w' : World} {ta ba tb bb : Nat} {MA MB : DataW Cel} {BA BB : Int} (h : Pair w ta ba tb bb MA BA MB BB) (hb : Below w.heap.size w w') : Pair w' ta ba tb bb MA BA MB BB :=
  ⟨h.a.below hb, h.b.below hb, h.n1, h.n2, h.n3, h.n4⟩
structure TabsL (B0 : Nat) (W : World) (L : List (Nat × Nat)) : Prop where
  at_ : ∀ p ∈ L, TabAt W p.1 p.2 40 4096 (.map []) 0
  apart : L.Pairwise (fun p q => p.1 ≠ q.1 ∧ p.1 ≠ q.2 ∧ p.2 ≠ q.1 ∧ p.2 ≠ q.2)
  above : ∀ p ∈ L, B0 ≤ p.1 ∧ B0 ≤ p.2
theorem TabsL.nil (B0 : Nat) (W : World) : TabsL B0 W [] := ⟨fun p hp => (by cases hp), List.Pairwise.nil, fun p hp => (by cases hp)⟩
theorem TabsL.cons {B0 : Nat} {W w6 : World} {L : List (Nat × Nat)} {t b : Nat} (h : TabsL B0 W L) (hB : B0 ≤ W.heap.size) (ht : W.heap.size ≤ t) (hb : W.heap.size ≤ b) (hT : TabAt w6 t b 40 4096 (.map []) 0) (hb6 : Below W.heap.size W w6) : TabsL B0 w6 ((t, b) :: L) := by
  refine ⟨fun p hp => ?_, List.pairwise_cons.2 ⟨fun q hq => ?_, h.apart⟩, fun p hp => ?_⟩
  · rcases List.mem_cons.1 hp with rfl | hp
    · exact hT
    · exact (h.at_ p hp).below hb6
  · have h1 := (h.at_ q hq).lt
    have h2 := HoldsMap.lt (h.at_ q hq).m
    refine ⟨?_, ?_, ?_, ?_⟩ <;> simp only <;> omega
  · rcases List.mem_cons.1 hp with rfl | hp
    · exact ⟨by simp only; omega, by simp only; omega⟩
    · exact h.above p hp
theorem zeroVerL (w : World) : (zeroValue 50).run Tryz.prog w = .ok (.agg #[.int .u64 0, .int .u8 0, .string ByteArray.empty]) w := by kernel_rfl
def Heads (w : World) (a : Option Addr) (T : List (Rw × Value)) : Prop := ∀ i, i < T.length → ∃ bR, a = some ⟨bR, 0, none⟩ ∧ w.cell? ⟨bR, i * 3 + 2, none⟩ = some (T.getD i dRV).2
def WrOk (w : World) (T : List (Rw × Value)) : Prop := ∀ x ∈ T, ∃ g cap, x.2 = .slice (some ⟨g, 0, none⟩) x.1.2.l.length cap ∧ 0 < x.1.2.l.length ∧ ∀ j, j < 3 → (∃ u, w.cell? ⟨g, j, none⟩ = some u) ∧ w.frozen? ⟨g, j, none⟩ = false
theorem WrOk.set {w : World} {T : List (Rw × Value)} (h : WrOk w T) (p : Addr) (u : Value) : WrOk (w.setCell p u) T := by
  intro x hx
  obtain ⟨g, cap, h1, h2, h3⟩ := h x hx
  refine ⟨g, cap, h1, h2, fun j hj => ?_⟩
  obtain ⟨⟨v, hv⟩, hf⟩ := h3 j hj
  refine ⟨?_, by rw [World.frozen?_setCell]; exact hf⟩
  by_cases e : p = ⟨g, j, none⟩
  · subst e; exact ⟨u, World.cell?_setCell_same' _ _ _ (by rw [hv]; rfl)⟩
  · exact ⟨v, (World.cell?_setCell_other _ _ _ _ e).trans hv⟩
theorem Heads.set {w : World} {a : Option Addr} {T : List (Rw × Value)} (h : Heads w a T) (p : Addr) (u : Value) (hp : ∀ bR, a = some ⟨bR, 0, none⟩ → p.block ≠ bR) : Heads (w.setCell p u) a T := by
  intro i hi
  obtain ⟨bR, h1, h2⟩ := h i hi
  exact ⟨bR, h1, (World.cell?_setCell_far _ _ _ _ (hp bR h1)).trans h2⟩
end Go.Proofs.YtfbgnpfhjbiikaaGreatDoor

namespace Go.Proofs.YtfbgnpfhjbiikaaGreatDoor
open Go Go.RowKit
open Pth
open Go.Maps (has size Canon CanonK Tidy IsMap KeysOf Keyed Merged)
theorem zeroRead (w : World) : (zeroValue 133).run Tryz.prog w = .ok (.agg #[.string ByteArray.empty, .int .u64 0]) w := by kernel_rfl
theorem infoGot : (Tryz.prog.info? 97).map (fun i => (i.zero, i.size, i.bytes)) = some (some (.agg #[.int .u64 0, .int .u8 0, .string ByteArray.empty, .int .i64 0]), 4, 40) := by kernel_rfl
def gotFlat (l : List GotR) : List Value := l.flatMap gotCells
theorem gotFlat_append (l : List GotR) (g : GotR) : gotFlat (l ++ [g]) = gotFlat l ++ gotCells g := by simp [gotFlat]
theorem gotFlat_at (l : List GotR) : ∀ (i : Nat), i < l.length → ∀ j, j < 4 → (gotFlat l)[i * 4 + j]? = (gotCells (l.getD i dG))[j]? := by
  induction l with
  | nil => intro i hi; simp at hi
  | cons g r ih =>
    intro i hi j hj
    have e : gotFlat (g :: r) = gotCells g ++ gotFlat r := by simp [gotFlat]
    have hl : (gotCells g).length = 4 := rfl
    rw [e]
    cases i with
    | zero => rw [List.getElem?_append_left (by rw [hl]; omega)]; simp
    | succ i =>
      rw [List.getElem?_append_right (by rw [hl]; omega), hl, show (i + 1) * 4 + j - 4 = i * 4 + j by omega, ih i (by simpa using hi) j hj]
      simp
theorem IsGots.own {w : World} {B e : Nat} {v : Value} {l : List GotR} (h : w.ownsRow B e 4 v l.length (gotFlat l)) : IsGots w v l := by
  rcases h.2 with ⟨hv, hl⟩ | ⟨g, cap, cur, hv, hB, hg, hn, hcap, hsz, htake⟩
  · have : l = [] := List.length_eq_zero_iff.1 hl
    subst this; exact ⟨none, 0, hv, Or.inl rfl⟩
  · refine ⟨_, _, hv, Or.inr ⟨g, 0, rfl, lt_of_block hg, fun i hi => ?_⟩⟩
    subst hv
    have f := gotFlat_at l i hi
    have c : ∀ j, j < 4 → w.cell? ⟨g, i * 4 + j, none⟩ = (gotCells (l.getD i dG))[j]? := fun j hj => by
      rw [World.ownsRow.cellAt h (i * 4 + j) (by omega), f j hj]
    simp only [Nat.zero_add]
    exact ⟨c 0 (by omega), c 1 (by omega), c 2 (by omega), c 3 (by omega)⟩
theorem one_bare {k : Nat} {C : Array Value} {W : World} (h : One k C W) (hC : ∀ v ∈ C.toList, (∀ n, v ≠ .int .u64 n) ∧ ∀ s, v ≠ .string s) : Bare W k := by
  intro o v hv
  rw [h.c o] at hv
  exact hC v (by simpa using Array.mem_of_getElem? hv)
theorem one_grown {n : Nat} {C : Array Value} {W W' : World} {b : Option Nat} (h : One n C W) (hg : W.grownBy W' b) (hb : b ≠ some n) : One n C W' :=
  ⟨Nat.lt_of_lt_of_le h.lt hg.size, fun j => (World.cell?_of_block (w := W) (a := ⟨n, j, none⟩) (hg.block n h.lt (fun e => hb e.symm))).trans (h.c j), fun j => (World.frozen?_of_block (w := W) (a := ⟨n, j, none⟩) (hg.block n h.lt (fun e => hb e.symm))).trans (h.f j)⟩
theorem one_but {S : Nat → Prop} {n : Nat} {C : Array Value} {W W' : World} (h : One n C W) (hb : ButS S W W') (hn : ¬ S n) : One n C W' :=
  ⟨Nat.lt_of_lt_of_le h.lt hb.size, fun j => (hb.cell (p := ⟨n, j, none⟩) h.lt hn).trans (h.c j), fun j => (hb.frozen (p := ⟨n, j, none⟩) h.lt hn).trans (h.f j)⟩
theorem ButS.thenB {S : Nat → Prop} {w1 w2 w3 : World} (h : ButS S w1 w2) (k : Below w1.heap.size w2 w3) : ButS S w1 w3 :=
  ⟨k.os.trans h.os, k.tape.trans h.tape, k.output.trans h.output, Nat.le_trans h.size k.size, fun i hi hS => (k.block i hi).trans (h.block i hi hS)⟩
def gotsT (M : DataW Cel) (l : List Rd) : List GotR := l.map (fun x => ⟨(readT M x.path x.n).1, (readT M x.path x.n).2⟩)
theorem gotsT_take {M : DataW Cel} {l : List Rd} {k : Nat} (hk : k < l.length) : gotsT M (l.take (k + 1)) = gotsT M (l.take k) ++ [⟨(readT M (l.getD k dRd).path (l.getD k dRd).n).1, (readT M (l.getD k dRd).path (l.getD k dRd).n).2⟩] := by
  unfold gotsT
  rw [List.take_succ_eq_append_getElem hk, List.map_append, List.getD_eq_getElem?_getD, List.getElem?_eq_getElem hk]; rfl

structure DoeW (w0 w : World) (n t b : Nat) (vR vE : Value) (c : Cal) : Prop where
  below : Below w0.heap.size w0 w
  is : CalIs w0 vR vE c
  ht : w0.heap.size ≤ t
  hb : w0.heap.size ≤ b
  hn : w0.heap.size ≤ n
  tn : t < n
  bn : b < n
  lt : n + 3 < w.heap.size
  c1 : w.cell? ⟨n + 1, 1, none⟩ = some vR
  c2 : w.cell? ⟨n + 1, 2, none⟩ = some vE
  x : w.cell? ⟨n, 0, none⟩ = some (.pointer (some ⟨t, 0, none⟩))
  r : One (n + 2) #[.slice none 0 0, .slice none 0 0, .slice none 0 0] w
  i : One (n + 3) #[.bool true] w
def Doe1G (M : DataW Cel) (B : Int) (c : Cal) (n t b : Nat) (q1 q2 : Int) (w : World) (e : Ending) (w' : World) : Prop :=
  e = .returned (.tuple #[]) ∧ ∃ vG vN, One (n + 2) #[vG, vN, .slice none 0 0] w' ∧ IsGots w' vG (gotsT M c.rds) ∧ IsNums w' vN (nextV (triedT M B q1 q2 c.eds)) ∧ One (n + 3) #[.bool (decide ((triedT M B q1 q2 c.eds).1.2 = 0))] w' ∧
    TabAt w' t b q1 q2 (nextM (triedT M B q1 q2 c.eds) M) (nextB (triedT M B q1 q2 c.eds) B) ∧ ButS (fun k => k = t ∨ k = b ∨ k = n + 2 ∨ k = n + 3) w w'

set_option maxRecDepth 100000 in
set_option maxHeartbeats 4000000 in
theorem does_ops (w0 w : World) {n t b : Nat} {q1 q2 B : Int} {M : DataW Cel} {vR vE : Value} {c : Cal} (hW : DoeW w0 w n t b vR vE c) (h : TabAt w t b q1 q2 M B) (hg : Good Tryz.prog 9 M) (hm : MX w0)
    (hlr : c.rds.length ≤ 1048576) (hrs : ∀ i, i < c.rds.length → (c.rds.getD i dRd).path.size ≤ 140737488351232) (hl : c.eds.length ≤ 1048576) (hsM : size M ≤ 1073741824) (hB0 : -1125899906842624 ≤ B) (hB1 : B ≤ 1125899906842624)
    (hp : ∀ i, i < c.eds.length → (c.eds.getD i dE).path.size ≤ 140737488351232 ∧ (c.eds.getD i dE).text.size ≤ 9223372036854775807) :
    Calls Tryz.prog 93 #[.pointer (some ⟨n + 1, 0, none⟩), .pointer (some ⟨n, 0, none⟩), .pointer (some ⟨n + 2, 0, none⟩), .pointer (some ⟨n + 3, 0, none⟩)] w (Doe1G M B c n t b q1 q2 w) := by
  obtain ⟨⟨aR, cR, hvR, hrc⟩, hE⟩ := hW.is
  subst hvR
  have HW := Lib.hid hW; have HT := Lib.hid h; have HG := Lib.hid hg; have HM := Lib.hid hm; have HRC := Lib.hid hrc; have HE := Lib.hid hE; have HRS := Lib.hid hrs; have Hp := Lib.hid hp
  have k1 := hW.c1; have k2 := hW.c2; have kx := hW.x
  have Hlt := Lib.hid hW.lt; have Hbel := Lib.hid hW.below; have Hht := Lib.hid hW.ht; have Hhb := Lib.hid hW.hb; have Hhn := Lib.hid hW.hn; have Htn := Lib.hid hW.tn; have Hbn := Lib.hid hW.bn
  have HI := Lib.hid hW.i
  obtain ⟨i0, hi, hz0, hz1, hz2⟩ := info_parts infoGot
  have hzr := zeroRead; have hzv := zeroVerL
  clear hW h hg hm hrc hE hrs hp
  go_enter Tryz.func93, Tryz.ntmps93
  go_wp2_with fail
  go_loopw [14] (fun s14 wr => ∃ (k : Nat) (s : Value), k ≤ c.rds.length ∧ s14 = .int .i64 k ∧ Hid (One (n + 2) #[s, .slice none 0 0, .slice none 0 0] wr) ∧ Hid (wr.ownsRow w.heap.size 97 4 s k (gotFlat (gotsT M (c.rds.take k)))) ∧ Hid (ButS (fun k => k = n + 2) w wr)) (fun i _ => c.rds.length - (intOf i).toNat)
  case atStart => exact ⟨0, _, Nat.zero_le _, rfl, Lib.hid HW.out.r, Lib.hid (World.ownsRow_nil _ _ _ _), Lib.hid (ButS.of (Below.refl _ _))⟩
  case round =>
    obtain ⟨k, s, hk, rfl, hR, hrow, hbw⟩ := hrel
    obtain ⟨a5, c5, rfl⟩ := ownShape hrow.out
    have hbB : Below w0.heap.size w0 wr := Hbel.out.trans (hbw.out.below (fun k hk => by have := Hhn.out; omega) Hbel.out.size)
    have HbB := Lib.hid hbB
    have hTr : TabAt wr t b q1 q2 M B := HT.out.but hbw.out (fun k hk => by subst hk; exact (one_bare HW.out.r (fun v hv => by simp at hv; rcases hv with rfl | rfl | rfl <;> exact ⟨(fun n h => (by cases h)), (fun n h => (by cases h))⟩)).noVers) (by have := Htn.out; omega) (by have := Hbn.out; omega)
    have HTr := Lib.hid hTr
    have hkx : wr.cell? ⟨n, 0, none⟩ = some (.pointer (some ⟨t, 0, none⟩)) := (hbw.out.cell (p := ⟨n, 0, none⟩) (by have := Hlt.out; show n < _; omega) (by show ¬ n = n + 2; omega)).trans kx
    have hk2 : wr.cell? ⟨n + 1, 2, none⟩ = some vE := (hbw.out.cell (p := ⟨n + 1, 2, none⟩) (by have := Hlt.out; show n + 1 < _; omega) (by show ¬ n + 1 = n + 2; omega)).trans k2
    have hsz := hbw.out.size
    have HSZ : Hid (n + 3 < wr.heap.size) := Lib.hid (by have := Hlt.out; omega)
    clear hbB hTr
    by_cases hlt : k < c.rds.length
    · have hltI : (k : Int) < (c.rds.length : Int) := by omega
      rcases HRC.out with h0 | ⟨b1, o1, rfl, hb1, hc1⟩
      · rw [h0] at hlt; simp at hlt
      obtain ⟨g0, g1⟩ := hc1 k hlt
      have e0 := (HbB.out.cell (p := ⟨b1, o1 + k * 2, none⟩) hb1).trans g0
      have e1 := (HbB.out.cell (p := ⟨b1, o1 + k * 2 + 1, none⟩) hb1).trans g1
      have hTk := gotsT_take (M := M) hlt
      have hps := HRS.out k hlt
      obtain ⟨x, hx⟩ : ∃ x, c.rds.getD k dRd = x := ⟨_, rfl⟩
      rw [hx] at e0 e1 hTk hps
      obtain ⟨p, m⟩ := x
      dsimp only at e0 e1 hTk hps
      have HTk := Lib.hid hTk
      clear hx hTk g0 g1 hc1
      go_upto_region 3 with fail
      refine wp_abs (F := fun W => One wr.heap.size #[.string p, .int .u64 m] W ∧ Below wr.heap.size wr W) ⟨One.of _ _ _, (Below.refl _ _).alloc (Nat.le_refl _) _⟩ ?_
      rintro W1 ⟨hO1, hb1'⟩
      have y0 := hO1.c 0; have y1 := hO1.c 1
      simp at y0 y1
      have hkx1 := (hb1'.cell (p := ⟨n, 0, none⟩) (by have := HSZ.out; show n < _; omega)).trans hkx
      have HR1 := Lib.hid (hR.out.step hb1')
      have HB1 : Hid (Below wr.heap.size wr W1) := Lib.hid hb1'
      have HRd := Lib.hid (tab_read W1 (HTr.out.below hb1') HG.out ((HM.out.below HbB.out (Nat.le_refl _)).below hb1' (Nat.le_refl _)) p m hps)
      obtain ⟨rr, hrr⟩ : ∃ rr, readT M p m = rr := ⟨_, rfl⟩
      rw [hrr] at HRd HTk
      clear hrr hO1 hb1' e0 e1
      obtain ⟨⟨vn, vst, vtx⟩, er⟩ := rr
      unfold verVal at HRd
      dsimp only at HRd HTk
      go_wp2_with fail
      refine HRd.out.mono ?_
      rintro e w2 ⟨rfl, hb2⟩
      have HB2 : Hid (Below wr.heap.size wr w2) := Lib.hid (HB1.out.trans (hb2.mono HB1.out.size))
      have HR2 := Lib.hid (HR1.out.step hb2)
      clear hb2 HRd HR1
      go_upto_region 4 with fail
      refine wp_abs (F := fun W => One w2.heap.size #[.int .u64 vn, .int .u8 vst, .string vtx] W ∧ Below w2.heap.size w2 W) ⟨One.of _ _ _, (Below.refl _ _).alloc (Nat.le_refl _) _⟩ ?_
      rintro W3 ⟨hO3, hb3⟩
      have z0 := hO3.c 0; have z1 := hO3.c 1; have z2 := hO3.c 2
      simp at z0 z1 z2
      have hR3 := HR2.out.step hb3
      have r0 := hR3.c 0; have r1 := hR3.f 0
      simp at r0
      have HR3 := Lib.hid hR3
      have HB3 : Hid (Below wr.heap.size wr W3) := Lib.hid (HB2.out.trans (hb3.mono HB2.out.size))
      have HRow3 := Lib.hid (ownBelow hrow.out HB3.out)
      clear hO3 hb3 hR3 hkx1 y0 y1
      go_wp2_with (first
        | (at_builtin; refine wpList_append_own _ rfl (.tmp 28) (.tmp 32) 83 rfl w.heap.size 97 i0 (.agg #[.int .u64 0, .int .u8 0, .string ByteArray.empty, .int .i64 0]) 4 40 Tryz.underlying83 hi hz0 hz1 hz2 rfl (by decide) _ k (gotFlat (gotsT M (c.rds.take k))) rfl (ownBelow HRow3.out ((Below.refl _ _).alloc (Nat.le_refl _) _)) ⟨W3.heap.size, 0, none⟩ 1 1 [.int .u64 vn, .int .u8 vst, .string vtx, .int .i64 er] rfl rfl (World.news_of_block (MapKept.heap_alloc _ _).1) (by intro u hu; simp only [List.mem_cons, List.mem_nil_iff, or_false] at hu; rcases hu with rfl | rfl | rfl | rfl <;> rfl) (by unfold maxLen; omega) (by omega) ?hbase ?go; (case hbase => have h1 := HB3.out.size; simp; omega); intro v5 w5 hown5 hg5 _; obtain ⟨a6, c6, rfl⟩ := ownShape hown5; have hR5 := one_grown (HR3.out.step ((Below.refl _ _).alloc (Nat.le_refl _) _)) hg5 (fun e => by have := ownAbove HRow3.out _ e; have := Hlt.out; omega); have r5 := hR5.c 0; have f5 := hR5.f 0; simp at r5; have HR5 := Lib.hid hR5; have Hown5 := Lib.hid hown5; have Hg5 := Lib.hid hg5; clear hR5 hown5 hg5)
        | fail)
      go_roundw
      case rel =>
        have hbA : Below w.heap.size wr (W3.alloc (.cells #[.int .u64 vn, .int .u8 vst, .string vtx, .int .i64 er] 97)) := (HB3.out.mono hsz).alloc (by have := HB3.out.size; omega) _
        have hb5 : Below w.heap.size wr w5 := hbA.grown Hg5.out (by have := HB3.out.size; simp; omega) (fun k hk => by have := ownAbove HRow3.out k hk; omega)
        refine ⟨k + 1, _, by omega, by go_num, Lib.hid (HR5.out.set (i := 0) (by simp) (.slice a6 (k + 1) c6)), Lib.hid ?_, Lib.hid ?_⟩
        · rw [HTk.out, gotFlat_append]
          exact ownBut Hown5.out (ButS.set (S := fun k => k = n + 2) w5 (p := ⟨n + 2, 0, none⟩) rfl _) (fun k hk => by have := Hlt.out; omega)
        · exact (hbw.out.thenB hb5).trans (ButS.set (S := fun k => k = n + 2) _ (p := ⟨n + 2, 0, none⟩) rfl _)
      case measure => simp [intOf]; omega
    · have hge : ¬ (k : Int) < (c.rds.length : Int) := by omega
      obtain rfl : k = c.rds.length := by omega
      have hrow1 : wr.ownsRow w.heap.size 97 4 (.slice a5 c.rds.length c5) (gotsT M c.rds).length (gotFlat (gotsT M c.rds)) := by
        have h := hrow.out
        rw [List.take_length] at h
        have hl : (gotsT M c.rds).length = c.rds.length := by unfold gotsT; rw [List.length_map]
        rw [hl]; exact h
      have HRow1 := Lib.hid hrow1
      have HAp := Lib.hid (tab_app wr HTr.out HG.out (HM.out.below HbB.out (Nat.le_refl _)) vE c.eds (HE.out.below HbB.out (Nat.le_refl _)) hl hsM hB0 hB1 Hp.out)
      obtain ⟨r, hr⟩ : ∃ r, r = triedT M B q1 q2 c.eds := ⟨_, rfl⟩
      rw [← hr] at HAp
      have Hr := Lib.hid hr
      clear hr hrow1 hrow
      go_wp2_with fail
      refine HAp.out.mono ?_
      rintro e w6 ⟨v6, rfl, hown6, hT6, hbut6⟩
      have hRa := one_but hR.out hbut6 (by rintro (e | e); have := Htn.out; omega; have := Hbn.out; omega)
      have hIa := one_but (one_but HI.out hbw.out (by show ¬ n + 3 = n + 2; omega)) hbut6 (by rintro (e | e); have := Htn.out; omega; have := Hbn.out; omega)
      have r1 := hRa.c 1; have f1 := hRa.f 1
      have i1 := hIa.c 0; have fi := hIa.f 0
      simp at r1 i1
      obtain ⟨a7, c7, rfl⟩ := ownShape hown6
      have Hown6 := Lib.hid hown6; have HT6 := Lib.hid hT6; have Hbut6 := Lib.hid hbut6; have HRa := Lib.hid hRa; have HIa := Lib.hid hIa
      clear hown6 hT6 hbut6 hRa hIa HAp
      go_wp2_with fail
      go_end0
      have hlt := Hlt.out; have htn := Htn.out; have hbn := Hbn.out
      have hbl : ((r.1.2 : Int) == 0) = decide (r.1.2 = 0) := by
        by_cases h : r.1.2 = 0
        · simp [h]
        · simp [h]
      have bS : ∀ (W : World) (v u : Value), ButS (fun k => k = n + 2 ∨ k = n + 3) W ((W.setCell ⟨n + 2, 1, none⟩ v).setCell ⟨n + 3, 0, none⟩ u) := fun W v u => (ButS.set (S := fun k => k = n + 2 ∨ k = n + 3) W (p := ⟨n + 2, 1, none⟩) (Or.inl rfl) v).trans (ButS.set (S := fun k => k = n + 2 ∨ k = n + 3) _ (p := ⟨n + 3, 0, none⟩) (Or.inr rfl) u)
      rw [hbl]
      unfold Doe1G
      rw [← Hr.out]
      refine ⟨rfl, .slice a5 c.rds.length c5, .slice a7 (nextV r).length c7, ?_, ?_, ?_, ?_, ?_, ?_⟩
      · exact one_but (HRa.out.set (i := 1) (by simp) (.slice a7 (nextV r).length c7)) (ButS.set (S := fun k => k = n + 3) _ (p := ⟨n + 3, 0, none⟩) rfl _) (by show ¬ n + 2 = n + 3; omega)
      · exact IsGots.own (ownBut (ownBut HRow1.out Hbut6.out (fun k hk => by rcases hk with e | e <;> omega)) (bS _ _ _) (fun k hk => by rcases hk with e | e <;> omega))
      · exact IsNums.own (ownBut Hown6.out (bS _ _ _) (fun k hk => by have := HSZ.out; rcases hk with e | e <;> omega))
      · exact (one_but HIa.out (ButS.set (S := fun k => k = n + 2) _ (p := ⟨n + 2, 1, none⟩) rfl _) (by show ¬ n + 3 = n + 2; omega)).set (i := 0) (by simp) (.bool (decide (r.1.2 = 0)))
      · refine HT6.out.but (bS _ _ _) (fun k hk => ?_) (by rintro (e | e) <;> omega) (by rintro (e | e) <;> omega)
        rcases hk with rfl | rfl
        · exact (one_bare HRa.out (fun v hv => by simp at hv; rcases hv with rfl | rfl | rfl <;> exact ⟨(fun n h => (by cases h)), (fun n h => (by cases h))⟩)).noVers
        · exact (one_bare HIa.out (fun v hv => by simp at hv; subst hv; exact ⟨(fun n h => (by cases h)), (fun n h => (by cases h))⟩)).noVers
      · exact ((hbw.out.mono (fun k hk => Or.inr (Or.inr (Or.inl hk)))).trans (Hbut6.out.mono (fun k hk => by rcases hk with e | e; exact Or.inl e; exact Or.inr (Or.inl e)))).trans ((bS _ _ _).mono (fun k hk => Or.inr (Or.inr hk)))

def namesT (R : List Rw) (pre : ByteArray) : List ByteArray := (namesL pre.data.toList ((liveR R).map (·.data.toList))).map bs
theorem namesT_len (R : List Rw) (pre : ByteArray) : (namesT R pre).length ≤ R.length := by
  unfold namesT
  rw [List.length_map]
  refine Nat.le_trans (names_len _ _) ?_
  rw [List.length_map]
  have := liveR_len R R.length
  rwa [List.take_length] at this
def NamesN (R : List Rw) (pre : ByteArray) (w : World) (e : Ending) (w' : World) : Prop := ∃ v, e = .returned v ∧ IsStrs w' v (namesT R pre) ∧ Below w.heap.size w w'
theorem tab_listN (w : World) {t b : Nat} {q1 q2 B : Int} {M : DataW Cel} (h : TabAt w t b q1 q2 M B) (hg : Good Tryz.prog 9 M) (hm : MX w) (p : ByteArray) (hp : p.size ≤ 140737488351232) (hsM : size M ≤ 1073741824) :
    Calls Tryz.prog 27 #[.pointer (some ⟨t, 0, none⟩), .string p] w (NamesN (rowsL M) p w) := by
  refine (tab_list w h hg hm p hp hsM).mono ?_
  rintro e w' ⟨L, hL, v, rfl, hs, hb⟩
  refine ⟨v, rfl, ?_, hb⟩
  unfold namesT
  rw [← names_same (p := p.data.toList) (L := L) (fun s => (hL s).trans (live_mem hg.canon s).symm)]
  exact hs
def Doe2G (M : DataW Cel) (c : Cal) (n : Nat) (w : World) (e : Ending) (w' : World) : Prop :=
  e = .returned (.tuple #[]) ∧ ∃ vM, One (n + 2) #[.slice none 0 0, .slice none 0 0, vM] w' ∧ IsStrs w' vM (namesT (rowsL M) c.pre) ∧ ButS (fun k => k = n + 2) w w'
theorem isStrs_new {S : Nat → Prop} {w w' : World} {v : Value} {l : List ByteArray} (h : IsStrs w v l) (hb : ButS S w w') (hS : ∀ k, S k → NoStr w k) : IsStrs w' v l := by
  obtain ⟨a, cap, hv, h⟩ := h
  refine ⟨a, cap, hv, ?_⟩
  rcases h with h | ⟨b2, off, ha, hlt, hc⟩
  · exact Or.inl h
  · by_cases hl : l = []
    · exact Or.inl hl
    have hn : ¬ S b2 := fun hs => hS b2 hs _ _ (hc 0 (List.length_pos_iff.2 hl))
    exact Or.inr ⟨b2, off, ha, by have := hb.size; omega, fun i hi => (hb.cell (p := ⟨b2, off + i, none⟩) hlt hn).trans (hc i hi)⟩
set_option maxRecDepth 100000 in
set_option maxHeartbeats 4000000 in
theorem does_list (w : World) {n t b : Nat} {q1 q2 B : Int} {M : DataW Cel} {c : Cal} (hx : w.cell? ⟨n, 0, none⟩ = some (.pointer (some ⟨t, 0, none⟩))) (h3 : w.cell? ⟨n + 1, 3, none⟩ = some (.string c.pre)) (hr : One (n + 2) #[.slice none 0 0, .slice none 0 0, .slice none 0 0] w) (h : TabAt w t b q1 q2 M B) (hg : Good Tryz.prog 9 M) (hm : MX w)
    (hp : c.pre.size ≤ 140737488351232) (hsM : size M ≤ 1073741824) :
    Calls Tryz.prog 94 #[.pointer (some ⟨n, 0, none⟩), .pointer (some ⟨n + 1, 0, none⟩), .pointer (some ⟨n + 2, 0, none⟩)] w (Doe2G M c n w) := by
  have HL := Lib.hid (tab_listN w h hg hm c.pre hp hsM)
  have HR := Lib.hid hr
  clear hr h hg hm hp hsM
  go_enter Tryz.func94, Tryz.ntmps94
  go_wp2_with fail
  refine HL.out.mono ?_
  rintro e w1 ⟨v1, rfl, hs1, hb1⟩
  have hR1 := HR.out.step hb1
  have r1 := hR1.c 2; have f1 := hR1.f 2
  simp at r1
  have HR1 := Lib.hid hR1; have HB1 := Lib.hid hb1; have HS1 := Lib.hid hs1
  obtain ⟨a1, c1, rfl, _⟩ := hs1
  clear hR1 hb1
  go_wp2_with fail
  go_end0
  refine ⟨rfl, .slice a1 (namesT (rowsL M) c.pre).length c1, HR1.out.set (i := 2) (by simp) _, ?_, (ButS.of HB1.out).trans (ButS.set (S := fun k => k = n + 2) _ (p := ⟨n + 2, 2, none⟩) rfl _)⟩
  refine isStrs_new HS1.out (ButS.set (S := fun k => k = n + 2) _ (p := ⟨n + 2, 2, none⟩) rfl _) (fun k hk => ?_)
  subst hk
  exact (one_bare HR1.out (fun v hv => by simp at hv; rcases hv with rfl | rfl | rfl <;> exact ⟨(fun n h => (by cases h)), (fun n h => (by cases h))⟩)).noStr
end Go.Proofs.YtfbgnpfhjbiikaaGreatDoor

namespace Go.Proofs.YtfbgnpfhjbiikaaGreatDoor
open Go Go.RowKit
open Pth
open Go.Maps (has size Canon CanonK Tidy IsMap KeysOf Keyed Merged)
theorem zeroReply (w : World) : (zeroValue 85).run Tryz.prog w = .ok (.agg #[.slice none 0 0, .slice none 0 0, .slice none 0 0]) w := by kernel_rfl
theorem zeroFun (w : World) : (zeroValue 1).run Tryz.prog w = .ok .nilFunc w := by kernel_rfl
theorem kU8 : Keyed Tryz.prog 5 := Maps.int_keyed Tryz.underlying5
theorem keyU8 {k : Nat} (hk : k < 256) : keyOf Tryz.prog 5 (.int .u8 k) = some (.int .u8 k) := Maps.keyOf_int_mk Tryz.underlying5 (by
  simp [Lit.wf, IntKind.min, IntKind.max, IntKind.signed, IntKind.bits]; omega)
theorem kU8_ne {a b : Nat} (h : a ≠ b) : (Lit.int .u8 (a : Int)) ≠ .int .u8 (b : Int) := fun e => by injection e with _ e; exact h (by omega)
theorem isKeyU8 (a : Nat) : WideAt.IsKeyLit (.int .u8 (a : Int)) := trivial
theorem wpl_insert {ops : Array Oper} {rest : List Oper} {o : Oper} {a : Act} {w : World} {Q : Exit → Act → World → Prop}
    (hg : o.guard = none) (m x v : Operand) (t : TypeId) (hop : o.op = Op.insert t m x v)
    (k e : TypeId) (K : Keyed Tryz.prog k) (ht : Tryz.prog.underlying t = some (.map k e)) (b n : Nat) (D : DataW Value)
    (hm : a.eval m = .map (some b)) (hown : w.ownsMap Tryz.prog k heldR b n D) (hn : n < maxLen) (key val : Value) (kl : Lit) (hx : a.eval x = key) (hv : a.eval v = val) (hkey : keyOf Tryz.prog k key = some kl)
    (hK : ∀ w', w'.ownsMap Tryz.prog k heldR b (n + 1) (D.put kl (.held val)) → w.grownBy w' (some b) → wpList Tryz.prog ops Q rest (a.put o.dst undef) w') :
    wpList Tryz.prog ops Q (o :: rest) a w := by
  refine wpList_plain hg fun K' hK' => ?_
  obtain ⟨w', hrun, r1, r2⟩ := hown.update K ht hn hkey (show heldR val = some (.held val, []) from rfl)
  unfold Oper.wp
  simp [execOp, hop, hm, hx, hv, hrun, Result.andThen]
  exact hK' _ _ (hK w' r1 r2)

theorem setCell_self {W : World} {b o : Nat} {v : Value} (h : W.cell? ⟨b, o, none⟩ = some v) : W.setCell ⟨b, o, none⟩ v = W := by
  rw [Sort.setCell_eq]
  refine Sort.mapBlock_id _ _ _ (fun c e fr hb => ?_)
  unfold World.cell? at h
  rw [hb] at h
  have h2 : c[o]? = some v := by simpa using h
  apply Array.ext_getElem?
  intro i
  rw [Array.getElem?_setIfInBounds]
  split
  · rename_i e; subst e; rw [h2]; split
    · rfl
    · rename_i hn; exact absurd (Array.getElem?_eq_some_iff.1 h2).1 hn
  · rfl
theorem ButS.cutB {S S' : Nat → Prop} {w1 w2 w3 : World} (h : Below w1.heap.size w1 w2) (k : ButS S' w2 w3) (hS : ∀ k, S' k → k < w1.heap.size → S k) : ButS S w1 w3 :=
  ⟨k.os.trans h.os, k.tape.trans h.tape, k.output.trans h.output, Nat.le_trans h.size k.size, fun i hi hn => (k.block i (Nat.lt_of_lt_of_le hi h.size) (fun hs => hn (hS i hs hi))).trans (h.block i hi)⟩
structure Done where
  got : List GotR
  nums : List Nat
  names : List ByteArray
  is : Bool
  M : DataW Cel
  B : Int
def doesT (M : DataW Cel) (B q1 q2 : Int) (c : Cal) : Done :=
  if c.kind = 1 then ⟨gotsT M c.rds, nextV (triedT M B q1 q2 c.eds), [], decide ((triedT M B q1 q2 c.eds).1.2 = 0), nextM (triedT M B q1 q2 c.eds) M, nextB (triedT M B q1 q2 c.eds) B⟩
  else if c.kind = 2 then ⟨[], [], namesT (rowsL M) c.pre, true, M, B⟩ else ⟨[], [], [], true, M, B⟩
def DoeG (d : Done) (t b : Nat) (q1 q2 : Int) (w : World) (e : Ending) (w' : World) : Prop :=
  ∃ vG vN vM, e = .returned (.tuple #[.agg #[vG, vN, vM], .bool d.is]) ∧ IsGots w' vG d.got ∧ IsNums w' vN d.nums ∧ IsStrs w' vM d.names ∧ TabAt w' t b q1 q2 d.M d.B ∧ ButS (fun k => k = t ∨ k = b) w w'
structure CalSz (c : Cal) : Prop where
  k : c.kind < 256
  r : c.rds.length ≤ 1048576
  rs : ∀ i, i < c.rds.length → (c.rds.getD i dRd).path.size ≤ 140737488351232
  e : c.eds.length ≤ 1048576
  es : ∀ i, i < c.eds.length → (c.eds.getD i dE).path.size ≤ 140737488351232 ∧ (c.eds.getD i dE).text.size ≤ 9223372036854775807
  p : c.pre.size ≤ 140737488351232

set_option maxRecDepth 100000 in
set_option maxHeartbeats 4000000 in
theorem model_does (w0 w : World) {t b : Nat} {q1 q2 B : Int} {M : DataW Cel} (vR vE : Value) (c : Cal) (hw : Below w0.heap.size w0 w) (hc : CalIs w0 vR vE c) (ht : w0.heap.size ≤ t) (hb : w0.heap.size ≤ b) (h : TabAt w t b q1 q2 M B) (hg : Good Tryz.prog 9 M) (hm : MX w0)
    (hz : CalSz c) (hsM : size M ≤ 1073741824) (hB0 : -1125899906842624 ≤ B) (hB1 : B ≤ 1125899906842624) :
    Calls Tryz.prog 67 #[.pointer (some ⟨t, 0, none⟩), calVal vR vE c] w (DoeG (doesT M B q1 q2 c) t b q1 q2 w) := by
  have hzr := zeroReply
  have hmm := @run_makeMap Tryz.prog
  have hvR : vR.oneCell' = true := by obtain ⟨a, k, e, _⟩ := hc.r; rw [e]; rfl
  have hvE : vE.oneCell' = true := by obtain ⟨a, k, e, _⟩ := hc.e; rw [e]; rfl
  have HW := Lib.hid hw; have HC := Lib.hid hc; have HT := Lib.hid h; have HG := Lib.hid hg; have HM := Lib.hid hm; have HZ := Lib.hid hz
  have htn := Lib.hid h.lt; have hbn := Lib.hid (HoldsMap.lt h.m)
  clear hw hc h hg hm hz
  unfold calVal
  go_enter Tryz.func67, Tryz.ntmps67
  go_upto_region 2 with fail
  refine wp_abs (F := fun W => One w.heap.size #[.pointer (some ⟨t, 0, none⟩)] W ∧ One (w.heap.size + 1) #[.int .u8 c.kind, vR, vE, .string c.pre, .int .u64 c.f, .int .u64 c.t, .int .u32 c.dst] W ∧ One (w.heap.size + 2) #[.slice none 0 0, .slice none 0 0, .slice none 0 0] W ∧ One (w.heap.size + 3) #[.bool true] W ∧ Below w.heap.size w W ∧ W.heap.size = w.heap.size + 4) ?_ ?_
  · have b1 : ∀ (W : World) (o : Obj), Below W.heap.size W (W.alloc o) := fun W o => (Below.refl _ _).alloc (Nat.le_refl _) _
    refine ⟨(((One.of w _ _).step (b1 _ _)).step (b1 _ _)).step (b1 _ _), ?_, ?_, ?_, (((((Below.refl w.heap.size w).alloc (Nat.le_refl _) _).alloc (by simp) _).alloc (by simp; omega) _).alloc (by simp; omega) _), by simp⟩
    · have := ((One.of (w.alloc (.cells #[.pointer (some ⟨t, 0, none⟩)] 32)) #[.int .u8 c.kind, vR, vE, .string c.pre, .int .u64 c.f, .int .u64 c.t, .int .u32 c.dst] 80).step (b1 _ (.cells #[.slice none 0 0, .slice none 0 0, .slice none 0 0] 85))).step (b1 _ (.cells #[.bool true] 4))
      simpa using this
    · have := (One.of ((w.alloc (.cells #[.pointer (some ⟨t, 0, none⟩)] 32)).alloc (.cells #[.int .u8 c.kind, vR, vE, .string c.pre, .int .u64 c.f, .int .u64 c.t, .int .u32 c.dst] 80)) #[.slice none 0 0, .slice none 0 0, .slice none 0 0] 85).step (b1 _ (.cells #[.bool true] 4))
      simpa using this
    · have := One.of (((w.alloc (.cells #[.pointer (some ⟨t, 0, none⟩)] 32)).alloc (.cells #[.int .u8 c.kind, vR, vE, .string c.pre, .int .u64 c.f, .int .u64 c.t, .int .u32 c.dst] 80)).alloc (.cells #[.slice none 0 0, .slice none 0 0, .slice none 0 0] 85)) #[.bool true] 4
      simpa using this
  rintro W ⟨hO0, hO1, hO2, hO3, hbW, hsz⟩
  have HO0 := Lib.hid hO0; have HO1 := Lib.hid hO1; have HO2 := Lib.hid hO2; have HO3 := Lib.hid hO3; have HbW := Lib.hid hbW
  obtain ⟨nW, hnW⟩ : ∃ nW, nW = W.heap.size := ⟨_, rfl⟩
  have HnW := Lib.hid hnW; have Hsz := Lib.hid hsz
  clear hO0 hO1 hO2 hO3 hbW hnW hsz
  go_upto_region 3 with (first
    | (refine wpl_insert rfl (.tmp 9) _ (.tmp 10) 160 rfl 5 1 kU8 Tryz.underlying160 W.heap.size 0 (.map []) rfl (World.ownsMap_made W Tryz.prog 5 heldR) (by unfold maxLen; omega) (.int .u8 ((1 : Nat) : Int)) (Value.func (Fn.func 93) #[] #[.pointer (some ⟨w.heap.size + 1, 0, none⟩), .pointer (some ⟨w.heap.size, 0, none⟩), .pointer (some ⟨w.heap.size + 1 + 1, 0, none⟩), .pointer (some ⟨w.heap.size + 1 + 1 + 1, 0, none⟩)]) _ rfl rfl (keyU8 (k := 1) (by omega)) ?_; intro w1 hown1 hg1)
    | (refine wpl_insert rfl (.tmp 9) _ (.tmp 11) 160 rfl 5 1 kU8 Tryz.underlying160 W.heap.size 1 _ rfl hown1 (by unfold maxLen; omega) (.int .u8 ((2 : Nat) : Int)) (Value.func (Fn.func 94) #[] #[.pointer (some ⟨w.heap.size, 0, none⟩), .pointer (some ⟨w.heap.size + 1, 0, none⟩), .pointer (some ⟨w.heap.size + 1 + 1, 0, none⟩)]) _ rfl rfl (keyU8 (k := 2) (by omega)) ?_; intro w2 hown2 hg2)
    | fail)
  -- the map's two closures
  have HD : Hid (∀ z, (zeroValue 1).run Tryz.prog w2 = .ok z w2 → z = .nilFunc) := Lib.hid (fun z h => by rw [zeroFun] at h; injection h with h; exact h.symm)
  obtain ⟨f1, hf1⟩ : ∃ f1, f1 = Value.func (Fn.func 93) #[] #[.pointer (some ⟨w.heap.size + 1, 0, none⟩), .pointer (some ⟨w.heap.size, 0, none⟩), .pointer (some ⟨w.heap.size + 1 + 1, 0, none⟩), .pointer (some ⟨w.heap.size + 1 + 1 + 1, 0, none⟩)] := ⟨_, rfl⟩
  obtain ⟨f2, hf2⟩ : ∃ f2, f2 = Value.func (Fn.func 94) #[] #[.pointer (some ⟨w.heap.size, 0, none⟩), .pointer (some ⟨w.heap.size + 1, 0, none⟩), .pointer (some ⟨w.heap.size + 1 + 1, 0, none⟩)] := ⟨_, rfl⟩
  rw [← hf1, ← hf2] at hown2
  have tD : IsMap (.map [] : DataW Value) := (canonK_tidy (canonK_nil (KeysOf Tryz.prog 5))).isMap
  have HL : Hid (∃ v ok, (Instr.lookup 160 (.map (some W.heap.size)) (.int .u8 c.kind) true).run Tryz.prog w2 = .ok (.tuple #[v, .bool ok]) w2 ∧ (c.kind = 1 → v = f1 ∧ ok = true) ∧ (c.kind = 2 → v = f2 ∧ ok = true) ∧ (c.kind ≠ 1 → c.kind ≠ 2 → ok = false)) := Lib.hid (by
    obtain ⟨v, ps, hr, hv⟩ := hown2.look_ok kU8 Tryz.underlying160 (zeroFun w2) (zd := .held .nilFunc) (zp := []) rfl (keyU8 HZ.out.k)
    have e1 : DataW.held v = (((DataW.map [] : DataW Value).put (.int .u8 ((1 : Nat) : Int)) (.held f1)).put (.int .u8 ((2 : Nat) : Int)) (.held f2)).atKey (.int .u8 c.kind) (.held .nilFunc) := by simpa [heldR] using (congrArg (fun o => o.map Prod.fst) hv)
    refine ⟨v, _, hr, fun h => ?_, fun h => ?_, fun h1 h2 => ?_⟩
    · rw [h] at e1 ⊢
      have hne : (Lit.int .u8 ((1 : Nat) : Int)) ≠ .int .u8 ((2 : Nat) : Int) := kU8_ne (by decide)
      rw [Maps.atKey_put_other hne, Maps.atKey_put_same tD (isKeyU8 1)] at e1
      injection e1 with e1
      exact ⟨e1, by rw [Maps.has_put_other hne, Maps.has_put_same tD (isKeyU8 1)]⟩
    · rw [h] at e1 ⊢
      have tD1 : IsMap ((DataW.map [] : DataW Value).put (.int .u8 ((1 : Nat) : Int)) (.held f1)) := tD.put _ _
      rw [Maps.atKey_put_same tD1 (isKeyU8 2)] at e1
      injection e1 with e1
      exact ⟨e1, Maps.has_put_same tD1 (isKeyU8 2) _⟩
    · rw [Maps.has_put_other (kU8_ne h2), Maps.has_put_other (kU8_ne h1)]; rfl)
  have hgB : ∀ (k : Nat), k < W.heap.size → ((some W.heap.size : Option Nat) ≠ some k) := fun k hk e => by injection e with e; omega
  have hO0 := one_grown (one_grown (HO0.out.step ((Below.refl _ _).alloc (Nat.le_refl _) (.map #[] 0))) hg1 (hgB _ (by have := Hsz.out; omega))) hg2 (hgB _ (by have := Hsz.out; omega))
  have hO1 := one_grown (one_grown (HO1.out.step ((Below.refl _ _).alloc (Nat.le_refl _) (.map #[] 0))) hg1 (hgB _ (by have := Hsz.out; omega))) hg2 (hgB _ (by have := Hsz.out; omega))
  have hO2 := one_grown (one_grown (HO2.out.step ((Below.refl _ _).alloc (Nat.le_refl _) (.map #[] 0))) hg1 (hgB _ (by have := Hsz.out; omega))) hg2 (hgB _ (by have := Hsz.out; omega))
  have hO3 := one_grown (one_grown (HO3.out.step ((Below.refl _ _).alloc (Nat.le_refl _) (.map #[] 0))) hg1 (hgB _ (by have := Hsz.out; omega))) hg2 (hgB _ (by have := Hsz.out; omega))
  have hbA : Below w.heap.size w (W.alloc (.map #[] 0)) := HbW.out.alloc (by have := Hsz.out; omega) _
  have hb1 : Below w.heap.size w w1 := hbA.grown hg1 hbA.size (fun k hk => by cases hk; have := Hsz.out; omega)
  have hb2 : Below w.heap.size w w2 := hb1.grown hg2 hb1.size (fun k hk => by cases hk; have := Hsz.out; omega)
  have hszW : w.heap.size + 4 < w2.heap.size := by
    have h1 := hg1.size; have h2 := hg2.size; have h3 := Hsz.out
    simp at h1; omega
  have c0 := hO1.c 0
  simp at c0
  have HB2 := Lib.hid hb2; have HOa := Lib.hid hO0; have HOb := Lib.hid hO1; have HOc := Lib.hid hO2; have HOd := Lib.hid hO3; have HszW := Lib.hid hszW
  have HT2 := Lib.hid (HT.out.below hb2)
  have hW0 := HW.out.size
  clear hgB hO0 hO1 hO2 hO3 hbA hb1 hb2 hg1 hg2 hown1 hown2 tD hszW HO0 HO1 HO2 HO3 hzr
  obtain ⟨v, ok, hrun, h1, h2, h3⟩ := HL.out
  have HK1 := Lib.hid h1; have HK2 := Lib.hid h2; have HK3 := Lib.hid h3
  clear h1 h2 h3 HL HD
  have Hf1 := Lib.hid hf1; have Hf2 := Lib.hid hf2
  clear hf1 hf2
  -- CASES
  by_cases hk1 : c.kind = 1
  · obtain ⟨e1, e2⟩ := HK1.out hk1
    rw [e1, e2, Hf1.out] at hrun
    have hd : Hid (doesT M B q1 q2 c = ⟨gotsT M c.rds, nextV (triedT M B q1 q2 c.eds), [], decide ((triedT M B q1 q2 c.eds).1.2 = 0), nextM (triedT M B q1 q2 c.eds) M, nextB (triedT M B q1 q2 c.eds) B⟩) := Lib.hid (by unfold doesT; rw [if_pos hk1])
    have HDo := Lib.hid (does_ops w0 w2 (n := w.heap.size) (vR := vR) (vE := vE) (c := c) ⟨HW.out.trans (HB2.out.mono hW0), HC.out, ht, hb, hW0, htn.out, hbn.out, by have := HszW.out; omega, by have := HOb.out.c 1; simpa using this, by have := HOb.out.c 2; simpa using this, by have := HOa.out.c 0; simpa using this, HOc.out, HOd.out⟩ HT2.out HG.out HM.out HZ.out.r HZ.out.rs HZ.out.e hsM hB0 hB1 HZ.out.es)
    clear e1 e2 hk1 HK1 HK2 HK3
    go_wp2_with fail
    refine HDo.out.mono ?_
    rintro e w8 ⟨rfl, vG, vN, hR8, hG8, hN8, hI8, hT8, hB8⟩
    have HB8 : Hid (ButS (fun k => k = t ∨ k = b) w w8) := Lib.hid (ButS.cutB HB2.out hB8 (fun k hk hkl => by rcases hk with e | e | e | e; exact Or.inl e; exact Or.inr e; omega; omega))
    have HR8 : Hid (One (w.heap.size + 1 + 1) #[vG, vN, .slice none 0 0] w8) := Lib.hid hR8; have HI8 : Hid (One (w.heap.size + 1 + 1 + 1) #[.bool (doesT M B q1 q2 c).is] w8) := Lib.hid (by rw [hd.out]; exact hI8)
    have HG8 : Hid (IsGots w8 vG (doesT M B q1 q2 c).got) := Lib.hid (by rw [hd.out]; exact hG8)
    have HN8 : Hid (IsNums w8 vN (doesT M B q1 q2 c).nums) := Lib.hid (by rw [hd.out]; exact hN8)
    obtain ⟨vM, hvM⟩ : ∃ vM, vM = Value.slice none 0 0 := ⟨_, rfl⟩
    rw [← hvM] at HR8
    have HM8 : Hid (IsStrs w8 vM (doesT M B q1 q2 c).names) := Lib.hid (by rw [hd.out, hvM]; exact ⟨none, 0, rfl, Or.inl rfl⟩)
    have HT8 : Hid (TabAt w8 t b q1 q2 (doesT M B q1 q2 c).M (doesT M B q1 q2 c).B) := Lib.hid (by rw [hd.out]; exact hT8)
    clear hvM hG8 hN8 hR8 hI8 hT8 hB8 hd HDo c0 hrun
    obtain ⟨d, hdd⟩ : ∃ d, doesT M B q1 q2 c = d := ⟨_, rfl⟩
    rw [hdd] at HI8 HG8 HN8 HM8 HT8 ⊢
    have Hdd := Lib.hid hdd
    clear hdd
    obtain ⟨aG, cG, rfl, _⟩ := HG8.out
    obtain ⟨aN, cN, rfl, _⟩ := HN8.out
    obtain ⟨aM, cM, rfl, _⟩ := HM8.out
    go_wp2_with fail
    have m0 := HR8.out.c 0; have m1 := HR8.out.c 1; have m2 := HR8.out.c 2
    have m3 := HI8.out.c 0
    have g0 := HR8.out.f 0; have g1 := HR8.out.f 1; have g2 := HR8.out.f 2; have g3 := HI8.out.f 0
    simp at m0 m1 m2 m3
    have K1 : Hid (w8.drew.cell? ⟨w.heap.size + 1 + 1, 0, none⟩ = some (.slice aG d.got.length cG) ∧ w8.drew.cell? ⟨w.heap.size + 1 + 1, 1, none⟩ = some (.slice aN d.nums.length cN) ∧ w8.drew.cell? ⟨w.heap.size + 1 + 1, 2, none⟩ = some (.slice aM d.names.length cM) ∧ w8.drew.cell? ⟨w.heap.size + 1 + 1 + 1, 0, none⟩ = some (.bool d.is) ∧ w8.drew.frozen? ⟨w.heap.size + 1 + 1, 0, none⟩ = false ∧ w8.drew.frozen? ⟨w.heap.size + 1 + 1, 1, none⟩ = false ∧ w8.drew.frozen? ⟨w.heap.size + 1 + 1, 2, none⟩ = false ∧ w8.drew.frozen? ⟨w.heap.size + 1 + 1 + 1, 0, none⟩ = false ∧ Hid (Below w8.heap.size w8 w8.drew)) := Lib.hid ⟨m0, m1, m2, m3, g0, g1, g2, g3, Lib.hid (Below.drew (Below.refl _ _))⟩
    have E2 : Hid (((w8.setCell ⟨w.heap.size + 1 + 1, 0, none⟩ (.slice aG d.got.length cG)).setCell ⟨w.heap.size + 1 + 1, 1, none⟩ (.slice aN d.nums.length cN)).setCell ⟨w.heap.size + 1 + 1, 2, none⟩ (.slice aM d.names.length cM) = w8) := Lib.hid (by rw [setCell_self m0, setCell_self m1, setCell_self m2])
    have E3 : Hid (w8.setCell ⟨w.heap.size + 1 + 1 + 1, 0, none⟩ (.bool d.is) = w8) := Lib.hid (setCell_self m3)
    go_region_held3 (fun W' : World => W'.cell? ⟨w.heap.size + 1 + 1, 0, none⟩ = some (.slice aG d.got.length cG) ∧ W'.cell? ⟨w.heap.size + 1 + 1, 1, none⟩ = some (.slice aN d.nums.length cN) ∧ W'.cell? ⟨w.heap.size + 1 + 1, 2, none⟩ = some (.slice aM d.names.length cM) ∧ W'.cell? ⟨w.heap.size + 1 + 1 + 1, 0, none⟩ = some (.bool d.is) ∧ W'.frozen? ⟨w.heap.size + 1 + 1, 0, none⟩ = false ∧ W'.frozen? ⟨w.heap.size + 1 + 1, 1, none⟩ = false ∧ W'.frozen? ⟨w.heap.size + 1 + 1, 2, none⟩ = false ∧ W'.frozen? ⟨w.heap.size + 1 + 1 + 1, 0, none⟩ = false ∧ Hid (Below w8.heap.size w8 W')) (first | with_reducible exact K1.out | ((simp only [E2.out, E3.out]); with_reducible exact K1.out)) (fail)
    all_goals (
      rename_i hHeld
      obtain ⟨x0, x1, x2, x3, _, _, _, _, hbl⟩ := hHeld
      have hFin := hbl.out
      go_wp2_with fail
      exact bodyPost_ret (v := .tuple #[.agg #[.slice aG d.got.length cG, .slice aN d.nums.length cN, .slice aM d.names.length cM], .bool d.is]) (by simp [results, Tryz.results67, go_sem, x0, x1, x2, x3]) rfl (show DoeG (doesT M B q1 q2 c) t b q1 q2 w _ _ from by rw [Hdd.out]; exact ⟨_, _, _, rfl, HG8.out.below hFin (Nat.le_refl _), HN8.out.below hFin (Nat.le_refl _), HM8.out.below hFin (Nat.le_refl _), HT8.out.below hFin, HB8.out.trans (ButS.of hFin)⟩))
  · by_cases hk2 : c.kind = 2
    · obtain ⟨e1, e2⟩ := HK2.out hk2
      rw [e1, e2, Hf2.out] at hrun
      have hd : Hid (doesT M B q1 q2 c = ⟨[], [], namesT (rowsL M) c.pre, true, M, B⟩) := Lib.hid (by unfold doesT; rw [if_neg hk1, if_pos hk2])
      have HDo := Lib.hid (does_list w2 (n := w.heap.size) (c := c) (by have := HOa.out.c 0; simpa using this) (by have := HOb.out.c 3; simpa using this) HOc.out HT2.out HG.out ((HM.out.below HW.out (Nat.le_refl _)).below HB2.out (Nat.le_refl _)) HZ.out.p hsM)
      clear e1 e2 hk1 hk2 HK1 HK2 HK3
      go_wp2_with fail
      refine HDo.out.mono ?_
      rintro e w8 ⟨rfl, vM, hR8, hM8, hB8⟩
      have hT8 := HT2.out.but hB8 (fun k hk => by subst hk; exact (one_bare HOc.out (fun v hv => by simp at hv; rcases hv with rfl | rfl | rfl <;> exact ⟨(fun n h => (by cases h)), (fun n h => (by cases h))⟩)).noVers) (by have := htn.out; omega) (by have := hbn.out; omega)
      have HB8 : Hid (ButS (fun k => k = t ∨ k = b) w w8) := Lib.hid (ButS.cutB HB2.out hB8 (fun k hk hkl => by omega))
      have hI8 := one_but HOd.out hB8 (by show ¬ w.heap.size + 3 = w.heap.size + 2; omega)
      obtain ⟨vG, hvG⟩ : ∃ vG, vG = Value.slice none 0 0 := ⟨_, rfl⟩
      obtain ⟨vN, hvN⟩ : ∃ vN, vN = Value.slice none 0 0 := ⟨_, rfl⟩
      have HR8 : Hid (One (w.heap.size + 1 + 1) #[vG, vN, vM] w8) := Lib.hid (by rw [hvG, hvN]; exact hR8); have HI8 : Hid (One (w.heap.size + 1 + 1 + 1) #[.bool (doesT M B q1 q2 c).is] w8) := Lib.hid (by rw [hd.out]; exact hI8)
      have HG8 : Hid (IsGots w8 vG (doesT M B q1 q2 c).got) := Lib.hid (by rw [hd.out, hvG]; exact ⟨none, 0, rfl, Or.inl rfl⟩)
      have HN8 : Hid (IsNums w8 vN (doesT M B q1 q2 c).nums) := Lib.hid (by rw [hd.out, hvN]; exact ⟨none, 0, rfl, Or.inl rfl⟩)
      have HM8 : Hid (IsStrs w8 vM (doesT M B q1 q2 c).names) := Lib.hid (by rw [hd.out]; exact hM8)
      have HT8 : Hid (TabAt w8 t b q1 q2 (doesT M B q1 q2 c).M (doesT M B q1 q2 c).B) := Lib.hid (by rw [hd.out]; exact hT8)
      clear hvG hvN hM8 hR8 hI8 hT8 hB8 hd HDo c0 hrun
      obtain ⟨d, hdd⟩ : ∃ d, doesT M B q1 q2 c = d := ⟨_, rfl⟩
      rw [hdd] at HI8 HG8 HN8 HM8 HT8 ⊢
      have Hdd := Lib.hid hdd
      clear hdd
      obtain ⟨aG, cG, rfl, _⟩ := HG8.out
      obtain ⟨aN, cN, rfl, _⟩ := HN8.out
      obtain ⟨aM, cM, rfl, _⟩ := HM8.out
      go_wp2_with fail
      have m0 := HR8.out.c 0; have m1 := HR8.out.c 1; have m2 := HR8.out.c 2
      have m3 := HI8.out.c 0
      have g0 := HR8.out.f 0; have g1 := HR8.out.f 1; have g2 := HR8.out.f 2; have g3 := HI8.out.f 0
      simp at m0 m1 m2 m3
      have K1 : Hid (w8.drew.cell? ⟨w.heap.size + 1 + 1, 0, none⟩ = some (.slice aG d.got.length cG) ∧ w8.drew.cell? ⟨w.heap.size + 1 + 1, 1, none⟩ = some (.slice aN d.nums.length cN) ∧ w8.drew.cell? ⟨w.heap.size + 1 + 1, 2, none⟩ = some (.slice aM d.names.length cM) ∧ w8.drew.cell? ⟨w.heap.size + 1 + 1 + 1, 0, none⟩ = some (.bool d.is) ∧ w8.drew.frozen? ⟨w.heap.size + 1 + 1, 0, none⟩ = false ∧ w8.drew.frozen? ⟨w.heap.size + 1 + 1, 1, none⟩ = false ∧ w8.drew.frozen? ⟨w.heap.size + 1 + 1, 2, none⟩ = false ∧ w8.drew.frozen? ⟨w.heap.size + 1 + 1 + 1, 0, none⟩ = false ∧ Hid (Below w8.heap.size w8 w8.drew)) := Lib.hid ⟨m0, m1, m2, m3, g0, g1, g2, g3, Lib.hid (Below.drew (Below.refl _ _))⟩
      have E2 : Hid (((w8.setCell ⟨w.heap.size + 1 + 1, 0, none⟩ (.slice aG d.got.length cG)).setCell ⟨w.heap.size + 1 + 1, 1, none⟩ (.slice aN d.nums.length cN)).setCell ⟨w.heap.size + 1 + 1, 2, none⟩ (.slice aM d.names.length cM) = w8) := Lib.hid (by rw [setCell_self m0, setCell_self m1, setCell_self m2])
      have E3 : Hid (w8.setCell ⟨w.heap.size + 1 + 1 + 1, 0, none⟩ (.bool d.is) = w8) := Lib.hid (setCell_self m3)
      go_region_held3 (fun W' : World => W'.cell? ⟨w.heap.size + 1 + 1, 0, none⟩ = some (.slice aG d.got.length cG) ∧ W'.cell? ⟨w.heap.size + 1 + 1, 1, none⟩ = some (.slice aN d.nums.length cN) ∧ W'.cell? ⟨w.heap.size + 1 + 1, 2, none⟩ = some (.slice aM d.names.length cM) ∧ W'.cell? ⟨w.heap.size + 1 + 1 + 1, 0, none⟩ = some (.bool d.is) ∧ W'.frozen? ⟨w.heap.size + 1 + 1, 0, none⟩ = false ∧ W'.frozen? ⟨w.heap.size + 1 + 1, 1, none⟩ = false ∧ W'.frozen? ⟨w.heap.size + 1 + 1, 2, none⟩ = false ∧ W'.frozen? ⟨w.heap.size + 1 + 1 + 1, 0, none⟩ = false ∧ Hid (Below w8.heap.size w8 W')) (first | with_reducible exact K1.out | ((simp only [E2.out, E3.out]); with_reducible exact K1.out)) (fail)
      all_goals (
        rename_i hHeld
        obtain ⟨x0, x1, x2, x3, _, _, _, _, hbl⟩ := hHeld
        have hFin := hbl.out
        go_wp2_with fail
        exact bodyPost_ret (v := .tuple #[.agg #[.slice aG d.got.length cG, .slice aN d.nums.length cN, .slice aM d.names.length cM], .bool d.is]) (by simp [results, Tryz.results67, go_sem, x0, x1, x2, x3]) rfl (show DoeG (doesT M B q1 q2 c) t b q1 q2 w _ _ from by rw [Hdd.out]; exact ⟨_, _, _, rfl, HG8.out.below hFin (Nat.le_refl _), HN8.out.below hFin (Nat.le_refl _), HM8.out.below hFin (Nat.le_refl _), HT8.out.below hFin, HB8.out.trans (ButS.of hFin)⟩))
    · have e2 := HK3.out hk1 hk2
      rw [e2] at hrun
      have hd : Hid (doesT M B q1 q2 c = ⟨[], [], [], true, M, B⟩) := Lib.hid (by unfold doesT; rw [if_neg hk1, if_neg hk2])
      clear e2 hk1 hk2 HK1 HK2 HK3
      obtain ⟨vG, hvG⟩ : ∃ vG, vG = Value.slice none 0 0 := ⟨_, rfl⟩
      obtain ⟨vN, hvN⟩ : ∃ vN, vN = Value.slice none 0 0 := ⟨_, rfl⟩
      obtain ⟨vM, hvM⟩ : ∃ vM, vM = Value.slice none 0 0 := ⟨_, rfl⟩
      obtain ⟨w8, hw8⟩ : ∃ w8, w8 = w2 := ⟨_, rfl⟩
      have HB8 : Hid (ButS (fun k => k = t ∨ k = b) w w8) := Lib.hid (by rw [hw8]; exact ButS.of HB2.out)
      have HR8 : Hid (One (w.heap.size + 1 + 1) #[vG, vN, vM] w8) := Lib.hid (by rw [hw8, hvG, hvN, hvM]; exact HOc.out); have HI8 : Hid (One (w.heap.size + 1 + 1 + 1) #[.bool (doesT M B q1 q2 c).is] w8) := Lib.hid (by rw [hd.out, hw8]; exact HOd.out)
      have HG8 : Hid (IsGots w8 vG (doesT M B q1 q2 c).got) := Lib.hid (by rw [hd.out, hvG]; exact ⟨none, 0, rfl, Or.inl rfl⟩)
      have HN8 : Hid (IsNums w8 vN (doesT M B q1 q2 c).nums) := Lib.hid (by rw [hd.out, hvN]; exact ⟨none, 0, rfl, Or.inl rfl⟩)
      have HM8 : Hid (IsStrs w8 vM (doesT M B q1 q2 c).names) := Lib.hid (by rw [hd.out, hvM]; exact ⟨none, 0, rfl, Or.inl rfl⟩)
      have HT8 : Hid (TabAt w8 t b q1 q2 (doesT M B q1 q2 c).M (doesT M B q1 q2 c).B) := Lib.hid (by rw [hd.out, hw8]; exact HT2.out)
      clear hvG hvN hvM hd
      rw [← hw8] at hrun c0
      rw [← hw8]
      clear hw8
      obtain ⟨d, hdd⟩ : ∃ d, doesT M B q1 q2 c = d := ⟨_, rfl⟩
      rw [hdd] at HI8 HG8 HN8 HM8 HT8 ⊢
      have Hdd := Lib.hid hdd
      clear hdd
      obtain ⟨aG, cG, rfl, _⟩ := HG8.out
      obtain ⟨aN, cN, rfl, _⟩ := HN8.out
      obtain ⟨aM, cM, rfl, _⟩ := HM8.out
      go_wp2_with fail
      have m0 := HR8.out.c 0; have m1 := HR8.out.c 1; have m2 := HR8.out.c 2
      have m3 := HI8.out.c 0
      have g0 := HR8.out.f 0; have g1 := HR8.out.f 1; have g2 := HR8.out.f 2; have g3 := HI8.out.f 0
      simp at m0 m1 m2 m3
      have K1 : Hid (w8.drew.cell? ⟨w.heap.size + 1 + 1, 0, none⟩ = some (.slice aG d.got.length cG) ∧ w8.drew.cell? ⟨w.heap.size + 1 + 1, 1, none⟩ = some (.slice aN d.nums.length cN) ∧ w8.drew.cell? ⟨w.heap.size + 1 + 1, 2, none⟩ = some (.slice aM d.names.length cM) ∧ w8.drew.cell? ⟨w.heap.size + 1 + 1 + 1, 0, none⟩ = some (.bool d.is) ∧ w8.drew.frozen? ⟨w.heap.size + 1 + 1, 0, none⟩ = false ∧ w8.drew.frozen? ⟨w.heap.size + 1 + 1, 1, none⟩ = false ∧ w8.drew.frozen? ⟨w.heap.size + 1 + 1, 2, none⟩ = false ∧ w8.drew.frozen? ⟨w.heap.size + 1 + 1 + 1, 0, none⟩ = false ∧ Hid (Below w8.heap.size w8 w8.drew)) := Lib.hid ⟨m0, m1, m2, m3, g0, g1, g2, g3, Lib.hid (Below.drew (Below.refl _ _))⟩
      have E2 : Hid (((w8.setCell ⟨w.heap.size + 1 + 1, 0, none⟩ (.slice aG d.got.length cG)).setCell ⟨w.heap.size + 1 + 1, 1, none⟩ (.slice aN d.nums.length cN)).setCell ⟨w.heap.size + 1 + 1, 2, none⟩ (.slice aM d.names.length cM) = w8) := Lib.hid (by rw [setCell_self m0, setCell_self m1, setCell_self m2])
      have E3 : Hid (w8.setCell ⟨w.heap.size + 1 + 1 + 1, 0, none⟩ (.bool d.is) = w8) := Lib.hid (setCell_self m3)
      go_region_held3 (fun W' : World => W'.cell? ⟨w.heap.size + 1 + 1, 0, none⟩ = some (.slice aG d.got.length cG) ∧ W'.cell? ⟨w.heap.size + 1 + 1, 1, none⟩ = some (.slice aN d.nums.length cN) ∧ W'.cell? ⟨w.heap.size + 1 + 1, 2, none⟩ = some (.slice aM d.names.length cM) ∧ W'.cell? ⟨w.heap.size + 1 + 1 + 1, 0, none⟩ = some (.bool d.is) ∧ W'.frozen? ⟨w.heap.size + 1 + 1, 0, none⟩ = false ∧ W'.frozen? ⟨w.heap.size + 1 + 1, 1, none⟩ = false ∧ W'.frozen? ⟨w.heap.size + 1 + 1, 2, none⟩ = false ∧ W'.frozen? ⟨w.heap.size + 1 + 1 + 1, 0, none⟩ = false ∧ Hid (Below w8.heap.size w8 W')) (first | with_reducible exact K1.out | ((simp only [E2.out, E3.out]); with_reducible exact K1.out)) (fail)
      all_goals (
        rename_i hHeld
        obtain ⟨x0, x1, x2, x3, _, _, _, _, hbl⟩ := hHeld
        have hFin := hbl.out
        go_wp2_with fail
        exact bodyPost_ret (v := .tuple #[.agg #[.slice aG d.got.length cG, .slice aN d.nums.length cN, .slice aM d.names.length cM], .bool d.is]) (by simp [results, Tryz.results67, go_sem, x0, x1, x2, x3]) rfl (show DoeG (doesT M B q1 q2 c) t b q1 q2 w _ _ from by rw [Hdd.out]; exact ⟨_, _, _, rfl, HG8.out.below hFin (Nat.le_refl _), HN8.out.below hFin (Nat.le_refl _), HM8.out.below hFin (Nat.le_refl _), HT8.out.below hFin, HB8.out.trans (ButS.of hFin)⟩))
end Go.Proofs.YtfbgnpfhjbiikaaGreatDoor

namespace Go.Proofs.YtfbgnpfhjbiikaaGreatDoor
open Go Go.RowKit
open Pth
open Go.Maps (has size Canon CanonK Tidy IsMap KeysOf Keyed Merged)
abbrev QQ : Int := 1099511627776
set_option maxRecDepth 100000 in
theorem model_without (w : World) : Calls Tryz.prog 65 #[] w fun e w' => e = .returned (.agg #[.int .i64 1099511627776, .int .i64 1099511627776]) ∧ Below w.heap.size w w' := by
  go_enter Tryz.func65, Tryz.ntmps65
  go_wp2_with fail
  exact bodyPost_ret (v := .agg #[.int .i64 1099511627776, .int .i64 1099511627776]) (by simp [results, Tryz.results65, go_sem]) rfl ⟨rfl, (Below.refl _ _).alloc (Nat.le_refl _) _⟩

def calCells (vR vE : Value) (c : Cal) : List Value := [.int .u8 c.kind, vR, vE, .string c.pre, .int .u64 c.f, .int .u64 c.t, .int .u32 c.dst]
theorem infoCal : (Tryz.prog.info? 80).map (·.size) = some 7 := by kernel_rfl
theorem StoAt.cal {w : World} {b o : Nat} {v : Five} {s : Sto} (h : StoAt w b o v s) : w.rangeAt b (o + 1) (calCells v.r v.e s.call) := by
  intro j u hj
  have h2 : (stoCells v s)[j + 1]? = some u := by
    rcases j with _ | _ | _ | _ | _ | _ | _ | j <;> first | exact hj | (simp [calCells] at hj)
  have := h (j + 1) u h2
  rwa [show o + (j + 1) = o + 1 + j by omega] at this
theorem wpl_load_cal {ops : Array Oper} {rest : List Oper} {op : Oper} {a : Act} {w : World} {Q : Exit → Act → World → Prop} (hgd : op.guard = none) (x : Operand) (ho : op.op = .load 80 x) {b o : Nat} (hx : a.eval x = .pointer (some ⟨b, o, none⟩)) {vR vE : Value} {c : Cal} (hc : w.rangeAt b o (calCells vR vE c))
    (h : wpList Tryz.prog ops Q rest (a.put op.dst (calVal vR vE c)) w) : wpList Tryz.prog ops Q (op :: rest) a w :=
  wpList_load_mid hgd 80 x ho b o hx (calCells vR vE c) _ hc Tryz.underlying80 rfl infoCal h
theorem IsInts.but {S : Nat → Prop} {w w' : World} {v : Value} {l : List Nat} (h : IsInts w v l) (hb : ButS S w w') (hS : ∀ k, v.ownBlock = some k → ¬ S k) : IsInts w' v l := by
  obtain ⟨a, cap, hv, hc, h⟩ := h
  refine ⟨a, cap, hv, hc, ?_⟩
  rcases h with h | ⟨b2, off, ha, hlt, hc⟩
  · exact Or.inl h
  · have hn : ¬ S b2 := hS b2 (by rw [hv, ha]; rfl)
    exact Or.inr ⟨b2, off, ha, by have := hb.size; omega, fun i hi => (hb.cell (p := ⟨b2, off + i, none⟩) hlt hn).trans (hc i hi)⟩

structure StoSz (s : Sto) : Prop where
  c : CalSz s.call
  e : s.call.eds.length ≤ 1024
  g : s.got.length ≤ 140737488355328
  n : s.nums.length ≤ 140737488355328
  m : s.names.length ≤ 140737488355328
def StosSz (l : List Sto) : Prop := ∀ i, i < l.length → StoSz (l.getD i dS)
def runM (l : List Sto) : List Nat → DataW Cel × Int → DataW Cel × Int
  | [], s => s
  | i :: r, s => runM l r ((doesT s.1 s.2 QQ QQ (l.getD i dS).call).M, (doesT s.1 s.2 QQ QQ (l.getD i dS).call).B)
def rowsS (l : List Sto) : List Rw := rowsL (runM l (ordS l) (.map [], 0)).1
theorem does_good {M : DataW Cel} {q1 q2 : Int} {c : Cal} (hg : Good Tryz.prog 9 M) : Good Tryz.prog 9 (doesT M (bytesR (rowsL M)) q1 q2 c).M ∧ (doesT M (bytesR (rowsL M)) q1 q2 c).B = bytesR (rowsL (doesT M (bytesR (rowsL M)) q1 q2 c).M) ∧ size (doesT M (bytesR (rowsL M)) q1 q2 c).M ≤ size M + c.eds.length := by
  unfold doesT
  split
  · have h1 := next_good (q1 := q1) (q2 := q2) (B := (bytesR (rowsL M) : Int)) (l := c.eds) hg
    have h2 := next_bytes (q1 := q1) (q2 := q2) (l := c.eds) hg
    exact ⟨h1.1, h2, h1.2.1⟩
  · split <;> exact ⟨hg, rfl, Nat.le_add_right _ _⟩
def RowsSG (l : List Sto) (w : World) (e : Ending) (w' : World) : Prop := ∃ v, e = .returned v ∧ IsRows w' v (rowsS l) ∧ Below w.heap.size w w'

set_option maxRecDepth 100000 in
set_option maxHeartbeats 4000000 in
theorem model_rows (l : List Sto) (v : Value) (w : World) (hv : IsStos w v l) (hl : l.length ≤ 1048576) (hk : (idxO l l.length).length ≤ 20) (hz : StosSz l) (hm : MX w) :
    Calls Tryz.prog 33 #[v] w (RowsSG l w) := by
  have HV := Lib.hid hv; have HZ := Lib.hid hz; have HM := Lib.hid hm; have HK := Lib.hid hk
  obtain ⟨a, cap, rfl, hcap, hcc⟩ := hv
  have HC := Lib.hid hcc
  clear hcc hz hm hk
  have HWo := Lib.hid (model_without w)
  go_enter Tryz.func33, Tryz.ntmps33
  go_wp2_with fail
  refine HWo.out.mono ?_
  rintro e w1 ⟨rfl, hb1⟩
  have Hb1 := Lib.hid hb1; clear hb1
  have HNe := Lib.hid (tab_new QQ QQ w1)
  clear HWo
  go_wp2_with fail
  refine HNe.out.mono ?_
  rintro e w2 ⟨t, b, rfl, ht, hb, hT, hb2⟩
  have Hb2 : Hid (Below w.heap.size w w2) := Lib.hid (Hb1.out.trans (hb2.mono Hb1.out.size))
  have Ht : Hid (w.heap.size ≤ t ∧ w.heap.size ≤ b) := Lib.hid (by have := Hb1.out.size; omega)
  have HT := Lib.hid hT
  have Htl := Lib.hid hT.lt; have Hbl := Lib.hid (HoldsMap.lt hT.m)
  have HOr := Lib.hid (model_order l _ w2 (HV.out.below Hb2.out (Nat.le_refl _)) hl HK.out)
  clear hb2 hT ht hb HNe
  go_wp2_with fail
  refine HOr.out.mono ?_
  rintro e w3 ⟨vo, rfl, hio, hfo, hb3⟩
  have Hb3 : Hid (Below w.heap.size w w3) := Lib.hid (Hb2.out.trans (hb3.mono Hb2.out.size))
  have HT3 := Lib.hid (HT.out.below hb3)
  have HIO := Lib.hid hio
  have HFO : Hid (∀ k, vo.ownBlock = some k → ¬ (k = t ∨ k = b)) := Lib.hid (fun k hk => by have := hfo k hk; have := Htl.out; have := Hbl.out; omega)
  obtain ⟨ao, co, rfl, hoc, hoo⟩ := hio
  clear hb3 hfo HOr hoo hoc
  have hol : (ordS l).length ≤ 1048576 := Nat.le_trans (ordL_le _ _) hl
  have HLen : Hid ((ordS l).length ≤ 20) := Lib.hid (by unfold ordS; rw [ordL_length]; exact HK.out)
  go_wp2_with fail
  go_loopw [11] (fun s11 wr => ∃ (k : Nat) (M : DataW Cel), k ≤ (ordS l).length ∧ s11 = .int .i64 k ∧ Hid (TabAt wr t b QQ QQ M (bytesR (rowsL M))) ∧ Hid (Good Tryz.prog 9 M) ∧ Hid (runM l ((ordS l).drop k) (M, (bytesR (rowsL M) : Int)) = runM l (ordS l) (.map [], 0)) ∧ Hid (size M ≤ k * 1024) ∧ Hid (ButS (fun k => k = t ∨ k = b) w3 wr)) (fun i _ => (ordS l).length - (intOf i).toNat)
  case atStart => exact ⟨0, .map [], Nat.zero_le _, rfl, Lib.hid (by rw [rowsL_nil]; exact HT3.out), Lib.hid (good_none _ _), Lib.hid (by rw [rowsL_nil]; rfl), Lib.hid (by simp [size]), Lib.hid (ButS.of (Below.refl _ _))⟩
  case round =>
    obtain ⟨k, M, hk, rfl, hT, hG, hrun, hsz, hbw⟩ := hrel
    have HBr : Hid (Below w.heap.size w wr) := Lib.hid (Hb3.out.trans (hbw.out.below (by rintro k (rfl | rfl); exact Ht.out.1; exact Ht.out.2) Hb3.out.size))
    have hsM : size M ≤ 1048576 := by have := hsz.out; have := HLen.out; omega
    have hby := good_bytes hG.out
    by_cases hlt : k < (ordS l).length
    · have hltI : (k : Int) < ((ordS l).length : Int) := by omega
      have hio := HIO.out.but hbw.out HFO.out
      obtain ⟨ao', co', hvo, _, hoo⟩ := hio
      injection hvo with e1 _ e3
      subst e1; subst e3
      have hone : ordS l ≠ [] := fun h => by rw [h] at hlt; simp at hlt
      rcases hoo with h0 | ⟨ob, oo, rfl, hoblt, hoc⟩
      · exact absurd h0 hone
      have hck := hoc k hlt
      have him : (ordS l).getD k 0 ∈ ordS l := by rw [List.getD_eq_getElem?_getD, List.getElem?_eq_getElem hlt]; exact List.getElem_mem hlt
      have hil := (mem_ordL.1 him).1
      have Hdr : Hid ((ordS l).drop k = (ordS l).getD k 0 :: (ordS l).drop (k + 1)) := Lib.hid (by rw [List.drop_eq_getElem_cons hlt, List.getD_eq_getElem?_getD, List.getElem?_eq_getElem hlt]; rfl)
      obtain ⟨i, hi⟩ : ∃ i, (ordS l).getD k 0 = i := ⟨_, rfl⟩
      rw [hi] at hck hil Hdr
      rcases HC.out with hn | ⟨b1, o1, rfl, hblt, hst⟩
      · rw [hn] at hil; simp at hil
      obtain ⟨f, hsi, hat⟩ := hst i hil
      have HCal := Lib.hid (hat.below HBr.out hblt).cal
      have hsz1 := HZ.out i hil
      have Hcall : Hid ((l.getD i dS).call = (l.getD i dS).call) := Lib.hid rfl
      obtain ⟨c, hc⟩ : ∃ c, (l.getD i dS).call = c := ⟨_, rfl⟩
      have HDo := Lib.hid (model_does w wr f.r f.e (l.getD i dS).call HBr.out hsi.c Ht.out.1 Ht.out.2 hT.out hG.out HM.out hsz1.c (by omega) (by omega) (by omega))
      have hel := hsz1.e
      have HGd := Lib.hid (does_good (q1 := QQ) (q2 := QQ) (c := (l.getD i dS).call) hG.out)
      have HRn : Hid (runM l ((ordS l).drop (k + 1)) ((doesT M (bytesR (rowsL M)) QQ QQ (l.getD i dS).call).M, (doesT M (bytesR (rowsL M)) QQ QQ (l.getD i dS).call).B) = runM l (ordS l) (.map [], 0)) := Lib.hid (by rw [← hrun.out, Hdr.out]; rfl)
      rw [hc] at HCal HDo HGd HRn hel
      obtain ⟨d, hd⟩ : ∃ d, doesT M (bytesR (rowsL M)) QQ QQ c = d := ⟨_, rfl⟩
      rw [hd] at HDo HGd HRn
      have hiI : (i : Int) < (l.length : Int) := by omega
      clear hi him hoc hone hst hsi hat hsz1 Hdr hc hd Hcall
      go_wp2_with (first
        | (refine wpl_load_cal rfl (.tmp 19) rfl rfl HCal.out ?_)
        | fail)
      refine HDo.out.mono ?_
      rintro e w6 ⟨vG, vN, vM, rfl, _, _, _, hT6, hB6⟩
      have HT6 : Hid (TabAt w6 t b QQ QQ d.M (bytesR (rowsL d.M))) := Lib.hid (by rw [← HGd.out.2.1]; exact hT6)
      have HB6 := Lib.hid (hbw.out.trans hB6)
      have HRn2 : Hid (runM l ((ordS l).drop (k + 1)) (d.M, (bytesR (rowsL d.M) : Int)) = runM l (ordS l) (.map [], 0)) := Lib.hid (by rw [← HGd.out.2.1]; exact HRn.out)
      have Hs6 : Hid (size d.M ≤ (k + 1) * 1024) := Lib.hid (by have := HGd.out.2.2; have := hsz.out; omega)
      have HG6 := Lib.hid HGd.out.1
      clear hT6 hB6 HDo HGd HRn hby
      go_wp2_with fail
      go_roundw
      case rel => exact ⟨k + 1, d.M, by omega, by go_num, HT6, HG6, HRn2, Hs6, HB6⟩
      case measure => simp [intOf]; omega
    · have hge : ¬ (k : Int) < ((ordS l).length : Int) := by omega
      have HRw := Lib.hid (tab_rows wr hT.out hG.out (by omega))
      have Hr : Hid (rowsS l = rowsL M) := Lib.hid (by
        unfold rowsS
        rw [← hrun.out, List.drop_eq_nil_of_le (by omega)]; rfl)
      clear hby
      go_wp2_with fail
      refine HRw.out.mono ?_
      rintro e w5 ⟨v5, rfl, hi5, hb5⟩
      have HI5 := Lib.hid hi5; have HB5 := Lib.hid hb5
      obtain ⟨a5, c5, rfl, _⟩ := hi5
      clear hb5 HRw
      go_wp2_with fail
      go_ret
      exact ⟨_, rfl, by rw [Hr.out]; exact HI5.out, HBr.out.trans (HB5.out.mono HBr.out.size)⟩
end Go.Proofs.YtfbgnpfhjbiikaaGreatDoor
