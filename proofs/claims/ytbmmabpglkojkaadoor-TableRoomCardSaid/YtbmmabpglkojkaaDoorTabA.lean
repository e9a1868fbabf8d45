/- Contracts: table.copied, Table.Rows; scriniumref17.Same, scriniumref18.Same where both are one. -/
import Derived.Test.YtbmmabpglkojkaaDoorTab9
namespace Go.Proofs.YtbmmabpglkojkaaDoor
open Go Go.RowKit
open Pth
open Go.Maps (has size Canon CanonK Tidy IsMap KeysOf Keyed Merged)

set_option maxRecDepth 100000 in
set_option maxHeartbeats 1000000 in
theorem tab_copied (c : Cel) (v : Value) (w : World) (hv : IsVers w v c.l) (hl : c.l.length ≤ 65536) :
    Calls Tryd.prog 28 #[.agg #[.int .u64 c.last, v]] w (KeptGives c w) := by
  obtain ⟨cl, L⟩ := c
  simp only at hv hl ⊢
  have hv2 := hv
  obtain ⟨a, cap, rfl, hc⟩ := hv2
  clear hc
  have Hv := Lib.hid hv; clear hv
  go_enter Tryd.func28, Tryd.ntmps28
  go_upto_region 1 with fail
  refine wp_abs (F := Two w #[.int .u64 cl, .slice a L.length cap] #[.int .u64 0, .slice none 0 0]) (Two.of w _ _ _ _) ?_
  intro W T
  have q0 := T.c1 0
  have q1 := T.c1 1
  have T := Lib.hid T
  simp at q0 q1
  go_wp2_with fail
  refine (clone_vers L _ _ (Hv.out.below T.out.b (Nat.le_refl _)) hl).mono ?_
  rintro e w1 ⟨v1, rfl, hown, hb1⟩
  obtain ⟨a1, c1, rfl⟩ := ownShape hown
  have T1 := T.out.step hb1
  have q0 := T1.c1 0; have q1 := T1.c1 1; have f0 := T1.f1 0; have f1 := T1.f1 1
  have z0 := T1.c2 0; have z1 := T1.c2 1; have g0 := T1.f2 0; have g1 := T1.f2 1
  simp at q0 q1 z0 z1
  have T1 := Lib.hid T1; have Hown := Lib.hid hown; have Hb1 := Lib.hid hb1; clear hown hb1
  go_wp2_with fail
  have h1 := T.out.sz
  refine bodyPost_ret (v := .agg #[.int .u64 cl, .slice a1 L.length c1]) ?_ rfl ⟨_, rfl, ?_, ?_⟩
  · simp [results, Tryd.results28, go_sem, z0, z1, g0, g1, q0, q1, f0, f1]
  · exact ownBase (ownsRow_setCell_below (ownsRow_setCell_below (ownsRow_setCell_below Hown.out (by dsimp only; omega) _) (by dsimp only; omega) _) (by dsimp only; omega) _) (by omega)
  · refine (((T1.out.b.setCell ?_ _).setCell ?_ _).setCell ?_ _) <;> dsimp only <;> omega

/-- v is a slice whose elements read as the rows l. -/
def dR : ByteArray × Cel := (ByteArray.empty, ⟨0, []⟩)
def IsRows (w : World) (v : Value) (l : List (ByteArray × Cel)) : Prop :=
  ∃ a cap, v = .slice a l.length cap ∧ (l = [] ∨ ∃ b off, a = some ⟨b, off, none⟩ ∧ b < w.heap.size ∧ ∀ i, i < l.length →
    w.cell? ⟨b, off + i * 3, none⟩ = some (.string (l.getD i dR).1) ∧ w.cell? ⟨b, off + i * 3 + 1, none⟩ = some (.int .u64 (l.getD i dR).2.last) ∧ ∃ s, w.cell? ⟨b, off + i * 3 + 2, none⟩ = some s ∧ IsVers w s (l.getD i dR).2.l)
theorem IsRows.below {w w' : World} {v : Value} {l : List (ByteArray × Cel)} {B : Nat} (h : IsRows w v l) (hb : Below B w w') (hB : w.heap.size ≤ B) : IsRows w' v l := by
  obtain ⟨a, cap, hv, h⟩ := h
  refine ⟨a, cap, hv, ?_⟩
  rcases h with h | ⟨b, off, ha, hlt, hc⟩
  · exact Or.inl h
  · refine Or.inr ⟨b, off, ha, by have := hb.size; omega, fun i hi => ?_⟩
    obtain ⟨h0, h1, s, h2, hs⟩ := hc i hi
    exact ⟨(hb.cell (by dsimp only; omega)).trans h0, (hb.cell (by dsimp only; omega)).trans h1, s, (hb.cell (by dsimp only; omega)).trans h2, hs.below hb hB⟩
/-- The keys of a table, rising; its rows. -/
def keysL (M : DataW Cel) : List (List UInt8) := (strKeys M).mergeSort (fun x y => decide (x ≤ y))
def rowAt (M : DataW Cel) (k : List UInt8) : ByteArray × Cel := (bs k, cellAt M (bs k))
def rowsL (M : DataW Cel) : List (ByteArray × Cel) := (keysL M).map (rowAt M)
theorem canon_strs {C : Type} {M : DataW C} (c : CanonK (KeysOf Tryd.prog 9) M) : ∃ es, M = .map es ∧ es.Pairwise (fun p q => p.1 ≠ q.1) ∧ ∀ p ∈ es, ∃ x, p.1 = .string x := by
  obtain ⟨es, rfl, hp, hk⟩ := c
  refine ⟨es, rfl, Maps.apart_of_rising hp, fun p hp' => ?_⟩
  obtain ⟨v, hv⟩ := hk p hp'
  obtain ⟨y, _, hy, _⟩ := Maps.keyOf_str Tryd.underlying9 hv
  exact ⟨y, hy⟩
theorem mem_strKeys' {C : Type} {es : List (Lit × DataW C)} (hk : ∀ p ∈ es, ∃ x, p.1 = .string x) (x : List UInt8) : x ∈ strKeys (.map es) ↔ has (.map es) (.string x) = true := by
  show x ∈ es.map (fun p => strOf p.1) ↔ _
  rw [Maps.has_eq, List.mem_map, List.any_eq_true]
  constructor
  · rintro ⟨p, hp, rfl⟩
    obtain ⟨y, hy⟩ := hk p hp
    exact ⟨p, hp, by rw [hy]; exact WideAt.sameKey_self trivial⟩
  · rintro ⟨p, hp, hs⟩
    exact ⟨p, hp, by rw [WideAt.sameKey_eq hs]; rfl⟩
theorem strKeys_nodup {C : Type} {es : List (Lit × DataW C)} (hp : es.Pairwise (fun p q => p.1 ≠ q.1)) (hk : ∀ p ∈ es, ∃ x, p.1 = .string x) : (strKeys (.map es)).Nodup := by
  show (es.map fun p => strOf p.1).Nodup
  refine List.pairwise_map.2 (hp.imp_of_mem fun {p q} hp' hq' hne e => hne ?_)
  obtain ⟨x, hx⟩ := hk p hp'
  obtain ⟨y, hy⟩ := hk q hq'
  rw [hx, hy] at e ⊢
  exact congrArg _ e
theorem keysL_of {D : DataW Value} {M : DataW Cel} (cD : CanonK (KeysOf Tryd.prog 9) D) (cM : CanonK (KeysOf Tryd.prog 9) M) (h : ∀ k, has D k = has M k) {ss : List (List UInt8)} (hs : ss.Perm (strKeys D)) : ss.mergeSort (fun x y => decide (x ≤ y)) = keysL M := by
  obtain ⟨es, rfl, hp, hk⟩ := canon_strs cM
  obtain ⟨ed, rfl, hpd, hkd⟩ := canon_strs cD
  unfold keysL
  refine (mergeSort_of_perm (hs.trans ?_))
  refine ((perm_strKeys hp hk (strKeys_nodup hpd hkd) fun x => ?_))
  rw [mem_strKeys' hkd, h]
theorem keysL_mem {M : DataW Cel} (cM : CanonK (KeysOf Tryd.prog 9) M) {x : List UInt8} (hx : x ∈ keysL M) : has M (kS (bs x)) = true := by
  obtain ⟨es, rfl, hp, hk⟩ := canon_strs cM
  unfold keysL at hx
  exact (mem_strKeys' hk x).1 ((List.mergeSort_perm _ _).mem_iff.1 hx)
theorem keysL_length {M : DataW Cel} (cM : CanonK (KeysOf Tryd.prog 9) M) : (keysL M).length = size M := by
  obtain ⟨es, rfl, _⟩ := cM
  unfold keysL
  rw [List.length_mergeSort]
  show (es.map _).length = es.length
  simp
end Go.Proofs.YtbmmabpglkojkaaDoor
