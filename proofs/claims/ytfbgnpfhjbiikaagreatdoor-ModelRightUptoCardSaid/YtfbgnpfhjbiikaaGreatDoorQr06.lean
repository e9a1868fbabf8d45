/- Contract: scriniumref17.comes. Contracts: scriniumref17 Put, Delete. Contracts: scriniumref17 Destroy, Read. Contract: scriniumref17.Read. Contracts for scriniumref16 (piece, cut, Pieces, Prefix, Under, Child). Contracts for scriniumref16 (cut, Pieces, Prefix, Under, Child). Contracts for scriniumref16: Pieces, Prefix, Under, Child. Contract for scriniumref16.Child. -/
import Derived.Test.YtfbgnpfhjbiikaaGreatDoorQr00
import Derived.Test.YtfbgnpfhjbiikaaGreatDoorQr01
import Derived.Test.YtfbgnpfhjbiikaaGreatDoorQr02
import Derived.Test.YtfbgnpfhjbiikaaGreatDoorQr05
import Derived.Deep.DeepMust
import Derived.Deep.QuietTactic
import Derived.BigQuiet
namespace Go.Proofs.YtfbgnpfhjbiikaaGreatDoor
open Go Go.RowKit
theorem run_append_empty' (a : Option Addr) (c : Nat) (ty : TypeId) (w : World) : (Builtin.append_ #[44, 44] ty #[.slice none 0 0, .slice a 0 c]).run Tryz.prog w = .ok (.slice none 0 0) w := by
  obtain ⟨j0, hj, hy0, hy1, hy2⟩ := info_parts infoVer
  cases a <;> simp [Builtin.append_, run_underlying Tryz.underlying44, sizeOf, typeInfo, hj, Builtin.lenOf, Builtin.firstCells, loadCells, loadCellsFrom]
theorem wpList_append_vers {w : World} {ops : Array Oper} {rest : List Oper} {o : Oper} {a : Act} {Q : Exit → Act → World → Prop} (hgd : o.guard = none) (s x : Operand)
    (ho : o.op = .call { callee := .builtin .append, args := #[s, x], argTypes := #[44, 44] })
    (hs : a.eval s = .slice none 0 0) (v : Value) (l : List Ver) (hx : a.eval x = v) (hv : IsVers w v l) (hl : l.length ≤ 65536) (base : Nat) (hbase : base ≤ w.heap.size)
    (h : ∀ a' c' w', w'.ownsRow base 50 3 (.slice a' l.length c') l.length (flat l) → w.grownBy w' none → wpList Tryz.prog ops Q rest (a.put o.dst (.slice a' l.length c')) w') : wpList Tryz.prog ops Q (o :: rest) a w := by
  obtain ⟨av, cv, rfl, hc⟩ := hv
  by_cases hL : l = []
  · subst hL
    refine wpList_plain hgd fun K hK => ?_
    have hrun := run_append_empty' av cv o.type w
    unfold Oper.wp execOp
    simp only [ho, resolve, invoke, builtin, Sem.run_bind, Sem.run_pure, Result.andThen_ok, List.map_toArray, List.map_cons, List.map_nil, hs, hx, List.length_nil, hrun]
    exact hK _ _ (h none 0 w (World.ownsRow_nil _ _ _ _) ⟨rfl, rfl, rfl, Nat.le_refl _, fun _ _ _ => rfl⟩)
  · rcases hc with hn | ⟨bv, ov, rfl, hblv, hvv⟩
    · exact absurd hn hL
    obtain ⟨j0, hj, hy0, hy1, hy2⟩ := info_parts infoVer
    have hnews : ∀ j u, (flat l)[j]? = some u → w.cell? ((⟨bv, ov, none⟩ : Addr).add j) = some u := fun j u hu => by
      rw [addrAdd]; exact flat_cell hvv j u hu
    refine wpList_append_own _ hgd s x 44 ho base 50 j0 (.agg #[.int .u64 0, .int .u8 0, .string ByteArray.empty]) 3 32 Tryz.underlying44 hj hy0 hy1 hy2 rfl (by decide) _ 0 [] hs (World.ownsRow_nil _ _ _ _) ⟨bv, ov, none⟩ l.length cv (flat l) hx (flat_length l) hnews (flat_one l) (by unfold maxLen; omega) (by omega) hbase ?_
    intro v2 W2 hown2 hg2 _
    simp only [Nat.zero_add, List.nil_append] at hown2
    obtain ⟨a9, c9, rfl⟩ := ownShape hown2
    exact h a9 c9 W2 hown2 hg2

theorem threeOnes (w : World) (C1 C2 C3 : Array Value) (t1 t2 t3 : TypeId) : One w.heap.size C1 (((w.alloc (.cells C1 t1)).alloc (.cells C2 t2)).alloc (.cells C3 t3)) ∧ One (w.heap.size + 1) C2 (((w.alloc (.cells C1 t1)).alloc (.cells C2 t2)).alloc (.cells C3 t3)) ∧
    One (w.heap.size + 1 + 1) C3 (((w.alloc (.cells C1 t1)).alloc (.cells C2 t2)).alloc (.cells C3 t3)) ∧ Below w.heap.size w (((w.alloc (.cells C1 t1)).alloc (.cells C2 t2)).alloc (.cells C3 t3)) ∧ (((w.alloc (.cells C1 t1)).alloc (.cells C2 t2)).alloc (.cells C3 t3)).heap.size = w.heap.size + 1 + 1 + 1 := by
  refine ⟨((One.of w C1 t1).step ((Below.refl _ _).alloc (Nat.le_refl _) _)).step ((Below.refl _ _).alloc (Nat.le_refl _) _), ?_, ?_, (((Below.refl _ _).alloc (Nat.le_refl _) _).alloc (by simp) _).alloc (by simp; omega) _, by simp⟩
  · have h := One.of (w.alloc (.cells C1 t1)) C2 t2
    rw [show (w.alloc (.cells C1 t1)).heap.size = w.heap.size + 1 by simp] at h
    exact h.step ((Below.refl _ _).alloc (Nat.le_refl _) _)
  · have h := One.of ((w.alloc (.cells C1 t1)).alloc (.cells C2 t2)) C3 t3
    rw [show ((w.alloc (.cells C1 t1)).alloc (.cells C2 t2)).heap.size = w.heap.size + 1 + 1 by simp] at h
    exact h

set_option maxRecDepth 100000 in
set_option maxHeartbeats 2000000 in
theorem ref17_comes (c : Cel) (v : Value) (st : Nat) (tx : ByteArray) (w : World) (hv : IsVers w v c.l) (hl : c.l.length ≤ 8) (hlast : c.last + 1 < 18446744073709551616) :
    Calls Tryz.prog 122 #[.agg #[.int .u64 c.last, v], .int .u8 st, .string tx] w fun e w' => ∃ s, e = .returned (.agg #[.int .u64 (putC c ⟨0, st, tx⟩).last, s]) ∧ IsVers w' s (putC c ⟨0, st, tx⟩).l ∧ Below w.heap.size w w' := by
  have Hp : Hid (putC c ⟨0, st, tx⟩ = ⟨c.last + 1, (c.l ++ [(⟨c.last + 1, st, tx⟩ : Ver)]).drop (c.l.length + 1 - 8)⟩) := Lib.hid rfl
  generalize putC c ⟨0, st, tx⟩ = pc at Hp
  obtain ⟨cl, L⟩ := c
  simp only at hv hl hlast Hp ⊢
  have hv2 := hv
  obtain ⟨a, cap, rfl, hc⟩ := hv2
  clear hc
  have Hv := Lib.hid hv; clear hv
  have hcl : IntKind.u64.wrap ((cl : Int) + 1) = ((cl + 1 : Nat) : Int) := by rw [IntKind.wrap_u64]; omega
  go_enter Tryz.func122, Tryz.ntmps122
  go_upto_region 2 with fail
  refine wp_abs (F := fun W => One w.heap.size #[.int .u64 cl, .slice a L.length cap] W ∧ One (w.heap.size + 1) #[.int .u64 0, .slice none 0 0] W ∧ One (w.heap.size + 1 + 1) #[.int .u64 ((cl : Int) + 1), .slice none 0 0] W ∧ Below w.heap.size w W ∧ W.heap.size = w.heap.size + 1 + 1 + 1) (threeOnes w _ _ _ _ _ _) ?_
  rintro W ⟨h1, h2, h3, hb, hsz⟩
  have q1 := h1.c 1; have y1 := h3.c 1; have z1 := h3.f 1
  simp at q1 y1
  have H2 := Lib.hid h2; have H3 := Lib.hid h3; have HB := Lib.hid hb; have HS := Lib.hid hsz
  clear h1 h2 h3 hb hsz
  go_upto_region 3 with (
    at_builtin
    refine wpList_append_vers rfl (.tmp 13) (.tmp 15) rfl rfl _ L rfl (Hv.out.below HB.out (Nat.le_refl _)) (by omega) W.heap.size (Nat.le_refl _) ?_
    intro a2 c2 W2 hown2 hg2
    have hb2 : Below W.heap.size W W2 := (Below.refl _ _).grown hg2 (Nat.le_refl _) (fun k hk => by cases hk)
    have y1 := (H3.out.step hb2).c 1; have z1 := (H3.out.step hb2).f 1
    simp at y1
    have HO2 := Lib.hid hown2; have HB2 := Lib.hid hb2
    clear hown2 hg2 hb2)
  clear q1 y1 z1
  refine wp_abs (F := fun X => One (w.heap.size + 1) #[.int .u64 0, .slice none 0 0] X ∧ One (w.heap.size + 1 + 1) #[.int .u64 ((cl : Int) + 1), .slice a2 L.length c2] X ∧ X.ownsRow (w.heap.size + 3) 50 3 (.slice a2 L.length c2) L.length (flat L) ∧ Below w.heap.size w X ∧ w.heap.size + 3 ≤ X.heap.size) ⟨(H2.out.step HB2.out).far (by simp) _, (H3.out.step HB2.out).set (i := 1) (by simp) _, ?_, ?_, ?_⟩ ?_
  · have := HS.out
    exact ownBase (ownsRow_setCell_below HO2.out (by dsimp only; omega) _) (by omega)
  · exact (HB.out.trans (HB2.out.mono HB.out.size)).setCell (by dsimp only; omega) _
  · have := HB2.out.size; have := HS.out; simp; omega
  rintro X ⟨h2, h3, hown, hb, hsz⟩
  have y0 := h3.c 0; have y1 := h3.c 1; have z1 := h3.f 1
  simp at y0 y1
  have K2 := Lib.hid h2; have K3 := Lib.hid h3; have KB := Lib.hid hb; have KO := Lib.hid hown; have KS := Lib.hid hsz
  clear h2 h3 hb hown hsz H2 H3 HB HS HO2 HB2
  obtain ⟨i0, hi, hz0, hz1, hz2⟩ := info_parts infoVer
  go_upto_region 4 with (
    at_builtin
    refine wpList_append_lies _ rfl (.tmp 19) (.tmp 25) 44 rfl (w.heap.size + 3) 50 i0 (.agg #[.int .u64 0, .int .u8 0, .string ByteArray.empty]) 3 32 Tryz.underlying44 hi hz0 hz1 hz2 rfl (by decide) _ L.length (flat L) rfl (ownBelow KO.out ((Below.refl _ _).alloc (Nat.le_refl _) _)) ⟨X.heap.size, 0, none⟩ 1 1 (verCells ⟨cl + 1, st, tx⟩) rfl rfl (World.news_of_block (MapKept.heap_alloc _ _).1) (flat_one [⟨cl + 1, st, tx⟩]) (by decide) (by unfold maxLen; omega) (by omega) (by have := KS.out; simp; omega) (X.heap.size + 1) (by simp) ?go
    intro g cp w8 hown8 hg8 hat8 hlt8
    have hb8 : Below (w.heap.size + 3) X w8 := ((Below.refl _ _).alloc KS.out _).grown hg8 (by have := KS.out; simp; omega) (fun k hk => ownAbove KO.out k hk)
    have y1 : w8.cell? ⟨w.heap.size + 1 + 1, 1, none⟩ = some (.slice a2 L.length c2) := (hb8.cell (by dsimp only; omega)).trans y1
    have z1 : w8.frozen? ⟨w.heap.size + 1 + 1, 1, none⟩ = false := (hb8.frozen (by dsimp only; omega)).trans z1
    have K8 := Lib.hid hown8; have B8 := Lib.hid hb8
    clear hown8 hg8 hat8 hlt8 hb8)
  clear y0 y1 z1
  obtain ⟨g, cp, hform, hgB, hgl⟩ : ∃ g' cp', Value.slice (some ⟨g, 0, none⟩) (L.length + 1) cp = .slice (some ⟨g', 0, none⟩) (L.length + 1) cp' ∧ True ∧ True := ⟨g, cp, rfl, trivial, trivial⟩
  have hcap : L.length + 1 ≤ cp := by cases hform; exact ownCap K8.out
  cases hform
  clear hgB hgl
  refine wp_abs (F := fun Y => One (w.heap.size + 1) #[.int .u64 0, .slice none 0 0] Y ∧ One (w.heap.size + 1 + 1) #[.int .u64 ((cl : Int) + 1), .slice (some ⟨g, 0, none⟩) (L.length + 1) cp] Y ∧ Y.ownsRow (w.heap.size + 3) 50 3 (.slice (some ⟨g, 0, none⟩) (L ++ [(⟨cl + 1, st, tx⟩ : Ver)]).length cp) (L ++ [(⟨cl + 1, st, tx⟩ : Ver)]).length (flat (L ++ [(⟨cl + 1, st, tx⟩ : Ver)])) ∧ Below w.heap.size w Y) ⟨?_, ?_, ?_, ?_⟩ ?_
  · exact One.far ⟨by have := K2.out.lt; have := B8.out.size; omega, fun j => (B8.out.cell (by dsimp only; omega)).trans (K2.out.c j), fun j => (B8.out.frozen (by dsimp only; omega)).trans (K2.out.f j)⟩ (by simp) _
  · exact One.set (C := #[.int .u64 ((cl : Int) + 1), .slice a2 L.length c2]) (i := 1) ⟨by have := K3.out.lt; have := B8.out.size; omega, fun j => (B8.out.cell (by dsimp only; omega)).trans (K3.out.c j), fun j => (B8.out.frozen (by dsimp only; omega)).trans (K3.out.f j)⟩ (by simp) _
  · rw [flat_append, List.length_append]
    exact ownsRow_setCell_below K8.out (by dsimp only; omega) _
  · exact (KB.out.trans (B8.out.mono (by omega))).setCell (by dsimp only; omega) _
  rintro Y ⟨h2, h3, hown, hb⟩
  have y0 := h3.c 0; have y1 := h3.c 1; have z1 := h3.f 1; have x0 := h2.c 0; have x1 := h2.c 1; have f0 := h2.f 0; have f1 := h2.f 1
  simp at y0 y1 x0 x1
  have G2 := Lib.hid h2; have G3 := Lib.hid h3; have GB := Lib.hid hb; have GO := Lib.hid hown
  clear h2 h3 hb hown K2 K3 KB KO KS K8 B8
  have Hend : Hid (∀ u1 u2 u3 : Value, ∀ d cap' : Nat, IsVers (((Y.setCell ⟨w.heap.size + 1 + 1, 1, none⟩ u1).setCell ⟨w.heap.size + 1, 0, none⟩ u2).setCell ⟨w.heap.size + 1, 1, none⟩ u3) (.slice (some ⟨g, d * 3, none⟩) ((L ++ [(⟨cl + 1, st, tx⟩ : Ver)]).drop d).length cap') ((L ++ [(⟨cl + 1, st, tx⟩ : Ver)]).drop d) ∧ Below w.heap.size w (((Y.setCell ⟨w.heap.size + 1 + 1, 1, none⟩ u1).setCell ⟨w.heap.size + 1, 0, none⟩ u2).setCell ⟨w.heap.size + 1, 1, none⟩ u3)) := Lib.hid (fun u1 u2 u3 d cap' =>
    ⟨IsVers.ownDrop (ownsRow_setCell_below (ownsRow_setCell_below (ownsRow_setCell_below GO.out (by dsimp only; omega) _) (by dsimp only; omega) _) (by dsimp only; omega) _) d cap', ((GB.out.setCell (by dsimp only; omega) _).setCell (by dsimp only; omega) _).setCell (by dsimp only; omega) _⟩)
  have Hend0 : Hid (∀ u2 u3 : Value, ∀ d cap' : Nat, IsVers ((Y.setCell ⟨w.heap.size + 1, 0, none⟩ u2).setCell ⟨w.heap.size + 1, 1, none⟩ u3) (.slice (some ⟨g, d * 3, none⟩) ((L ++ [(⟨cl + 1, st, tx⟩ : Ver)]).drop d).length cap') ((L ++ [(⟨cl + 1, st, tx⟩ : Ver)]).drop d) ∧ Below w.heap.size w ((Y.setCell ⟨w.heap.size + 1, 0, none⟩ u2).setCell ⟨w.heap.size + 1, 1, none⟩ u3)) := Lib.hid (fun u2 u3 d cap' =>
    ⟨IsVers.ownDrop (ownsRow_setCell_below (ownsRow_setCell_below GO.out (by dsimp only; omega) _) (by dsimp only; omega) _) d cap', (GB.out.setCell (by dsimp only; omega) _).setCell (by dsimp only; omega) _⟩)
  by_cases h8 : L.length = 8
  · have hd : L.length + 1 - 8 = 1 := by omega
    have h8i : (8 : Int) < (L.length : Int) + 1 := by omega
    have HD := Lib.hid hd; have H8 := Lib.hid h8
    clear hd h8
    go_wp2_with fail
    refine bodyPost_ret (v := .agg #[.int .u64 ((cl : Int) + 1), .slice (some ⟨g, 3, none⟩) L.length (cp - 1)]) ?_ rfl ⟨.slice (some ⟨g, 3, none⟩) L.length (cp - 1), ?_, ?_⟩
    · simp [results, Tryz.results122, go_sem, x0, x1]
    · rw [Hp.out]; rfl
    · rw [Hp.out]
      simp only
      rw [HD.out]
      simpa using Hend.out _ _ _ 1 (cp - 1)
  · have hd : L.length + 1 - 8 = 0 := by omega
    have h8i : ¬ (8 : Int) < (L.length : Int) + 1 := by omega
    have HD := Lib.hid hd
    clear hd h8
    go_wp2_with fail
    refine bodyPost_ret (v := .agg #[.int .u64 ((cl : Int) + 1), .slice (some ⟨g, 0, none⟩) (L.length + 1) cp]) ?_ rfl ⟨.slice (some ⟨g, 0, none⟩) (L.length + 1) cp, ?_, ?_⟩
    · simp [results, Tryz.results122, go_sem, x0, x1]
    · rw [Hp.out]; rfl
    · rw [Hp.out]
      simp only
      rw [HD.out]
      simpa using Hend0.out _ _ 0 cp
end Go.Proofs.YtfbgnpfhjbiikaaGreatDoor

namespace Go.Proofs.YtfbgnpfhjbiikaaGreatDoor
open Go Go.RowKit
def RefErr (r : Cel × Nat) (w : World) (e : Ending) (w' : World) : Prop :=
  ∃ v, e = .returned (.tuple #[.agg #[.int .u64 r.1.last, v], .int .i64 r.2]) ∧ IsVers w' v r.1.l ∧ Below w.heap.size w w'
theorem Two.refEnd {w W : World} {C1 C2 : Array Value} (h : Two w C1 C2 W) (u1 u2 : Value) : Below w.heap.size w ((W.setCell ⟨w.heap.size + 1, 0, none⟩ u1).setCell ⟨w.heap.size + 1, 1, none⟩ u2) :=
  (h.b.setCell (by dsimp only; omega) _).setCell (by dsimp only; omega) _

theorem IsVers.notTwo {w W : World} {s : Value} {l : List Ver} {C1 : Array Value} {x : Int} {a : Option Addr} {m c : Nat} (h : IsVers W s l) (T : Two w C1 #[.int .u64 x, .slice a m c] W) (u1 u2 : Value) : IsVers ((W.setCell ⟨w.heap.size + 1, 0, none⟩ u1).setCell ⟨w.heap.size + 1, 1, none⟩ u2) s l := by
  obtain ⟨a', cap, hv, h⟩ := h
  refine ⟨a', cap, hv, ?_⟩
  rcases h with h | ⟨b2, off, ha, hlt, hc⟩
  · exact Or.inl h
  · by_cases hl : l = []
    · exact Or.inl hl
    have hne : b2 ≠ w.heap.size + 1 := by
      intro e
      subst e
      obtain ⟨_, h2, _⟩ := hc 0 (List.length_pos_iff.2 hl)
      rw [Nat.zero_mul, Nat.add_zero, T.c2] at h2
      rcases Nat.lt_or_ge off 1 with ho | ho
      · obtain rfl : off = 0 := by omega
        simp at h2
      · rw [Array.getElem?_eq_none (by simp; omega)] at h2; cases h2
    refine Or.inr ⟨b2, off, ha, by simpa using hlt, fun i hi => ?_⟩
    obtain ⟨h1, h2, h3⟩ := hc i hi
    have far : ∀ (X : World) (o j : Nat) (u : Value), (X.setCell ⟨w.heap.size + 1, o, none⟩ u).cell? ⟨b2, j, none⟩ = X.cell? ⟨b2, j, none⟩ := fun X o j u => World.cell?_setCell_far _ _ _ _ (fun e => hne e.symm)
    refine ⟨?_, ?_, ?_⟩
    · rw [far, far]; exact h1
    · rw [far, far]; exact h2
    · rw [far, far]; exact h3

set_option maxRecDepth 100000 in
set_option maxHeartbeats 2000000 in
theorem ref17_put (c : Cel) (v : Value) (any : Bool) (want : Nat) (tx : ByteArray) (w : World) (hv : IsVers w v c.l) (hl : c.l.length ≤ 65536) (hlast : c.last < 18446744073709551616) (htx : tx.size ≤ 9223372036854775807) :
    Calls Tryz.prog 100 #[.agg #[.int .u64 c.last, v], .bool any, .int .u64 want, .string tx] w (RefErr (putE c any want tx) w) := by
  have Hr : Hid (putE c any want tx = if mayC c = false then (c, 2) else if 4096 < tx.size then (c, 5) else if stale c any want then (c, 170) else if c.last + 1 = 18446744073709551616 then (c, 4) else (putC c ⟨0, 1, tx⟩, 0)) := Lib.hid rfl
  generalize putE c any want tx = r at Hr
  have Hmay := Lib.hid (fun (v : Value) (w : World) (h : IsVers w v c.l) => ref17_may c v w h (by omega))
  have Hnow := Lib.hid (fun (v : Value) (w : World) (h : IsVers w v c.l) => ref17_now c v w h (by omega))
  have Hcom : Hid (mayC c = true → c.last + 1 < 18446744073709551616 → ∀ (v : Value) (w : World), IsVers w v c.l → Calls Tryz.prog 122 #[.agg #[.int .u64 c.last, v], .int .u8 1, .string tx] w fun e w' => ∃ s, e = .returned (.agg #[.int .u64 (putC c ⟨0, 1, tx⟩).last, s]) ∧ IsVers w' s (putC c ⟨0, 1, tx⟩).l ∧ Below w.heap.size w w') :=
    Lib.hid (fun hm hf v w h => ref17_comes c v 1 tx w h (may_len hm) hf)
  generalize putC c ⟨0, 1, tx⟩ = pc at Hr Hcom
  have ht : stale c any want = (!any && !decide (want = nowC c)) := rfl
  generalize stale c any want = t at ht Hr
  generalize mayC c = y at Hr Hmay Hcom
  generalize nowC c = m at Hr Hnow ht
  have Ht := Lib.hid ht; clear ht
  obtain ⟨cl, L⟩ := c
  simp only at hv hl hlast Hmay Hnow Hcom Hr ⊢
  have hv2 := hv
  obtain ⟨a, cap, rfl, hc⟩ := hv2
  clear hc
  have Hv := Lib.hid hv; clear hv
  go_enter Tryz.func100, Tryz.ntmps100
  go_upto_region 1 with fail
  refine wp_abs (F := Two w #[.int .u64 cl, .slice a L.length cap] #[.int .u64 0, .slice none 0 0]) (Two.of w _ _ _ _) ?_
  intro W T
  have q0 := T.c1 0; have q1 := T.c1 1
  have T := Lib.hid T
  simp at q0 q1
  cases y with
  | false =>
    go_wp2_with fail
    refine (Hmay.out _ _ (Hv.out.below T.out.b (Nat.le_refl _))).mono ?_
    rintro e w1 ⟨rfl, hb1⟩
    have T1 := Lib.hid (T.out.step hb1)
    clear q0 q1 hb1
    have q0 := T1.out.c1 0; have q1 := T1.out.c1 1; have z0 := T1.out.c2 0; have z1 := T1.out.c2 1; have g0 := T1.out.f2 0; have g1 := T1.out.f2 1
    simp at q0 q1 z0 z1
    obtain rfl : r = (⟨cl, L⟩, 2) := by rw [Hr.out, if_pos trivial]
    go_wp2_with fail
    refine bodyPost_ret (v := .tuple #[.agg #[.int .u64 cl, .slice a L.length cap], .int .i64 2]) ?_ rfl ⟨.slice a L.length cap, rfl, Hv.out.below (T1.out.refEnd _ _) (Nat.le_refl _), T1.out.refEnd _ _⟩
    simp [results, Tryz.results100, go_sem, z0, z1]
  | true =>
    go_wp2_with fail
    refine (Hmay.out _ _ (Hv.out.below T.out.b (Nat.le_refl _))).mono ?_
    rintro e w2 ⟨rfl, hb2⟩
    have T2 := Lib.hid (T.out.step hb2)
    clear q0 q1 hb2
    have q0 := T2.out.c1 0; have q1 := T2.out.c1 1; have z0 := T2.out.c2 0; have z1 := T2.out.c2 1; have g0 := T2.out.f2 0; have g1 := T2.out.f2 1
    simp at q0 q1 z0 z1
    by_cases htl : 4096 < tx.size
    · have htI : (4096 : Int) < (tx.size : Int) := by omega
      obtain rfl : r = (⟨cl, L⟩, 5) := by rw [Hr.out, if_neg (by simp), if_pos htl]
      go_wp2_with fail
      refine bodyPost_ret (v := .tuple #[.agg #[.int .u64 cl, .slice a L.length cap], .int .i64 5]) ?_ rfl ⟨.slice a L.length cap, rfl, Hv.out.below (T2.out.refEnd _ _) (Nat.le_refl _), T2.out.refEnd _ _⟩
      simp [results, Tryz.results100, go_sem, z0, z1]
    have htI : ¬ (4096 : Int) < (tx.size : Int) := by omega
    go_upto_region 5 with fail
    go_cut [25] (fun s wx => s = .bool t ∧ Hid (Below w2.heap.size w2 wx))
    case first =>
      cases any with
      | true =>
        go_wp2_with fail
        go_meet
        case rel => exact ⟨by rw [Ht.out]; rfl, Lib.hid (Below.refl _ _)⟩
      | false =>
        go_wp2_with fail
        refine (Hnow.out _ _ (Hv.out.below T2.out.b (Nat.le_refl _))).mono ?_
        rintro e wn ⟨rfl, hbn⟩
        have Hbn := Lib.hid hbn; clear hbn
        go_wp2_with fail
        go_meet
        case rel =>
          refine ⟨?_, Hbn⟩
          rw [Ht.out]
          simp only [Bool.not_false, Bool.true_and]
          exact congrArg _ (neNat _ _)
    case rest =>
      obtain ⟨rfl, HX⟩ := hcut
      have TX := Lib.hid (T2.out.step HX.out)
      clear q0 q1 z0 z1 g0 g1
      have q0 := TX.out.c1 0; have q1 := TX.out.c1 1; have z0 := TX.out.c2 0; have z1 := TX.out.c2 1; have g0 := TX.out.f2 0; have g1 := TX.out.f2 1
      simp at q0 q1 z0 z1
      cases t with
      | true =>
        obtain rfl : r = (⟨cl, L⟩, 170) := by rw [Hr.out, if_neg (by simp), if_neg htl, if_pos rfl]
        go_wp2_with fail
        refine bodyPost_ret (v := .tuple #[.agg #[.int .u64 cl, .slice a L.length cap], .int .i64 170]) ?_ rfl ⟨.slice a L.length cap, rfl, Hv.out.below (TX.out.refEnd _ _) (Nat.le_refl _), TX.out.refEnd _ _⟩
        simp [results, Tryz.results100, go_sem, z0, z1]
      | false =>
        by_cases hf : cl + 1 = 18446744073709551616
        · have hfB : ((cl : Int) == 18446744073709551615) = true := by simp; omega
          obtain rfl : r = (⟨cl, L⟩, 4) := by rw [Hr.out, if_neg (by simp), if_neg htl, if_neg (by decide), if_pos hf]
          go_wp2_with fail
          refine bodyPost_ret (v := .tuple #[.agg #[.int .u64 cl, .slice a L.length cap], .int .i64 4]) ?_ rfl ⟨.slice a L.length cap, rfl, Hv.out.below (TX.out.refEnd _ _) (Nat.le_refl _), TX.out.refEnd _ _⟩
          simp [results, Tryz.results100, go_sem, z0, z1]
        have hfB : ((cl : Int) == 18446744073709551615) = false := by rw [beq_eq_false_iff_ne]; omega
        obtain rfl : r = (pc, 0) := by rw [Hr.out, if_neg (by simp), if_neg htl, if_neg (by decide), if_neg hf]
        go_wp2_with fail
        refine (Hcom.out trivial (by omega) _ _ (Hv.out.below TX.out.b (Nat.le_refl _))).mono ?_
        rintro e w9 ⟨s, rfl, hs, hb9⟩
        have T9 := Lib.hid (TX.out.step hb9)
        clear q0 q1 z0 z1 g0 g1 
        have z0 := T9.out.c2 0; have z1 := T9.out.c2 1; have g0 := T9.out.f2 0; have g1 := T9.out.f2 1
        simp at z0 z1
        have hs2 := hs
        obtain ⟨a9, c9, rfl, hc9⟩ := hs2
        have hne9 : Hid (∀ u1 u2 : Value, IsVers ((w9.setCell ⟨w.heap.size + 1, 0, none⟩ u1).setCell ⟨w.heap.size + 1, 1, none⟩ u2) (.slice a9 pc.l.length c9) pc.l) := Lib.hid (fun u1 u2 => hs.notTwo T9.out u1 u2)
        clear hc9 hs hb9
        go_wp2_with fail
        refine bodyPost_ret (v := .tuple #[.agg #[.int .u64 pc.last, .slice a9 pc.l.length c9], .int .i64 0]) ?_ rfl ⟨.slice a9 pc.l.length c9, rfl, hne9.out _ _, T9.out.refEnd _ _⟩
        simp [results, Tryz.results100, go_sem, z0, z1]

set_option maxRecDepth 100000 in
set_option maxHeartbeats 2000000 in
theorem ref17_delete (c : Cel) (v : Value) (any : Bool) (want : Nat) (w : World) (hv : IsVers w v c.l) (hl : c.l.length ≤ 65536) (hlast : c.last < 18446744073709551616) :
    Calls Tryz.prog 101 #[.agg #[.int .u64 c.last, v], .bool any, .int .u64 want] w (RefErr (deleteE c any want) w) := by
  have Hr : Hid (deleteE c any want = if mayC c = false then (c, 2) else if nowC c = 0 then (c, 3) else if stale c any want then (c, 170) else if c.last + 1 = 18446744073709551616 then (c, 4) else (putC c ⟨0, 2, ByteArray.empty⟩, 0)) := Lib.hid rfl
  generalize deleteE c any want = r at Hr
  have Hmay := Lib.hid (fun (v : Value) (w : World) (h : IsVers w v c.l) => ref17_may c v w h (by omega))
  have Hnow := Lib.hid (fun (v : Value) (w : World) (h : IsVers w v c.l) => ref17_now c v w h (by omega))
  have Hcom : Hid (mayC c = true → c.last + 1 < 18446744073709551616 → ∀ (v : Value) (w : World), IsVers w v c.l → Calls Tryz.prog 122 #[.agg #[.int .u64 c.last, v], .int .u8 2, .string ByteArray.empty] w fun e w' => ∃ s, e = .returned (.agg #[.int .u64 (putC c ⟨0, 2, ByteArray.empty⟩).last, s]) ∧ IsVers w' s (putC c ⟨0, 2, ByteArray.empty⟩).l ∧ Below w.heap.size w w') :=
    Lib.hid (fun hm hf v w h => ref17_comes c v 2 ByteArray.empty w h (may_len hm) hf)
  generalize putC c ⟨0, 2, ByteArray.empty⟩ = pc at Hr Hcom
  have ht : stale c any want = (!any && !decide (want = nowC c)) := rfl
  generalize stale c any want = t at ht Hr
  generalize mayC c = y at Hr Hmay Hcom
  generalize nowC c = m at Hr Hnow ht
  have Ht := Lib.hid ht; clear ht
  obtain ⟨cl, L⟩ := c
  simp only at hv hl hlast Hmay Hnow Hcom Hr ⊢
  have hv2 := hv
  obtain ⟨a, cap, rfl, hc⟩ := hv2
  clear hc
  have Hv := Lib.hid hv; clear hv
  go_enter Tryz.func101, Tryz.ntmps101
  go_upto_region 1 with fail
  refine wp_abs (F := Two w #[.int .u64 cl, .slice a L.length cap] #[.int .u64 0, .slice none 0 0]) (Two.of w _ _ _ _) ?_
  intro W T
  have q0 := T.c1 0; have q1 := T.c1 1
  have T := Lib.hid T
  simp at q0 q1
  cases y with
  | false =>
    go_wp2_with fail
    refine (Hmay.out _ _ (Hv.out.below T.out.b (Nat.le_refl _))).mono ?_
    rintro e w1 ⟨rfl, hb1⟩
    have T1 := Lib.hid (T.out.step hb1)
    clear q0 q1 hb1
    have q0 := T1.out.c1 0; have q1 := T1.out.c1 1; have z0 := T1.out.c2 0; have z1 := T1.out.c2 1; have g0 := T1.out.f2 0; have g1 := T1.out.f2 1
    simp at q0 q1 z0 z1
    obtain rfl : r = (⟨cl, L⟩, 2) := by rw [Hr.out, if_pos trivial]
    go_wp2_with fail
    refine bodyPost_ret (v := .tuple #[.agg #[.int .u64 cl, .slice a L.length cap], .int .i64 2]) ?_ rfl ⟨.slice a L.length cap, rfl, Hv.out.below (T1.out.refEnd _ _) (Nat.le_refl _), T1.out.refEnd _ _⟩
    simp [results, Tryz.results101, go_sem, z0, z1]
  | true =>
    go_wp2_with fail
    refine (Hmay.out _ _ (Hv.out.below T.out.b (Nat.le_refl _))).mono ?_
    rintro e w2 ⟨rfl, hb2⟩
    have T2 := Lib.hid (T.out.step hb2)
    clear q0 q1 hb2
    have q0 := T2.out.c1 0; have q1 := T2.out.c1 1; have z0 := T2.out.c2 0; have z1 := T2.out.c2 1; have g0 := T2.out.f2 0; have g1 := T2.out.f2 1
    simp at q0 q1 z0 z1
    by_cases htl : m = 0
    · have htB : ((m : Int) == 0) = true := by simp [htl]
      go_wp2_with fail
      refine (Hnow.out _ _ (Hv.out.below T2.out.b (Nat.le_refl _))).mono ?_
      rintro e w3 ⟨rfl, hb3⟩
      have T3 := Lib.hid (T2.out.step hb3)
      clear q0 q1 hb3
      have q0 := T3.out.c1 0; have q1 := T3.out.c1 1; have z0 := T3.out.c2 0; have z1 := T3.out.c2 1; have g0 := T3.out.f2 0; have g1 := T3.out.f2 1
      simp at q0 q1 z0 z1
      obtain rfl : r = (⟨cl, L⟩, 3) := by rw [Hr.out, if_neg (by simp), if_pos htl]
      go_wp2_with fail
      refine bodyPost_ret (v := .tuple #[.agg #[.int .u64 cl, .slice a L.length cap], .int .i64 3]) ?_ rfl ⟨.slice a L.length cap, rfl, Hv.out.below (T3.out.refEnd _ _) (Nat.le_refl _), T3.out.refEnd _ _⟩
      simp [results, Tryz.results101, go_sem, z0, z1]
    have htB : ((m : Int) == 0) = false := by rw [beq_eq_false_iff_ne]; omega
    go_wp2_with fail
    refine (Hnow.out _ _ (Hv.out.below T2.out.b (Nat.le_refl _))).mono ?_
    rintro e w4 ⟨rfl, hb4⟩
    have T4 := Lib.hid (T2.out.step hb4)
    clear q0 q1 hb4
    have q0 := T4.out.c1 0; have q1 := T4.out.c1 1; have z0 := T4.out.c2 0; have z1 := T4.out.c2 1; have g0 := T4.out.f2 0; have g1 := T4.out.f2 1
    simp at q0 q1 z0 z1
    go_upto_region 5 with fail
    go_cut [23] (fun s wx => s = .bool t ∧ Hid (Below w4.heap.size w4 wx))
    case first =>
      cases any with
      | true =>
        go_wp2_with fail
        go_meet
        case rel => exact ⟨by rw [Ht.out]; rfl, Lib.hid (Below.refl _ _)⟩
      | false =>
        go_wp2_with fail
        refine (Hnow.out _ _ (Hv.out.below T4.out.b (Nat.le_refl _))).mono ?_
        rintro e wn ⟨rfl, hbn⟩
        have Hbn := Lib.hid hbn; clear hbn
        go_wp2_with fail
        go_meet
        case rel =>
          refine ⟨?_, Hbn⟩
          rw [Ht.out]
          simp only [Bool.not_false, Bool.true_and]
          exact congrArg _ (neNat _ _)
    case rest =>
      obtain ⟨rfl, HX⟩ := hcut
      have TX := Lib.hid (T4.out.step HX.out)
      clear q0 q1 z0 z1 g0 g1
      have q0 := TX.out.c1 0; have q1 := TX.out.c1 1; have z0 := TX.out.c2 0; have z1 := TX.out.c2 1; have g0 := TX.out.f2 0; have g1 := TX.out.f2 1
      simp at q0 q1 z0 z1
      cases t with
      | true =>
        obtain rfl : r = (⟨cl, L⟩, 170) := by rw [Hr.out, if_neg (by simp), if_neg htl, if_pos rfl]
        go_wp2_with fail
        refine bodyPost_ret (v := .tuple #[.agg #[.int .u64 cl, .slice a L.length cap], .int .i64 170]) ?_ rfl ⟨.slice a L.length cap, rfl, Hv.out.below (TX.out.refEnd _ _) (Nat.le_refl _), TX.out.refEnd _ _⟩
        simp [results, Tryz.results101, go_sem, z0, z1]
      | false =>
        by_cases hf : cl + 1 = 18446744073709551616
        · have hfB : ((cl : Int) == 18446744073709551615) = true := by simp; omega
          obtain rfl : r = (⟨cl, L⟩, 4) := by rw [Hr.out, if_neg (by simp), if_neg htl, if_neg (by decide), if_pos hf]
          go_wp2_with fail
          refine bodyPost_ret (v := .tuple #[.agg #[.int .u64 cl, .slice a L.length cap], .int .i64 4]) ?_ rfl ⟨.slice a L.length cap, rfl, Hv.out.below (TX.out.refEnd _ _) (Nat.le_refl _), TX.out.refEnd _ _⟩
          simp [results, Tryz.results101, go_sem, z0, z1]
        have hfB : ((cl : Int) == 18446744073709551615) = false := by rw [beq_eq_false_iff_ne]; omega
        obtain rfl : r = (pc, 0) := by rw [Hr.out, if_neg (by simp), if_neg htl, if_neg (by decide), if_neg hf]
        go_wp2_with fail
        refine (Hcom.out trivial (by omega) _ _ (Hv.out.below TX.out.b (Nat.le_refl _))).mono ?_
        rintro e w9 ⟨s, rfl, hs, hb9⟩
        have T9 := Lib.hid (TX.out.step hb9)
        clear q0 q1 z0 z1 g0 g1 
        have z0 := T9.out.c2 0; have z1 := T9.out.c2 1; have g0 := T9.out.f2 0; have g1 := T9.out.f2 1
        simp at z0 z1
        have hs2 := hs
        obtain ⟨a9, c9, rfl, hc9⟩ := hs2
        have hne9 : Hid (∀ u1 u2 : Value, IsVers ((w9.setCell ⟨w.heap.size + 1, 0, none⟩ u1).setCell ⟨w.heap.size + 1, 1, none⟩ u2) (.slice a9 pc.l.length c9) pc.l) := Lib.hid (fun u1 u2 => hs.notTwo T9.out u1 u2)
        clear hc9 hs hb9
        go_wp2_with fail
        refine bodyPost_ret (v := .tuple #[.agg #[.int .u64 pc.last, .slice a9 pc.l.length c9], .int .i64 0]) ?_ rfl ⟨.slice a9 pc.l.length c9, rfl, hne9.out _ _, T9.out.refEnd _ _⟩
        simp [results, Tryz.results101, go_sem, z0, z1]

end Go.Proofs.YtfbgnpfhjbiikaaGreatDoor

namespace Go.Proofs.YtfbgnpfhjbiikaaGreatDoor
open Go Go.RowKit
set_option maxRecDepth 100000 in
set_option maxHeartbeats 2000000 in
theorem ref17_destroy (c : Cel) (v : Value) (n : Nat) (w : World) (hv : IsVers w v c.l) (hl : c.l.length ≤ 65536) :
    Calls Tryz.prog 102 #[.agg #[.int .u64 c.last, v], .int .u64 n] w (RefErr (destroyE c n) w) := by
  have Hr : Hid (destroyE c n = if (findE c n).2 ≠ 0 then (c, (findE c n).2) else (⟨c.last, c.l.set (findE c n).1 ⟨n, 3, ByteArray.empty⟩⟩, 0)) := Lib.hid rfl
  generalize destroyE c n = r at Hr
  have Hp : Hid (findE c n = if mayC c = false then (0, 2) else if idxV c.l n < 0 then (0, 3) else if (c.l.getD (idxV c.l n).toNat dV).st ≠ 1 then (0, 171) else ((idxV c.l n).toNat, 0)) := Lib.hid rfl
  have Hmay := Lib.hid (fun (v : Value) (w : World) (h : IsVers w v c.l) => ref17_may c v w h (by omega))
  have Hat := Lib.hid (fun (v : Value) (w : World) (h : IsVers w v c.l) => ref17_at c v n w h hl)
  have Hz := Lib.hid (idxV_cases c.l n)
  generalize findE c n = p at Hr Hp
  generalize mayC c = y at Hp Hmay
  generalize idxV c.l n = z at Hp Hat Hz
  obtain ⟨cl, L⟩ := c
  simp only at hv hl Hmay Hat Hp Hz Hr ⊢
  have hv2 := hv
  obtain ⟨a, cap, rfl, hc⟩ := hv2
  have HC := Lib.hid hc
  clear hc
  have Hv := Lib.hid hv; clear hv
  go_enter Tryz.func102, Tryz.ntmps102
  go_upto_region 1 with fail
  refine wp_abs (F := Two w #[.int .u64 cl, .slice a L.length cap] #[.int .u64 0, .slice none 0 0]) (Two.of w _ _ _ _) ?_
  intro W T
  have q0 := T.c1 0; have q1 := T.c1 1
  have T := Lib.hid T
  simp at q0 q1
  go_wp2_with fail
  refine (Hmay.out _ _ (Hv.out.below T.out.b (Nat.le_refl _))).mono ?_
  rintro e w1 ⟨rfl, hb1⟩
  have T1 := Lib.hid (T.out.step hb1)
  clear q0 q1 hb1
  have q0 := T1.out.c1 0; have q1 := T1.out.c1 1; have z0 := T1.out.c2 0; have z1 := T1.out.c2 1; have g0 := T1.out.f2 0; have g1 := T1.out.f2 1
  simp at q0 q1 z0 z1
  cases y with
  | false =>
    obtain rfl : p = (0, 2) := by rw [Hp.out, if_pos rfl]
    obtain rfl : r = (⟨cl, L⟩, 2) := by rw [Hr.out, if_pos (by simp)]
    go_wp2_with fail
    refine bodyPost_ret (v := .tuple #[.agg #[.int .u64 cl, .slice a L.length cap], .int .i64 2]) ?_ rfl ⟨.slice a L.length cap, rfl, Hv.out.below (T1.out.refEnd _ _) (Nat.le_refl _), T1.out.refEnd _ _⟩
    simp [results, Tryz.results102, go_sem, z0, z1]
  | true =>
    go_wp2_with fail
    refine (Hat.out _ _ (Hv.out.below T1.out.b (Nat.le_refl _))).mono ?_
    rintro e w2 ⟨rfl, hb2⟩
    have T2 := Lib.hid (T1.out.step hb2)
    clear q0 q1 z0 z1 g0 g1 hb2
    have q0 := T2.out.c1 0; have q1 := T2.out.c1 1; have z0 := T2.out.c2 0; have z1 := T2.out.c2 1; have g0 := T2.out.f2 0; have g1 := T2.out.f2 1
    simp at q0 q1 z0 z1
    rcases Hz.out with hz | ⟨k, hz, hk⟩
    · subst hz
      obtain rfl : p = (0, 3) := by rw [Hp.out, if_neg (by simp), if_pos (by decide)]
      obtain rfl : r = (⟨cl, L⟩, 3) := by rw [Hr.out, if_pos (by simp)]
      go_wp2_with fail
      refine bodyPost_ret (v := .tuple #[.agg #[.int .u64 cl, .slice a L.length cap], .int .i64 3]) ?_ rfl ⟨.slice a L.length cap, rfl, Hv.out.below (T2.out.refEnd _ _) (Nat.le_refl _), T2.out.refEnd _ _⟩
      simp [results, Tryz.results102, go_sem, z0, z1]
    · subst hz
      rcases HC.out with hn | ⟨b, off, rfl, hblt, hcc⟩
      · subst hn; simp at hk
      obtain ⟨h1, h2, h3⟩ := hcc k hk
      have k2 := (T2.out.b.cell (p := ⟨b, off + k * 3 + 1, none⟩) hblt).trans h2
      have hki : (k : Int) < (L.length : Int) := by omega
      clear h1 h2 h3 hcc
      obtain ⟨x, hx⟩ : ∃ x, x = L.getD k dV := ⟨_, rfl⟩
      rw [← hx] at k2
      have HX := Lib.hid hx
      clear hx
      by_cases hs : x.st = 1
      · have hS : ((x.st : Int) != 1) = false := by simp [hs]
        obtain rfl : p = (k, 0) := by rw [Hp.out, if_neg (by simp), if_neg (by omega), Int.toNat_natCast, ← HX.out, if_neg (by simp [hs])]
        obtain rfl : r = (⟨cl, L.set k ⟨n, 3, ByteArray.empty⟩⟩, 0) := by rw [Hr.out, if_neg (by simp)]
        clear hs
        go_upto_region 9 with fail
        obtain ⟨d, hd⟩ : ∃ d, w2.heap.size = d := ⟨_, rfl⟩
        have hdw : w.heap.size + 1 < d := by have := T2.out.sz; omega
        refine wp_abs (F := fun X => Two w #[.int .u64 cl, .slice (some ⟨b, off, none⟩) L.length cap] #[.int .u64 0, .slice none 0 0] X ∧ One d #[.int .u64 cl, .slice none 0 0] X ∧ Below w2.heap.size w2 X ∧ d < X.heap.size) ⟨T2.out.step ((Below.refl _ _).alloc (Nat.le_refl _) _), by rw [← hd]; exact One.of _ _ _, (Below.refl _ _).alloc (Nat.le_refl _) _, by rw [← hd]; simp⟩ ?_
        rintro X ⟨t3, o3, hb3, hsz3⟩
        rw [hd]
        clear q0 q1 z0 z1 g0 g1 k2
        have q1 := t3.c1 1; have y1 := o3.c 1; have x1 := o3.f 1
        simp at q1 y1
        have T3 := Lib.hid t3; have O3 := Lib.hid o3; have B3 := Lib.hid hb3; have S3 := Lib.hid hsz3
        clear t3 o3 hb3 hsz3
        have hL65 : L.length ≤ 65536 := hl
        go_upto_region 10 with (
          at_builtin
          refine wpList_append_vers rfl (.tmp 30) (.tmp 32) rfl rfl _ L rfl (Hv.out.below T3.out.b (Nat.le_refl _)) hL65 X.heap.size (Nat.le_refl _) ?_
          intro a4 c4 W4 hown4 hg4
          have hb4 : Below X.heap.size X W4 := (Below.refl _ _).grown hg4 (Nat.le_refl _) (fun k hk => by cases hk)
          have y1 := (O3.out.step hb4).c 1; have x1 := (O3.out.step hb4).f 1
          simp at y1
          have HO4 := Lib.hid hown4; have HB4 := Lib.hid hb4
          clear hown4 hg4 hb4)
        obtain ⟨g, c5, hform⟩ : ∃ g c5, Value.slice a4 L.length c4 = .slice (some ⟨g, 0, none⟩) L.length c5 := by
          rcases HO4.out.2 with ⟨_, hn⟩ | ⟨g', cap'', cur, hv, _⟩
          · rw [hn] at hk; simp at hk
          · exact ⟨_, _, hv⟩
        cases hform
        have hgB : X.heap.size ≤ g := ownAbove HO4.out g rfl
        clear q1 y1 x1
        refine wp_abs (F := fun Y => Two w #[.int .u64 cl, .slice (some ⟨b, off, none⟩) L.length cap] #[.int .u64 0, .slice none 0 0] Y ∧ One d #[.int .u64 cl, .slice (some ⟨g, 0, none⟩) L.length c4] Y ∧ Y.ownsRow X.heap.size 50 3 (.slice (some ⟨g, 0, none⟩) L.length c4) L.length (flat L)) ⟨?_, (O3.out.step HB4.out).set (i := 1) (by simp) _, ?_⟩ ?_
        · have h4 := T3.out.step HB4.out
          exact ⟨by simpa using h4.sz, fun j => (World.cell?_setCell_far _ _ _ _ (by dsimp only; omega)).trans (h4.c1 j), fun j => (World.cell?_setCell_far _ _ _ _ (by dsimp only; omega)).trans (h4.c2 j), fun j => by rw [World.frozen?_setCell]; exact h4.f1 j, fun j => by rw [World.frozen?_setCell]; exact h4.f2 j, h4.b.setCell (by dsimp only; omega) _⟩
        · have := S3.out
          exact ownsRow_setCell_below HO4.out (by dsimp only; omega) _
        rintro Y ⟨t5, o5, hown⟩
        have y0 := o5.c 0; have y1 := o5.c 1; have f0 := o5.f 0; have f1 := o5.f 1
        have z0 := t5.c2 0; have z1 := t5.c2 1; have g0 := t5.f2 0; have g1 := t5.f2 1
        simp at y0 y1 z0 z1
        obtain ⟨x1, x2, x3⟩ := flat_at L k hk
        have k1 := World.ownsRow.cellAt hown (k * 3) (by omega)
        have k2 := World.ownsRow.cellAt hown (k * 3 + 1) (by omega)
        have k3 := World.ownsRow.cellAt hown (k * 3 + 2) (by omega)
        rw [x1] at k1; rw [x2] at k2; rw [x3] at k3
        clear x1 x2 x3
        have j1 := ownFrozen hown (k * 3)
        have j2 := ownFrozen hown (k * 3 + 1)
        have j3 := ownFrozen hown (k * 3 + 2)
        have S3' := S3.out
        have hne1 : ¬ g = w.heap.size + 1 := by omega
        have hne3 : ¬ w.heap.size + 1 = g := by omega
        have hne4 : ¬ g = d := by omega
        have hne5 : ¬ d = g := by omega
        have T5 := Lib.hid t5; have HO5 := Lib.hid hown; have O5 := Lib.hid o5
        clear t5 o5 hown
        have Hend : Hid (∀ u1 u2 : Value, let Z := ((((Y.setCell ⟨g, k * 3, none⟩ (.int .u64 n)).setCell ⟨g, k * 3 + 1, none⟩ (.int .u8 3)).setCell ⟨g, k * 3 + 2, none⟩ (.string ByteArray.empty)).setCell ⟨w.heap.size + 1, 0, none⟩ u1).setCell ⟨w.heap.size + 1, 1, none⟩ u2; IsVers Z (.slice (some ⟨g, 0, none⟩) L.length c4) (L.set k ⟨n, 3, ByteArray.empty⟩) ∧ Below w.heap.size w Z) := Lib.hid (fun u1 u2 => by
          refine ⟨((ownSet3 HO5.out hk ⟨n, 3, ByteArray.empty⟩).setFar (p := ⟨w.heap.size + 1, 0, none⟩) ?_ _).setFar (p := ⟨w.heap.size + 1, 1, none⟩) ?_ _, ?_⟩
          · intro k hk; cases hk; dsimp only; omega
          · intro k hk; cases hk; dsimp only; omega
          · refine (((((T5.out.b.setCell ?_ _).setCell ?_ _).setCell ?_ _).setCell ?_ _).setCell ?_ _) <;> dsimp only <;> omega)
        go_wp2_with fail
        refine bodyPost_ret (v := .tuple #[.agg #[.int .u64 cl, .slice (some ⟨g, 0, none⟩) L.length c4], .int .i64 0]) ?_ rfl ⟨.slice (some ⟨g, 0, none⟩) L.length c4, rfl, (Hend.out _ _).1, (Hend.out _ _).2⟩
        simp [results, Tryz.results102, go_sem, z0, z1]
      · have hS : ((x.st : Int) != 1) = true := by simp; omega
        obtain rfl : p = (0, 171) := by rw [Hp.out, if_neg (by simp), if_neg (by omega), Int.toNat_natCast, ← HX.out, if_pos hs]
        obtain rfl : r = (⟨cl, L⟩, 171) := by rw [Hr.out, if_pos (by simp)]
        go_wp2_with fail
        refine bodyPost_ret (v := .tuple #[.agg #[.int .u64 cl, .slice (some ⟨b, off, none⟩) L.length cap], .int .i64 171]) ?_ rfl ⟨.slice (some ⟨b, off, none⟩) L.length cap, rfl, Hv.out.below (T2.out.refEnd _ _) (Nat.le_refl _), T2.out.refEnd _ _⟩
        simp [results, Tryz.results102, go_sem, z0, z1]

theorem may_parts' {c : Cel} (h : mayC c = true) : okFrom 0 c.l = some c.last ∧ c.l.length ≤ 8 := by
  unfold mayC at h
  split at h
  · cases h
  · rename_i x hx
    simp only [Bool.and_eq_true, decide_eq_true_eq] at h
    exact ⟨by rw [hx, h.2], h.1⟩
theorem okFrom_gt {l : List Ver} : ∀ {a y : Nat}, okFrom a l = some y → ∀ v ∈ l, a < v.n := by
  induction l with
  | nil => intro a y _ v hv; cases hv
  | cons x t ih =>
    intro a y h v hv
    unfold okFrom at h
    split at h
    · rename_i ho
      unfold okVer at ho
      simp only [Bool.and_eq_true, decide_eq_true_eq] at ho
      rcases List.mem_cons.1 hv with rfl | hv
      · exact ho.1.1.1
      · exact Nat.lt_trans ho.1.1.1 (ih h v hv)
    · cases h
theorem okFrom_rise {l : List Ver} : ∀ {a y : Nat}, okFrom a l = some y → ∀ i j, i < j → j < l.length → (l.getD i dV).n < (l.getD j dV).n := by
  induction l with
  | nil => intro a y _ i j _ hj; simp at hj
  | cons x t ih =>
    intro a y h i j hij hj
    unfold okFrom at h
    split at h
    · cases j with
      | zero => omega
      | succ j =>
        cases i with
        | zero =>
          have hj' : j < t.length := by simpa using hj
          refine okFrom_gt h _ ?_
          rw [List.getD_cons_succ, List.getD_eq_getElem?_getD, List.getElem?_eq_getElem hj']
          exact List.getElem_mem hj'
        | succ i => exact ih h i j (by omega) (by simpa using hj)
    · cases h
theorem now_last {c : Cel} (hm : mayC c = true) (hn : nowC c ≠ 0) : (findE c (nowC c)) = (c.l.length - 1, 0) ∧ 0 < c.l.length := by
  have hs : (lastV c.l).st = 1 := by
    unfold nowC at hn
    split at hn
    · assumption
    · exact absurd rfl hn
  have hv : nowC c = (lastV c.l).n := by unfold nowC; rw [if_pos hs]
  have h0 : 0 < c.l.length := by
    rcases Nat.eq_zero_or_pos c.l.length with h | h
    · rw [List.length_eq_zero_iff.1 h] at hs; exact absurd hs (by decide)
    · exact h
  obtain ⟨h1, _⟩ := may_parts' hm
  have hi : idxV c.l (nowC c) = ((c.l.length - 1 : Nat) : Int) := by
    refine idxV_hit (by omega) (fun j hj => ?_) ?_
    · rw [hv]
      have := okFrom_rise h1 j (c.l.length - 1) hj (by omega)
      unfold lastV; omega
    · rw [hv]; rfl
  refine ⟨?_, h0⟩
  unfold findE
  rw [if_neg (by simp [hm]), hi, if_neg (by omega), Int.toNat_natCast]
  have : (c.l.getD (c.l.length - 1) dV).st = 1 := hs
  rw [if_neg (by simpa using this)]
end Go.Proofs.YtfbgnpfhjbiikaaGreatDoor

namespace Go.Proofs.YtfbgnpfhjbiikaaGreatDoor
open Go Go.RowKit
theorem read_bad {c : Cel} {n : Nat} (h : mayC c = false) : readE c n = (dV, 2) := by
  have hf : ∀ k, findE c k = (0, 2) := fun k => by unfold findE; rw [if_pos h]
  unfold readE
  rw [if_neg (by simp [h]), hf, if_pos (by simp)]
theorem read_none {c : Cel} (h : mayC c = true) (hn : nowC c = 0) : readE c 0 = (dV, 3) := by
  unfold readE; rw [if_pos ⟨rfl, hn, h⟩]
theorem read_last {c : Cel} (h : mayC c = true) (hn : nowC c ≠ 0) : readE c 0 = (lastV c.l, 0) := by
  unfold readE
  rw [if_neg (by simp [hn]), if_pos rfl, (now_last h hn).1, if_neg (by simp)]
  rfl
theorem read_at {c : Cel} {n : Nat} (hn : n ≠ 0) : readE c n = if (findE c n).2 ≠ 0 then (dV, (findE c n).2) else (c.l.getD (findE c n).1 dV, 0) := by
  unfold readE
  rw [if_neg (by simp [hn]), if_neg hn]

set_option maxRecDepth 100000 in
set_option maxHeartbeats 2000000 in
theorem ref17_read (c : Cel) (v : Value) (n : Nat) (w : World) (hv : IsVers w v c.l) (hl : c.l.length ≤ 65536) :
    Calls Tryz.prog 57 #[.agg #[.int .u64 c.last, v], .int .u64 n] w fun e w' => e = .returned (.tuple #[verVal (readE c n).1, .int .i64 (readE c n).2]) ∧ Below w.heap.size w w' := by
  have Hbad := Lib.hid (fun (h : mayC c = false) => read_bad (n := n) h)
  have Hnone := Lib.hid (fun (h : mayC c = true) (hn : nowC c = 0) => read_none h hn)
  have Hlast := Lib.hid (fun (h : mayC c = true) (hn : nowC c ≠ 0) => (⟨read_last h hn, (now_last h hn).2⟩ : readE c 0 = (lastV c.l, 0) ∧ 0 < c.l.length))
  have Hrd := Lib.hid (fun (h : n ≠ 0) => read_at (c := c) h)
  have Hp : Hid (findE c n = if mayC c = false then (0, 2) else if idxV c.l n < 0 then (0, 3) else if (c.l.getD (idxV c.l n).toNat dV).st ≠ 1 then (0, 171) else ((idxV c.l n).toNat, 0)) := Lib.hid rfl
  have Hmay := Lib.hid (fun (v : Value) (w : World) (h : IsVers w v c.l) => ref17_may c v w h (by omega))
  have Hnow := Lib.hid (fun (v : Value) (w : World) (h : IsVers w v c.l) => ref17_now c v w h (by omega))
  have Hat := Lib.hid (fun (v : Value) (w : World) (h : IsVers w v c.l) => ref17_at c v n w h hl)
  have Hz := Lib.hid (idxV_cases c.l n)
  generalize findE c n = p at Hrd Hp
  generalize mayC c = y at Hp Hmay Hbad Hnone Hlast
  generalize nowC c = m at Hnow Hnone Hlast
  generalize idxV c.l n = z at Hp Hat Hz
  have HE := Lib.hid (fun (k : Nat) (hk : k = n) => (by rw [hk] : readE c k = readE c n))
  obtain ⟨R, hR⟩ : ∃ R, readE c = R := ⟨_, rfl⟩
  rw [hR] at Hbad Hnone Hlast Hrd HE ⊢
  clear hR HE
  obtain ⟨cl, L⟩ := c
  simp only at hv hl Hmay Hnow Hat Hp Hz Hlast Hrd ⊢
  have hv2 := hv
  obtain ⟨a, cap, rfl, hc⟩ := hv2
  have HC := Lib.hid hc
  clear hc
  have Hv := Lib.hid hv; clear hv
  go_enter Tryz.func57, Tryz.ntmps57
  go_upto_region 1 with fail
  refine wp_abs (F := Two w #[.int .u64 cl, .slice a L.length cap] #[.int .u64 0, .int .u8 0, .string ByteArray.empty]) (Two.of w _ _ _ _) ?_
  intro W T
  have q0 := T.c1 0; have q1 := T.c1 1
  have T := Lib.hid T
  simp at q0 q1
  go_wp2_with fail
  refine (Hmay.out _ _ (Hv.out.below T.out.b (Nat.le_refl _))).mono ?_
  rintro e w1 ⟨rfl, hb1⟩
  have T1 := Lib.hid (T.out.step hb1)
  clear q0 q1 hb1
  have q0 := T1.out.c1 0; have q1 := T1.out.c1 1; have z0 := T1.out.c2 0; have z1 := T1.out.c2 1; have z2 := T1.out.c2 2; have g0 := T1.out.f2 0; have g1 := T1.out.f2 1; have g2 := T1.out.f2 2
  simp at q0 q1 z0 z1 z2
  cases y with
  | false =>
    go_wp2_with fail
    refine bodyPost_ret (v := .tuple #[verVal dV, .int .i64 2]) ?_ rfl ⟨by rw [Hbad.out trivial]; rfl, ?_⟩
    · simp [results, Tryz.results57, go_sem, z0, z1, z2, verVal, dV]; rfl
    · have hz := T1.out.sz
      refine ((T1.out.b.setCell ?_ _).setCell ?_ _).setCell ?_ _ <;> dsimp only <;> omega
  | true =>
    by_cases hn : n = 0
    · subst hn
      go_wp2_with fail
      refine (Hnow.out _ _ (Hv.out.below T1.out.b (Nat.le_refl _))).mono ?_
      rintro e w2 ⟨rfl, hb2⟩
      have T2 := Lib.hid (T1.out.step hb2)
      clear q0 q1 z0 z1 z2 g0 g1 g2 hb2
      have q0 := T2.out.c1 0; have q1 := T2.out.c1 1; have z0 := T2.out.c2 0; have z1 := T2.out.c2 1; have z2 := T2.out.c2 2; have g0 := T2.out.f2 0; have g1 := T2.out.f2 1; have g2 := T2.out.f2 2
      simp at q0 q1 z0 z1 z2
      by_cases hm : m = 0
      · have hM : ((m : Int) == 0) = true := by simp [hm]
        go_wp2_with fail
        refine bodyPost_ret (v := .tuple #[verVal dV, .int .i64 3]) ?_ rfl ⟨by rw [Hnone.out trivial hm]; rfl, ?_⟩
        · simp [results, Tryz.results57, go_sem, z0, z1, z2, verVal, dV]; rfl
        · have hz := T2.out.sz
          refine ((T2.out.b.setCell ?_ _).setCell ?_ _).setCell ?_ _ <;> dsimp only <;> omega
      have hM : ((m : Int) == 0) = false := by rw [beq_eq_false_iff_ne]; omega
      obtain ⟨hE, h0⟩ := Hlast.out trivial hm
      obtain ⟨k, hk⟩ : ∃ k, k = L.length - 1 := ⟨_, rfl⟩
      have hlt : k < L.length := by omega
      rcases HC.out with hnn | ⟨b, off, rfl, hblt, hcc⟩
      · subst hnn; simp at h0
      obtain ⟨h1, h2, h3⟩ := hcc k hlt
      have k1 := (T2.out.b.cell (p := ⟨b, off + k * 3, none⟩) hblt).trans h1
      have k2 := (T2.out.b.cell (p := ⟨b, off + k * 3 + 1, none⟩) hblt).trans h2
      have k3 := (T2.out.b.cell (p := ⟨b, off + k * 3 + 2, none⟩) hblt).trans h3
      obtain ⟨x, hx⟩ : ∃ x, x = L.getD k dV := ⟨_, rfl⟩
      rw [← hx] at k1 k2 k3
      have hE2 : Hid (R 0 = (x, 0)) := Lib.hid (by rw [hE, hx, hk]; rfl)
      have hsub : (L.length : Int) - 1 = (k : Int) := by omega
      have hwk : IntKind.i64.wrap (k : Int) = (k : Int) := by rw [IntKind.wrap_i64]; omega
      have hki : (k : Int) < (L.length : Int) := by omega
      clear h1 h2 h3 hcc hx hk h0 hE
      go_wp2_with fail
      refine bodyPost_ret (v := .tuple #[verVal x, .int .i64 0]) ?_ rfl ⟨by rw [hE2.out]; rfl, ?_⟩
      · simp [results, Tryz.results57, go_sem, z0, z1, z2, verVal]
      · have hz := T2.out.sz
        refine ((T2.out.b.setCell ?_ _).setCell ?_ _).setCell ?_ _ <;> dsimp only <;> omega
    have hB : ((n : Int) == 0) = false := by rw [beq_eq_false_iff_ne]; omega
    have Hrd2 := Lib.hid (Hrd.out hn)
    go_wp2_with fail
    refine (Hat.out _ _ (Hv.out.below T1.out.b (Nat.le_refl _))).mono ?_
    rintro e w2 ⟨rfl, hb2⟩
    have T2 := Lib.hid (T1.out.step hb2)
    clear q0 q1 z0 z1 z2 g0 g1 g2 hb2
    have q0 := T2.out.c1 0; have q1 := T2.out.c1 1; have z0 := T2.out.c2 0; have z1 := T2.out.c2 1; have z2 := T2.out.c2 2; have g0 := T2.out.f2 0; have g1 := T2.out.f2 1; have g2 := T2.out.f2 2
    simp at q0 q1 z0 z1 z2
    rcases Hz.out with hz | ⟨k, hz, hlt⟩
    · subst hz
      obtain rfl : p = (0, 3) := by rw [Hp.out, if_neg (by simp), if_pos (by decide)]
      have hE2 : Hid (R n = (dV, 3)) := Lib.hid (by rw [Hrd2.out, if_pos (by simp)])
      go_wp2_with fail
      refine bodyPost_ret (v := .tuple #[verVal dV, .int .i64 3]) ?_ rfl ⟨by rw [hE2.out]; rfl, ?_⟩
      · simp [results, Tryz.results57, go_sem, z0, z1, z2, verVal, dV]; rfl
      · have hz := T2.out.sz
        refine ((T2.out.b.setCell ?_ _).setCell ?_ _).setCell ?_ _ <;> dsimp only <;> omega
    subst hz
    rcases HC.out with hnn | ⟨b, off, rfl, hblt, hcc⟩
    · subst hnn; simp at hlt
    obtain ⟨h1, h2, h3⟩ := hcc k hlt
    have k1 := (T2.out.b.cell (p := ⟨b, off + k * 3, none⟩) hblt).trans h1
    have k2 := (T2.out.b.cell (p := ⟨b, off + k * 3 + 1, none⟩) hblt).trans h2
    have k3 := (T2.out.b.cell (p := ⟨b, off + k * 3 + 2, none⟩) hblt).trans h3
    obtain ⟨x, hx⟩ : ∃ x, x = L.getD k dV := ⟨_, rfl⟩
    rw [← hx] at k1 k2 k3
    have hki : (k : Int) < (L.length : Int) := by omega
    have HX := Lib.hid hx
    clear h1 h2 h3 hcc hx
    by_cases hs : x.st = 1
    · have hS : ((x.st : Int) != 1) = false := by simp [hs]
      obtain rfl : p = (k, 0) := by rw [Hp.out, if_neg (by simp), if_neg (by omega), Int.toNat_natCast, ← HX.out, if_neg (by simp [hs])]
      have hE2 : Hid (R n = (x, 0)) := Lib.hid (by rw [Hrd2.out, if_neg (by simp), HX.out])
      clear hs
      go_wp2_with fail
      refine bodyPost_ret (v := .tuple #[verVal x, .int .i64 0]) ?_ rfl ⟨by rw [hE2.out]; rfl, ?_⟩
      · simp [results, Tryz.results57, go_sem, z0, z1, z2, verVal]
      · have hz := T2.out.sz
        refine ((T2.out.b.setCell ?_ _).setCell ?_ _).setCell ?_ _ <;> dsimp only <;> omega
    · have hS : ((x.st : Int) != 1) = true := by simp; omega
      obtain rfl : p = (0, 171) := by rw [Hp.out, if_neg (by simp), if_neg (by omega), Int.toNat_natCast, ← HX.out, if_pos hs]
      have hE2 : Hid (R n = (dV, 171)) := Lib.hid (by rw [Hrd2.out, if_pos (by simp)])
      go_wp2_with fail
      refine bodyPost_ret (v := .tuple #[verVal dV, .int .i64 171]) ?_ rfl ⟨by rw [hE2.out]; rfl, ?_⟩
      · simp [results, Tryz.results57, go_sem, z0, z1, z2, verVal, dV]; rfl
      · have hz := T2.out.sz
        refine ((T2.out.b.setCell ?_ _).setCell ?_ _).setCell ?_ _ <;> dsimp only <;> omega
end Go.Proofs.YtfbgnpfhjbiikaaGreatDoor

namespace Go.Proofs.YtfbgnpfhjbiikaaGreatDoor
open Go Go.RowKit Pth
theorem take_snoc (s : ByteArray) (k : Nat) (h : k < s.size) : s.data.toList.take (k + 1) = s.data.toList.take k ++ [s[k]] := by
  rw [List.take_succ_eq_append_getElem (by simpa using h)]; rfl

theorem all_take_succ (s : ByteArray) (k : Nat) (h : k < s.size) (h0 : (s.data.toList.take k).all okc = true) (hc : okc s[k] = true) : (s.data.toList.take (k + 1)).all okc = true := by
  rw [take_snoc s k h, List.all_append, h0]; simp [hc]
theorem okPiece_no (s : ByteArray) (k : Nat) (h : k < s.size) (hc : okc s[k] = false) : okPiece s.data.toList = false := by
  have : s.data.toList.all okc = false := by
    rw [List.all_eq_false]; exact ⟨s[k], by simp only [Array.mem_toList_iff]; exact Array.getElem_mem h, by simp [hc]⟩
  simp [okPiece, this]
theorem okPiece_yes (s : ByteArray) (h1 : 1 ≤ s.size) (h2 : s.size ≤ 32) (k : Nat) (h : ¬ k < s.size) (h0 : (s.data.toList.take k).all okc = true) : okPiece s.data.toList = true := by
  rw [List.take_of_length_le (by simp; omega)] at h0
  simp [okPiece, h0]; exact ⟨h1, h2⟩
theorem okPiece_size (s : ByteArray) (h : ¬ (1 ≤ s.size ∧ s.size ≤ 32)) : okPiece s.data.toList = false := by
  have e : s.data.toList.length = s.size := by simp
  simp only [okPiece, e, Bool.and_eq_false_iff]
  by_cases h1 : 1 ≤ s.size
  · left; right; rw [decide_eq_false_iff_not]; omega
  · left; left; rw [decide_eq_false_iff_not]; omega
theorem okc_cases (c : UInt8) : (okc c = true ∧ (97 ≤ (c.toNat : Int) ∧ (c.toNat : Int) ≤ 122)) ∨ (okc c = true ∧ (c.toNat : Int) < 97 ∧ 48 ≤ (c.toNat : Int) ∧ (c.toNat : Int) ≤ 57) ∨ (okc c = true ∧ (c.toNat : Int) ≤ 46 ∧ 46 ≤ (c.toNat : Int)) ∨ (okc c = true ∧ (c.toNat : Int) ≤ 95 ∧ 95 ≤ (c.toNat : Int)) ∨ (okc c = true ∧ (c.toNat : Int) ≤ 45 ∧ 45 ≤ (c.toNat : Int)) ∨
    (okc c = false ∧ (c.toNat : Int) < 45) ∨ (okc c = false ∧ 46 < (c.toNat : Int) ∧ (c.toNat : Int) < 48) ∨ (okc c = false ∧ 57 < (c.toNat : Int) ∧ (c.toNat : Int) < 95) ∨ (okc c = false ∧ 95 < (c.toNat : Int) ∧ (c.toNat : Int) < 97) ∨ (okc c = false ∧ 122 < (c.toNat : Int)) := by
  simp only [okc, Bool.or_eq_true, decide_eq_true_eq, Bool.or_eq_false_iff, decide_eq_false_iff_not]
  omega

set_option maxHeartbeats 1000000 in
theorem ref16_piece (s : ByteArray) (hs : s.size ≤ maxLen) (w : World) :
    Calls Tryz.prog 85 #[.string s] w fun e w' => e = .returned (.bool (okPiece s.data.toList)) ∧ w = w' := by
  unfold maxLen at hs
  by_cases h1 : 1 ≤ s.size ∧ s.size ≤ 32
  · obtain ⟨h1, h2⟩ := h1
    go_enter Tryz.func85, Tryz.ntmps85
    go_wp2
    go_loop [3] (fun i => ∃ k : Nat, k ≤ s.size ∧ i = .int .i64 k ∧ Hid ((s.data.toList.take k).all okc = true)) (fun i => s.size - (intOf i).toNat)
    case atStart => exact ⟨0, Nat.zero_le _, rfl, Lib.hid rfl⟩
    case round =>
      obtain ⟨k, hk, rfl, hall⟩ := hrel
      by_cases hlt : k < s.size
      · rcases okc_cases s[k] with ⟨ho, hx⟩ | ⟨ho, hx⟩ | ⟨ho, hx⟩ | ⟨ho, hx⟩ | ⟨ho, hx⟩ | ⟨ho, hx⟩ | ⟨ho, hx⟩ | ⟨ho, hx⟩ | ⟨ho, hx⟩ | ⟨ho, hx⟩
        all_goals (have Ho := Lib.hid ho; clear ho; go_wp2)
        all_goals first
          | (exfalso; omega)
          | (go_round
             case rel => exact ⟨k + 1, by omega, by go_num, Lib.hid (all_take_succ s k hlt hall.out Ho.out)⟩
             case measure => simp [intOf]; omega)
          | (go_ret; exact ⟨ret_bool (okPiece_no s k hlt Ho.out).symm, rfl⟩)
          | (exfalso; simp at *; omega)
      · go_wp2
        go_ret
        exact ⟨ret_bool (okPiece_yes s h1 h2 k hlt hall.out).symm, rfl⟩
  · have H := Lib.hid (okPiece_size s h1)
    rcases (show s.size < 1 ∨ (1 ≤ s.size ∧ 32 < s.size) by omega) with h1 | ⟨h1, h2⟩
    all_goals
      go_enter Tryz.func85, Tryz.ntmps85
      go_wp2
      go_ret
      exact ⟨ret_bool H.out.symm, rfl⟩

end Go.Proofs.YtfbgnpfhjbiikaaGreatDoor

namespace Go.Proofs.YtfbgnpfhjbiikaaGreatDoor
open Go Go.RowKit Pth
theorem info9 : (Tryz.prog.info? 9).map (fun i => (i.zero, i.size, i.bytes)) = some (some (.string ByteArray.empty), 1, 16) := by kernel_rfl

def CutRel (s : List UInt8) (k p : Nat) (done : List ByteArray) : Prop :=
  (k ≤ s.length ∧ p ≤ k ∧ (∀ c ∈ (s.drop p).take (k - p), c ≠ 47) ∧ done.map (·.data.toList) ++ glue ((s.drop p).take (k - p)) (splitL (s.drop k)) = splitL s) ∨ (k = s.length + 1 ∧ done.map (·.data.toList) = splitL s)
theorem CutRel.start (s : List UInt8) : CutRel s 0 0 [] := by
  left; refine ⟨Nat.zero_le _, Nat.le_refl _, by simp, ?_⟩
  simp [glue_nil _ (splitL_ne s)]
theorem CutRel.skip {s : List UInt8} {k p : Nat} {done : List ByteArray} (h : CutRel s k p done) (hk : k < s.length) (hc : s[k] ≠ 47) : CutRel s (k + 1) p done := by
  rcases h with ⟨_, hp, hno, he⟩ | ⟨h1, _⟩
  · left
    have e1 : (s.drop p).take (k + 1 - p) = (s.drop p).take (k - p) ++ [s[k]] := by
      rw [show k + 1 - p = (k - p) + 1 by omega, List.take_succ_eq_append_getElem (by rw [List.length_drop]; omega)]
      congr 2
      rw [List.getElem_drop]; congr 1; omega
    have e2 : splitL (s.drop k) = glue [s[k]] (splitL (s.drop (k + 1))) := by
      rw [List.drop_eq_getElem_cons hk, splitL, if_neg hc]
    refine ⟨by omega, by omega, ?_, ?_⟩
    · rw [e1]; intro c hc2
      rcases List.mem_append.1 hc2 with h | h
      · exact hno c h
      · rw [List.mem_singleton] at h; subst h; exact hc
    · rw [e2, glue_glue _ _ _ (splitL_ne _)] at he
      rw [e1]; exact he
  · omega
theorem CutRel.slash {s : List UInt8} {k p : Nat} {done : List ByteArray} (h : CutRel s k p done) (hk : k < s.length) (hc : s[k] = 47) {x : ByteArray} (hx : x.data.toList = (s.drop p).take (k - p)) : CutRel s (k + 1) (k + 1) (done ++ [x]) := by
  rcases h with ⟨_, hp, hno, he⟩ | ⟨h1, _⟩
  · left
    refine ⟨by omega, by omega, by simp, ?_⟩
    rw [List.drop_eq_getElem_cons hk, hc, splitL_slash] at he
    rw [Nat.sub_self, List.take_zero, glue_nil _ (splitL_ne _), List.map_append, ← he]
    simp [glue, hx]
  · omega
theorem CutRel.last {s : List UInt8} {k p : Nat} {done : List ByteArray} (h : CutRel s k p done) (hk : k = s.length) {x : ByteArray} (hx : x.data.toList = (s.drop p).take (k - p)) : CutRel s (k + 1) (k + 1) (done ++ [x]) := by
  rcases h with ⟨_, hp, hno, he⟩ | ⟨h1, _⟩
  · right
    refine ⟨by omega, ?_⟩
    rw [hk, List.drop_length] at he
    rw [← he, List.map_append]
    simp [splitL, glue, hx, hk]
  · omega
theorem CutRel.fin {s : List UInt8} {k p : Nat} {done : List ByteArray} (h : CutRel s k p done) (hk : s.length < k) : done.map (·.data.toList) = splitL s := by
  rcases h with ⟨h1, _⟩ | ⟨_, h2⟩
  · omega
  · exact h2
theorem CutRel.bound {s : List UInt8} {k p : Nat} {done : List ByteArray} (h : CutRel s k p done) (hk : k ≤ s.length) : p ≤ k := by
  rcases h with ⟨_, hp, _⟩ | ⟨h1, _⟩ <;> omega
theorem one_str (x : ByteArray) : ∀ u ∈ [Value.string x], u.oneCell' = true := by intro u hu; simp at hu; subst hu; rfl

theorem own_above {w : World} {B e n : Nat} {v : Value} {xs : List Value} (h : w.ownsRow B e 1 v n xs) : ∀ k, v.ownBlock = some k → B ≤ k := by
  intro k hk
  rcases h.2 with ⟨hv, _⟩ | ⟨g, cap, cur, hv, hB, _⟩
  · subst hv; cases hk
  · subst hv; cases hk; exact hB
def CutGives (s : List UInt8) (w : World) (e : Ending) (w' : World) : Prop :=
  ∃ (v : Value) (l : List ByteArray), e = .returned v ∧ w'.ownsRow w.heap.size 9 1 v l.length (l.map Value.string) ∧ l.map (·.data.toList) = splitL s ∧ Below w.heap.size w w'

set_option maxRecDepth 100000 in
set_option maxHeartbeats 1000000 in
theorem ref16_cut (s : ByteArray) (hs : s.size ≤ 128) (w : World) :
    Calls Tryz.prog 84 #[.string s] w (CutGives s.data.toList w) := by
  have e0 : s.data.toList.length = s.size := rfl
  obtain ⟨i0, hi, hz0, hz1, hz2⟩ := info_parts info9
  go_enter Tryz.func84, Tryz.ntmps84
  go_wp2
  go_loopw [3, 4, 5] (fun v p i wr => ∃ (k q : Nat) (done : List ByteArray), k ≤ s.size + 1 ∧ q ≤ k ∧ done.length ≤ k ∧ i = .int .i64 k ∧ p = .int .i64 q ∧ wr.ownsRow w.heap.size 9 1 v done.length (done.map Value.string) ∧ Hid (CutRel s.data.toList k q done) ∧ Below w.heap.size w wr) (fun _ _ i _ => s.size + 1 - (intOf i).toNat)
  case atStart => exact ⟨0, 0, [], Nat.zero_le _, Nat.le_refl _, Nat.le_refl _, rfl, rfl, World.ownsRow_nil _ _ _ _, Lib.hid (CutRel.start _), Below.refl _ _⟩
  case round =>
    obtain ⟨k, q, done, hk, hq, hd, rfl, rfl, hown, hrl, hbw⟩ := hrel
    rcases (show k < s.size ∨ k = s.size ∨ k = s.size + 1 by omega) with hlt | heq | hgt
    · by_cases hc : s.data.toList[k]'hlt = 47
      · have Hc := Lib.hid hc
        have hcb : 47 ≤ (s[k].toNat : Int) ∧ (s[k].toNat : Int) ≤ 47 := by
          have : s[k] = 47 := hc
          rw [this]; decide
        have hcB : ((s[k].toNat : Int) == 47) = true := by rw [beq_iff_eq]; omega
        clear hc e0
        go_wp2_with (at_builtin; (refine wpList_append_own _ rfl _ _ 24 rfl w.heap.size 9 i0 (.string ByteArray.empty) 1 16 Tryz.underlying24 hi hz0 hz1 hz2 rfl (by decide) _ _ _ rfl (hown.alloc _) ⟨wr.heap.size, 0, none⟩ 1 1 [.string (s.extract q k)] rfl rfl (cell_one_new _ _ _) (one_str _) (by unfold maxLen; omega) (by omega) (by have := hbw.size; simp; omega) ?_); intro v' w1 hown' hgrow hnil)
        have R := hrl.out.slash hlt Hc.out (x := s.extract q k) (by rw [Lib.extract_data])
        have hcl := hbw.size
        have Hown := Lib.hid hown'
        have Hb := Lib.hid ((hbw.alloc hcl _).grown hgrow (by simp; omega) (own_above hown))
        clear hown' hgrow hnil hown hbw
        go_wp2
        go_roundw
        case rel => exact ⟨k + 1, k + 1, done ++ [s.extract q k], by omega, by omega, by simp; omega, by go_num, by go_num, by rw [List.length_append, List.map_append]; exact Hown.out, Lib.hid R, Hb.out⟩
        case measure => simp [intOf]; omega
      · have Hc := Lib.hid hc
        have hcB : ((s[k].toNat : Int) == 47) = false := by
          have : s[k].toNat ≠ 47 := fun h => hc (UInt8.toNat_inj.1 h)
          rw [beq_eq_false_iff_ne]; omega
        have hcN : ¬ ((s[k].toNat : Int) = 47) := by rw [beq_eq_false_iff_ne] at hcB; exact hcB
        clear hc e0
        · go_wp2
          go_roundw
          case rel => exact ⟨k + 1, q, done, by omega, by omega, by omega, by go_num, rfl, hown, Lib.hid (hrl.out.skip hlt Hc.out), hbw⟩
          case measure => simp [intOf]; omega
    · have hkB : ((k : Int) == (s.size : Int)) = true := by rw [beq_iff_eq]; omega
      have hle : k ≤ s.size := by omega
      have Heq := Lib.hid heq
      clear heq e0
      go_wp2_with (at_builtin; (refine wpList_append_own _ rfl _ _ 24 rfl w.heap.size 9 i0 (.string ByteArray.empty) 1 16 Tryz.underlying24 hi hz0 hz1 hz2 rfl (by decide) _ _ _ rfl (hown.alloc _) ⟨wr.heap.size, 0, none⟩ 1 1 [.string (s.extract q k)] rfl rfl (cell_one_new _ _ _) (one_str _) (by unfold maxLen; omega) (by omega) (by have := hbw.size; simp; omega) ?_); intro v' w1 hown' hgrow hnil)
      have R := hrl.out.last Heq.out (x := s.extract q k) (by rw [Lib.extract_data])
      have hcl := hbw.size
      have Hown := Lib.hid hown'
      have Hb := Lib.hid ((hbw.alloc hcl _).grown hgrow (by simp; omega) (own_above hown))
      clear hown' hgrow hnil hown hbw
      go_wp2
      have heq := Heq.out
      go_roundw
      case rel => exact ⟨k + 1, k + 1, done ++ [s.extract q k], by omega, by omega, by simp; omega, by go_num, by go_num, by rw [List.length_append, List.map_append]; exact Hown.out, Lib.hid R, Hb.out⟩
      case measure => simp [intOf]; omega
    · have Hown := Lib.hid hown; have Hb := Lib.hid hbw
      have hgt2 : ¬ (k : Int) ≤ (s.size : Int) := by omega
      have Hf := Lib.hid (hrl.out.fin (by omega))
      have hlt : (s.size : Int) < (k : Int) := by omega
      clear hgt hown hbw e0
      go_wp2
      go_ret
      exact ⟨_, done, rfl, Hown.out, Hf.out, Hb.out⟩
end Go.Proofs.YtfbgnpfhjbiikaaGreatDoor

namespace Go.Proofs.YtfbgnpfhjbiikaaGreatDoor
open Go Go.RowKit Pth
def GivesStrs (l : List (List UInt8)) (w : World) (e : Ending) (w' : World) : Prop :=
  ∃ (v : Value) (m : List ByteArray), e = .returned v ∧ IsStrs w' v m ∧ m.map (·.data.toList) = l ∧ Below w.heap.size w w'

theorem rpiece_small {s : List UInt8} : ∀ p ∈ splitL s, p.length ≤ s.length := by
  induction s with
  | nil => intro p hp; simp [splitL] at hp; subst hp; simp
  | cons c r ih =>
    intro p hp
    unfold splitL at hp
    split at hp
    · rcases List.mem_cons.1 hp with rfl | h
      · simp
      · have := ih p h; simp; omega
    · rcases hr : splitL r with _ | ⟨a, b⟩
      · exact absurd hr (splitL_ne r)
      · rw [hr] at hp ih
        simp [glue] at hp
        rcases hp with rfl | h
        · have := ih a (by simp); simp; omega
        · have := ih p (by simp [h]); simp; omega
theorem rel_small {l : List ByteArray} {s : List UInt8} (h : l.map (·.data.toList) = splitL s) (i : Nat) (hi : i < l.length) : (l.getD i ByteArray.empty).size ≤ s.length := by
  have : (l.getD i ByteArray.empty).data.toList ∈ splitL s := by
    rw [← h, List.getD_eq_getElem?_getD, List.getElem?_eq_getElem hi]
    exact List.mem_map.2 ⟨l[i], List.getElem_mem hi, rfl⟩
  exact rpiece_small _ this
theorem okAll_map {l : List ByteArray} {m : List (List UInt8)} (h : l.map (·.data.toList) = m) : l.all (fun s => okPiece s.data.toList) = m.all okPiece := by
  subst h; induction l with
  | nil => rfl
  | cons a t ih => simp [ih]
theorem all_take_snoc {l : List ByteArray} {k : Nat} {p : ByteArray → Bool} (hk : k < l.length) (h0 : (l.take k).all p = true) (h1 : p (l.getD k ByteArray.empty) = true) : (l.take (k + 1)).all p = true := by
  rw [List.take_succ_eq_append_getElem hk, List.all_append, h0]
  rw [List.getD_eq_getElem?_getD, List.getElem?_eq_getElem hk] at h1
  simpa using h1
theorem all_hit {l : List ByteArray} {k : Nat} {p : ByteArray → Bool} (hk : k < l.length) (h1 : p (l.getD k ByteArray.empty) = false) : l.all p = false := by
  rw [List.getD_eq_getElem?_getD, List.getElem?_eq_getElem hk] at h1
  exact List.all_eq_false.2 ⟨l[k], List.getElem_mem hk, by simpa using h1⟩

theorem pieces_long {s : List UInt8} (h : 128 < s.length) : piecesL s = [] := by unfold piecesL; rw [if_pos h]
theorem pieces_many {s : List UInt8} (h : 8 < (splitL s).length) : piecesL s = [] := by unfold piecesL; rw [if_pos h]; split <;> rfl
theorem pieces_bad {s : List UInt8} (h : (splitL s).all okPiece = false) : piecesL s = [] := by
  unfold piecesL; rw [if_neg (c := (splitL s).all okPiece = true) (by rw [h]; simp)]; split <;> (try split) <;> rfl
theorem pieces_good {s : List UInt8} (h : s.length ≤ 128) (h1 : (splitL s).length ≤ 8) (h2 : (splitL s).all okPiece = true) : piecesL s = splitL s := by
  unfold piecesL; rw [if_neg (by omega), if_neg (by omega), if_pos h2]

set_option maxRecDepth 100000 in
set_option maxHeartbeats 1000000 in
theorem ref16_pieces (s : ByteArray) (hs : s.size ≤ 140737488351232) (w : World) :
    Calls Tryz.prog 55 #[.string s] w (GivesStrs (piecesL s.data.toList) w) := by
  by_cases h1 : 128 < s.size
  · have H := Lib.hid (pieces_long (s := s.data.toList) h1)
    go_enter Tryz.func55, Tryz.ntmps55
    go_wp2
    go_ret
    exact ⟨_, [], rfl, IsStrs.nil _, by rw [H.out]; rfl, Below.refl _ _⟩
  · have c := fun w => ref16_cut s (by omega) w
    have C := Lib.hid c; clear c
    go_enter Tryz.func55, Tryz.ntmps55
    go_wp2_with fail
    refine (C.out _).mono ?_
    rintro e w1 ⟨v, L, rfl, hown, hL, hb⟩
    have HL := Lib.hid hL; clear hL
    have Hb := Lib.hid hb; clear hb
    have hst := IsStrs.own hown
    clear hown
    obtain ⟨a, cap, rfl, hc⟩ := hst
    have HC := Lib.hid hc; clear hc
    by_cases h2 : 8 < L.length
    · go_wp2
      go_ret
      exact ⟨_, [], rfl, IsStrs.nil _, by rw [pieces_many (by rw [← HL.out, List.length_map]; exact h2)]; rfl, Hb.out⟩
    · go_wp2
      go_loop [4] (fun i => ∃ k : Nat, k ≤ L.length ∧ i = .int .i64 k ∧ Hid ((L.take k).all (fun s => okPiece s.data.toList) = true)) (fun i => L.length - (intOf i).toNat)
      case atStart => exact ⟨0, Nat.zero_le _, rfl, Lib.hid rfl⟩
      case round =>
        obtain ⟨k, hk, rfl, hall⟩ := hrel
        by_cases hlt : k < L.length
        · rcases HC.out with hn | ⟨b, off, rfl, hblt, hcc⟩
          · subst hn; simp at hlt
          have hcell := hcc k hlt
          have hsz := rel_small HL.out k hlt
          obtain ⟨x, hx⟩ : ∃ x, x = L.getD k ByteArray.empty := ⟨_, rfl⟩
          rw [← hx] at hcell hsz
          have Hx := Lib.hid hx; clear hx hcc
          have e0 : s.data.toList.length = s.size := rfl
          have hxm : x.size ≤ maxLen := by unfold maxLen; omega
          clear hsz e0
          have hp := ref16_piece x hxm w1
          cases ho : okPiece x.data.toList with
          | true =>
            rw [ho] at hp
            have Ho := Lib.hid ho; clear ho
            have Hp := Lib.hid hp; clear hp
            go_wp2_with (go_at_call 85; refine (Hp.out).mono ?_; rintro e w' ⟨rfl, rfl⟩)
            go_round
            case rel => exact ⟨k + 1, by omega, by go_num, Lib.hid (all_take_snoc hlt hall.out (by rw [← Hx.out]; exact Ho.out))⟩
            case measure => simp [intOf]; omega
          | false =>
            rw [ho] at hp
            have Ho := Lib.hid ho; clear ho
            have Hp := Lib.hid hp; clear hp
            go_wp2_with (go_at_call 85; refine (Hp.out).mono ?_; rintro e w' ⟨rfl, rfl⟩)
            go_ret
            exact ⟨_, [], rfl, IsStrs.nil _, by rw [pieces_bad (by rw [← okAll_map HL.out]; exact all_hit hlt (by rw [← Hx.out]; exact Ho.out))]; rfl, Hb.out⟩
        · have hall2 := hall.out
          rw [List.take_of_length_le (by omega), okAll_map HL.out] at hall2
          have H2 := Lib.hid hall2; clear hall2
          go_wp2
          go_ret
          exact ⟨_, L, rfl, ⟨a, cap, rfl, HC.out⟩, by rw [HL.out, pieces_good (by show s.size ≤ 128; omega) (by rw [← HL.out, List.length_map]; omega) H2.out], Hb.out⟩

theorem remptyT {s : ByteArray} (h : s.data.toList = []) : s.toList = [] := by rw [ByteArray.toList_eq]; exact h
theorem remptyF {s : ByteArray} (h : ¬ s.data.toList = []) : s.toList.isEmpty = false := by rw [ByteArray.toList_eq]; simpa using h
theorem remptyG {s : ByteArray} (h : ¬ s.data.toList = []) : ¬ s.toList = [] := by rw [ByteArray.toList_eq]; exact h

set_option maxRecDepth 100000 in
set_option maxHeartbeats 1000000 in
theorem ref16_prefix (s : ByteArray) (hs : s.size ≤ 140737488351232) (w : World) :
    Calls Tryz.prog 143 #[.string s] w fun e w' => e = .returned (.bool (prefL s.data.toList)) ∧ Below w.heap.size w w' := by
  by_cases h : s.data.toList = []
  · have H := Lib.hid h; have h1 := remptyT h; clear h
    go_enter Tryz.func143, Tryz.ntmps143
    go_wp2_with fail
    go_ret
    exact ⟨ret_bool (by rw [H.out]; rfl), Below.refl _ _⟩
  · have c := ref16_pieces s hs w
    have C := Lib.hid c; clear c
    have H := Lib.hid h; have h1 := remptyF h; have h2 := remptyG h; clear h
    go_enter Tryz.func143, Tryz.ntmps143
    go_wp2_with (go_at_call 55; refine (C.out).mono ?_; rintro e w' ⟨v, m, rfl, ⟨a, cap, rfl, hc⟩, hm, hb⟩; have Hb := Lib.hid hb; clear hb; have Hc := Lib.hid hc; clear hc; have Hm := Lib.hid hm; clear hm)
    go_ret
    refine ⟨ret_bool ?_, Hb.out⟩
    have h3 : s.data.toList.isEmpty = false := by simpa using H.out
    simp only [prefL, mayL, h3, Bool.false_or, ← Hm.out]
    cases m <;> simp

theorem under_rf {p s : List UInt8} (h : prefL p = false) : underR p s = false := by simp [underR, h]
theorem under_rl {p s : List UInt8} (h : (piecesL s).length ≤ (piecesL p).length) : underR p s = false := by
  have : ¬ (piecesL p).length < (piecesL s).length := by omega
  simp [underR, this]
theorem under_rp {p s : List UInt8} (h : prefL p = true) (h2 : (piecesL p).length < (piecesL s).length) : underR p s = (piecesL p).isPrefixOf (piecesL s) := by simp [underR, h, h2]

def Agree (p l : List ByteArray) (k : Nat) : Prop := ∀ i, i < k → p.getD i ByteArray.empty = l.getD i ByteArray.empty
theorem Agree.snoc {p l : List ByteArray} {k : Nat} (h : Agree p l k) (h1 : p.getD k ByteArray.empty = l.getD k ByteArray.empty) : Agree p l (k + 1) := by
  intro i hi
  by_cases e : i = k
  · subst e; exact h1
  · exact h i (by omega)
theorem pieces_le (s : List UInt8) : (piecesL s).length ≤ 8 := by
  unfold piecesL; repeat' split
  all_goals first | omega | simp
theorem below_drewN' {B : Nat} {a w : World} (h : Below B a w) (q : Nat) : Below B a (w.drewN q) := ⟨h.os, h.tape, h.output, h.size, h.block⟩
theorem Agree.all {p l : List ByteArray} (hl : p.length ≤ l.length) (h : Agree p l p.length) : (p.map (·.data.toList)).isPrefixOf (l.map (·.data.toList)) = true := by
  rw [isPrefixOf_iff']
  refine ⟨(l.drop p.length).map (·.data.toList), ?_⟩
  rw [← List.map_append]
  congr 1
  refine List.ext_getElem (by simp; omega) fun i h1 h2 => ?_
  by_cases hi : i < p.length
  · rw [List.getElem_append_left hi]
    have := h i hi
    rw [List.getD_eq_getElem?_getD, List.getD_eq_getElem?_getD, List.getElem?_eq_getElem hi, List.getElem?_eq_getElem h1] at this
    exact this.symm
  · rw [List.getElem_append_right (by omega), List.getElem_drop]; congr 1; omega
theorem Agree.no {p l : List ByteArray} {k : Nat} (hk : k < p.length) (hl : p.length ≤ l.length) (h : p.getD k ByteArray.empty ≠ l.getD k ByteArray.empty) : (p.map (·.data.toList)).isPrefixOf (l.map (·.data.toList)) = false := by
  rw [Bool.eq_false_iff]
  intro hp
  rw [isPrefixOf_iff'] at hp
  obtain ⟨t, ht⟩ := hp
  have : (l.map (·.data.toList))[k]? = (p.map (·.data.toList))[k]? := by rw [ht, List.getElem?_append_left (by simpa using hk)]
  rw [List.getElem?_map, List.getElem?_map, List.getElem?_eq_getElem hk, List.getElem?_eq_getElem (show k < l.length by omega)] at this
  apply h
  rw [List.getD_eq_getElem?_getD, List.getD_eq_getElem?_getD, List.getElem?_eq_getElem hk, List.getElem?_eq_getElem (show k < l.length by omega)]
  exact ba_ext (by simpa using this.symm)

set_option maxRecDepth 100000 in
set_option maxHeartbeats 1000000 in
theorem ref16_under (p s : ByteArray) (hp : p.size ≤ 140737488351232) (hs : s.size ≤ 140737488351232) (w : World) :
    Calls Tryz.prog 118 #[.string p, .string s] w fun e w' => e = .returned (.bool (underR p.data.toList s.data.toList)) ∧ Below w.heap.size w w' := by
  have C1 := Lib.hid (ref16_pieces p hp w)
  have C2 := Lib.hid (fun w => ref16_pieces s hs w)
  have C3 := Lib.hid (fun w => ref16_prefix p hp w)
  go_enter Tryz.func118, Tryz.ntmps118
  go_wp2_with fail
  refine (C1.out).mono ?_
  rintro e w1 ⟨v1, m1, rfl, hst1, hm1, hb1⟩
  have Hm1 := Lib.hid hm1; clear hm1
  obtain ⟨a1, cap1, rfl, hc1⟩ := hst1
  have Hb1 := Lib.hid hb1; clear hb1
  have Hc1 := Lib.hid hc1; clear hc1
  go_wp2_with fail
  refine (C2.out _).mono ?_
  rintro e w2 ⟨v2, m2, rfl, hst2, hm2, hb2⟩
  have Hm2 := Lib.hid hm2; clear hm2
  obtain ⟨a2, cap2, rfl, hc2⟩ := hst2
  have Hb2 := Lib.hid hb2; clear hb2
  have Hc2 := Lib.hid hc2; clear hc2
  go_wp2_with fail
  refine (C3.out _).mono ?_
  rintro e w3 ⟨rfl, hb3⟩
  have Hb3 := Lib.hid hb3; clear hb3
  have hB : Below w.heap.size w w3 := (Hb1.out.trans (Hb2.out.mono Hb1.out.size)).trans (Hb3.out.mono (Nat.le_trans Hb1.out.size Hb2.out.size))
  have HB := Lib.hid hB; clear hB
  cases h1 : prefL p.data.toList with
  | false =>
    have H := Lib.hid (under_rf (s := s.data.toList) h1); clear h1
    go_wp2
    go_ret
    exact ⟨ret_bool H.out.symm, HB.out⟩
  | true =>
    by_cases h2 : m2.length ≤ m1.length
    · have H := Lib.hid (under_rl (p := p.data.toList) (s := s.data.toList) (by rw [← Hm1.out, ← Hm2.out, List.length_map, List.length_map]; exact h2)); clear h1
      go_wp2
      go_ret
      exact ⟨ret_bool H.out.symm, HB.out⟩
    · have h2' : m1.length < m2.length := by omega
      have H := Lib.hid (under_rp (p := p.data.toList) (s := s.data.toList) h1 (by rw [← Hm1.out, ← Hm2.out, List.length_map, List.length_map]; exact h2')); clear h1 h2
      have hst1 := (show IsStrs w1 (.slice a1 m1.length cap1) m1 from ⟨a1, cap1, rfl, Hc1.out⟩).below (Hb2.out.trans (Hb3.out.mono Hb2.out.size)) (Nat.le_refl _)
      have hst2 := (show IsStrs w2 (.slice a2 m2.length cap2) m2 from ⟨a2, cap2, rfl, Hc2.out⟩).below Hb3.out (Nat.le_refl _)
      clear Hc1 Hc2
      have hle1 : m1.length ≤ 8 := by have := pieces_le p.data.toList; rw [← Hm1.out, List.length_map] at this; exact this
      have hle2 : m2.length ≤ 8 := by have := pieces_le s.data.toList; rw [← Hm2.out, List.length_map] at this; exact this
      have Hst1 := Lib.hid hst1; have Hst2 := Lib.hid hst2; clear hst1 hst2
      go_wp2
      go_loopw [7] (fun i wr => ∃ k : Nat, k ≤ m1.length ∧ i = .int .i64 k ∧ Hid (Agree m1 m2 k) ∧ Below w3.heap.size w3 wr) (fun i _ => m1.length - (intOf i).toNat)
      case atStart => exact ⟨0, Nat.zero_le _, rfl, Lib.hid (fun i hi => by omega), Below.refl _ _⟩
      case round =>
        obtain ⟨k, hk, rfl, hag, hbw⟩ := hrel
        by_cases hlt : k < m1.length
        · obtain ⟨_, _, hv1, hcc1⟩ := Hst1.out
          obtain ⟨_, _, hv2, hcc2⟩ := Hst2.out
          simp only [Value.slice.injEq] at hv1 hv2
          obtain ⟨rfl, _, rfl⟩ := hv1
          obtain ⟨rfl, _, rfl⟩ := hv2
          rcases hcc1 with hn | ⟨b1, o1, rfl, hl1, hcc1⟩
          · subst hn; simp at hlt
          rcases hcc2 with hn | ⟨b2, o2, rfl, hl2, hcc2⟩
          · subst hn; simp at h2'
          have hcell1 := (hbw.cell (p := ⟨b1, o1 + k, none⟩) hl1).trans (hcc1 k hlt)
          have hcell2 := (hbw.cell (p := ⟨b2, o2 + k, none⟩) hl2).trans (hcc2 k (by omega))
          have hlt2 : k < m2.length := by omega
          clear hcc1 hcc2
          have Hbw := Lib.hid hbw; clear hbw
          obtain ⟨x, hx⟩ : ∃ x, x = m1.getD k ByteArray.empty := ⟨_, rfl⟩
          obtain ⟨y, hy⟩ : ∃ y, y = m2.getD k ByteArray.empty := ⟨_, rfl⟩
          rw [← hx] at hcell1
          rw [← hy] at hcell2
          have Hx := Lib.hid hx; have Hy := Lib.hid hy; clear hx hy
          by_cases hxy : x = y
          · have hB : (x.toList == y.toList) = true := by rw [hxy]; simp
            have Hxy := Lib.hid hxy; clear hxy
            go_wp2
            go_quiet (fail)
            go_wp2
            go_roundw
            case rel => exact ⟨k + 1, by omega, by go_num, Lib.hid (hag.out.snoc (by rw [← Hx.out, ← Hy.out]; exact Hxy.out)), below_drewN' Hbw.out _⟩
            case measure => simp [intOf]; omega
          · have hB : (x.toList == y.toList) = false := by
              rw [beq_eq_false_iff_ne, ByteArray.toList_eq, ByteArray.toList_eq]; exact fun h => hxy (ba_ext h)
            have Hxy := Lib.hid hxy; clear hxy
            go_wp2
            go_quiet (fail)
            go_wp2
            go_ret
            refine ⟨ret_bool ?_, HB.out.trans ((below_drewN' Hbw.out _).mono HB.out.size)⟩
            rw [H.out, ← Hm1.out, ← Hm2.out]
            exact (Agree.no hlt (by omega) (by rw [← Hx.out, ← Hy.out]; exact Hxy.out)).symm
        · obtain rfl : k = m1.length := by omega
          have Hbw := Lib.hid hbw; clear hbw
          go_wp2
          go_ret
          refine ⟨ret_bool ?_, HB.out.trans (Hbw.out.mono HB.out.size)⟩
          rw [H.out, ← Hm1.out, ← Hm2.out]
          exact (hag.out.all (by omega)).symm
end Go.Proofs.YtfbgnpfhjbiikaaGreatDoor

namespace Go.Proofs.YtfbgnpfhjbiikaaGreatDoor
open Go Go.RowKit Pth
theorem child_rn {p s : List UInt8} (h : underR p s = false) : childR p s = [] := by unfold childR; rw [h]; rfl
theorem child_rs {p s : List UInt8} {m1 m2 : List ByteArray} (h : underR p s = true) (h1 : m1.map (·.data.toList) = piecesL p) (h2 : m2.map (·.data.toList) = piecesL s) (hlt : m1.length + 1 < m2.length) :
    childR p s = (m2.getD m1.length ByteArray.empty).data.toList ++ [47] := by
  unfold childR
  rw [if_pos h, ← h1, ← h2, List.length_map, List.length_map, if_pos hlt]
  congr 1
  rw [List.getD_eq_getElem?_getD, List.getD_eq_getElem?_getD, List.getElem?_map, List.getElem?_eq_getElem (show m1.length < m2.length by omega)]; rfl
theorem child_rl {p s : List UInt8} {m1 m2 : List ByteArray} (h : underR p s = true) (h1 : m1.map (·.data.toList) = piecesL p) (h2 : m2.map (·.data.toList) = piecesL s) (hlt : m1.length < m2.length) (hge : ¬ m1.length + 1 < m2.length) :
    childR p s = (m2.getD m1.length ByteArray.empty).data.toList := by
  unfold childR
  rw [if_pos h, ← h1, ← h2, List.length_map, List.length_map, if_neg hge]
  rw [List.getD_eq_getElem?_getD, List.getD_eq_getElem?_getD, List.getElem?_map, List.getElem?_eq_getElem hlt]; rfl
theorem under_lt {p s : List UInt8} (h : underR p s = true) : (piecesL p).length < (piecesL s).length := by
  unfold underR at h; simp only [Bool.and_eq_true, decide_eq_true_eq] at h; exact h.1.2
theorem pieces_small {s : List UInt8} {m : List ByteArray} (h : m.map (·.data.toList) = piecesL s) (i : Nat) (hi : i < m.length) : (m.getD i ByteArray.empty).size ≤ 128 := by
  have hm : piecesL s = splitL s ∧ s.length ≤ 128 := by
    cases hy : mayL s with
    | true => exact ⟨pieces_may s hy, ((may_iff s).1 hy).1⟩
    | false => rw [pieces_not s hy] at h; have : m = [] := by simpa using h
               subst this; simp at hi
  have := rel_small (h.trans hm.1) i hi
  omega

set_option maxRecDepth 100000 in
set_option maxHeartbeats 1000000 in
theorem ref16_child (p s : ByteArray) (hp : p.size ≤ 140737488351232) (hs : s.size ≤ 140737488351232) (w : World) :
    Calls Tryz.prog 90 #[.string p, .string s] w fun e w' => e = .returned (.string (bs (childR p.data.toList s.data.toList))) ∧ Below w.heap.size w w' := by
  have C0 := Lib.hid (ref16_under p s hp hs w)
  have C1 := Lib.hid (fun w => ref16_pieces p hp w)
  have C2 := Lib.hid (fun w => ref16_pieces s hs w)
  go_enter Tryz.func90, Tryz.ntmps90
  go_wp2_with fail
  refine (C0.out).mono ?_
  rintro e w0 ⟨rfl, hb0⟩
  have Hb0 := Lib.hid hb0; clear hb0
  cases h0 : underR p.data.toList s.data.toList with
  | false =>
    have H := Lib.hid (child_rn h0); clear h0
    go_wp2
    go_ret
    exact ⟨ret_str (by rw [H.out]; rfl), Hb0.out⟩
  | true =>
    have H0 := Lib.hid h0; clear h0
    go_wp2_with fail
    refine (C1.out _).mono ?_
    rintro e w1 ⟨v1, m1, rfl, hst1, hm1, hb1⟩
    have Hm1 := Lib.hid hm1; clear hm1
    obtain ⟨a1, cap1, rfl, hc1⟩ := hst1
    have Hb1 := Lib.hid hb1; clear hb1
    clear hc1
    go_wp2_with fail
    refine (C2.out _).mono ?_
    rintro e w2 ⟨v2, m2, rfl, hst2, hm2, hb2⟩
    have Hm2 := Lib.hid hm2; clear hm2
    obtain ⟨a2, cap2, rfl, hc2⟩ := hst2
    have Hb2 := Lib.hid hb2; clear hb2
    have hlt : m1.length < m2.length := by
      have := under_lt H0.out; rw [← Hm1.out, ← Hm2.out, List.length_map, List.length_map] at this; exact this
    have hle2 : m2.length ≤ 8 := by have := pieces_le s.data.toList; rw [← Hm2.out, List.length_map] at this; exact this
    have hsm := pieces_small Hm2.out m1.length hlt
    rcases hc2 with hn | ⟨b2, o2, rfl, hl2, hcc2⟩
    · subst hn; simp at hlt
    have hcell := hcc2 m1.length hlt
    clear hcc2
    obtain ⟨x, hx⟩ : ∃ x, x = m2.getD m1.length ByteArray.empty := ⟨_, rfl⟩
    rw [← hx] at hcell hsm
    have Hx := Lib.hid hx; clear hx
    have HB := Lib.hid ((Hb0.out.trans (Hb1.out.mono Hb0.out.size)).trans (Hb2.out.mono (Nat.le_trans Hb0.out.size Hb1.out.size)))
    by_cases hmore : m1.length + 1 < m2.length
    · have H := Lib.hid (child_rs H0.out Hm1.out Hm2.out hmore)
      go_wp2
      go_ret
      refine ⟨ret_str (ba_ext ?_), HB.out⟩
      rw [bs_toList, H.out, ← Hx.out]; simp
    · have H := Lib.hid (child_rl H0.out Hm1.out Hm2.out hlt hmore)
      go_wp2
      go_ret
      refine ⟨ret_str (ba_ext ?_), HB.out⟩
      rw [bs_toList, H.out, ← Hx.out]
end Go.Proofs.YtfbgnpfhjbiikaaGreatDoor
