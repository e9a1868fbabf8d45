/- The document's table in memory; contract: scriniumref18 Apply. Contracts: scriniumref18 Read, Now, Last, List. Contracts: scriniumref18 List, Load. Contract: scriniumref18 Load. Contract: scriniumref18 Drop. Contract: scriniumref18 Drop: the walk. -/
import Derived.Test.YtfbgnpfhjbiikaaGreatDoorQr07
import Derived.Deep.RegionWith
namespace Go.Proofs.YtfbgnpfhjbiikaaGreatDoor
open Go Go.RowKit
open Pth
theorem quiet_skip {P : Program} {ops : Array Oper} {C : World → Prop} {Q : Act → Prop} {a : Act} {o : Oper} {rest : List Oper} (hw : Region.wanted o (yielded ops a.tmps) = false)
    (k : wpQuiet P ops C Q rest (a.put o.dst undef)) : wpQuiet P ops C Q (o :: rest) a := by
  refine wpQuiet_step (fun K hK => ?_)
  rw [if_neg (by rw [hw]; decide)]
  exact hK _ k
structure OkR (R : List Rw) : Prop where
  up : Up R
  ok : ∀ x ∈ R, OkRow x ∧ x.2.last < 18446744073709551616
theorem OkR.cell {R : List Rw} (h : OkR R) (p : ByteArray) : mayC (cellR R p) = true ∧ (cellR R p).last < 18446744073709551616 := by
  unfold cellR
  cases hf : R.find? (fun x => decide (x.1 = p)) with
  | none => exact ⟨mayC_none, by decide⟩
  | some x =>
    have hx := List.mem_of_find?_eq_some hf
    exact ⟨(h.ok x hx).1.2.1, (h.ok x hx).2⟩
theorem OkR.edit {R : List Rw} (h : OkR R) {x : Edt} (he : (editR R x).2 = 0) : OkRow (x.path, (editR R x).1) ∧ (editR R x).1.last < 18446744073709551616 := by
  unfold editR at he ⊢
  split at he
  · simp at he
  · rename_i h1
    rw [if_neg h1]
    obtain ⟨a, b⟩ := h.cell x.path
    obtain ⟨c, d, e⟩ := outcome_ok a b he
    refine ⟨⟨?_, c, d⟩, e⟩
    cases hp : mayP x.path with
    | true => rfl
    | false => exact absurd (Or.inr (Or.inr hp)) h1
theorem OkR.with {R : List Rw} (h : OkR R) {r : Rw} (hr : OkRow r ∧ r.2.last < 18446744073709551616) : OkR (withR R r) := by
  refine ⟨with_up h.up r, fun x hx => ?_⟩
  rcases (with_mem h.up r x).1 hx with rfl | ⟨hx, _⟩
  · exact hr
  · exact h.ok x hx
theorem filter_two (l : List Rw) (r : Rw) : (l.filter (fun x => decide (pL x < pL r))).length + (l.filter (fun x => decide (pL r < pL x))).length ≤ l.length := by
  induction l with
  | nil => simp
  | cons x t ih =>
    simp only [List.filter_cons]
    by_cases h : pL x < pL r
    · have h1 : ¬ pL r < pL x := fun h' => List.lt_irrefl _ (List.lt_trans h h')
      simp only [h, h1, decide_true, decide_false, if_true, Bool.false_eq_true, if_false, List.length_cons]; omega
    · by_cases h1 : pL r < pL x
      · simp only [h, h1, decide_true, decide_false, if_true, Bool.false_eq_true, if_false, List.length_cons]; omega
      · simp only [h, h1, decide_false, Bool.false_eq_true, if_false, List.length_cons]; omega
theorem with_len {R : List Rw} (h : Up R) (r : Rw) : (withR R r).length ≤ R.length + 1 := by
  rw [with_eq h, List.length_append, List.length_cons]
  have := filter_two R r
  omega
theorem OkR.at {R : List Rw} (h : OkR R) {i : Nat} (hi : i < R.length) : OkRow (R.getD i dR) ∧ (R.getD i dR).2.last < 18446744073709551616 := by
  have hm : R.getD i dR ∈ R := by rw [List.getD_eq_getElem?_getD, List.getElem?_eq_getElem hi]; exact List.getElem_mem hi
  exact h.ok _ hm
theorem OkR.bytes {R : List Rw} (h : OkR R) : bytesR R ≤ R.length * 33000 := by
  have : ∀ l : List Rw, (∀ x ∈ l, OkRow x) → bytesR l ≤ l.length * 33000 := by
    intro l
    induction l with
    | nil => intro _; simp [bytesR]
    | cons x t ih =>
      intro hx
      have h1 := ih (fun y hy => hx y (List.mem_cons_of_mem _ hy))
      have h2 := hx x (by simp)
      have h3 := mayP_size h2.1
      have h4 := may_size h2.2.1
      simp only [bytesR, List.length_cons]; omega
  exact this R (fun x hx => (h.ok x hx).1)

structure RefAt (w : World) (t : Nat) (q1 q2 : Int) (R : List Rw) : Prop where
  c0 : w.cell? ⟨t, 0, none⟩ = some (.int .i64 q1)
  c1 : w.cell? ⟨t, 1, none⟩ = some (.int .i64 q2)
  c2 : ∃ a c, w.cell? ⟨t, 2, none⟩ = some (.slice a R.length c) ∧ IsRows w (.slice a R.length c) R ∧ R.length ≤ c
  cn : ∀ j, w.cell? ⟨t, j + 3, none⟩ = none
  f2 : w.frozen? ⟨t, 2, none⟩ = false
theorem RefAt.lt {w : World} {t : Nat} {q1 q2 : Int} {R : List Rw} (h : RefAt w t q1 q2 R) : t < w.heap.size := cell_lt h.c0
theorem RefAt.bare {w : World} {t : Nat} {q1 q2 : Int} {R : List Rw} (h : RefAt w t q1 q2 R) : Bare w t := by
  intro o v h1
  rcases (show o = 0 ∨ o = 1 ∨ o = 2 ∨ ∃ j, o = j + 3 from by rcases o with _ | _ | _ | j <;> simp) with rfl | rfl | rfl | ⟨j, rfl⟩
  · rw [h.c0] at h1; cases h1; exact ⟨fun n => (by simp), fun s => (by simp)⟩
  · rw [h.c1] at h1; cases h1; exact ⟨fun n => (by simp), fun s => (by simp)⟩
  · obtain ⟨a, c, h2, _⟩ := h.c2
    rw [h2] at h1; cases h1; exact ⟨fun n => (by simp), fun s => (by simp)⟩
  · rw [h.cn] at h1; cases h1
theorem RefAt.below {w w' : World} {t : Nat} {q1 q2 : Int} {R : List Rw} (h : RefAt w t q1 q2 R) (hb : Below w.heap.size w w') : RefAt w' t q1 q2 R := by
  have hl := h.lt
  obtain ⟨a, c, h2, hr, hcp⟩ := h.c2
  exact ⟨(hb.cell hl).trans h.c0, (hb.cell hl).trans h.c1, ⟨a, c, (hb.cell hl).trans h2, hr.below hb (Nat.le_refl _), hcp⟩, fun j => (hb.cell hl).trans (h.cn j), (hb.frozen hl).trans h.f2⟩
theorem RefAt.but {S : Nat → Prop} {w w' : World} {t : Nat} {q1 q2 : Int} {R : List Rw} (h : RefAt w t q1 q2 R) (hb : ButS S w w') (hS : ∀ k, S k → NoStr w k ∧ NoVers w k) (ht : ¬ S t) : RefAt w' t q1 q2 R := by
  have hl := h.lt
  obtain ⟨a, c, h2, hr, hcp⟩ := h.c2
  exact ⟨(hb.cell hl ht).trans h.c0, (hb.cell hl ht).trans h.c1, ⟨a, c, (hb.cell hl ht).trans h2, hr.but2 hb hS, hcp⟩, fun j => (hb.cell hl ht).trans (h.cn j), (hb.frozen hl ht).trans h.f2⟩
theorem RefAt.store {w : World} {t : Nat} {q1 q2 : Int} {R R' : List Rw} (h : RefAt w t q1 q2 R) {v : Value} (hr : IsRows w v R') (hcp : CapV v) : RefAt (w.setCell ⟨t, 2, none⟩ v) t q1 q2 R' := by
  have hb := h.bare
  obtain ⟨a', c', h2, _⟩ := h.c2
  have no : ∀ j, j ≠ 2 → (w.setCell ⟨t, 2, none⟩ v).cell? ⟨t, j, none⟩ = w.cell? ⟨t, j, none⟩ := fun j hj => World.cell?_setCell_other _ _ _ _ (by intro e; injection e with _ e; exact hj e.symm)
  have hbut : ButS (fun k => k = t) w (w.setCell ⟨t, 2, none⟩ v) := ButS.set (S := fun k => k = t) w (p := ⟨t, 2, none⟩) rfl _
  have hr2 := hr.but2 hbut (fun k hk => by subst hk; exact ⟨hb.noStr, hb.noVers⟩)
  obtain ⟨a, c, rfl, _⟩ := hr
  refine ⟨(no 0 (by omega)).trans h.c0, (no 1 (by omega)).trans h.c1, ⟨a, c, World.cell?_setCell_same' _ _ _ (by rw [h2]; rfl), hr2, hcp _ _ _ rfl⟩, fun j => (no (j + 3) (by omega)).trans (h.cn j), ?_⟩
  rw [World.frozen?_setCell]; exact h.f2

def overR (R' R : List Rw) (q1 q2 : Int) : Bool := (decide (q1 < (R'.length : Int)) && decide (R.length < R'.length)) || (decide (q2 < (bytesR R' : Int)) && decide (bytesR R < bytesR R'))
def triedR (R : List Rw) (q1 q2 : Int) (l : List Edt) : (Nat × Nat) × List Rw × List Nat :=
  let r := runR R [] 0 l
  if r.1.2 ≠ 0 then r else if overR r.2.1 R q1 q2 then ((l.length, 180), r.2) else r
def RefAppF (r : (Nat × Nat) × List Rw × List Nat) (keep : Bool) (R : List Rw) (t : Nat) (q1 q2 : Int) (w : World) (e : Ending) (w' : World) : Prop :=
  ∃ v, e = .returned (.tuple #[v, .int .i64 r.1.1, .int .i64 r.1.2]) ∧ IsNums w' v (if r.1.2 = 0 then r.2.2 else []) ∧ RefAt w' t q1 q2 (if keep = true ∧ r.1.2 = 0 then r.2.1 else R) ∧ OkR (if keep = true ∧ r.1.2 = 0 then r.2.1 else R) ∧ (if keep = true ∧ r.1.2 = 0 then r.2.1 else R).length ≤ R.length + r.2.2.length ∧ ButS (fun k => k = t) w w' ∧ ∀ k, v.ownBlock = some k → w.heap.size ≤ k
theorem runR_stop {R : List Rw} {vs : List Nat} {i : Nat} {x : Edt} {l : List Edt} (he : (editR R x).2 ≠ 0) : runR R vs i (x :: l) = ((i, (editR R x).2), R, vs) := by rw [runR, if_pos he]
theorem runR_go {R : List Rw} {vs : List Nat} {i : Nat} {x : Edt} {l : List Edt} (he : (editR R x).2 = 0) : runR R vs i (x :: l) = runR (withR R (x.path, (editR R x).1)) (vs ++ [(editR R x).1.last]) (i + 1) l := by rw [runR, if_neg (by simp [he])]

set_option maxRecDepth 100000 in
set_option maxHeartbeats 8000000 in
theorem ref18_applyF (R : List Rw) (t : Nat) (q1 q2 : Int) (v : Value) (l : List Edt) (keep : Bool) (w : World) (h : RefAt w t q1 q2 R) (hR : OkR R) (hv : IsEdts w v l) (hRl : R.length ≤ 500000) (hl : l.length ≤ 500000) (hsz : ∀ i, i < l.length → (l.getD i dE).path.size ≤ 140737488351232 ∧ (l.getD i dE).text.size ≤ 9223372036854775807) :
    Calls Tryz.prog 40 #[.pointer (some ⟨t, 0, none⟩), v, .bool keep] w (RefAppF (triedR R q1 q2 l) keep R t q1 q2 w) := by
  have HTR : Hid (triedR R q1 q2 l = if (runR R [] 0 l).1.2 ≠ 0 then runR R [] 0 l else if overR (runR R [] 0 l).2.1 R q1 q2 then ((l.length, 180), (runR R [] 0 l).2) else runR R [] 0 l) := Lib.hid rfl
  generalize triedR R q1 q2 l = r at HTR
  obtain ⟨r0, hr0⟩ : ∃ r0, runR R [] 0 l = r0 := ⟨_, rfl⟩
  rw [hr0] at HTR
  have HR0 := Lib.hid hr0
  have HT := Lib.hid h; have HOR := Lib.hid hR
  obtain ⟨a, cap, rfl, hcc⟩ := hv
  have HC := Lib.hid hcc
  obtain ⟨aR, cR, hc2, hIR, hcpR⟩ := h.c2
  have HIR := Lib.hid hIR; have HCPR := Lib.hid hcpR
  have c0 := h.c0; have c1 := h.c1; have hlt := h.lt
  have HSZ := Lib.hid hsz
  obtain ⟨i0, hi, hz0, hz1, hz2⟩ := info_parts infoU64
  clear hr0 h hR hcc hIR hcpR hsz
  go_enter Tryz.func40, Tryz.ntmps40
  go_wp2_with fail
  go_loopw [9, 10, 11] (fun s9 s10 i wr => ∃ (k : Nat) (Rk : List Rw) (vs : List Nat) (aK av : Option Addr) (cK cv : Nat), k ≤ l.length ∧ i = .int .i64 k ∧ s9 = .slice aK Rk.length cK ∧ s10 = .slice av vs.length cv ∧ Hid (r0 = runR Rk vs k (l.drop k)) ∧ Hid (OkR Rk) ∧ Hid (Rk.length ≤ R.length + k ∧ Rk.length ≤ cK) ∧ Hid (vs.length = k) ∧ Hid (IsRows wr (.slice aK Rk.length cK) Rk) ∧ Hid (wr.ownsRow w.heap.size 43 1 (.slice av vs.length cv) vs.length (vs.map (fun n : Nat => Value.int .u64 n))) ∧ Hid (AllU wr (Value.slice av vs.length cv).ownBlock) ∧ Hid (Below w.heap.size w wr)) (fun _ _ i _ => l.length - (intOf i).toNat)
  case atStart => exact ⟨0, R, [], aR, none, cR, 0, Nat.zero_le _, rfl, rfl, rfl, Lib.hid (by rw [List.drop_zero]; exact HR0.out.symm), HOR, Lib.hid ⟨by omega, HCPR.out⟩, Lib.hid rfl, HIR, Lib.hid (World.ownsRow_nil _ _ _ _), Lib.hid (fun g hg => by cases hg), Lib.hid (Below.refl _ _)⟩
  case round =>
    obtain ⟨k, Rk, vs, aK, av, cK, cv, hk, rfl, rfl, rfl, HRun, HOK, HLK, HVK, HIK, HVO, HAU, HBw⟩ := hrel
    have hRkl : Rk.length ≤ 1000000 := by have := HLK.out.1; omega
    by_cases hltk : k < l.length
    · rcases HC.out with hn | ⟨b, off, rfl, hbl, hcx⟩
      · subst hn; simp at hltk
      obtain ⟨g0, g1, g2, g3, g4, g5⟩ := hcx k hltk
      have e0 := (HBw.out.cell (p := ⟨b, off + k * 6, none⟩) hbl).trans g0
      have e1 := (HBw.out.cell (p := ⟨b, off + k * 6 + 1, none⟩) hbl).trans g1
      have e2 := (HBw.out.cell (p := ⟨b, off + k * 6 + 2, none⟩) hbl).trans g2
      have e3 := (HBw.out.cell (p := ⟨b, off + k * 6 + 3, none⟩) hbl).trans g3
      have e4 := (HBw.out.cell (p := ⟨b, off + k * 6 + 4, none⟩) hbl).trans g4
      have e5 := (HBw.out.cell (p := ⟨b, off + k * 6 + 5, none⟩) hbl).trans g5
      obtain ⟨hp, ht⟩ := HSZ.out k hltk
      have hdrop : l.drop k = l.getD k dE :: l.drop (k + 1) := by
        rw [List.drop_eq_getElem_cons hltk, List.getD_eq_getElem?_getD, List.getElem?_eq_getElem hltk]; rfl
      obtain ⟨x, hx⟩ : ∃ x, x = l.getD k dE := ⟨_, rfl⟩
      rw [← hx] at e0 e1 e2 e3 e4 e5 hp ht hdrop
      have hrun := HRun.out
      rw [hdrop] at hrun
      have HRUN := Lib.hid hrun
      have HONE := Lib.hid (ref18_one Rk (.slice aK Rk.length cK) x wr HIK.out HOK.out.up (by omega) (fun i hi => by obtain ⟨h1, h2⟩ := HOK.out.at hi; exact ⟨by have := may_len h1.2.1; omega, h2⟩) hp ht)
      have hltI : (k : Int) < (l.length : Int) := by omega
      have HX := Lib.hid hx
      clear hx hcx g0 g1 g2 g3 g4 g5 hdrop hrun hp ht
      obtain ⟨E, hE⟩ : ∃ E, editR Rk x = E := ⟨_, rfl⟩
      have HEE := Lib.hid hE
      unfold edtVal at HONE
      rw [hE] at HONE
      clear hE
      go_wp2_with fail
      refine HONE.out.mono ?_
      rintro e w5 ⟨v5, n5, rfl, h5, hb5⟩
      have HB5 := Lib.hid hb5; have H5 := Lib.hid h5
      clear hb5 h5 e0 e1 e2 e3 e4 e5
      by_cases he : E.2 = 0
      · have heB : ((E.2 : Int) != 0) = false := by simp [he]
        obtain ⟨hI5, rfl, hcp5⟩ := H5.out he
        have hok5 := HOK.out.edit (x := x) (by rw [HEE.out]; exact he)
        rw [HEE.out] at hok5
        have HOK5 := Lib.hid (HOK.out.with hok5)
        have HL5 := Lib.hid (with_len HOK.out.up (x.path, E.1))
        have HR5 : Hid (r0 = runR (withR Rk (x.path, E.1)) (vs ++ [E.1.last]) (k + 1) (l.drop (k + 1))) := Lib.hid (by rw [HRUN.out, runR_go (by rw [HEE.out]; exact he), HEE.out])
        have HI5 := Lib.hid hI5
        obtain ⟨a5, c5, rfl, _⟩ := hI5
        have HCP5 := Lib.hid (hcp5 _ _ _ rfl)
        clear hcp5
        have HBw5 := Lib.hid (HBw.out.trans (HB5.out.mono HBw.out.size))
        have HVO5 := Lib.hid (ownBelow HVO.out HB5.out)
        have HAU5 : Hid (AllU w5 (Value.slice av vs.length cv).ownBlock) := Lib.hid (HAU.out.but (S := fun _ => False) (ButS.of HB5.out) (fun g hg => ⟨fun h => h, by
          rcases HVO.out.2 with ⟨hv, _⟩ | ⟨g', cp', cur, hv, _, hg', _⟩
          · rw [hv] at hg; cases hg
          · rw [hv] at hg; cases hg; exact lt_of_block hg'⟩))
        have hvl : vs.length ≤ 1099511627776 := by have := HVK.out; omega
        clear hok5 he
        have HAUa : Hid (∀ o, AllU (w5.alloc o) (Value.slice av vs.length cv).ownBlock) := Lib.hid (fun o => HAU5.out.but (S := fun _ => False) (ButS.of ((Below.refl _ _).alloc (Nat.le_refl _) o)) (fun g hg => ⟨fun h => h, by
          rcases HVO5.out.2 with ⟨hv, _⟩ | ⟨g', cp', cur, hv, _, hg', _⟩
          · rw [hv] at hg; cases hg
          · rw [hv] at hg; cases hg; exact lt_of_block hg'⟩))
        go_wp2_with (
          at_builtin
          refine wpList_append_u _ rfl (.tmp 40) (.tmp 42) 51 rfl w.heap.size 43 i0 Tryz.underlying51 hi hz0 hz1 hz2 _ vs.length (vs.map (fun n : Nat => Value.int .u64 n)) rfl (ownBelow HVO5.out ((Below.refl _ _).alloc (Nat.le_refl _) _)) (HAUa.out _) ⟨w5.heap.size, 0, none⟩ 1 E.1.last rfl (by rw [addrAdd]; exact World.cell?_alloc_mark _ _ _ _ _) hvl (by have := HBw5.out.size; simp; omega) ?go
          intro g cp w8 hown8 hg8 hat8 hlt8 hU8
          have HO8 := Lib.hid hown8; have HU8 := Lib.hid hU8; have HG8 := Lib.hid hg8
          clear hown8 hg8 hat8 hlt8 hU8)
        go_roundw
        case rel =>
          refine ⟨k + 1, withR Rk (x.path, E.1), vs ++ [E.1.last], a5, some ⟨g, 0, none⟩, c5, cp, by omega, by go_num, rfl, by rw [List.length_append]; rfl, HR5, HOK5, Lib.hid ⟨by have := HL5.out; have := HLK.out.1; omega, HCP5.out⟩, Lib.hid (by rw [List.length_append, HVK.out]; rfl), Lib.hid ?_, Lib.hid ?_, Lib.hid HU8.out, Lib.hid ?_⟩
          · exact (HI5.out.below ((Below.refl _ _).alloc (Nat.le_refl _) _) (Nat.le_refl _)).but2 (butRow HG8.out) (fun k hk => ⟨(HAUa.out _).noStr k hk, (HAUa.out _).noVers k hk⟩)
          · rw [List.length_append, List.map_append]; exact HO8.out
          · exact (HBw5.out.alloc HBw5.out.size _).grown HG8.out (HBw5.out.alloc HBw5.out.size _).size (fun k hk => ownAbove HVO5.out k hk)
        case measure => simp [intOf]; omega
      · have heB : ((E.2 : Int) != 0) = true := by simp; omega
        obtain rfl : r0 = ((k, E.2), Rk, vs) := by rw [HRUN.out, runR_stop (by rw [HEE.out]; exact he), HEE.out]
        obtain rfl : r = ((k, E.2), Rk, vs) := by rw [HTR.out, if_pos he]
        have HEN := Lib.hid he
        clear he
        go_wp2_with fail
        refine bodyPost_ret (v := .tuple #[.slice none 0 0, .int .i64 k, .int .i64 E.2]) ?_ rfl ⟨.slice none 0 0, rfl, ?_, ?_, ?_, ?_, ?_, fun k hk => by cases hk⟩
        · simp [results, Tryz.results40, go_sem]
        · rw [if_neg HEN.out]; exact ⟨none, 0, rfl, Or.inl rfl⟩
        · rw [if_neg (fun h => HEN.out h.2)]; exact HT.out.below (HBw.out.trans (HB5.out.mono HBw.out.size))
        · rw [if_neg (fun h => HEN.out h.2)]; exact HOR.out
        · rw [if_neg (fun h => HEN.out h.2)]; omega
        · exact ButS.of (HBw.out.trans (HB5.out.mono HBw.out.size))
    · have hge : (l.length : Int) ≤ (k : Int) := by omega
      obtain rfl : r0 = ((0, 0), Rk, vs) := by rw [HRun.out, List.drop_of_length_le (by omega)]; rfl
      obtain ⟨ov, hov⟩ : ∃ ov, overR Rk R q1 q2 = ov := ⟨_, rfl⟩
      have HOV := Lib.hid hov
      have hTr := HT.out.below HBw.out
      obtain ⟨aX, cX, hcx2, hIX, _⟩ := hTr.c2
      have HTw := Lib.hid hTr
      have HBY1 := Lib.hid (fun (w' : World) (hb : Below wr.heap.size wr w') => ref18_bytes Rk (.slice aK Rk.length cK) w' (HIK.out.below hb (Nat.le_refl _)) (by omega) (fun i hi => ⟨(HOK.out.at hi).1.1, (HOK.out.at hi).1.2.1⟩))
      have HBY2 := Lib.hid (fun (w' : World) (hb : Below wr.heap.size wr w') => ref18_bytes R (.slice aX R.length cX) w' (hIX.below hb (Nat.le_refl _)) (by omega) (fun i hi => ⟨(HOR.out.at hi).1.1, (HOR.out.at hi).1.2.1⟩))
      have HF := Lib.hid (fun (w' : World) (hb : Below wr.heap.size wr w') => (⟨(hTr.below hb).c0, (hTr.below hb).c1, (hb.cell (p := ⟨t, 2, none⟩) hTr.lt).trans hcx2⟩ : w'.cell? ⟨t, 0, none⟩ = some (.int .i64 q1) ∧ w'.cell? ⟨t, 1, none⟩ = some (.int .i64 q2) ∧ w'.cell? ⟨t, 2, none⟩ = some (.slice aX R.length cX)))
      obtain ⟨y1, hy1⟩ : ∃ y, y = bytesR Rk := ⟨_, rfl⟩
      obtain ⟨y2, hy2⟩ : ∃ y, y = bytesR R := ⟨_, rfl⟩
      have hov2 : ov = ((decide (q1 < (Rk.length : Int)) && decide (R.length < Rk.length)) || (decide (q2 < (y1 : Int)) && decide (y2 < y1))) := by rw [← hov, hy1, hy2]; rfl
      rw [← hy1] at HBY1
      rw [← hy2] at HBY2
      have HOV2 := Lib.hid hov2
      clear hov hov2 hTr hcx2 hIX hy1 hy2
      go_upto_region 11 with fail
      go_cut [81] (fun v wx => v = .bool ov ∧ Hid (Below wr.heap.size wr wx))
      case first =>
        by_cases hA : q1 < (Rk.length : Int)
        · have hAd : decide (q1 < (Rk.length : Int)) = true := by simp; omega
          have hAi : q1 < (Rk.length : Int) := by omega
          have HhA : Hid (decide (q1 < (Rk.length : Int)) = true) := Lib.hid (by simp; omega)
          by_cases hB : R.length < Rk.length
          · have hBd : decide ((R.length : Int) < (Rk.length : Int)) = true := by simp; omega
            have hBi : (R.length : Int) < (Rk.length : Int) := by omega
            have HhB : Hid (decide (R.length < Rk.length) = true) := Lib.hid (by simp; omega)
            refine wp_region_quiet (C := fun w' => Hid (Below wr.heap.size wr w')) (by kernel_rfl) (by kernel_rfl) (Lib.hid (Below.drew (Below.refl _ _))) ?_
            refine (quiet_plain' ?_ (.slice aK Rk.length cK) (fun w' hw' => ?_) ?_ : _)
            · exact rfl
            · go_simp
            go_frame
            refine (quiet_plain' ?_ (.int .i64 (Rk.length : Int)) (fun w' hw' => ?_) ?_ : _)
            · exact rfl
            · go_simp
            go_frame
            refine (quiet_plain' ?_ (.pointer (some ⟨t, 0, none⟩)) (fun w' hw' => ?_) ?_ : _)
            · exact rfl
            · go_simp
            go_frame
            refine (quiet_plain' ?_ (.pointer (some ⟨t, 0, none⟩)) (fun w' hw' => ?_) ?_ : _)
            · exact rfl
            · go_simp
            go_frame
            refine (quiet_plain' ?_ (.pointer (some ⟨t, 0, none⟩)) (fun w' hw' => ?_) ?_ : _)
            · exact rfl
            · go_simp
            go_frame
            refine (quiet_plain' ?_ (.pointer (some ⟨t, 0, none⟩)) (fun w' hw' => ?_) ?_ : _)
            · exact rfl
            · go_simp
            go_frame
            refine (quiet_plain' ?_ (.int .i64 q1) (fun w' hw' => ?_) ?_ : _)
            · exact rfl
            · obtain ⟨f0, f1, f2⟩ := HF.out w' hw'.out
              go_simp
            go_frame
            refine (quiet_plain' ?_ (.bool true) (fun w' hw' => ?_) ?_ : _)
            · exact rfl
            · go_simp
            go_frame
            refine (quiet_plain' ?_ (.bool true) (fun w' hw' => ?_) ?_ : _)
            · exact rfl
            · go_simp
            go_frame
            refine (quiet_plain' ?_ (.slice aK Rk.length cK) (fun w' hw' => ?_) ?_ : _)
            · exact rfl
            · go_simp
            go_frame
            refine (quiet_plain' ?_ (.int .i64 (Rk.length : Int)) (fun w' hw' => ?_) ?_ : _)
            · exact rfl
            · go_simp
            go_frame
            refine (quiet_plain' ?_ (.pointer (some ⟨t, 0, none⟩)) (fun w' hw' => ?_) ?_ : _)
            · exact rfl
            · go_simp
            go_frame
            refine (quiet_plain' ?_ (.pointer (some ⟨t, 0, none⟩)) (fun w' hw' => ?_) ?_ : _)
            · exact rfl
            · go_simp
            go_frame
            refine (quiet_plain' ?_ (.pointer (some ⟨t, 2, none⟩)) (fun w' hw' => ?_) ?_ : _)
            · exact rfl
            · go_simp
            go_frame
            refine (quiet_plain' ?_ (.slice aX R.length cX) (fun w' hw' => ?_) ?_ : _)
            · exact rfl
            · obtain ⟨f0, f1, f2⟩ := HF.out w' hw'.out
              go_simp
            go_frame
            refine (quiet_plain' ?_ (.int .i64 (R.length : Int)) (fun w' hw' => ?_) ?_ : _)
            · exact rfl
            · go_simp
            go_frame
            refine (quiet_plain' ?_ (.bool true) (fun w' hw' => ?_) ?_ : _)
            · exact rfl
            · go_simp
            go_frame
            refine (quiet_plain' ?_ (.bool true) (fun w' hw' => ?_) ?_ : _)
            · exact rfl
            · go_simp
            go_frame
            refine (quiet_plain' ?_ (.bool true) (fun w' hw' => ?_) ?_ : _)
            · exact rfl
            · go_simp
            go_frame
            refine (quiet_skip ?_ ?_ : _)
            · exact rfl
            go_frame
            refine (quiet_skip ?_ ?_ : _)
            · exact rfl
            go_frame
            refine (quiet_skip ?_ ?_ : _)
            · exact rfl
            go_frame
            refine (quiet_skip ?_ ?_ : _)
            · exact rfl
            go_frame
            refine (quiet_skip ?_ ?_ : _)
            · exact rfl
            go_frame
            refine (quiet_skip ?_ ?_ : _)
            · exact rfl
            go_frame
            refine (quiet_skip ?_ ?_ : _)
            · exact rfl
            go_frame
            refine (quiet_skip ?_ ?_ : _)
            · exact rfl
            go_frame
            refine (quiet_skip ?_ ?_ : _)
            · exact rfl
            go_frame
            refine (quiet_skip ?_ ?_ : _)
            · exact rfl
            go_frame
            refine (quiet_skip ?_ ?_ : _)
            · exact rfl
            go_frame
            refine (quiet_skip ?_ ?_ : _)
            · exact rfl
            go_frame
            refine (quiet_skip ?_ ?_ : _)
            · exact rfl
            go_frame
            refine (quiet_skip ?_ ?_ : _)
            · exact rfl
            go_frame
            refine (quiet_skip ?_ ?_ : _)
            · exact rfl
            go_frame
            refine (quiet_skip ?_ ?_ : _)
            · exact rfl
            go_frame
            refine (quiet_skip ?_ ?_ : _)
            · exact rfl
            go_frame
            refine (quiet_skip ?_ ?_ : _)
            · exact rfl
            go_frame
            refine (quiet_plain' ?_ (.bool true) (fun w' hw' => ?_) ?_ : _)
            · exact rfl
            · go_simp
            go_frame
            refine (wpQuiet_nil ?_ : _)
            intro W6 hW6
            go_wp2_with fail
            go_meet
            case rel => exact ⟨by rw [HOV2.out]; simp only [HhA.out, HhB.out]; simp, hW6⟩
          have hBd : decide ((R.length : Int) < (Rk.length : Int)) = false := by simp; omega
          have hBi : ¬ (R.length : Int) < (Rk.length : Int) := by omega
          have HhB : Hid (decide (R.length < Rk.length) = false) := Lib.hid (by simp; omega)
          by_cases hC : q2 < (y1 : Int)
          · have hCd : decide (q2 < (y1 : Int)) = true := by simp; omega
            have hCi : q2 < (y1 : Int) := by omega
            have HhC : Hid (decide (q2 < (y1 : Int)) = true) := Lib.hid (by simp; omega)
            by_cases hD : y2 < y1
            · have hDd : decide ((y2 : Int) < (y1 : Int)) = true := by simp; omega
              have hDi : (y2 : Int) < (y1 : Int) := by omega
              have HhD : Hid (decide (y2 < y1) = true) := Lib.hid (by simp; omega)
              refine wp_region_quiet (C := fun w' => Hid (Below wr.heap.size wr w')) (by kernel_rfl) (by kernel_rfl) (Lib.hid (Below.drew (Below.refl _ _))) ?_
              refine (quiet_plain' ?_ (.slice aK Rk.length cK) (fun w' hw' => ?_) ?_ : _)
              · exact rfl
              · go_simp
              go_frame
              refine (quiet_plain' ?_ (.int .i64 (Rk.length : Int)) (fun w' hw' => ?_) ?_ : _)
              · exact rfl
              · go_simp
              go_frame
              refine (quiet_plain' ?_ (.pointer (some ⟨t, 0, none⟩)) (fun w' hw' => ?_) ?_ : _)
              · exact rfl
              · go_simp
              go_frame
              refine (quiet_plain' ?_ (.pointer (some ⟨t, 0, none⟩)) (fun w' hw' => ?_) ?_ : _)
              · exact rfl
              · go_simp
              go_frame
              refine (quiet_plain' ?_ (.pointer (some ⟨t, 0, none⟩)) (fun w' hw' => ?_) ?_ : _)
              · exact rfl
              · go_simp
              go_frame
              refine (quiet_plain' ?_ (.pointer (some ⟨t, 0, none⟩)) (fun w' hw' => ?_) ?_ : _)
              · exact rfl
              · go_simp
              go_frame
              refine (quiet_plain' ?_ (.int .i64 q1) (fun w' hw' => ?_) ?_ : _)
              · exact rfl
              · obtain ⟨f0, f1, f2⟩ := HF.out w' hw'.out
                go_simp
              go_frame
              refine (quiet_plain' ?_ (.bool true) (fun w' hw' => ?_) ?_ : _)
              · exact rfl
              · go_simp
              go_frame
              refine (quiet_plain' ?_ (.bool true) (fun w' hw' => ?_) ?_ : _)
              · exact rfl
              · go_simp
              go_frame
              refine (quiet_plain' ?_ (.slice aK Rk.length cK) (fun w' hw' => ?_) ?_ : _)
              · exact rfl
              · go_simp
              go_frame
              refine (quiet_plain' ?_ (.int .i64 (Rk.length : Int)) (fun w' hw' => ?_) ?_ : _)
              · exact rfl
              · go_simp
              go_frame
              refine (quiet_plain' ?_ (.pointer (some ⟨t, 0, none⟩)) (fun w' hw' => ?_) ?_ : _)
              · exact rfl
              · go_simp
              go_frame
              refine (quiet_plain' ?_ (.pointer (some ⟨t, 0, none⟩)) (fun w' hw' => ?_) ?_ : _)
              · exact rfl
              · go_simp
              go_frame
              refine (quiet_plain' ?_ (.pointer (some ⟨t, 2, none⟩)) (fun w' hw' => ?_) ?_ : _)
              · exact rfl
              · go_simp
              go_frame
              refine (quiet_plain' ?_ (.slice aX R.length cX) (fun w' hw' => ?_) ?_ : _)
              · exact rfl
              · obtain ⟨f0, f1, f2⟩ := HF.out w' hw'.out
                go_simp
              go_frame
              refine (quiet_plain' ?_ (.int .i64 (R.length : Int)) (fun w' hw' => ?_) ?_ : _)
              · exact rfl
              · go_simp
              go_frame
              refine (quiet_plain' ?_ (.bool false) (fun w' hw' => ?_) ?_ : _)
              · exact rfl
              · go_simp
              go_frame
              refine (quiet_plain' ?_ (.bool false) (fun w' hw' => ?_) ?_ : _)
              · exact rfl
              · go_simp
              go_frame
              refine (quiet_plain' ?_ (.bool false) (fun w' hw' => ?_) ?_ : _)
              · exact rfl
              · go_simp
              go_frame
              refine (quiet_plain' ?_ (.slice aK Rk.length cK) (fun w' hw' => ?_) ?_ : _)
              · exact rfl
              · go_simp
              go_frame
              refine (quiet_call' ?_ (.int .i64 (y1 : Int)) 53 #[.slice aK Rk.length cK] (fun w' hw' => ⟨?_, ?_⟩) ?_ : _)
              · exact rfl
              · obtain ⟨f0, f1, f2⟩ := HF.out w' hw'.out
                go_simp
              · exact (HBY1.out w' hw'.out).mono (fun e w6 ⟨he, hb⟩ => ⟨he, Lib.hid (hw'.out.trans (hb.mono hw'.out.size))⟩)
              go_frame
              refine (quiet_plain' ?_ (.pointer (some ⟨t, 0, none⟩)) (fun w' hw' => ?_) ?_ : _)
              · exact rfl
              · go_simp
              go_frame
              refine (quiet_plain' ?_ (.pointer (some ⟨t, 0, none⟩)) (fun w' hw' => ?_) ?_ : _)
              · exact rfl
              · go_simp
              go_frame
              refine (quiet_plain' ?_ (.pointer (some ⟨t, 0, none⟩)) (fun w' hw' => ?_) ?_ : _)
              · exact rfl
              · go_simp
              go_frame
              refine (quiet_plain' ?_ (.pointer (some ⟨t, 1, none⟩)) (fun w' hw' => ?_) ?_ : _)
              · exact rfl
              · go_simp
              go_frame
              refine (quiet_plain' ?_ (.int .i64 q2) (fun w' hw' => ?_) ?_ : _)
              · exact rfl
              · obtain ⟨f0, f1, f2⟩ := HF.out w' hw'.out
                go_simp
              go_frame
              refine (quiet_plain' ?_ (.bool true) (fun w' hw' => ?_) ?_ : _)
              · exact rfl
              · go_simp
              go_frame
              refine (quiet_plain' ?_ (.bool true) (fun w' hw' => ?_) ?_ : _)
              · exact rfl
              · go_simp
              go_frame
              refine (quiet_plain' ?_ (.slice aK Rk.length cK) (fun w' hw' => ?_) ?_ : _)
              · exact rfl
              · go_simp
              go_frame
              refine (quiet_call' ?_ (.int .i64 (y1 : Int)) 53 #[.slice aK Rk.length cK] (fun w' hw' => ⟨?_, ?_⟩) ?_ : _)
              · exact rfl
              · obtain ⟨f0, f1, f2⟩ := HF.out w' hw'.out
                go_simp
              · exact (HBY1.out w' hw'.out).mono (fun e w6 ⟨he, hb⟩ => ⟨he, Lib.hid (hw'.out.trans (hb.mono hw'.out.size))⟩)
              go_frame
              refine (quiet_plain' ?_ (.pointer (some ⟨t, 0, none⟩)) (fun w' hw' => ?_) ?_ : _)
              · exact rfl
              · go_simp
              go_frame
              refine (quiet_plain' ?_ (.pointer (some ⟨t, 0, none⟩)) (fun w' hw' => ?_) ?_ : _)
              · exact rfl
              · go_simp
              go_frame
              refine (quiet_plain' ?_ (.pointer (some ⟨t, 2, none⟩)) (fun w' hw' => ?_) ?_ : _)
              · exact rfl
              · go_simp
              go_frame
              refine (quiet_plain' ?_ (.slice aX R.length cX) (fun w' hw' => ?_) ?_ : _)
              · exact rfl
              · obtain ⟨f0, f1, f2⟩ := HF.out w' hw'.out
                go_simp
              go_frame
              refine (quiet_call' ?_ (.int .i64 (y2 : Int)) 53 #[.slice aX R.length cX] (fun w' hw' => ⟨?_, ?_⟩) ?_ : _)
              · exact rfl
              · obtain ⟨f0, f1, f2⟩ := HF.out w' hw'.out
                go_simp
              · exact (HBY2.out w' hw'.out).mono (fun e w6 ⟨he, hb⟩ => ⟨he, Lib.hid (hw'.out.trans (hb.mono hw'.out.size))⟩)
              go_frame
              refine (quiet_plain' ?_ (.bool true) (fun w' hw' => ?_) ?_ : _)
              · exact rfl
              · go_simp
              go_frame
              refine (quiet_plain' ?_ (.bool true) (fun w' hw' => ?_) ?_ : _)
              · exact rfl
              · go_simp
              go_frame
              refine (quiet_plain' ?_ (.bool true) (fun w' hw' => ?_) ?_ : _)
              · exact rfl
              · go_simp
              go_frame
              refine (wpQuiet_nil ?_ : _)
              intro W6 hW6
              go_wp2_with fail
              go_meet
              case rel => exact ⟨by rw [HOV2.out]; simp only [HhA.out, HhB.out, HhC.out, HhD.out]; simp, hW6⟩
            have hDd : decide ((y2 : Int) < (y1 : Int)) = false := by simp; omega
            have hDi : ¬ (y2 : Int) < (y1 : Int) := by omega
            have HhD : Hid (decide (y2 < y1) = false) := Lib.hid (by simp; omega)
            refine wp_region_quiet (C := fun w' => Hid (Below wr.heap.size wr w')) (by kernel_rfl) (by kernel_rfl) (Lib.hid (Below.drew (Below.refl _ _))) ?_
            refine (quiet_plain' ?_ (.slice aK Rk.length cK) (fun w' hw' => ?_) ?_ : _)
            · exact rfl
            · go_simp
            go_frame
            refine (quiet_plain' ?_ (.int .i64 (Rk.length : Int)) (fun w' hw' => ?_) ?_ : _)
            · exact rfl
            · go_simp
            go_frame
            refine (quiet_plain' ?_ (.pointer (some ⟨t, 0, none⟩)) (fun w' hw' => ?_) ?_ : _)
            · exact rfl
            · go_simp
            go_frame
            refine (quiet_plain' ?_ (.pointer (some ⟨t, 0, none⟩)) (fun w' hw' => ?_) ?_ : _)
            · exact rfl
            · go_simp
            go_frame
            refine (quiet_plain' ?_ (.pointer (some ⟨t, 0, none⟩)) (fun w' hw' => ?_) ?_ : _)
            · exact rfl
            · go_simp
            go_frame
            refine (quiet_plain' ?_ (.pointer (some ⟨t, 0, none⟩)) (fun w' hw' => ?_) ?_ : _)
            · exact rfl
            · go_simp
            go_frame
            refine (quiet_plain' ?_ (.int .i64 q1) (fun w' hw' => ?_) ?_ : _)
            · exact rfl
            · obtain ⟨f0, f1, f2⟩ := HF.out w' hw'.out
              go_simp
            go_frame
            refine (quiet_plain' ?_ (.bool true) (fun w' hw' => ?_) ?_ : _)
            · exact rfl
            · go_simp
            go_frame
            refine (quiet_plain' ?_ (.bool true) (fun w' hw' => ?_) ?_ : _)
            · exact rfl
            · go_simp
            go_frame
            refine (quiet_plain' ?_ (.slice aK Rk.length cK) (fun w' hw' => ?_) ?_ : _)
            · exact rfl
            · go_simp
            go_frame
            refine (quiet_plain' ?_ (.int .i64 (Rk.length : Int)) (fun w' hw' => ?_) ?_ : _)
            · exact rfl
            · go_simp
            go_frame
            refine (quiet_plain' ?_ (.pointer (some ⟨t, 0, none⟩)) (fun w' hw' => ?_) ?_ : _)
            · exact rfl
            · go_simp
            go_frame
            refine (quiet_plain' ?_ (.pointer (some ⟨t, 0, none⟩)) (fun w' hw' => ?_) ?_ : _)
            · exact rfl
            · go_simp
            go_frame
            refine (quiet_plain' ?_ (.pointer (some ⟨t, 2, none⟩)) (fun w' hw' => ?_) ?_ : _)
            · exact rfl
            · go_simp
            go_frame
            refine (quiet_plain' ?_ (.slice aX R.length cX) (fun w' hw' => ?_) ?_ : _)
            · exact rfl
            · obtain ⟨f0, f1, f2⟩ := HF.out w' hw'.out
              go_simp
            go_frame
            refine (quiet_plain' ?_ (.int .i64 (R.length : Int)) (fun w' hw' => ?_) ?_ : _)
            · exact rfl
            · go_simp
            go_frame
            refine (quiet_plain' ?_ (.bool false) (fun w' hw' => ?_) ?_ : _)
            · exact rfl
            · go_simp
            go_frame
            refine (quiet_plain' ?_ (.bool false) (fun w' hw' => ?_) ?_ : _)
            · exact rfl
            · go_simp
            go_frame
            refine (quiet_plain' ?_ (.bool false) (fun w' hw' => ?_) ?_ : _)
            · exact rfl
            · go_simp
            go_frame
            refine (quiet_plain' ?_ (.slice aK Rk.length cK) (fun w' hw' => ?_) ?_ : _)
            · exact rfl
            · go_simp
            go_frame
            refine (quiet_call' ?_ (.int .i64 (y1 : Int)) 53 #[.slice aK Rk.length cK] (fun w' hw' => ⟨?_, ?_⟩) ?_ : _)
            · exact rfl
            · obtain ⟨f0, f1, f2⟩ := HF.out w' hw'.out
              go_simp
            · exact (HBY1.out w' hw'.out).mono (fun e w6 ⟨he, hb⟩ => ⟨he, Lib.hid (hw'.out.trans (hb.mono hw'.out.size))⟩)
            go_frame
            refine (quiet_plain' ?_ (.pointer (some ⟨t, 0, none⟩)) (fun w' hw' => ?_) ?_ : _)
            · exact rfl
            · go_simp
            go_frame
            refine (quiet_plain' ?_ (.pointer (some ⟨t, 0, none⟩)) (fun w' hw' => ?_) ?_ : _)
            · exact rfl
            · go_simp
            go_frame
            refine (quiet_plain' ?_ (.pointer (some ⟨t, 0, none⟩)) (fun w' hw' => ?_) ?_ : _)
            · exact rfl
            · go_simp
            go_frame
            refine (quiet_plain' ?_ (.pointer (some ⟨t, 1, none⟩)) (fun w' hw' => ?_) ?_ : _)
            · exact rfl
            · go_simp
            go_frame
            refine (quiet_plain' ?_ (.int .i64 q2) (fun w' hw' => ?_) ?_ : _)
            · exact rfl
            · obtain ⟨f0, f1, f2⟩ := HF.out w' hw'.out
              go_simp
            go_frame
            refine (quiet_plain' ?_ (.bool true) (fun w' hw' => ?_) ?_ : _)
            · exact rfl
            · go_simp
            go_frame
            refine (quiet_plain' ?_ (.bool true) (fun w' hw' => ?_) ?_ : _)
            · exact rfl
            · go_simp
            go_frame
            refine (quiet_plain' ?_ (.slice aK Rk.length cK) (fun w' hw' => ?_) ?_ : _)
            · exact rfl
            · go_simp
            go_frame
            refine (quiet_call' ?_ (.int .i64 (y1 : Int)) 53 #[.slice aK Rk.length cK] (fun w' hw' => ⟨?_, ?_⟩) ?_ : _)
            · exact rfl
            · obtain ⟨f0, f1, f2⟩ := HF.out w' hw'.out
              go_simp
            · exact (HBY1.out w' hw'.out).mono (fun e w6 ⟨he, hb⟩ => ⟨he, Lib.hid (hw'.out.trans (hb.mono hw'.out.size))⟩)
            go_frame
            refine (quiet_plain' ?_ (.pointer (some ⟨t, 0, none⟩)) (fun w' hw' => ?_) ?_ : _)
            · exact rfl
            · go_simp
            go_frame
            refine (quiet_plain' ?_ (.pointer (some ⟨t, 0, none⟩)) (fun w' hw' => ?_) ?_ : _)
            · exact rfl
            · go_simp
            go_frame
            refine (quiet_plain' ?_ (.pointer (some ⟨t, 2, none⟩)) (fun w' hw' => ?_) ?_ : _)
            · exact rfl
            · go_simp
            go_frame
            refine (quiet_plain' ?_ (.slice aX R.length cX) (fun w' hw' => ?_) ?_ : _)
            · exact rfl
            · obtain ⟨f0, f1, f2⟩ := HF.out w' hw'.out
              go_simp
            go_frame
            refine (quiet_call' ?_ (.int .i64 (y2 : Int)) 53 #[.slice aX R.length cX] (fun w' hw' => ⟨?_, ?_⟩) ?_ : _)
            · exact rfl
            · obtain ⟨f0, f1, f2⟩ := HF.out w' hw'.out
              go_simp
            · exact (HBY2.out w' hw'.out).mono (fun e w6 ⟨he, hb⟩ => ⟨he, Lib.hid (hw'.out.trans (hb.mono hw'.out.size))⟩)
            go_frame
            refine (quiet_plain' ?_ (.bool false) (fun w' hw' => ?_) ?_ : _)
            · exact rfl
            · go_simp
            go_frame
            refine (quiet_plain' ?_ (.bool false) (fun w' hw' => ?_) ?_ : _)
            · exact rfl
            · go_simp
            go_frame
            refine (quiet_plain' ?_ (.bool false) (fun w' hw' => ?_) ?_ : _)
            · exact rfl
            · go_simp
            go_frame
            refine (wpQuiet_nil ?_ : _)
            intro W6 hW6
            go_wp2_with fail
            go_meet
            case rel => exact ⟨by rw [HOV2.out]; simp only [HhA.out, HhB.out, HhC.out, HhD.out]; simp, hW6⟩
          have hCd : decide (q2 < (y1 : Int)) = false := by simp; omega
          have hCi : ¬ q2 < (y1 : Int) := by omega
          have HhC : Hid (decide (q2 < (y1 : Int)) = false) := Lib.hid (by simp; omega)
          refine wp_region_quiet (C := fun w' => Hid (Below wr.heap.size wr w')) (by kernel_rfl) (by kernel_rfl) (Lib.hid (Below.drew (Below.refl _ _))) ?_
          refine (quiet_plain' ?_ (.slice aK Rk.length cK) (fun w' hw' => ?_) ?_ : _)
          · exact rfl
          · go_simp
          go_frame
          refine (quiet_plain' ?_ (.int .i64 (Rk.length : Int)) (fun w' hw' => ?_) ?_ : _)
          · exact rfl
          · go_simp
          go_frame
          refine (quiet_plain' ?_ (.pointer (some ⟨t, 0, none⟩)) (fun w' hw' => ?_) ?_ : _)
          · exact rfl
          · go_simp
          go_frame
          refine (quiet_plain' ?_ (.pointer (some ⟨t, 0, none⟩)) (fun w' hw' => ?_) ?_ : _)
          · exact rfl
          · go_simp
          go_frame
          refine (quiet_plain' ?_ (.pointer (some ⟨t, 0, none⟩)) (fun w' hw' => ?_) ?_ : _)
          · exact rfl
          · go_simp
          go_frame
          refine (quiet_plain' ?_ (.pointer (some ⟨t, 0, none⟩)) (fun w' hw' => ?_) ?_ : _)
          · exact rfl
          · go_simp
          go_frame
          refine (quiet_plain' ?_ (.int .i64 q1) (fun w' hw' => ?_) ?_ : _)
          · exact rfl
          · obtain ⟨f0, f1, f2⟩ := HF.out w' hw'.out
            go_simp
          go_frame
          refine (quiet_plain' ?_ (.bool true) (fun w' hw' => ?_) ?_ : _)
          · exact rfl
          · go_simp
          go_frame
          refine (quiet_plain' ?_ (.bool true) (fun w' hw' => ?_) ?_ : _)
          · exact rfl
          · go_simp
          go_frame
          refine (quiet_plain' ?_ (.slice aK Rk.length cK) (fun w' hw' => ?_) ?_ : _)
          · exact rfl
          · go_simp
          go_frame
          refine (quiet_plain' ?_ (.int .i64 (Rk.length : Int)) (fun w' hw' => ?_) ?_ : _)
          · exact rfl
          · go_simp
          go_frame
          refine (quiet_plain' ?_ (.pointer (some ⟨t, 0, none⟩)) (fun w' hw' => ?_) ?_ : _)
          · exact rfl
          · go_simp
          go_frame
          refine (quiet_plain' ?_ (.pointer (some ⟨t, 0, none⟩)) (fun w' hw' => ?_) ?_ : _)
          · exact rfl
          · go_simp
          go_frame
          refine (quiet_plain' ?_ (.pointer (some ⟨t, 2, none⟩)) (fun w' hw' => ?_) ?_ : _)
          · exact rfl
          · go_simp
          go_frame
          refine (quiet_plain' ?_ (.slice aX R.length cX) (fun w' hw' => ?_) ?_ : _)
          · exact rfl
          · obtain ⟨f0, f1, f2⟩ := HF.out w' hw'.out
            go_simp
          go_frame
          refine (quiet_plain' ?_ (.int .i64 (R.length : Int)) (fun w' hw' => ?_) ?_ : _)
          · exact rfl
          · go_simp
          go_frame
          refine (quiet_plain' ?_ (.bool false) (fun w' hw' => ?_) ?_ : _)
          · exact rfl
          · go_simp
          go_frame
          refine (quiet_plain' ?_ (.bool false) (fun w' hw' => ?_) ?_ : _)
          · exact rfl
          · go_simp
          go_frame
          refine (quiet_plain' ?_ (.bool false) (fun w' hw' => ?_) ?_ : _)
          · exact rfl
          · go_simp
          go_frame
          refine (quiet_plain' ?_ (.slice aK Rk.length cK) (fun w' hw' => ?_) ?_ : _)
          · exact rfl
          · go_simp
          go_frame
          refine (quiet_call' ?_ (.int .i64 (y1 : Int)) 53 #[.slice aK Rk.length cK] (fun w' hw' => ⟨?_, ?_⟩) ?_ : _)
          · exact rfl
          · obtain ⟨f0, f1, f2⟩ := HF.out w' hw'.out
            go_simp
          · exact (HBY1.out w' hw'.out).mono (fun e w6 ⟨he, hb⟩ => ⟨he, Lib.hid (hw'.out.trans (hb.mono hw'.out.size))⟩)
          go_frame
          refine (quiet_plain' ?_ (.pointer (some ⟨t, 0, none⟩)) (fun w' hw' => ?_) ?_ : _)
          · exact rfl
          · go_simp
          go_frame
          refine (quiet_plain' ?_ (.pointer (some ⟨t, 0, none⟩)) (fun w' hw' => ?_) ?_ : _)
          · exact rfl
          · go_simp
          go_frame
          refine (quiet_plain' ?_ (.pointer (some ⟨t, 0, none⟩)) (fun w' hw' => ?_) ?_ : _)
          · exact rfl
          · go_simp
          go_frame
          refine (quiet_plain' ?_ (.pointer (some ⟨t, 1, none⟩)) (fun w' hw' => ?_) ?_ : _)
          · exact rfl
          · go_simp
          go_frame
          refine (quiet_plain' ?_ (.int .i64 q2) (fun w' hw' => ?_) ?_ : _)
          · exact rfl
          · obtain ⟨f0, f1, f2⟩ := HF.out w' hw'.out
            go_simp
          go_frame
          refine (quiet_plain' ?_ (.bool false) (fun w' hw' => ?_) ?_ : _)
          · exact rfl
          · go_simp
          go_frame
          refine (quiet_plain' ?_ (.bool false) (fun w' hw' => ?_) ?_ : _)
          · exact rfl
          · go_simp
          go_frame
          refine (quiet_skip ?_ ?_ : _)
          · exact rfl
          go_frame
          refine (quiet_skip ?_ ?_ : _)
          · exact rfl
          go_frame
          refine (quiet_skip ?_ ?_ : _)
          · exact rfl
          go_frame
          refine (quiet_skip ?_ ?_ : _)
          · exact rfl
          go_frame
          refine (quiet_skip ?_ ?_ : _)
          · exact rfl
          go_frame
          refine (quiet_skip ?_ ?_ : _)
          · exact rfl
          go_frame
          refine (quiet_skip ?_ ?_ : _)
          · exact rfl
          go_frame
          refine (quiet_skip ?_ ?_ : _)
          · exact rfl
          go_frame
          refine (quiet_plain' ?_ (.bool false) (fun w' hw' => ?_) ?_ : _)
          · exact rfl
          · go_simp
          go_frame
          refine (quiet_plain' ?_ (.bool false) (fun w' hw' => ?_) ?_ : _)
          · exact rfl
          · go_simp
          go_frame
          refine (wpQuiet_nil ?_ : _)
          intro W6 hW6
          go_wp2_with fail
          go_meet
          case rel => exact ⟨by rw [HOV2.out]; simp only [HhA.out, HhB.out, HhC.out]; simp, hW6⟩
        have hAd : decide (q1 < (Rk.length : Int)) = false := by simp; omega
        have hAi : ¬ q1 < (Rk.length : Int) := by omega
        have HhA : Hid (decide (q1 < (Rk.length : Int)) = false) := Lib.hid (by simp; omega)
        by_cases hC : q2 < (y1 : Int)
        · have hCd : decide (q2 < (y1 : Int)) = true := by simp; omega
          have hCi : q2 < (y1 : Int) := by omega
          have HhC : Hid (decide (q2 < (y1 : Int)) = true) := Lib.hid (by simp; omega)
          by_cases hD : y2 < y1
          · have hDd : decide ((y2 : Int) < (y1 : Int)) = true := by simp; omega
            have hDi : (y2 : Int) < (y1 : Int) := by omega
            have HhD : Hid (decide (y2 < y1) = true) := Lib.hid (by simp; omega)
            refine wp_region_quiet (C := fun w' => Hid (Below wr.heap.size wr w')) (by kernel_rfl) (by kernel_rfl) (Lib.hid (Below.drew (Below.refl _ _))) ?_
            refine (quiet_plain' ?_ (.slice aK Rk.length cK) (fun w' hw' => ?_) ?_ : _)
            · exact rfl
            · go_simp
            go_frame
            refine (quiet_plain' ?_ (.int .i64 (Rk.length : Int)) (fun w' hw' => ?_) ?_ : _)
            · exact rfl
            · go_simp
            go_frame
            refine (quiet_plain' ?_ (.pointer (some ⟨t, 0, none⟩)) (fun w' hw' => ?_) ?_ : _)
            · exact rfl
            · go_simp
            go_frame
            refine (quiet_plain' ?_ (.pointer (some ⟨t, 0, none⟩)) (fun w' hw' => ?_) ?_ : _)
            · exact rfl
            · go_simp
            go_frame
            refine (quiet_plain' ?_ (.pointer (some ⟨t, 0, none⟩)) (fun w' hw' => ?_) ?_ : _)
            · exact rfl
            · go_simp
            go_frame
            refine (quiet_plain' ?_ (.pointer (some ⟨t, 0, none⟩)) (fun w' hw' => ?_) ?_ : _)
            · exact rfl
            · go_simp
            go_frame
            refine (quiet_plain' ?_ (.int .i64 q1) (fun w' hw' => ?_) ?_ : _)
            · exact rfl
            · obtain ⟨f0, f1, f2⟩ := HF.out w' hw'.out
              go_simp
            go_frame
            refine (quiet_plain' ?_ (.bool false) (fun w' hw' => ?_) ?_ : _)
            · exact rfl
            · go_simp
            go_frame
            refine (quiet_plain' ?_ (.bool false) (fun w' hw' => ?_) ?_ : _)
            · exact rfl
            · go_simp
            go_frame
            refine (quiet_skip ?_ ?_ : _)
            · exact rfl
            go_frame
            refine (quiet_skip ?_ ?_ : _)
            · exact rfl
            go_frame
            refine (quiet_skip ?_ ?_ : _)
            · exact rfl
            go_frame
            refine (quiet_skip ?_ ?_ : _)
            · exact rfl
            go_frame
            refine (quiet_skip ?_ ?_ : _)
            · exact rfl
            go_frame
            refine (quiet_skip ?_ ?_ : _)
            · exact rfl
            go_frame
            refine (quiet_skip ?_ ?_ : _)
            · exact rfl
            go_frame
            refine (quiet_skip ?_ ?_ : _)
            · exact rfl
            go_frame
            refine (quiet_plain' ?_ (.bool false) (fun w' hw' => ?_) ?_ : _)
            · exact rfl
            · go_simp
            go_frame
            refine (quiet_plain' ?_ (.bool false) (fun w' hw' => ?_) ?_ : _)
            · exact rfl
            · go_simp
            go_frame
            refine (quiet_plain' ?_ (.slice aK Rk.length cK) (fun w' hw' => ?_) ?_ : _)
            · exact rfl
            · go_simp
            go_frame
            refine (quiet_call' ?_ (.int .i64 (y1 : Int)) 53 #[.slice aK Rk.length cK] (fun w' hw' => ⟨?_, ?_⟩) ?_ : _)
            · exact rfl
            · obtain ⟨f0, f1, f2⟩ := HF.out w' hw'.out
              go_simp
            · exact (HBY1.out w' hw'.out).mono (fun e w6 ⟨he, hb⟩ => ⟨he, Lib.hid (hw'.out.trans (hb.mono hw'.out.size))⟩)
            go_frame
            refine (quiet_plain' ?_ (.pointer (some ⟨t, 0, none⟩)) (fun w' hw' => ?_) ?_ : _)
            · exact rfl
            · go_simp
            go_frame
            refine (quiet_plain' ?_ (.pointer (some ⟨t, 0, none⟩)) (fun w' hw' => ?_) ?_ : _)
            · exact rfl
            · go_simp
            go_frame
            refine (quiet_plain' ?_ (.pointer (some ⟨t, 0, none⟩)) (fun w' hw' => ?_) ?_ : _)
            · exact rfl
            · go_simp
            go_frame
            refine (quiet_plain' ?_ (.pointer (some ⟨t, 1, none⟩)) (fun w' hw' => ?_) ?_ : _)
            · exact rfl
            · go_simp
            go_frame
            refine (quiet_plain' ?_ (.int .i64 q2) (fun w' hw' => ?_) ?_ : _)
            · exact rfl
            · obtain ⟨f0, f1, f2⟩ := HF.out w' hw'.out
              go_simp
            go_frame
            refine (quiet_plain' ?_ (.bool true) (fun w' hw' => ?_) ?_ : _)
            · exact rfl
            · go_simp
            go_frame
            refine (quiet_plain' ?_ (.bool true) (fun w' hw' => ?_) ?_ : _)
            · exact rfl
            · go_simp
            go_frame
            refine (quiet_plain' ?_ (.slice aK Rk.length cK) (fun w' hw' => ?_) ?_ : _)
            · exact rfl
            · go_simp
            go_frame
            refine (quiet_call' ?_ (.int .i64 (y1 : Int)) 53 #[.slice aK Rk.length cK] (fun w' hw' => ⟨?_, ?_⟩) ?_ : _)
            · exact rfl
            · obtain ⟨f0, f1, f2⟩ := HF.out w' hw'.out
              go_simp
            · exact (HBY1.out w' hw'.out).mono (fun e w6 ⟨he, hb⟩ => ⟨he, Lib.hid (hw'.out.trans (hb.mono hw'.out.size))⟩)
            go_frame
            refine (quiet_plain' ?_ (.pointer (some ⟨t, 0, none⟩)) (fun w' hw' => ?_) ?_ : _)
            · exact rfl
            · go_simp
            go_frame
            refine (quiet_plain' ?_ (.pointer (some ⟨t, 0, none⟩)) (fun w' hw' => ?_) ?_ : _)
            · exact rfl
            · go_simp
            go_frame
            refine (quiet_plain' ?_ (.pointer (some ⟨t, 2, none⟩)) (fun w' hw' => ?_) ?_ : _)
            · exact rfl
            · go_simp
            go_frame
            refine (quiet_plain' ?_ (.slice aX R.length cX) (fun w' hw' => ?_) ?_ : _)
            · exact rfl
            · obtain ⟨f0, f1, f2⟩ := HF.out w' hw'.out
              go_simp
            go_frame
            refine (quiet_call' ?_ (.int .i64 (y2 : Int)) 53 #[.slice aX R.length cX] (fun w' hw' => ⟨?_, ?_⟩) ?_ : _)
            · exact rfl
            · obtain ⟨f0, f1, f2⟩ := HF.out w' hw'.out
              go_simp
            · exact (HBY2.out w' hw'.out).mono (fun e w6 ⟨he, hb⟩ => ⟨he, Lib.hid (hw'.out.trans (hb.mono hw'.out.size))⟩)
            go_frame
            refine (quiet_plain' ?_ (.bool true) (fun w' hw' => ?_) ?_ : _)
            · exact rfl
            · go_simp
            go_frame
            refine (quiet_plain' ?_ (.bool true) (fun w' hw' => ?_) ?_ : _)
            · exact rfl
            · go_simp
            go_frame
            refine (quiet_plain' ?_ (.bool true) (fun w' hw' => ?_) ?_ : _)
            · exact rfl
            · go_simp
            go_frame
            refine (wpQuiet_nil ?_ : _)
            intro W6 hW6
            go_wp2_with fail
            go_meet
            case rel => exact ⟨by rw [HOV2.out]; simp only [HhA.out, HhC.out, HhD.out]; simp, hW6⟩
          have hDd : decide ((y2 : Int) < (y1 : Int)) = false := by simp; omega
          have hDi : ¬ (y2 : Int) < (y1 : Int) := by omega
          have HhD : Hid (decide (y2 < y1) = false) := Lib.hid (by simp; omega)
          refine wp_region_quiet (C := fun w' => Hid (Below wr.heap.size wr w')) (by kernel_rfl) (by kernel_rfl) (Lib.hid (Below.drew (Below.refl _ _))) ?_
          refine (quiet_plain' ?_ (.slice aK Rk.length cK) (fun w' hw' => ?_) ?_ : _)
          · exact rfl
          · go_simp
          go_frame
          refine (quiet_plain' ?_ (.int .i64 (Rk.length : Int)) (fun w' hw' => ?_) ?_ : _)
          · exact rfl
          · go_simp
          go_frame
          refine (quiet_plain' ?_ (.pointer (some ⟨t, 0, none⟩)) (fun w' hw' => ?_) ?_ : _)
          · exact rfl
          · go_simp
          go_frame
          refine (quiet_plain' ?_ (.pointer (some ⟨t, 0, none⟩)) (fun w' hw' => ?_) ?_ : _)
          · exact rfl
          · go_simp
          go_frame
          refine (quiet_plain' ?_ (.pointer (some ⟨t, 0, none⟩)) (fun w' hw' => ?_) ?_ : _)
          · exact rfl
          · go_simp
          go_frame
          refine (quiet_plain' ?_ (.pointer (some ⟨t, 0, none⟩)) (fun w' hw' => ?_) ?_ : _)
          · exact rfl
          · go_simp
          go_frame
          refine (quiet_plain' ?_ (.int .i64 q1) (fun w' hw' => ?_) ?_ : _)
          · exact rfl
          · obtain ⟨f0, f1, f2⟩ := HF.out w' hw'.out
            go_simp
          go_frame
          refine (quiet_plain' ?_ (.bool false) (fun w' hw' => ?_) ?_ : _)
          · exact rfl
          · go_simp
          go_frame
          refine (quiet_plain' ?_ (.bool false) (fun w' hw' => ?_) ?_ : _)
          · exact rfl
          · go_simp
          go_frame
          refine (quiet_skip ?_ ?_ : _)
          · exact rfl
          go_frame
          refine (quiet_skip ?_ ?_ : _)
          · exact rfl
          go_frame
          refine (quiet_skip ?_ ?_ : _)
          · exact rfl
          go_frame
          refine (quiet_skip ?_ ?_ : _)
          · exact rfl
          go_frame
          refine (quiet_skip ?_ ?_ : _)
          · exact rfl
          go_frame
          refine (quiet_skip ?_ ?_ : _)
          · exact rfl
          go_frame
          refine (quiet_skip ?_ ?_ : _)
          · exact rfl
          go_frame
          refine (quiet_skip ?_ ?_ : _)
          · exact rfl
          go_frame
          refine (quiet_plain' ?_ (.bool false) (fun w' hw' => ?_) ?_ : _)
          · exact rfl
          · go_simp
          go_frame
          refine (quiet_plain' ?_ (.bool false) (fun w' hw' => ?_) ?_ : _)
          · exact rfl
          · go_simp
          go_frame
          refine (quiet_plain' ?_ (.slice aK Rk.length cK) (fun w' hw' => ?_) ?_ : _)
          · exact rfl
          · go_simp
          go_frame
          refine (quiet_call' ?_ (.int .i64 (y1 : Int)) 53 #[.slice aK Rk.length cK] (fun w' hw' => ⟨?_, ?_⟩) ?_ : _)
          · exact rfl
          · obtain ⟨f0, f1, f2⟩ := HF.out w' hw'.out
            go_simp
          · exact (HBY1.out w' hw'.out).mono (fun e w6 ⟨he, hb⟩ => ⟨he, Lib.hid (hw'.out.trans (hb.mono hw'.out.size))⟩)
          go_frame
          refine (quiet_plain' ?_ (.pointer (some ⟨t, 0, none⟩)) (fun w' hw' => ?_) ?_ : _)
          · exact rfl
          · go_simp
          go_frame
          refine (quiet_plain' ?_ (.pointer (some ⟨t, 0, none⟩)) (fun w' hw' => ?_) ?_ : _)
          · exact rfl
          · go_simp
          go_frame
          refine (quiet_plain' ?_ (.pointer (some ⟨t, 0, none⟩)) (fun w' hw' => ?_) ?_ : _)
          · exact rfl
          · go_simp
          go_frame
          refine (quiet_plain' ?_ (.pointer (some ⟨t, 1, none⟩)) (fun w' hw' => ?_) ?_ : _)
          · exact rfl
          · go_simp
          go_frame
          refine (quiet_plain' ?_ (.int .i64 q2) (fun w' hw' => ?_) ?_ : _)
          · exact rfl
          · obtain ⟨f0, f1, f2⟩ := HF.out w' hw'.out
            go_simp
          go_frame
          refine (quiet_plain' ?_ (.bool true) (fun w' hw' => ?_) ?_ : _)
          · exact rfl
          · go_simp
          go_frame
          refine (quiet_plain' ?_ (.bool true) (fun w' hw' => ?_) ?_ : _)
          · exact rfl
          · go_simp
          go_frame
          refine (quiet_plain' ?_ (.slice aK Rk.length cK) (fun w' hw' => ?_) ?_ : _)
          · exact rfl
          · go_simp
          go_frame
          refine (quiet_call' ?_ (.int .i64 (y1 : Int)) 53 #[.slice aK Rk.length cK] (fun w' hw' => ⟨?_, ?_⟩) ?_ : _)
          · exact rfl
          · obtain ⟨f0, f1, f2⟩ := HF.out w' hw'.out
            go_simp
          · exact (HBY1.out w' hw'.out).mono (fun e w6 ⟨he, hb⟩ => ⟨he, Lib.hid (hw'.out.trans (hb.mono hw'.out.size))⟩)
          go_frame
          refine (quiet_plain' ?_ (.pointer (some ⟨t, 0, none⟩)) (fun w' hw' => ?_) ?_ : _)
          · exact rfl
          · go_simp
          go_frame
          refine (quiet_plain' ?_ (.pointer (some ⟨t, 0, none⟩)) (fun w' hw' => ?_) ?_ : _)
          · exact rfl
          · go_simp
          go_frame
          refine (quiet_plain' ?_ (.pointer (some ⟨t, 2, none⟩)) (fun w' hw' => ?_) ?_ : _)
          · exact rfl
          · go_simp
          go_frame
          refine (quiet_plain' ?_ (.slice aX R.length cX) (fun w' hw' => ?_) ?_ : _)
          · exact rfl
          · obtain ⟨f0, f1, f2⟩ := HF.out w' hw'.out
            go_simp
          go_frame
          refine (quiet_call' ?_ (.int .i64 (y2 : Int)) 53 #[.slice aX R.length cX] (fun w' hw' => ⟨?_, ?_⟩) ?_ : _)
          · exact rfl
          · obtain ⟨f0, f1, f2⟩ := HF.out w' hw'.out
            go_simp
          · exact (HBY2.out w' hw'.out).mono (fun e w6 ⟨he, hb⟩ => ⟨he, Lib.hid (hw'.out.trans (hb.mono hw'.out.size))⟩)
          go_frame
          refine (quiet_plain' ?_ (.bool false) (fun w' hw' => ?_) ?_ : _)
          · exact rfl
          · go_simp
          go_frame
          refine (quiet_plain' ?_ (.bool false) (fun w' hw' => ?_) ?_ : _)
          · exact rfl
          · go_simp
          go_frame
          refine (quiet_plain' ?_ (.bool false) (fun w' hw' => ?_) ?_ : _)
          · exact rfl
          · go_simp
          go_frame
          refine (wpQuiet_nil ?_ : _)
          intro W6 hW6
          go_wp2_with fail
          go_meet
          case rel => exact ⟨by rw [HOV2.out]; simp only [HhA.out, HhC.out, HhD.out]; simp, hW6⟩
        have hCd : decide (q2 < (y1 : Int)) = false := by simp; omega
        have hCi : ¬ q2 < (y1 : Int) := by omega
        have HhC : Hid (decide (q2 < (y1 : Int)) = false) := Lib.hid (by simp; omega)
        refine wp_region_quiet (C := fun w' => Hid (Below wr.heap.size wr w')) (by kernel_rfl) (by kernel_rfl) (Lib.hid (Below.drew (Below.refl _ _))) ?_
        refine (quiet_plain' ?_ (.slice aK Rk.length cK) (fun w' hw' => ?_) ?_ : _)
        · exact rfl
        · go_simp
        go_frame
        refine (quiet_plain' ?_ (.int .i64 (Rk.length : Int)) (fun w' hw' => ?_) ?_ : _)
        · exact rfl
        · go_simp
        go_frame
        refine (quiet_plain' ?_ (.pointer (some ⟨t, 0, none⟩)) (fun w' hw' => ?_) ?_ : _)
        · exact rfl
        · go_simp
        go_frame
        refine (quiet_plain' ?_ (.pointer (some ⟨t, 0, none⟩)) (fun w' hw' => ?_) ?_ : _)
        · exact rfl
        · go_simp
        go_frame
        refine (quiet_plain' ?_ (.pointer (some ⟨t, 0, none⟩)) (fun w' hw' => ?_) ?_ : _)
        · exact rfl
        · go_simp
        go_frame
        refine (quiet_plain' ?_ (.pointer (some ⟨t, 0, none⟩)) (fun w' hw' => ?_) ?_ : _)
        · exact rfl
        · go_simp
        go_frame
        refine (quiet_plain' ?_ (.int .i64 q1) (fun w' hw' => ?_) ?_ : _)
        · exact rfl
        · obtain ⟨f0, f1, f2⟩ := HF.out w' hw'.out
          go_simp
        go_frame
        refine (quiet_plain' ?_ (.bool false) (fun w' hw' => ?_) ?_ : _)
        · exact rfl
        · go_simp
        go_frame
        refine (quiet_plain' ?_ (.bool false) (fun w' hw' => ?_) ?_ : _)
        · exact rfl
        · go_simp
        go_frame
        refine (quiet_skip ?_ ?_ : _)
        · exact rfl
        go_frame
        refine (quiet_skip ?_ ?_ : _)
        · exact rfl
        go_frame
        refine (quiet_skip ?_ ?_ : _)
        · exact rfl
        go_frame
        refine (quiet_skip ?_ ?_ : _)
        · exact rfl
        go_frame
        refine (quiet_skip ?_ ?_ : _)
        · exact rfl
        go_frame
        refine (quiet_skip ?_ ?_ : _)
        · exact rfl
        go_frame
        refine (quiet_skip ?_ ?_ : _)
        · exact rfl
        go_frame
        refine (quiet_skip ?_ ?_ : _)
        · exact rfl
        go_frame
        refine (quiet_plain' ?_ (.bool false) (fun w' hw' => ?_) ?_ : _)
        · exact rfl
        · go_simp
        go_frame
        refine (quiet_plain' ?_ (.bool false) (fun w' hw' => ?_) ?_ : _)
        · exact rfl
        · go_simp
        go_frame
        refine (quiet_plain' ?_ (.slice aK Rk.length cK) (fun w' hw' => ?_) ?_ : _)
        · exact rfl
        · go_simp
        go_frame
        refine (quiet_call' ?_ (.int .i64 (y1 : Int)) 53 #[.slice aK Rk.length cK] (fun w' hw' => ⟨?_, ?_⟩) ?_ : _)
        · exact rfl
        · obtain ⟨f0, f1, f2⟩ := HF.out w' hw'.out
          go_simp
        · exact (HBY1.out w' hw'.out).mono (fun e w6 ⟨he, hb⟩ => ⟨he, Lib.hid (hw'.out.trans (hb.mono hw'.out.size))⟩)
        go_frame
        refine (quiet_plain' ?_ (.pointer (some ⟨t, 0, none⟩)) (fun w' hw' => ?_) ?_ : _)
        · exact rfl
        · go_simp
        go_frame
        refine (quiet_plain' ?_ (.pointer (some ⟨t, 0, none⟩)) (fun w' hw' => ?_) ?_ : _)
        · exact rfl
        · go_simp
        go_frame
        refine (quiet_plain' ?_ (.pointer (some ⟨t, 0, none⟩)) (fun w' hw' => ?_) ?_ : _)
        · exact rfl
        · go_simp
        go_frame
        refine (quiet_plain' ?_ (.pointer (some ⟨t, 1, none⟩)) (fun w' hw' => ?_) ?_ : _)
        · exact rfl
        · go_simp
        go_frame
        refine (quiet_plain' ?_ (.int .i64 q2) (fun w' hw' => ?_) ?_ : _)
        · exact rfl
        · obtain ⟨f0, f1, f2⟩ := HF.out w' hw'.out
          go_simp
        go_frame
        refine (quiet_plain' ?_ (.bool false) (fun w' hw' => ?_) ?_ : _)
        · exact rfl
        · go_simp
        go_frame
        refine (quiet_plain' ?_ (.bool false) (fun w' hw' => ?_) ?_ : _)
        · exact rfl
        · go_simp
        go_frame
        refine (quiet_skip ?_ ?_ : _)
        · exact rfl
        go_frame
        refine (quiet_skip ?_ ?_ : _)
        · exact rfl
        go_frame
        refine (quiet_skip ?_ ?_ : _)
        · exact rfl
        go_frame
        refine (quiet_skip ?_ ?_ : _)
        · exact rfl
        go_frame
        refine (quiet_skip ?_ ?_ : _)
        · exact rfl
        go_frame
        refine (quiet_skip ?_ ?_ : _)
        · exact rfl
        go_frame
        refine (quiet_skip ?_ ?_ : _)
        · exact rfl
        go_frame
        refine (quiet_skip ?_ ?_ : _)
        · exact rfl
        go_frame
        refine (quiet_plain' ?_ (.bool false) (fun w' hw' => ?_) ?_ : _)
        · exact rfl
        · go_simp
        go_frame
        refine (quiet_plain' ?_ (.bool false) (fun w' hw' => ?_) ?_ : _)
        · exact rfl
        · go_simp
        go_frame
        refine (wpQuiet_nil ?_ : _)
        intro W6 hW6
        go_wp2_with fail
        go_meet
        case rel => exact ⟨by rw [HOV2.out]; simp only [HhA.out, HhC.out]; simp, hW6⟩
      case rest =>
        obtain ⟨rfl, HX⟩ := hcut
        obtain ⟨X, hX⟩ : ∃ X, X = wc := ⟨_, rfl⟩
        subst wc
        have HBX := Lib.hid (HBw.out.trans (HX.out.mono HBw.out.size))
        have HTX := Lib.hid (HTw.out.below HX.out)
        have HIKX := Lib.hid (HIK.out.below HX.out (Nat.le_refl _))
        have HNX : Hid (IsNums X (.slice av vs.length cv) vs) := Lib.hid (IsNums.own (ownBelow HVO.out HX.out))
        cases ov with
        | true =>
          obtain rfl : r = ((l.length, 180), Rk, vs) := by rw [HTR.out, if_neg (by simp), HOV.out]; rfl
          go_wp2_with fail
          refine bodyPost_ret (v := .tuple #[.slice none 0 0, .int .i64 l.length, .int .i64 180]) ?_ rfl ⟨.slice none 0 0, rfl, ?_, ?_, ?_, ?_, ButS.of HBX.out, fun k hk => by cases hk⟩
          · simp [results, Tryz.results40, go_sem]
          · exact ⟨none, 0, rfl, Or.inl rfl⟩
          · rw [if_neg (fun h => absurd h.2 (by simp))]; exact HTX.out
          · rw [if_neg (fun h => absurd h.2 (by simp))]; exact HOR.out
          · rw [if_neg (fun h => absurd h.2 (by simp))]; omega
        | false =>
          obtain rfl : r = ((0, 0), Rk, vs) := by rw [HTR.out, if_neg (by simp), HOV.out]; rfl
          cases keep with
          | true =>
            obtain ⟨aZ, cZ, c2, _⟩ := HTX.out.c2
            have f2 := HTX.out.f2
            go_wp2_with fail
            have hb := HTX.out.bare
            refine bodyPost_ret (v := .tuple #[.slice av vs.length cv, .int .i64 0, .int .i64 0]) ?_ rfl ⟨.slice av vs.length cv, rfl, ?_, ?_, ?_, ?_, ?_, fun k hk => ownAbove HVO.out k hk⟩
            · simp [results, Tryz.results40, go_sem]
            · rw [if_pos rfl]
              exact HNX.out.but (ButS.set (S := fun k => k = t) X (p := ⟨t, 2, none⟩) rfl _) (fun k hk => by subst hk; exact hb)
            · rw [if_pos ⟨rfl, rfl⟩]; exact HTX.out.store HIKX.out (fun a n c he => by cases he; exact HLK.out.2)
            · rw [if_pos ⟨rfl, rfl⟩]; exact HOK.out
            · rw [if_pos ⟨rfl, rfl⟩]; show Rk.length ≤ R.length + vs.length; have := HVK.out; have := HLK.out.1; omega
            · exact (ButS.of HBX.out).trans (ButS.set (S := fun k => k = t) X (p := ⟨t, 2, none⟩) rfl _)
          | false =>
            go_wp2_with fail
            refine bodyPost_ret (v := .tuple #[.slice av vs.length cv, .int .i64 0, .int .i64 0]) ?_ rfl ⟨.slice av vs.length cv, rfl, ?_, ?_, ?_, ?_, ButS.of HBX.out, fun k hk => ownAbove HVO.out k hk⟩
            · simp [results, Tryz.results40, go_sem]
            · rw [if_pos rfl]; exact HNX.out
            · rw [if_neg (fun h => absurd h.1 (by simp))]; exact HTX.out
            · rw [if_neg (fun h => absurd h.1 (by simp))]; exact HOR.out
            · rw [if_neg (fun h => absurd h.1 (by simp))]; omega
end Go.Proofs.YtfbgnpfhjbiikaaGreatDoor

namespace Go.Proofs.YtfbgnpfhjbiikaaGreatDoor
open Go Go.RowKit
open Pth
def readR (R : List Rw) (p : ByteArray) (n : Nat) : Ver × Nat := if mayP p = false then (dV, 2) else if ∀ x ∈ R, x.1 ≠ p then (dV, 3) else readE (cellR R p) n
theorem cellR_at2 {l : List Rw} (h : Up l) {p : ByteArray} {z : Int} (hz : AtG l p z) : (z = -1 ∧ cellR l p = ⟨0, []⟩ ∧ ∀ x ∈ l, x.1 ≠ p) ∨ ∃ k : Nat, z = k ∧ k < l.length ∧ cellR l p = (l.getD k dR).2 ∧ ¬ ∀ x ∈ l, x.1 ≠ p := by
  rcases hz with ⟨k, hk, rfl, he, _⟩ | ⟨rfl, hn⟩
  · have hm : l.getD k dR ∈ l := by rw [List.getD_eq_getElem?_getD, List.getElem?_eq_getElem hk]; exact List.getElem_mem hk
    exact Or.inr ⟨k, rfl, hk, by rw [← he]; exact cellR_of h hm, fun hn => hn _ hm he⟩
  · exact Or.inl ⟨rfl, cellR_none hn, hn⟩

set_option maxRecDepth 100000 in
set_option maxHeartbeats 2000000 in
theorem ref18_read (R : List Rw) (t : Nat) (q1 q2 : Int) (p : ByteArray) (n : Nat) (w : World) (h : RefAt w t q1 q2 R) (hR : OkR R) (hRl : R.length ≤ 500000) (hp : p.size ≤ 140737488351232) :
    Calls Tryz.prog 21 #[.pointer (some ⟨t, 0, none⟩), .string p, .int .u64 n] w fun e w' => e = .returned (.tuple #[verVal (readR R p n).1, .int .i64 (readR R p n).2]) ∧ Below w.heap.size w w' := by
  have HRR : Hid (readR R p n = if mayP p = false then (dV, 2) else if ∀ x ∈ R, x.1 ≠ p then (dV, 3) else readE (cellR R p) n) := Lib.hid rfl
  generalize readR R p n = r at HRR
  obtain ⟨aR, cR, hc2, hI, _⟩ := h.c2
  have hlt := h.lt
  have HF := Lib.hid (fun (w' : World) (hb : Below w.heap.size w w') => (hb.cell (p := ⟨t, 2, none⟩) hlt).trans hc2)
  have HAT := Lib.hid (fun (w' : World) (hb : Below w.heap.size w w') => ref18_at R (.slice aR R.length cR) p w' (hI.below hb (Nat.le_refl _)) (by omega))
  have HCR := Lib.hid (fun (z : Int) (hz : AtG R p z) => cellR_at2 hR.up hz)
  have HPI := Lib.hid (fun (w' : World) => ref16_pieces p hp w')
  have HPZ := Lib.hid (fun (m : List ByteArray) (h : m.map (·.data.toList) = piecesL p.data.toList) => pieces_zero h)
  have HC : Hid (R = [] ∨ ∃ b off, aR = some ⟨b, off, none⟩ ∧ b < w.heap.size ∧ ∀ i, i < R.length →
    w.cell? ⟨b, off + i * 3, none⟩ = some (.string (R.getD i dR).1) ∧ w.cell? ⟨b, off + i * 3 + 1, none⟩ = some (.int .u64 (R.getD i dR).2.last) ∧ ∃ s, w.cell? ⟨b, off + i * 3 + 2, none⟩ = some s ∧ IsVers w s (R.getD i dR).2.l) := Lib.hid (by
    obtain ⟨a', c', he, hc⟩ := hI
    cases he; exact hc)
  have HRD := Lib.hid (fun (s : Value) (w' : World) (hs : IsVers w' s (cellR R p).l) => ref17_read (cellR R p) s n w' hs (by have := may_len (hR.cell p).1; omega))
  obtain ⟨none', hnone⟩ : ∃ b : Prop, (∀ x ∈ R, x.1 ≠ p) = b := ⟨_, rfl⟩
  obtain ⟨E, hE⟩ : ∃ E, readE (cellR R p) n = E := ⟨_, rfl⟩
  obtain ⟨C, hC⟩ : ∃ C, cellR R p = C := ⟨_, rfl⟩
  have HRR2 : Hid ((mayP p = false → r = (dV, 2)) ∧ (mayP p = true → (∀ x ∈ R, x.1 ≠ p) → r = (dV, 3)) ∧ (mayP p = true → (¬ ∀ x ∈ R, x.1 ≠ p) → r = E)) := Lib.hid (by
    rw [← hE, HRR.out]
    exact ⟨fun h => by rw [if_pos h], fun h h2 => by rw [if_neg (by simp [h]), if_pos h2], fun h h2 => by rw [if_neg (by simp [h]), if_neg h2]⟩)
  rw [hE] at HRD
  rw [hC] at HCR HRD
  generalize mayP p = y at HRR2 HPZ
  clear hC hE h hR hI hc2 HRR hnone
  go_enter Tryz.func21, Tryz.ntmps21
  go_upto_region 1 with fail
  refine wp_abs (F := fun W => One w.heap.size #[.int .u64 0, .int .u8 0, .string ByteArray.empty] W ∧ Below w.heap.size w W) ⟨One.of w _ _, (Below.refl _ _).alloc (Nat.le_refl _) _⟩ ?_
  rintro W ⟨ho, hb⟩
  have HO := Lib.hid ho; have HB := Lib.hid hb
  clear ho hb
  go_wp2_with fail
  refine (HPI.out _).mono ?_
  rintro e w1 ⟨vp, m, rfl, hp1, hp2, hb1⟩
  have hz := HPZ.out m hp2
  obtain ⟨ap, cp, rfl, _⟩ := hp1
  have HB1 := Lib.hid (HB.out.trans (hb1.mono HB.out.size))
  have HO1 := Lib.hid (HO.out.step hb1)
  have z0 := HO1.out.c 0; have z1 := HO1.out.c 1; have z2 := HO1.out.c 2; have g0 := HO1.out.f 0; have g1 := HO1.out.f 1; have g2 := HO1.out.f 2
  simp at z0 z1 z2
  have c2 := HF.out w1 HB1.out
  clear hp2 hb1
  have Hend : Hid (∀ (U : World) (u0 u1 u2 : Value), Below w.heap.size w U → Below w.heap.size w (((U.setCell ⟨w.heap.size, 0, none⟩ u0).setCell ⟨w.heap.size, 1, none⟩ u1).setCell ⟨w.heap.size, 2, none⟩ u2)) := Lib.hid (fun U u0 u1 u2 h => ((h.setCell (Nat.le_refl _) _).setCell (Nat.le_refl _) _).setCell (Nat.le_refl _) _)
  cases y with
  | false =>
    simp only [Bool.not_false] at hz
    obtain rfl : r = (dV, 2) := HRR2.out.1 (by first | rfl | trivial)
    go_wp2_with fail
    refine bodyPost_ret (v := .tuple #[verVal dV, .int .i64 2]) ?_ rfl ⟨rfl, Hend.out _ _ _ _ HB1.out⟩
    simp [results, Tryz.results21, go_sem, z0, z1, z2, verVal, dV]; rfl
  | true =>
    simp only [Bool.not_true] at hz
    go_wp2_with fail
    refine (HAT.out _ HB1.out).mono ?_
    rintro e w2 ⟨z, rfl, hzat, hw2⟩
    subst w2
    rcases HCR.out z hzat with ⟨rfl, hcz, hno⟩ | ⟨k, rfl, hk, hck, hno⟩
    · obtain rfl : r = (dV, 3) := HRR2.out.2.1 (by first | rfl | trivial) hno
      go_wp2_with fail
      refine bodyPost_ret (v := .tuple #[verVal dV, .int .i64 3]) ?_ rfl ⟨rfl, Hend.out _ _ _ _ HB1.out⟩
      simp [results, Tryz.results21, go_sem, z0, z1, z2, verVal, dV]; rfl
    · obtain rfl : r = E := HRR2.out.2.2 (by first | rfl | trivial) hno
      rcases HC.out with hn | ⟨b, off, rfl, hbl, hcc⟩
      · subst hn; simp at hk
      obtain ⟨_, f1, s, f2, hs⟩ := hcc k hk
      rw [← hck] at f1 hs
      have e1 := (HB1.out.cell (p := ⟨b, off + k * 3 + 1, none⟩) hbl).trans f1
      have e2 := (HB1.out.cell (p := ⟨b, off + k * 3 + 2, none⟩) hbl).trans f2
      have HS := Lib.hid (hs.below HB1.out (Nat.le_refl _))
      obtain ⟨sa, sc, rfl, _⟩ := hs
      have hki : (k : Int) < (R.length : Int) := by omega
      clear hcc hck hzat hno f1 f2
      go_wp2_with fail
      refine (HRD.out _ _ HS.out).mono ?_
      rintro e w3 ⟨rfl, hb3⟩
      have HO3 := Lib.hid (HO1.out.step hb3)
      have HB3 := Lib.hid (HB1.out.trans (hb3.mono HB1.out.size))
      clear z0 z1 z2 g0 g1 g2 hb3
      have z0 := HO3.out.c 0; have z1 := HO3.out.c 1; have z2 := HO3.out.c 2; have g0 := HO3.out.f 0; have g1 := HO3.out.f 1; have g2 := HO3.out.f 2
      simp at z0 z1 z2
      unfold verVal
      go_wp2_with fail
      refine bodyPost_ret (v := .tuple #[verVal r.1, .int .i64 r.2]) ?_ rfl ⟨rfl, Hend.out _ _ _ _ HB3.out⟩
      simp [results, Tryz.results21, go_sem, z0, z1, z2, verVal]
end Go.Proofs.YtfbgnpfhjbiikaaGreatDoor

namespace Go.Proofs.YtfbgnpfhjbiikaaGreatDoor
open Go Go.RowKit
open Pth
def liveR (R : List Rw) : List ByteArray := (R.filter (fun x => decide (0 < nowC x.2))).map (·.1)
theorem liveR_snoc {R : List Rw} {k : Nat} (h : k < R.length) : liveR (R.take (k + 1)) = if 0 < nowC (R.getD k dR).2 then liveR (R.take k) ++ [(R.getD k dR).1] else liveR (R.take k) := by
  unfold liveR
  rw [List.take_succ_eq_append_getElem h, List.filter_append, List.map_append, List.getD_eq_getElem?_getD, List.getElem?_eq_getElem h]
  by_cases hn : 0 < nowC R[k].2
  · simp [hn]
  · simp [hn]
theorem liveR_len (R : List Rw) (k : Nat) : (liveR (R.take k)).length ≤ k := by
  unfold liveR
  rw [List.length_map]
  exact Nat.le_trans (List.length_filter_le _ _) (by simp; omega)
theorem liveR_mem {R : List Rw} {s : ByteArray} (h : s ∈ liveR R) : ∃ x ∈ R, x.1 = s := by
  unfold liveR at h
  obtain ⟨x, hx, rfl⟩ := List.mem_map.1 h
  exact ⟨x, (List.mem_filter.1 hx).1, rfl⟩

set_option maxRecDepth 100000 in
set_option maxHeartbeats 2000000 in
theorem ref18_listF (R : List Rw) (t : Nat) (q1 q2 : Int) (p : ByteArray) (w : World) (h : RefAt w t q1 q2 R) (hR : OkR R) (hRl : R.length ≤ 500000) (hp : p.size ≤ 140737488351232) :
    Calls Tryz.prog 28 #[.pointer (some ⟨t, 0, none⟩), .string p] w (RNamesF p.data.toList (liveR R) w) := by
  obtain ⟨aR, cR, hc2, hI, _⟩ := h.c2
  have hlt := h.lt
  have HF := Lib.hid (fun (w' : World) (hb : Below w.heap.size w w') => (hb.cell (p := ⟨t, 2, none⟩) hlt).trans hc2)
  have HC : Hid (R = [] ∨ ∃ b off, aR = some ⟨b, off, none⟩ ∧ b < w.heap.size ∧ ∀ i, i < R.length →
    w.cell? ⟨b, off + i * 3, none⟩ = some (.string (R.getD i dR).1) ∧ w.cell? ⟨b, off + i * 3 + 1, none⟩ = some (.int .u64 (R.getD i dR).2.last) ∧ ∃ s, w.cell? ⟨b, off + i * 3 + 2, none⟩ = some s ∧ IsVers w s (R.getD i dR).2.l) := Lib.hid (by
    obtain ⟨a', c', he, hc⟩ := hI
    cases he; exact hc)
  have HNW := Lib.hid (fun (k : Nat) (hk : k < R.length) (s : Value) (w' : World) (hs : IsVers w' s (R.getD k dR).2.l) => ref17_now (R.getD k dR).2 s w' hs (by have := may_len (hR.at hk).1.2.1; omega))
  have HNM := Lib.hid (fun (v : Value) (w' : World) (hv : IsStrs w' v (liveR R)) => ref16_namesF p (liveR R) v w' hp (by have := liveR_len R R.length; rw [List.take_length] at this; omega) (fun i hi => by
    have hm : (liveR R).getD i ByteArray.empty ∈ liveR R := by rw [List.getD_eq_getElem?_getD, List.getElem?_eq_getElem hi]; exact List.getElem_mem hi
    obtain ⟨x, hx, hxe⟩ := liveR_mem hm
    rw [← hxe]
    have := mayP_size (hR.ok x hx).1.1; omega) hv)
  obtain ⟨i0, hi, hz0, hz1, hz2⟩ := info_parts info9
  clear h hR hc2 hI
  go_enter Tryz.func28, Tryz.ntmps28
  go_wp2_with fail
  go_loopw [5, 6] (fun s5 i wr => ∃ (k n : Nat) (a : Option Addr) (c : Nat), k ≤ R.length ∧ i = .int .i64 k ∧ s5 = .slice a n c ∧ Hid (n = (liveR (R.take k)).length) ∧ Hid (wr.ownsRow w.heap.size 9 1 (.slice a n c) n ((liveR (R.take k)).map Value.string)) ∧ Hid (Below w.heap.size w wr)) (fun _ i _ => R.length - (intOf i).toNat)
  case atStart => exact ⟨0, 0, none, 0, Nat.zero_le _, rfl, rfl, Lib.hid rfl, Lib.hid (World.ownsRow_nil _ _ _ _), Lib.hid (Below.refl _ _)⟩
  case round =>
    obtain ⟨k, n, a5, c5, hk, rfl, rfl, hn, hrow, hbw⟩ := hrel
    have c2 := HF.out wr hbw.out
    have hnl : n ≤ 500000 := by have := hn.out; have := liveR_len R k; omega
    by_cases hltk : k < R.length
    · rcases HC.out with hne | ⟨b, off, rfl, hbl, hcc⟩
      · subst hne; simp at hltk
      obtain ⟨f0, f1, s, f2, hs⟩ := hcc k hltk
      have HS := Lib.hid (hs.below hbw.out (Nat.le_refl _))
      have HNK := Lib.hid (HNW.out k hltk)
      have HL := Lib.hid (liveR_snoc hltk)
      have e0 := (hbw.out.cell (p := ⟨b, off + k * 3, none⟩) hbl).trans f0
      have e1 := (hbw.out.cell (p := ⟨b, off + k * 3 + 1, none⟩) hbl).trans f1
      have e2 := (hbw.out.cell (p := ⟨b, off + k * 3 + 2, none⟩) hbl).trans f2
      obtain ⟨x, hx⟩ : ∃ x, R.getD k dR = x := ⟨_, rfl⟩
      rw [hx] at HS HNK HL e0 e1 hs
      obtain ⟨sa, sc, rfl, _⟩ := hs
      have HE0 := Lib.hid (fun (U : World) (h : Below w.heap.size w U) => (h.cell (p := ⟨b, off + k * 3, none⟩) hbl).trans f0)
      rw [hx] at HE0
      have hki : (k : Int) < (R.length : Int) := by omega
      obtain ⟨nw, hnw⟩ : ∃ nw, nowC x.2 = nw := ⟨_, rfl⟩
      rw [hnw] at HNK HL
      clear f0 f1 f2 hcc hx hnw
      go_wp2_with fail
      refine (HNK.out _ _ HS.out).mono ?_
      rintro e w3 ⟨rfl, hb3⟩
      have HB3 := Lib.hid (hbw.out.trans (hb3.mono hbw.out.size))
      have HR3 := Lib.hid (ownBelow hrow.out hb3)
      clear e0 e1 e2 c2 hb3
      have c2 := HF.out w3 HB3.out
      have e0 := HE0.out w3 HB3.out
      by_cases hpos : 0 < nw
      · have hpi : (0 : Int) < (nw : Int) := by omega
        have HL2 : Hid (liveR (R.take (k + 1)) = liveR (R.take k) ++ [x.1]) := Lib.hid (by rw [HL.out, if_pos hpos])
        go_wp2_with (
          at_builtin
          refine wpList_append_own _ rfl (.tmp 26) (.tmp 35) 24 rfl w.heap.size 9 i0 (.string ByteArray.empty) 1 16 Tryz.underlying24 hi hz0 hz1 hz2 rfl (by decide) _ _ _ rfl (ownBelow HR3.out ((Below.refl _ _).alloc (Nat.le_refl _) _)) ⟨w3.heap.size, 0, none⟩ 1 1 [.string x.1] rfl rfl (World.news_of_block (MapKept.heap_alloc _ _).1) (by intro u hu; rcases List.mem_singleton.1 hu with rfl; rfl) (by unfold maxLen; omega) (by omega) (by have := HB3.out.size; simp; omega) ?go
          intro v5 w5 hown5 hg5 _
          obtain ⟨a6, c6, rfl⟩ := ownShape hown5
          have HO5 := Lib.hid hown5; have HG5 := Lib.hid hg5
          clear hown5 hg5)
        go_roundw
        case rel =>
          refine ⟨k + 1, n + 1, a6, c6, by omega, by go_num, rfl, Lib.hid (by rw [HL2.out, List.length_append, ← hn.out]; rfl), Lib.hid ?_, Lib.hid ((HB3.out.alloc HB3.out.size _).grown HG5.out (HB3.out.alloc HB3.out.size _).size (fun k hk => ownAbove HR3.out k hk))⟩
          rw [HL2.out, List.map_append]; exact HO5.out
        case measure => simp [intOf]; omega
      · have hpi : ¬ (0 : Int) < (nw : Int) := by omega
        have HL2 : Hid (liveR (R.take (k + 1)) = liveR (R.take k)) := Lib.hid (by rw [HL.out, if_neg hpos])
        go_wp2_with fail
        go_roundw
        case rel => exact ⟨k + 1, n, a5, c5, by omega, by go_num, rfl, Lib.hid (by rw [HL2.out]; exact hn.out), Lib.hid (by rw [HL2.out]; exact HR3.out), HB3⟩
        case measure => simp [intOf]; omega
    · have hge : (R.length : Int) ≤ (k : Int) := by omega
      have HST : Hid (IsStrs wr (.slice a5 n c5) (liveR R)) := Lib.hid (by
        have h1 := hrow.out
        have h2 := hn.out
        rw [List.take_of_length_le (by omega)] at h1 h2
        rw [h2] at h1 ⊢
        exact IsStrs.own h1)
      go_wp2_with fail
      refine (HNM.out _ _ HST.out).mono ?_
      rintro e w3 ⟨v3, Z, rfl, h1, h2, hb3, hfr⟩
      have HFR : Hid (∀ k, v3.ownBlock = some k → w.heap.size ≤ k) := Lib.hid (fun k hk => Nat.le_trans hbw.out.size (hfr k hk))
      have H1 := Lib.hid h1; have H2 := Lib.hid h2; have HB3 := Lib.hid (hbw.out.trans (hb3.mono hbw.out.size))
      clear h1 h2 hb3 hfr
      go_wp2_with fail
      go_ret
      exact ⟨v3, Z, rfl, H1.out, H2.out, HB3.out, HFR.out⟩
end Go.Proofs.YtfbgnpfhjbiikaaGreatDoor

namespace Go.Proofs.YtfbgnpfhjbiikaaGreatDoor
open Go Go.RowKit
open Pth
theorem IsRows.take {w : World} {a : Option Addr} {cap : Nat} {l : List Rw} (h : IsRows w (.slice a l.length cap) l) {k : Nat} (hk : k ≤ l.length) (cap' : Nat) : IsRows w (.slice a k cap') (l.take k) := by
  obtain ⟨a', c', he, hc⟩ := h
  cases he
  refine ⟨a, cap', by rw [List.length_take, Nat.min_eq_left hk], ?_⟩
  rcases hc with rfl | ⟨b, off, rfl, hb, hcc⟩
  · left; simp
  · right
    refine ⟨b, off, rfl, hb, fun i hi => ?_⟩
    rw [List.length_take, Nat.min_eq_left hk] at hi
    have hg : (l.take k).getD i dR = l.getD i dR := by rw [List.getD_eq_getElem?_getD, List.getD_eq_getElem?_getD, List.getElem?_take_of_lt hi]
    rw [hg]
    exact hcc i (by omega)
theorem RefAt.nostr {w : World} {t : Nat} {q1 q2 : Int} {R : List Rw} (h : RefAt w t q1 q2 R) : ∀ k, k = t → NoStr w k ∧ NoVers w k := fun k hk => by subst hk; exact ⟨h.bare.noStr, h.bare.noVers⟩
end Go.Proofs.YtfbgnpfhjbiikaaGreatDoor

namespace Go.Proofs.YtfbgnpfhjbiikaaGreatDoor
open Go Go.RowKit
open Pth
def offR (R : List Rw) (p : ByteArray) : List Rw := R.filter (fun x => decide (x.1 ≠ p))
theorem OkR.off {R : List Rw} (h : OkR R) (p : ByteArray) : OkR (offR R p) := ⟨h.up.filter _, fun x hx => h.ok x (List.mem_filter.1 hx).1⟩
theorem IsRows.cells {w : World} {b off cap : Nat} {l : List Rw} (h : IsRows w (.slice (some ⟨b, off, none⟩) l.length cap) l) : ∃ T : List (Rw × Value), T.map (·.1) = l ∧ (∀ x ∈ T, IsVers w x.2 x.1.2.l) ∧ ∀ j u, (rowCells T)[j]? = some u → w.cell? ⟨b, off + j, none⟩ = some u := by
  obtain ⟨a', c', he, hc⟩ := h
  cases he
  rcases hc with rfl | ⟨b', off', he, _, hcc⟩
  · exact ⟨[], rfl, fun x hx => (by cases hx), fun j u hu => (by cases hu)⟩
  · cases he
    have hS : ∀ i, ∃ s, i < l.length → w.cell? ⟨b, off + i * 3 + 2, none⟩ = some s ∧ IsVers w s (l.getD i dR).2.l := fun i => by
      by_cases hi : i < l.length
      · obtain ⟨_, _, s, h1, h2⟩ := hcc i hi
        exact ⟨s, fun _ => ⟨h1, h2⟩⟩
      · exact ⟨.slice none 0 0, fun h => absurd h hi⟩
    obtain ⟨S, hS⟩ := Classical.axiomOfChoice hS
    have hlen : ((List.range l.length).map (fun i => (l.getD i dR, S i))).length = l.length := by simp
    have hget : ∀ i, i < l.length → ((List.range l.length).map (fun i => (l.getD i dR, S i))).getD i dRV = (l.getD i dR, S i) := fun i hi => by simp [List.getD_eq_getElem?_getD, hi]
    refine ⟨(List.range l.length).map (fun i => (l.getD i dR, S i)), ?_, ?_, ?_⟩
    · rw [List.map_map]
      refine List.ext_getElem (by simp) fun i h1 h2 => ?_
      simp [List.getD_eq_getElem?_getD, h2]
    · intro x hx
      obtain ⟨i, hi, rfl⟩ := List.mem_map.1 hx
      exact (hS i (List.mem_range.1 hi)).2
    · intro j u hu
      have hj : j < l.length * 3 := by
        have := (List.getElem?_eq_some_iff.1 hu).1
        rwa [rowCells_length, hlen] at this
      obtain ⟨r0, r1, r2⟩ := rowCells_at _ (j / 3) (by rw [hlen]; omega)
      rw [hget _ (by omega)] at r0 r1 r2
      obtain ⟨g0, g1, _⟩ := hcc (j / 3) (by omega)
      obtain ⟨g2, _⟩ := hS (j / 3) (by omega)
      rcases (show j = j / 3 * 3 ∨ j = j / 3 * 3 + 1 ∨ j = j / 3 * 3 + 2 by omega) with e | e | e
      · rw [← e] at r0 g0; rw [r0] at hu; rw [← hu]; exact g0
      · rw [← e] at r1; rw [r1] at hu; rw [← hu]
        have e2 : off + j / 3 * 3 + 1 = off + j := by omega
        rw [e2] at g1; exact g1
      · rw [← e] at r2; rw [r2] at hu; rw [← hu]
        have e2 : off + j / 3 * 3 + 2 = off + j := by omega
        rw [e2] at g2; exact g2
theorem IsVers.one {w : World} {v : Value} {l : List Ver} (h : IsVers w v l) : v.oneCell' = true := by
  obtain ⟨a, c, rfl, _⟩ := h; rfl
end Go.Proofs.YtfbgnpfhjbiikaaGreatDoor

namespace Go.Proofs.YtfbgnpfhjbiikaaGreatDoor
open Go Go.RowKit
open Pth
theorem strs_but {S : Nat → Prop} {w w' : World} {v : Value} {l : List ByteArray} (h : IsStrs w v l) (hb : ButS S w w') (hS : ∀ k, S k → NoStr w k) : IsStrs w' v l := by
  obtain ⟨a, cap, hv, h⟩ := h
  refine ⟨a, cap, hv, ?_⟩
  rcases h with h | ⟨b, off, ha, hlt, hc⟩
  · exact Or.inl h
  · by_cases hl : l = []
    · exact Or.inl hl
    have hne : ¬ S b := fun hs => hS b hs _ _ (hc 0 (List.length_pos_iff.2 hl))
    exact Or.inr ⟨b, off, ha, Nat.lt_of_lt_of_le hlt hb.size, fun i hi => (hb.cell (p := ⟨b, off + i, none⟩) hlt hne).trans (hc i hi)⟩
end Go.Proofs.YtfbgnpfhjbiikaaGreatDoor
