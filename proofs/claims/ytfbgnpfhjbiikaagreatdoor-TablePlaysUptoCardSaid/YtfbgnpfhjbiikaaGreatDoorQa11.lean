/- Contract: scriniumlaw18.stands, where the document's rows are the table's. Region lemma of TablePlays: the two new tables. scriniumlaw18.TablePlays: the walk. What the bound on an input's bulk gives. Acts that came in, opened; what an input's bound on its bulk gives of each. -/
import Derived.Test.YtfbgnpfhjbiikaaGreatDoorQa10
import Derived.Test.YtfbgnpfhjbiikaaGreatDoorRows
namespace Go.Proofs.YtfbgnpfhjbiikaaGreatDoor
open Go Go.RowKit
open Pth
open Go.Maps (has size Canon CanonK Tidy IsMap KeysOf Keyed Merged)
def findReg (n : Nat) : Code → Option (Array Oper)
  | .region k ops _ => if k = n then some ops else none
  | .seq a b => match findReg n a with
    | some o => some o
    | none => findReg n b
  | .cond _ a b => match findReg n a with
    | some o => some o
    | none => findReg n b
  | .block _ c => findReg n c
  | .loop c => findReg n c
  | .scope c => findReg n c
  | _ => none
noncomputable def opsS : Array Oper := ((Tryz.f19.body.bind (findReg 2)).getD #[])
def posS (i : Nat) : Nat := if i = 25 then 0 else i + 8
def ValC (t r m c : Nat) (by0 sz : Int) (a : Option Addr) : Nat → Value → Prop
  | 0 => fun v => v = .pointer (some ⟨t, 0, none⟩)
  | 2 => fun v => v = .pointer (some ⟨r, 0, none⟩)
  | 3 => fun v => v = .pointer (some ⟨r, 0, none⟩)
  | 4 => fun v => v = .pointer (some ⟨r, 2, none⟩)
  | 5 => fun v => v = .slice a m c
  | 6 => fun v => v = .bool true
  | 7 => fun v => v = .bool true
  | 8 => fun v => v = .int .i64 sz
  | 9 => fun v => v = .pointer (some ⟨r, 0, none⟩)
  | 10 => fun v => v = .pointer (some ⟨r, 0, none⟩)
  | 11 => fun v => v = .pointer (some ⟨r, 2, none⟩)
  | 12 => fun v => v = .slice a m c
  | 13 => fun v => v = .int .i64 (m : Int)
  | 14 => fun v => v = .bool true
  | 15 => fun v => v = .bool true
  | 16 => fun v => v = .bool true
  | 17 => fun v => v = .int .i64 by0
  | 18 => fun v => v = .pointer (some ⟨r, 0, none⟩)
  | 19 => fun v => v = .pointer (some ⟨r, 0, none⟩)
  | 20 => fun v => v = .pointer (some ⟨r, 2, none⟩)
  | 21 => fun v => v = .slice a m c
  | 22 => fun v => v = .int .i64 by0
  | 23 => fun v => v = .bool true
  | 24 => fun v => v = .bool true
  | 25 => fun v => v = .bool true
  | _ => fun _ => False
def ValS (L : List Rw) (t r m c : Nat) (by0 sz : Int) (a : Option Addr) (i : Nat) (v : Value) (w : World) : Prop := if i = 1 then IsRows w v L else ValC t r m c by0 sz a i v
theorem ValS.mono {L : List Rw} {t r m c : Nat} {by0 sz : Int} {a : Option Addr} {w w' : World} (hb : Below w.heap.size w w') (j : Nat) (u : Value) (h : ValS L t r m c by0 sz a j u w) : ValS L t r m c by0 sz a j u w' := by
  unfold ValS at h ⊢
  split at h
  · rename_i e; rw [if_pos e]; exact IsRows.below h hb (Nat.le_refl _)
  · rename_i e; rw [if_neg e]; exact h
theorem ValS.self {L : List Rw} {t r m c : Nat} {by0 sz : Int} {a : Option Addr} {w : World} (j : Nat) (u : Value) (h : ValS L t r m c by0 sz a j u w) : ValS L t r m c by0 sz a j u w := h

set_option maxRecDepth 100000 in
set_option maxHeartbeats 4000000 in
theorem regS {C : World → Prop} {Q : Exit → Act → World → Prop} {w : World} (base : Array Value) (hz : base.size = 37) (L : List Rw) (t r m c : Nat) (by0 sz : Int) (a : Option Addr)
    (s0 : base.getD 0 undef = .pointer (some ⟨t, 0, none⟩)) (s1 : base.getD 1 undef = .pointer (some ⟨r, 0, none⟩)) (s5 : base.getD 5 undef = .int .i64 sz) (s6 : base.getD 6 undef = .int .i64 by0) (hC0 : C { w with drawn := w.drawn + 1 }) (hszm : (sz == (m : Int)) = true)
    (hC : ∀ w', C w' → w'.cell? ⟨r, 2, none⟩ = some (.slice a m c))
    (hRow : ∀ w', C w' → Calls Tryz.prog 12 #[.pointer (some ⟨t, 0, none⟩)] w' (fun e w'' => ∃ v, e = .returned v ∧ IsRows w'' v L ∧ C w'' ∧ Below w'.heap.size w' w''))
    (hSame : ∀ w' v, C w' → IsRows w' v L → Calls Tryz.prog 15 #[v, .slice a m c] w' (fun e w'' => e = .returned (.bool true) ∧ C w'' ∧ Below w'.heap.size w' w''))
    (hByt : ∀ w', C w' → Calls Tryz.prog 53 #[.slice a m c] w' (fun e w'' => e = .returned (.int .i64 by0) ∧ C w'' ∧ Below w'.heap.size w' w''))
    (hQ : ∀ (f : Nat → Value) w', f 0 = .bool true → C w' → Q .normal (AF base 4 33 f) w') : (Code.region 2 opsS true).wp Tryz.prog Q ⟨base, []⟩ w := by
  have hsz : 4 + 33 ≤ base.size := by omega
  have hbb : (by0 == by0) = true := by simp
  conv => arg 2; arg 2; whnf
  refine wp_region_told (by kernel_rfl) C (ValS L t r m c by0 sz a) posS 4 33 ?lex hC0 ?pos ?step (fun f w' h hc _ => hQ f w' (h 25 (by decide)) hc)
  case lex =>
    intro i o h
    rcases i with _ | _ | _ | _ | _ | _ | _ | _ | _ | _ | _ | _ | _ | _ | _ | _ | _ | _ | _ | _ | _ | _ | _ | _ | _ | _ | i <;> simp at h <;> subst h <;> simp [Region.binds]
  case pos =>
    intro i j hi hj h
    have hi : i < 26 := hi
    have hj : j < 26 := hj
    unfold posS at h
    split at h <;> split at h <;> omega
  case step =>
    intro i' o f w ho hdep hc hfx
    have hf1 : f 1 = .int .i64 sz := (hfx 1 (fun k h => by unfold posS at h; split at h <;> omega)).trans s5
    have hf2 : f 2 = .int .i64 by0 := (hfx 2 (fun k h => by unfold posS at h; split at h <;> omega)).trans s6
    clear hfx
    rcases i' with _ | _ | _ | _ | _ | _ | _ | _ | _ | _ | _ | _ | _ | _ | _ | _ | _ | _ | _ | _ | _ | _ | _ | _ | _ | _ | i' <;> simp only [List.getElem?_toArray, List.getElem?_cons_zero, List.getElem?_cons_succ, List.getElem?_nil, Option.some.injEq, reduceCtorEq, Nat.reduceAdd] at ho
    · subst ho
      refine ⟨rfl, by decide, wanted_none rfl, fun K hK => ?_⟩
      simp only [Oper.wp, execOp, AF_eval hsz]
      simp only [Nat.reduceAdd, Nat.reduceSub, Nat.reduceLeDiff, Nat.reduceLT, and_true, if_false]
      go_simp
      exact hK _ _ rfl hc ValS.self
    · subst ho
      have hd0 : f 8 = .pointer (some ⟨t, 0, none⟩) := hdep ⟨0, .data⟩ (by simp) rfl
      refine ⟨rfl, by decide, wanted_none rfl, fun K hK => ?_⟩
      simp only [Oper.wp, execOp, resolve, List.map_toArray, List.map_cons, List.map_nil, AF_eval hsz]
      simp only [Nat.reduceAdd, Nat.reduceSub, Nat.reduceLeDiff, Nat.reduceLT, and_self, if_true, hd0]
      go_simp
      refine (hRow w hc).mono ?_
      rintro e w2 ⟨v, rfl, hv, hc2, hb2⟩
      exact hK _ _ hv hc2 (ValS.mono hb2)
    · subst ho
      refine ⟨rfl, by decide, wanted_none rfl, fun K hK => ?_⟩
      simp only [Oper.wp, execOp, AF_eval hsz]
      simp only [Nat.reduceAdd, Nat.reduceSub, Nat.reduceLeDiff, Nat.reduceLT, and_true, if_false]
      go_simp
      exact hK _ _ rfl hc ValS.self
    · subst ho
      have hd2 : f 10 = .pointer (some ⟨r, 0, none⟩) := hdep ⟨2, .data⟩ (by simp) rfl
      refine ⟨rfl, by decide, wanted_none rfl, fun K hK => ?_⟩
      simp only [Oper.wp, execOp, AF_eval hsz]
      simp only [Nat.reduceAdd, Nat.reduceSub, Nat.reduceLeDiff, Nat.reduceLT, and_self, if_true, hd2]
      go_simp
      exact hK _ _ rfl hc ValS.self
    · subst ho
      have hd3 : f 11 = .pointer (some ⟨r, 0, none⟩) := hdep ⟨3, .data⟩ (by simp) rfl
      refine ⟨rfl, by decide, wanted_none rfl, fun K hK => ?_⟩
      simp only [Oper.wp, execOp, AF_eval hsz]
      simp only [Nat.reduceAdd, Nat.reduceSub, Nat.reduceLeDiff, Nat.reduceLT, and_self, if_true, hd3]
      go_simp
      exact hK _ _ rfl hc ValS.self
    · subst ho
      have hd4 : f 12 = .pointer (some ⟨r, 2, none⟩) := hdep ⟨4, .data⟩ (by simp) rfl
      refine ⟨rfl, by decide, wanted_none rfl, fun K hK => ?_⟩
      have k0 := hC w hc
      simp only [Oper.wp, execOp, AF_eval hsz]
      simp only [Nat.reduceAdd, Nat.reduceSub, Nat.reduceLeDiff, Nat.reduceLT, and_self, if_true, hd4]
      go_simp
      exact hK _ _ rfl hc ValS.self
    · subst ho
      have hd1 : IsRows w (f 9) L := hdep ⟨1, .data⟩ (by simp) rfl
      have hd5 : f 13 = .slice a m c := hdep ⟨5, .data⟩ (by simp) rfl
      refine ⟨rfl, by decide, wanted_none rfl, fun K hK => ?_⟩
      simp only [Oper.wp, execOp, resolve, List.map_toArray, List.map_cons, List.map_nil, AF_eval hsz]
      simp only [Nat.reduceAdd, Nat.reduceSub, Nat.reduceLeDiff, Nat.reduceLT, and_self, if_true, hd5]
      go_simp
      refine (hSame w _ hc hd1).mono ?_
      rintro e w2 ⟨rfl, hc2, hb2⟩
      exact hK _ _ rfl hc2 (ValS.mono hb2)
    · subst ho
      have hd6 : f 14 = .bool true := hdep ⟨6, .data⟩ (by simp) rfl
      refine ⟨rfl, by decide, wanted_none rfl, fun K hK => ?_⟩
      simp only [Oper.wp, execOp, AF_eval hsz]
      simp only [Nat.reduceAdd, Nat.reduceSub, Nat.reduceLeDiff, Nat.reduceLT, and_self, if_true, hd6]
      go_simp
      exact hK _ _ rfl hc ValS.self
    · subst ho
      have hg : f 15 = .bool true := hdep ⟨7, .guard⟩ (by simp) rfl
      refine ⟨rfl, by decide, wanted_some rfl (yield_in (o := 15) rfl rfl hsz (by decide) hg) rfl, fun K hK => ?_⟩
      simp only [Oper.wp, execOp, AF_eval hsz]
      simp only [Nat.reduceAdd, Nat.reduceSub, Nat.reduceLeDiff, Nat.reduceLT, and_self, if_true, hf1]
      go_simp
      exact hK _ _ rfl hc ValS.self
    · subst ho
      have hg : f 15 = .bool true := hdep ⟨7, .guard⟩ (by simp) rfl
      refine ⟨rfl, by decide, wanted_some rfl (yield_in (o := 15) rfl rfl hsz (by decide) hg) rfl, fun K hK => ?_⟩
      simp only [Oper.wp, execOp, AF_eval hsz]
      simp only [Nat.reduceAdd, Nat.reduceSub, Nat.reduceLeDiff, Nat.reduceLT, and_true, if_false]
      go_simp
      exact hK _ _ rfl hc ValS.self
    · subst ho
      have hg : f 15 = .bool true := hdep ⟨7, .guard⟩ (by simp) rfl
      have hd9 : f 17 = .pointer (some ⟨r, 0, none⟩) := hdep ⟨9, .data⟩ (by simp) rfl
      refine ⟨rfl, by decide, wanted_some rfl (yield_in (o := 15) rfl rfl hsz (by decide) hg) rfl, fun K hK => ?_⟩
      simp only [Oper.wp, execOp, AF_eval hsz]
      simp only [Nat.reduceAdd, Nat.reduceSub, Nat.reduceLeDiff, Nat.reduceLT, and_self, if_true, hd9]
      go_simp
      exact hK _ _ rfl hc ValS.self
    · subst ho
      have hg : f 15 = .bool true := hdep ⟨7, .guard⟩ (by simp) rfl
      have hd10 : f 18 = .pointer (some ⟨r, 0, none⟩) := hdep ⟨10, .data⟩ (by simp) rfl
      refine ⟨rfl, by decide, wanted_some rfl (yield_in (o := 15) rfl rfl hsz (by decide) hg) rfl, fun K hK => ?_⟩
      simp only [Oper.wp, execOp, AF_eval hsz]
      simp only [Nat.reduceAdd, Nat.reduceSub, Nat.reduceLeDiff, Nat.reduceLT, and_self, if_true, hd10]
      go_simp
      exact hK _ _ rfl hc ValS.self
    · subst ho
      have hg : f 15 = .bool true := hdep ⟨7, .guard⟩ (by simp) rfl
      have hd11 : f 19 = .pointer (some ⟨r, 2, none⟩) := hdep ⟨11, .data⟩ (by simp) rfl
      refine ⟨rfl, by decide, wanted_some rfl (yield_in (o := 15) rfl rfl hsz (by decide) hg) rfl, fun K hK => ?_⟩
      have k0 := hC w hc
      simp only [Oper.wp, execOp, AF_eval hsz]
      simp only [Nat.reduceAdd, Nat.reduceSub, Nat.reduceLeDiff, Nat.reduceLT, and_self, if_true, hd11]
      go_simp
      exact hK _ _ rfl hc ValS.self
    · subst ho
      have hg : f 15 = .bool true := hdep ⟨7, .guard⟩ (by simp) rfl
      have hd12 : f 20 = .slice a m c := hdep ⟨12, .data⟩ (by simp) rfl
      refine ⟨rfl, by decide, wanted_some rfl (yield_in (o := 15) rfl rfl hsz (by decide) hg) rfl, fun K hK => ?_⟩
      simp only [Oper.wp, execOp, resolve, List.map_toArray, List.map_cons, List.map_nil, AF_eval hsz]
      simp only [Nat.reduceAdd, Nat.reduceSub, Nat.reduceLeDiff, Nat.reduceLT, and_self, if_true, hd12]
      go_simp
      exact hK _ _ rfl hc ValS.self
    · subst ho
      have hg : f 15 = .bool true := hdep ⟨7, .guard⟩ (by simp) rfl
      have hd8 : f 16 = .int .i64 sz := hdep ⟨8, .data⟩ (by simp) rfl
      have hd13 : f 21 = .int .i64 (m : Int) := hdep ⟨13, .data⟩ (by simp) rfl
      refine ⟨rfl, by decide, wanted_some rfl (yield_in (o := 15) rfl rfl hsz (by decide) hg) rfl, fun K hK => ?_⟩
      simp only [Oper.wp, execOp, AF_eval hsz]
      simp only [Nat.reduceAdd, Nat.reduceSub, Nat.reduceLeDiff, Nat.reduceLT, and_self, if_true, hd8, hd13]
      go_simp
      exact hK _ _ rfl hc ValS.self
    · subst ho
      have hd7 : f 15 = .bool true := hdep ⟨7, .data⟩ (by simp) rfl
      have hd14 : f 22 = .bool true := hdep ⟨14, .data⟩ (by simp) rfl
      refine ⟨rfl, by decide, wanted_none rfl, fun K hK => ?_⟩
      simp only [Oper.wp, execOp, AF_eval hsz]
      simp only [Nat.reduceAdd, Nat.reduceSub, Nat.reduceLeDiff, Nat.reduceLT, and_self, if_true, hd7, hd14]
      go_simp
      exact hK _ _ rfl hc ValS.self
    · subst ho
      have hd15 : f 23 = .bool true := hdep ⟨15, .data⟩ (by simp) rfl
      refine ⟨rfl, by decide, wanted_none rfl, fun K hK => ?_⟩
      simp only [Oper.wp, execOp, AF_eval hsz]
      simp only [Nat.reduceAdd, Nat.reduceSub, Nat.reduceLeDiff, Nat.reduceLT, and_self, if_true, hd15]
      go_simp
      exact hK _ _ rfl hc ValS.self
    · subst ho
      have hg : f 24 = .bool true := hdep ⟨16, .guard⟩ (by simp) rfl
      refine ⟨rfl, by decide, wanted_some rfl (yield_in (o := 24) rfl rfl hsz (by decide) hg) rfl, fun K hK => ?_⟩
      simp only [Oper.wp, execOp, AF_eval hsz]
      simp only [Nat.reduceAdd, Nat.reduceSub, Nat.reduceLeDiff, Nat.reduceLT, and_self, if_true, hf2]
      go_simp
      exact hK _ _ rfl hc ValS.self
    · subst ho
      have hg : f 24 = .bool true := hdep ⟨16, .guard⟩ (by simp) rfl
      refine ⟨rfl, by decide, wanted_some rfl (yield_in (o := 24) rfl rfl hsz (by decide) hg) rfl, fun K hK => ?_⟩
      simp only [Oper.wp, execOp, AF_eval hsz]
      simp only [Nat.reduceAdd, Nat.reduceSub, Nat.reduceLeDiff, Nat.reduceLT, and_true, if_false]
      go_simp
      exact hK _ _ rfl hc ValS.self
    · subst ho
      have hg : f 24 = .bool true := hdep ⟨16, .guard⟩ (by simp) rfl
      have hd18 : f 26 = .pointer (some ⟨r, 0, none⟩) := hdep ⟨18, .data⟩ (by simp) rfl
      refine ⟨rfl, by decide, wanted_some rfl (yield_in (o := 24) rfl rfl hsz (by decide) hg) rfl, fun K hK => ?_⟩
      simp only [Oper.wp, execOp, AF_eval hsz]
      simp only [Nat.reduceAdd, Nat.reduceSub, Nat.reduceLeDiff, Nat.reduceLT, and_self, if_true, hd18]
      go_simp
      exact hK _ _ rfl hc ValS.self
    · subst ho
      have hg : f 24 = .bool true := hdep ⟨16, .guard⟩ (by simp) rfl
      have hd19 : f 27 = .pointer (some ⟨r, 0, none⟩) := hdep ⟨19, .data⟩ (by simp) rfl
      refine ⟨rfl, by decide, wanted_some rfl (yield_in (o := 24) rfl rfl hsz (by decide) hg) rfl, fun K hK => ?_⟩
      simp only [Oper.wp, execOp, AF_eval hsz]
      simp only [Nat.reduceAdd, Nat.reduceSub, Nat.reduceLeDiff, Nat.reduceLT, and_self, if_true, hd19]
      go_simp
      exact hK _ _ rfl hc ValS.self
    · subst ho
      have hg : f 24 = .bool true := hdep ⟨16, .guard⟩ (by simp) rfl
      have hd20 : f 28 = .pointer (some ⟨r, 2, none⟩) := hdep ⟨20, .data⟩ (by simp) rfl
      refine ⟨rfl, by decide, wanted_some rfl (yield_in (o := 24) rfl rfl hsz (by decide) hg) rfl, fun K hK => ?_⟩
      have k0 := hC w hc
      simp only [Oper.wp, execOp, AF_eval hsz]
      simp only [Nat.reduceAdd, Nat.reduceSub, Nat.reduceLeDiff, Nat.reduceLT, and_self, if_true, hd20]
      go_simp
      exact hK _ _ rfl hc ValS.self
    · subst ho
      have hg : f 24 = .bool true := hdep ⟨16, .guard⟩ (by simp) rfl
      have hd21 : f 29 = .slice a m c := hdep ⟨21, .data⟩ (by simp) rfl
      refine ⟨rfl, by decide, wanted_some rfl (yield_in (o := 24) rfl rfl hsz (by decide) hg) rfl, fun K hK => ?_⟩
      simp only [Oper.wp, execOp, resolve, List.map_toArray, List.map_cons, List.map_nil, AF_eval hsz]
      simp only [Nat.reduceAdd, Nat.reduceSub, Nat.reduceLeDiff, Nat.reduceLT, and_self, if_true, hd21]
      go_simp
      refine (hByt w hc).mono ?_
      rintro e w2 ⟨rfl, hc2, hb2⟩
      exact hK _ _ rfl hc2 (ValS.mono hb2)
    · subst ho
      have hg : f 24 = .bool true := hdep ⟨16, .guard⟩ (by simp) rfl
      have hd17 : f 25 = .int .i64 by0 := hdep ⟨17, .data⟩ (by simp) rfl
      have hd22 : f 30 = .int .i64 by0 := hdep ⟨22, .data⟩ (by simp) rfl
      refine ⟨rfl, by decide, wanted_some rfl (yield_in (o := 24) rfl rfl hsz (by decide) hg) rfl, fun K hK => ?_⟩
      simp only [Oper.wp, execOp, AF_eval hsz]
      simp only [Nat.reduceAdd, Nat.reduceSub, Nat.reduceLeDiff, Nat.reduceLT, and_self, if_true, hd17, hd22]
      go_simp
      exact hK _ _ rfl hc ValS.self
    · subst ho
      have hd16 : f 24 = .bool true := hdep ⟨16, .data⟩ (by simp) rfl
      have hd23 : f 31 = .bool true := hdep ⟨23, .data⟩ (by simp) rfl
      refine ⟨rfl, by decide, wanted_none rfl, fun K hK => ?_⟩
      simp only [Oper.wp, execOp, AF_eval hsz]
      simp only [Nat.reduceAdd, Nat.reduceSub, Nat.reduceLeDiff, Nat.reduceLT, and_self, if_true, hd16, hd23]
      go_simp
      exact hK _ _ rfl hc ValS.self
    · subst ho
      have hd24 : f 32 = .bool true := hdep ⟨24, .data⟩ (by simp) rfl
      refine ⟨rfl, by decide, wanted_none rfl, fun K hK => ?_⟩
      simp only [Oper.wp, execOp, AF_eval hsz]
      simp only [Nat.reduceAdd, Nat.reduceSub, Nat.reduceLeDiff, Nat.reduceLT, and_self, if_true, hd24]
      go_simp
      exact hK _ _ rfl hc ValS.self

set_option maxRecDepth 100000 in
set_option maxHeartbeats 8000000 in
theorem law_stands (t b r : Nat) (q1 q2 p1 p2 : Int) (M : DataW Cel) (w : World) (h : Duo w t b r q1 q2 p1 p2 M (rowsL M)) (hsM : size M ≤ 400000) :
    Calls Tryz.prog 19 #[.pointer (some ⟨t, 0, none⟩), .pointer (some ⟨r, 0, none⟩)] w fun e w' => e = .returned (.bool true) ∧ Below w.heap.size w w' := by
  have HSz := Lib.hid (tab_size w h.hT)
  have HD := Lib.hid h
  have hrl := h.hR.lt
  obtain ⟨a, c, hc2, hI, hcp⟩ := h.hR.c2
  have HF : Hid (∀ W, Below w.heap.size w W → W.cell? ⟨r, 2, none⟩ = some (.slice a (rowsL M).length c)) := Lib.hid (fun W hW => (hW.cell hrl).trans hc2)
  have HI : Hid (∀ W, Below w.heap.size w W → IsRows W (.slice a (rowsL M).length c) (rowsL M)) := Lib.hid (fun W hW => hI.below hW (Nat.le_refl _))
  have hlen : (rowsL M).length = size M := rows_length h.hG.canon
  have HRow : Hid (∀ W, Below w.heap.size w W → Calls Tryz.prog 12 #[.pointer (some ⟨t, 0, none⟩)] W (fun e w'' => ∃ v, e = .returned v ∧ IsRows w'' v (rowsL M) ∧ Below w.heap.size w w'' ∧ Below W.heap.size W w'')) := Lib.hid (fun W hW => by
    refine (tab_rows W (HD.out.below hW).hT HD.out.hG (by omega)).mono ?_
    rintro e w2 ⟨v, rfl, hv, hb⟩
    exact ⟨v, rfl, hv, hW.trans (hb.mono hW.size), hb⟩)
  have HSame : Hid (∀ W v, Below w.heap.size w W → IsRows W v (rowsL M) → Calls Tryz.prog 15 #[v, .slice a (rowsL M).length c] W (fun e w'' => e = .returned (.bool true) ∧ Below w.heap.size w w'' ∧ Below W.heap.size W w'')) := Lib.hid (fun W v hW hv => by
    refine (ref18_same (rowsL M) v _ W hv (HI.out W hW) (by omega) (fun i hi => ?_)).mono ?_
    · have := may_len (HD.out.hO.at hi).1.2.1; omega
    · rintro e w' ⟨rfl, hb⟩; exact ⟨rfl, hW.trans (hb.mono hW.size), hb⟩)
  have HByt : Hid (∀ W, Below w.heap.size w W → Calls Tryz.prog 53 #[.slice a (rowsL M).length c] W (fun e w'' => e = .returned (.int .i64 (bytesR (rowsL M))) ∧ Below w.heap.size w w'' ∧ Below W.heap.size W w'')) := Lib.hid (fun W hW => by
    refine (ref18_bytes (rowsL M) _ W (HI.out W hW) (by omega) (fun i hi => ⟨(HD.out.hO.at hi).1.1, (HD.out.hO.at hi).1.2.1⟩)).mono ?_
    rintro e w' ⟨rfl, hb⟩; exact ⟨rfl, hW.trans (hb.mono hW.size), hb⟩)
  clear hI hcp h hc2
  have hlenI : ((size M : Int) == ((rowsL M).length : Int)) = true := by rw [hlen]; simp
  obtain ⟨m, hm⟩ : ∃ m, (rowsL M).length = m := ⟨_, rfl⟩
  rw [hm] at HF HI HSame HByt hlenI
  obtain ⟨by0, hby⟩ : ∃ b : Int, (bytesR (rowsL M) : Int) = b := ⟨_, rfl⟩
  rw [hby] at HByt HSz
  go_enter Tryz.func19, Tryz.ntmps19
  go_wp2_with fail
  refine HSz.out.mono ?_
  rintro e w1 ⟨rfl, hb1⟩
  have HB1 := Lib.hid hb1
  clear hb1
  go_upto_region 2 with fail
  refine (regS (C := fun w' => Below w.heap.size w w') _ ?_ (rowsL M) t r m c by0 (size M) a ?_ ?_ ?_ ?_ (Below.drew HB1.out) hlenI (fun w' hw' => HF.out w' hw') (fun w' hw' => HRow.out w' hw') (fun w' v hw' hv => HSame.out w' v hw' hv) (fun w' hw' => HByt.out w' hw') (fun f w3 hf hw3 => ?_) : _)
  all_goals try exact rfl
  have HW3 := Lib.hid hw3
  clear hw3
  rw [AF_splice]
  simp only [splice, Nat.reduceAdd, hf]
  go_wp2_with fail
  go_ret
  exact ⟨rfl, HW3.out⟩
end Go.Proofs.YtfbgnpfhjbiikaaGreatDoor

namespace Go.Proofs.YtfbgnpfhjbiikaaGreatDoor
open Go Go.RowKit
open Pth
open Go.Maps (has size Canon CanonK Tidy IsMap KeysOf Keyed Merged)
noncomputable def opsT : Array Oper := ((Tryz.f4.body.bind (findReg 3)).getD #[])
def posT (i : Nat) : Nat := if i = 5 then 0 else if i = 6 then 1 else i + 18
def NewT (B : Nat) (q1 q2 : Int) (v : Value) (w : World) : Prop := ∃ t b, v = .pointer (some ⟨t, 0, none⟩) ∧ B ≤ t ∧ B ≤ b ∧ TabAt w t b q1 q2 (.map []) 0
def NewR (B : Nat) (q1 q2 : Int) (v : Value) (w : World) : Prop := ∃ r, v = .pointer (some ⟨r, 0, none⟩) ∧ B ≤ r ∧ One r #[.int .i64 q1, .int .i64 q2, .slice none 0 0] w
def ValT (B : Nat) (q1 q2 : Int) : Nat → Value → World → Prop
  | 0 => fun v _ => v = .agg #[.int .i64 q1, .int .i64 q2]
  | 1 => NewT B q1 q2
  | 2 => fun v _ => v = .agg #[.int .i64 q1, .int .i64 q2]
  | 3 => fun v _ => v = .agg #[.int .i64 q1, .int .i64 q2, .slice none 0 0]
  | 4 => NewR B q1 q2
  | 5 => NewT B q1 q2
  | 6 => NewR B q1 q2
  | _ => fun _ _ => False
theorem NewT.below {B : Nat} {q1 q2 : Int} {v : Value} {w w' : World} (h : NewT B q1 q2 v w) (hb : Below w.heap.size w w') : NewT B q1 q2 v w' := by
  obtain ⟨t, b, h1, h2, h3, h4⟩ := h
  exact ⟨t, b, h1, h2, h3, h4.below hb⟩
theorem NewR.below {B : Nat} {q1 q2 : Int} {v : Value} {w w' : World} (h : NewR B q1 q2 v w) (hb : Below w.heap.size w w') : NewR B q1 q2 v w' := by
  obtain ⟨r, h1, h2, h3⟩ := h
  exact ⟨r, h1, h2, h3.step hb⟩
theorem ValT.mono {B : Nat} {q1 q2 : Int} {w w' : World} (hb : Below w.heap.size w w') (j : Nat) (u : Value) (h : ValT B q1 q2 j u w) : ValT B q1 q2 j u w' := by
  rcases j with _ | _ | _ | _ | _ | _ | _ | j
  · exact h
  · exact NewT.below h hb
  · exact h
  · exact h
  · exact NewR.below h hb
  · exact NewT.below h hb
  · exact NewR.below h hb
  · exact h
theorem ValT.self {B : Nat} {q1 q2 : Int} {w : World} (j : Nat) (u : Value) (h : ValT B q1 q2 j u w) : ValT B q1 q2 j u w := h
theorem zeroRef (w : World) : (zeroValue 37).run Tryz.prog w = .ok (.agg #[.int .i64 0, .int .i64 0, .slice none 0 0]) w := by kernel_rfl

set_option maxRecDepth 100000 in
set_option maxHeartbeats 4000000 in
theorem regT {C : World → Prop} {Q : Exit → Act → World → Prop} {w : World} (base : Array Value) (hz : base.size = 105) (B z : Nat) (q1 q2 : Int)
    (s5 : base.getD 5 undef = .pointer (some ⟨z, 0, none⟩)) (hC0 : C { w with drawn := w.drawn + 1 })
    (hC : ∀ w', C w' → w'.cell? ⟨z, 0, none⟩ = some (.int .i64 q1) ∧ w'.cell? ⟨z, 1, none⟩ = some (.int .i64 q2) ∧ B ≤ w'.heap.size)
    (hCb : ∀ w' w'', C w' → Below w'.heap.size w' w'' → C w'')
    (hQ : ∀ (f : Nat → Value) w', NewT B q1 q2 (f 0) w' → NewR B q1 q2 (f 1) w' → C w' → (∀ j, 2 ≤ j → j < 7 → f j = base.getD (11 + j) undef) → Q .normal (AF base 11 23 f) w') : (Code.region 3 opsT true).wp Tryz.prog Q ⟨base, []⟩ w := by
  have hsz : 11 + 23 ≤ base.size := by omega
  have hzr := zeroRef
  conv => arg 2; arg 2; whnf
  refine wp_region_told (by kernel_rfl) C (ValT B q1 q2) posT 11 23 ?lex hC0 ?pos ?step (fun f w' h hc hfx => hQ f w' (h 5 (by decide)) (h 6 (by decide)) hc (fun j h2 h7 => hfx j (fun k e => by unfold posT at e; split at e <;> (try split at e) <;> omega)))
  case lex =>
    intro i o h
    rcases i with _ | _ | _ | _ | _ | _ | _ | i <;> simp at h <;> subst h <;> simp [Region.binds]
  case pos =>
    intro i j hi hj h
    have hi : i < 7 := hi
    have hj : j < 7 := hj
    unfold posT at h
    split at h <;> split at h <;> (try split at h) <;> (try split at h) <;> omega
  case step =>
    intro i' o f w ho hdep hc hfx
    clear hfx
    obtain ⟨k0, k1, kB⟩ := hC w hc
    rcases i' with _ | _ | _ | _ | _ | _ | _ | i' <;> simp only [List.getElem?_toArray, List.getElem?_cons_zero, List.getElem?_cons_succ, List.getElem?_nil, Option.some.injEq, reduceCtorEq, Nat.reduceAdd] at ho
    · subst ho
      refine ⟨rfl, by decide, wanted_none rfl, fun K hK => ?_⟩
      simp only [Oper.wp, execOp, AF_eval hsz]
      simp only [Nat.reduceAdd, Nat.reduceSub, Nat.reduceLeDiff, Nat.reduceLT, and_true, if_false, s5]
      go_simp
      exact hK _ _ rfl hc ValT.self
    · subst ho
      have hd0 : f 18 = .agg #[.int .i64 q1, .int .i64 q2] := hdep ⟨0, .data⟩ (by simp) rfl
      refine ⟨rfl, by decide, wanted_none rfl, fun K hK => ?_⟩
      simp only [Oper.wp, execOp, resolve, List.map_toArray, List.map_cons, List.map_nil, AF_eval hsz]
      simp only [Nat.reduceAdd, Nat.reduceSub, Nat.reduceLeDiff, Nat.reduceLT, and_self, if_true, hd0]
      go_simp
      refine (tab_new q1 q2 w).mono ?_
      rintro e w2 ⟨t, b, rfl, ht, hb, hT, hbb⟩
      exact hK _ _ ⟨t, b, rfl, by omega, by omega, hT⟩ (hCb _ _ hc hbb) (ValT.mono hbb)
    · subst ho
      refine ⟨rfl, by decide, wanted_none rfl, fun K hK => ?_⟩
      simp only [Oper.wp, execOp, AF_eval hsz]
      simp only [Nat.reduceAdd, Nat.reduceSub, Nat.reduceLeDiff, Nat.reduceLT, and_true, if_false, s5]
      go_simp
      exact hK _ _ rfl hc ValT.self
    · subst ho
      have hd2 : f 20 = .agg #[.int .i64 q1, .int .i64 q2] := hdep ⟨2, .data⟩ (by simp) rfl
      refine ⟨rfl, by decide, wanted_none rfl, fun K hK => ?_⟩
      simp only [Oper.wp, execOp, List.map_toArray, List.map_cons, List.map_nil, AF_eval hsz]
      simp only [Nat.reduceAdd, Nat.reduceSub, Nat.reduceLeDiff, Nat.reduceLT, and_self, if_true, hd2]
      go_simp
      exact hK _ _ rfl hc ValT.self
    · subst ho
      have hd3 : f 21 = .agg #[.int .i64 q1, .int .i64 q2, .slice none 0 0] := hdep ⟨3, .data⟩ (by simp) rfl
      refine ⟨rfl, by decide, wanted_none rfl, fun K hK => ?_⟩
      simp only [Oper.wp, execOp, AF_eval hsz]
      simp only [Nat.reduceAdd, Nat.reduceSub, Nat.reduceLeDiff, Nat.reduceLT, and_self, if_true, hd3]
      go_simp
      have hbb : Below w.heap.size w (w.alloc (.cells #[.int .i64 q1, .int .i64 q2, .slice none 0 0] 37)) := (Below.refl _ _).alloc (Nat.le_refl _) _
      exact hK _ _ ⟨_, rfl, kB, One.of _ _ _⟩ (hCb _ _ hc hbb) (ValT.mono hbb)
    · subst ho
      have hd1 : NewT B q1 q2 (f 19) w := hdep ⟨1, .data⟩ (by simp) rfl
      refine ⟨rfl, by decide, wanted_none rfl, fun K hK => ?_⟩
      simp only [Oper.wp, execOp, AF_eval hsz]
      simp only [Nat.reduceAdd, Nat.reduceSub, Nat.reduceLeDiff, Nat.reduceLT, and_self, if_true]
      go_simp
      exact hK _ _ hd1 hc ValT.self
    · subst ho
      have hd4 : NewR B q1 q2 (f 22) w := hdep ⟨4, .data⟩ (by simp) rfl
      refine ⟨rfl, by decide, wanted_none rfl, fun K hK => ?_⟩
      simp only [Oper.wp, execOp, AF_eval hsz]
      simp only [Nat.reduceAdd, Nat.reduceSub, Nat.reduceLeDiff, Nat.reduceLT, and_self, if_true]
      go_simp
      exact hK _ _ hd4 hc ValT.self
end Go.Proofs.YtfbgnpfhjbiikaaGreatDoor

namespace Go.Proofs.YtfbgnpfhjbiikaaGreatDoor
open Go Go.RowKit
open Pth
open Go.Maps (has size Canon CanonK Tidy IsMap KeysOf Keyed Merged)
def ActX.toM (x : ActX) : Actm := ⟨x.es, x.rs, x.pp.length⟩
def IsActX (w : World) (b off : Nat) (x : ActX) : Prop :=
  ∃ ve vr vp, w.cell? ⟨b, off, none⟩ = some (.int .u8 x.dd) ∧ w.cell? ⟨b, off + 1, none⟩ = some ve ∧ w.cell? ⟨b, off + 2, none⟩ = some vr ∧ w.cell? ⟨b, off + 3, none⟩ = some vp ∧ ActIs w ve vr vp x
def IsActsX (w : World) (v : Value) (l : List ActX) : Prop :=
  ∃ a cap, v = .slice a l.length cap ∧ (l = [] ∨ ∃ b off, a = some ⟨b, off, none⟩ ∧ b < w.heap.size ∧ ∀ i, i < l.length → IsActX w b (off + i * 4) (l.getD i dX))
theorem IsActX.below {w w' : World} {b off : Nat} {x : ActX} (h : IsActX w b off x) (hb : Below w.heap.size w w') (hlt : b < w.heap.size) : IsActX w' b off x := by
  obtain ⟨ve, vr, vp, h0, h1, h2, h3, h4⟩ := h
  exact ⟨ve, vr, vp, (hb.cell hlt).trans h0, (hb.cell hlt).trans h1, (hb.cell hlt).trans h2, (hb.cell hlt).trans h3, h4.below hb⟩
theorem IsActsX.below {w w' : World} {v : Value} {l : List ActX} (h : IsActsX w v l) (hb : Below w.heap.size w w') : IsActsX w' v l := by
  obtain ⟨a, cap, hv, h⟩ := h
  refine ⟨a, cap, hv, ?_⟩
  rcases h with h | ⟨b, off, ha, hlt, hc⟩
  · exact Or.inl h
  · exact Or.inr ⟨b, off, ha, by have := hb.size; omega, fun i hi => (hc i hi).below hb hlt⟩
theorem toM_getD (l : List ActX) (i : Nat) : (l.map ActX.toM).getD i dA = (l.getD i dX).toM := by
  simp only [List.getD_eq_getElem?_getD, List.getElem?_map]
  cases l[i]? <;> rfl
theorem IsActsX.acts {w : World} {v : Value} {l : List ActX} (h : IsActsX w v l) : IsActs w v (l.map ActX.toM) := by
  obtain ⟨a, cap, hv, h⟩ := h
  refine ⟨a, cap, by rw [List.length_map]; exact hv, ?_⟩
  rcases h with h | ⟨b, off, ha, hlt, hc⟩
  · exact Or.inl (by rw [h]; rfl)
  · refine Or.inr ⟨b, off, ha, hlt, fun i hi => ?_⟩
    rw [List.length_map] at hi
    obtain ⟨ve, vr, vp, h0, h1, h2, h3, h4⟩ := hc i hi
    rw [toM_getD]
    obtain ⟨ar, cr, e2, _, h5⟩ := h4.r
    obtain ⟨ap, cp, e3, _⟩ := h4.p
    subst e3
    exact ⟨ve, vr, ap, cp, h1, h4.e, h2, h5, h3⟩
structure ActFit (x : ActX) : Prop where
  d : x.dd < 256
  wf : RowsWf x.rs
  li : Light 1048576 x.toM
  rp : ∀ i, i < x.rs.length → (x.rs.getD i dR).1.size ≤ 1048576
  pp : ∀ i, i < x.pp.length → (x.pp.getD i ByteArray.empty).size ≤ 1048576
theorem totW_mem : ∀ {l : List Actm} {i : Nat}, i < l.length → 8 * ((l.getD i dA).es.length + (l.getD i dA).rs.length + (l.getD i dA).ps) ≤ totW l
  | [], i, h => by simp at h
  | a :: t, 0, _ => by simp only [List.getD_cons_zero, totW]; omega
  | a :: t, i + 1, h => by
    have := totW_mem (l := t) (i := i) (by simpa using h)
    simp only [List.getD_cons_succ, totW]; omega
theorem ActFit.sz {l : List ActX} {i : Nat} (hi : i < l.length) (hf : ActFit (l.getD i dX)) (ht : totW (l.map ActX.toM) ≤ 8192) : ActSz (l.getD i dX) ∧ (l.getD i dX).es.length + (l.getD i dX).rs.length ≤ 1024 := by
  have h := totW_mem (l := l.map ActX.toM) (i := i) (by rw [List.length_map]; exact hi)
  rw [toM_getD] at h
  have h1 : 8 * ((l.getD i dX).es.length + (l.getD i dX).rs.length + (l.getD i dX).pp.length) ≤ totW (l.map ActX.toM) := h
  obtain ⟨_, _, _, a4, a5⟩ := hf.li
  refine ⟨⟨hf.d, by omega, by omega, by omega, hf.wf, fun j hj => ?_, fun j hj => ?_, fun j hj => ?_⟩, by omega⟩
  · have := a4 j hj
    have h2 : ((l.getD i dX).es.getD j dE).path.size ≤ 1048576 := this.1
    have h3 : ((l.getD i dX).es.getD j dE).text.size ≤ 1048576 := this.2
    constructor <;> omega
  · have h2 := hf.rp j hj
    have h3 : ((l.getD i dX).rs.getD j dR).2.l.length ≤ 1048576 := (a5 j hj).1
    constructor <;> omega
  · have := hf.pp j hj; omega
theorem rowsL_nil : rowsL (.map []) = [] := by simp [rowsL, keysL, strKeys]
theorem refNew {w : World} {r : Nat} {q1 q2 : Int} (h : One r #[.int .i64 q1, .int .i64 q2, .slice none 0 0] w) : RefAt w r q1 q2 [] :=
  ⟨by rw [h.c]; rfl, by rw [h.c]; rfl, ⟨none, 0, by rw [h.c]; rfl, ⟨none, 0, rfl, Or.inl rfl⟩, Nat.le_refl _⟩, fun j => by rw [h.c]; simp, h.f 2⟩
theorem duoNew {w : World} {t b r : Nat} {q1 q2 : Int} (hT : TabAt w t b q1 q2 (.map []) 0) (hR : One r #[.int .i64 q1, .int .i64 q2, .slice none 0 0] w) (h1 : t ≠ r) (h2 : b ≠ r) : Duo w t b r q1 q2 q1 q2 (.map []) (rowsL (.map [])) := by
  refine ⟨?_, good_none _ _, ?_, ?_, h1, h2⟩
  · rw [rowsL_nil]; exact hT
  · rw [rowsL_nil]; exact refNew hR
  · exact (good_none _ _).okR

theorem celMap_none {w : World} {b : Nat} {M : DataW Cel} (h : CelMap w b M) : ∀ {j : Nat}, w.cell? ⟨b, j, none⟩ = none := by
  obtain ⟨D, ho, _⟩ := h
  exact fun {j} => ownsMap_none ho j

set_option maxRecDepth 100000 in
set_option maxHeartbeats 8000000 in
theorem law18_plays (q1 q2 : Int) (l : List ActX) (v : Value) (p : ByteArray) (n : Nat) (pre : ByteArray) (w : World) (hv : IsActsX w v l) (hl : l.length ≤ 1048576) (hf : ∀ i, i < l.length → ActFit (l.getD i dX)) (hp : p.size ≤ 1048576) (hpre : pre.size ≤ 1048576) (hm : MX w) :
    Calls Tryz.prog 4 #[.agg #[.int .i64 q1, .int .i64 q2], v, .string p, .int .u64 n, .string pre] w fun e w' => e = .returned (.bool true) ∧ Below w.heap.size w w' := by
  have Hm := Lib.hid hm; have HV := Lib.hid hv; have HF := Lib.hid hf
  obtain ⟨a, cap, rfl, hcc⟩ := hv
  have HCC := Lib.hid hcc
  clear hcc hm hf
  have HWk : Hid (∀ W, Below w.heap.size w W → Calls Tryz.prog 9 #[] W (fun e w' => e = .returned (.bool true) ∧ Below w.heap.size w w')) := Lib.hid (fun W hW => by
    refine (law_works W (Hm.out.below hW (Nat.le_refl _))).mono ?_
    rintro e w' ⟨rfl, hb⟩
    exact ⟨rfl, hW.trans (hb.mono hW.size)⟩)
  go_enter Tryz.func4, Tryz.ntmps4
  go_upto_region 1 with fail
  refine wp_abs (F := fun W => One w.heap.size #[.int .i64 q1, .int .i64 q2] W ∧ Below w.heap.size w W) ⟨One.of _ _ _, (Below.refl _ _).alloc (Nat.le_refl _) _⟩ ?_
  rintro W0 ⟨hQ, hb0⟩
  have HQ := Lib.hid hQ; have Hb0 := Lib.hid hb0; clear hQ hb0
  go_wp2_with fail
  refine (law_heavy 1048576 (l.map ActX.toM) _ _ ((HV.out.below Hb0.out).acts) (by omega) (by rw [List.length_map]; omega) (by rw [List.length_map]; omega) (fun i hi => by
    rw [toM_getD]; exact (HF.out i (by rw [List.length_map] at hi; exact hi)).li)).mono ?_
  rintro e w1 ⟨x, rfl, hx, hb1⟩
  have Hb1 : Hid (Below w.heap.size w w1) := Lib.hid (Hb0.out.trans (hb1.mono Hb0.out.size))
  have HQ1 := Lib.hid (HQ.out.step hb1)
  clear hb1
  cases x with
  | true =>
    go_wp2_with fail
    refine (HWk.out _ Hb1.out).mono ?_
    rintro e w2 ⟨rfl, hb2⟩
    have Hb2 := Lib.hid hb2; clear hb2
    go_wp2_with fail
    go_ret
    exact ⟨rfl, Hb2.out⟩
  | false =>
    have hlen := hx rfl
    rw [List.length_map] at hlen
    have HTot := Lib.hid hlen.1
    have hl40 := hlen.2
    clear hx hlen
    by_cases hpp : 500 < p.size + pre.size
    · have hppI : (500 : Int) < (p.size : Int) + (pre.size : Int) := by omega
      go_wp2_with fail
      refine (HWk.out _ Hb1.out).mono ?_
      rintro e w2 ⟨rfl, hb2⟩
      have Hb2 := Lib.hid hb2; clear hb2
      go_wp2_with fail
      go_ret
      exact ⟨rfl, Hb2.out⟩
    · have hppI : ¬ ((500 : Int) < (p.size : Int) + (pre.size : Int)) := by omega
      have q0 := HQ1.out.c 0; have q1' := HQ1.out.c 1
      simp at q0 q1'
      go_upto_region 3 with fail
      have HbD : Hid (Below w.heap.size w w1.drew) := Lib.hid (Below.drew Hb1.out)
      have HQD : Hid (One w.heap.size #[.int .i64 q1, .int .i64 q2] w1.drew) := Lib.hid (HQ1.out.step (Below.drew (Below.refl _ _)))
      go_cut [11, 12] (fun s11 s12 wx => ∃ t b r, s11 = .pointer (some ⟨t, 0, none⟩) ∧ s12 = .pointer (some ⟨r, 0, none⟩) ∧ Hid (Duo wx t b r q1 q2 q1 q2 (.map []) (rowsL (.map []))) ∧ Hid (w.heap.size ≤ t ∧ w.heap.size ≤ b ∧ w.heap.size ≤ r) ∧ Hid (Below w.heap.size w wx))
      case first =>
        refine (regT (C := fun w' => Below w1.heap.size w1 w') _ ?_ w.heap.size w.heap.size q1 q2 ?_ (Below.drew (Below.refl _ _)) (fun w' hw' => ⟨(HQ1.out.step hw').c 0, (HQ1.out.step hw').c 1, by have := hw'.size; have := Hb1.out.size; omega⟩) (fun w' w'' h1 h2 => h1.trans (h2.mono h1.size)) (fun f w3 h0 h1 hw3 hfx => ?_) : _)
        all_goals try exact rfl
        obtain ⟨t, b, e0, ht, hb, hT⟩ := h0
        obtain ⟨r, e1, hr, hO⟩ := h1
        have HNe : Hid (t ≠ r ∧ b ≠ r) := Lib.hid (by
          constructor
          · intro e; subst e
            have := hT.c2.symm.trans (hO.c 2)
            simp at this
          · intro e; subst e
            have := hT.m.bare
            have h2 := hO.c 0
            rw [celMap_none hT.m] at h2
            simp at h2)
        have HD := Lib.hid (duoNew hT hO HNe.out.1 HNe.out.2)
        have HTB : Hid (w.heap.size ≤ t ∧ w.heap.size ≤ b ∧ w.heap.size ≤ r) := Lib.hid ⟨ht, hb, hr⟩
        have HB3 : Hid (Below w.heap.size w w3) := Lib.hid (Hb1.out.trans (hw3.mono Hb1.out.size))
        clear hT hO ht hb hr hw3
        have f2 : f 2 = undef := hfx 2 (by decide) (by decide)
        have f3 : f 3 = undef := hfx 3 (by decide) (by decide)
        have f4 : f 4 = undef := hfx 4 (by decide) (by decide)
        have f5 : f 5 = undef := hfx 5 (by decide) (by decide)
        have f6 : f 6 = undef := hfx 6 (by decide) (by decide)
        rw [AF_splice]
        simp only [splice, Nat.reduceAdd, e0, e1, f2, f3, f4, f5, f6]
        clear e0 e1 f2 f3 f4 f5 f6 hfx
        go_wp2_with fail
        go_meet
        case rel => exact ⟨_, _, _, rfl, rfl, HD, HTB, HB3⟩
      case rest =>
        obtain ⟨t, b, r, rfl, rfl, hD, htb, hbc⟩ := hcut
        clear q0 q1' HQ1 HQ HbD HQD
        have HS3 : Hid (∀ k, S3 t b r k → w.heap.size ≤ k) := Lib.hid (by
          obtain ⟨h1, h2, h3⟩ := htb.out
          rintro k (e | e | e) <;> omega)
        clear htb
        go_wp2_with fail
        go_loopw [13] (fun s13 wr => ∃ (k : Nat) (M : DataW Cel), k ≤ l.length ∧ s13 = .int .i64 k ∧ Hid (Duo wr t b r q1 q2 q1 q2 M (rowsL M)) ∧ Hid (size M ≤ k * 1024) ∧ Hid (Below w.heap.size w wr)) (fun i _ => l.length - (intOf i).toNat)
        case atStart => exact ⟨0, .map [], Nat.zero_le _, rfl, hD, Lib.hid (by simp [size]), hbc⟩
        case round =>
          clear hD hbc
          obtain ⟨k, M, hk, rfl, hD, hsz, hbw⟩ := hrel
          by_cases hlt : k < l.length
          · have hltI : (k : Int) < (l.length : Int) := by omega
            rcases HCC.out with hnil | ⟨ba, off, rfl, hlb, hacts⟩
            · rw [hnil] at hlt; simp at hlt
            obtain ⟨ve, vr, vp, g0, g1, g2, g3, g4⟩ := (hacts k hlt).below hbw.out hlb
            obtain ⟨z1, z2⟩ := (HF.out k hlt).sz hlt HTot.out
            clear hacts
            obtain ⟨x, hx⟩ : ∃ x, l.getD k dX = x := ⟨_, rfl⟩
            rw [hx] at g0 g4 z1 z2
            have hsM : size M ≤ 40960 := by have := hsz.out; omega
            have HMX : Hid (∀ W, ButS (S3 t b r) wr W → MX W) := Lib.hid (fun W hW => Hm.out.below (hbw.out.trans (hW.below HS3.out hbw.out.size)) (Nat.le_refl _))
            have HDo := Lib.hid (law_does t b r q1 q2 q1 q2 M (rowsL M) x ve vr vp wr hD.out HMX.out g4 z1 (by omega) (by rw [rows_length hD.out.hG.canon]; omega))
            have Hz2 := Lib.hid z2
            clear g4 z1 z2 hx
            go_wp2_with fail
            refine HDo.out.mono ?_
            rintro e w2 ⟨x1, M2, R2, rfl, hD2, hs2, _, himp, hb2⟩
            obtain ⟨rfl, rfl⟩ := himp rfl rfl rfl
            have HD2 := Lib.hid hD2
            have HB2 : Hid (Below w.heap.size w w2) := Lib.hid (hbw.out.trans (hb2.below HS3.out hbw.out.size))
            have HSz2 : Hid (size M2 ≤ (k + 1) * 1024) := Lib.hid (by have := hsz.out; have := Hz2.out; omega)
            have hsM2 : size M2 ≤ 50000 := by have := hsz.out; have := Hz2.out; omega
            clear hD2 hs2 himp hb2 HDo HMX hsM hD
            have HSt := Lib.hid (law_stands t b r q1 q2 q1 q2 M2 w2 HD2.out (by omega))
            go_wp2_with fail
            refine HSt.out.mono ?_
            rintro e w3 ⟨rfl, hb3⟩
            have HD3 := Lib.hid (HD2.out.below hb3)
            have HB3 : Hid (Below w.heap.size w w3) := Lib.hid (HB2.out.trans (hb3.mono HB2.out.size))
            clear hb3 HSt HD2 HB2 g0 g1 g2 g3
            have Hrd := Lib.hid (tab_read w3 HD3.out.hT HD3.out.hG (Hm.out.below HB3.out (Nat.le_refl _)) p n (by omega))
            have HrR : Hid (∀ W, Below w3.heap.size w3 W → Calls Tryz.prog 21 #[.pointer (some ⟨r, 0, none⟩), .string p, .int .u64 n] W fun e w' => e = .returned (.tuple #[verVal (readT M2 p n).1, .int .i64 (readT M2 p n).2]) ∧ Below W.heap.size W w') := Lib.hid (fun W hW => by
              have := ref18_read (rowsL M2) r q1 q2 p n W (HD3.out.below hW).hR HD3.out.hO (by rw [rows_length HD3.out.hG.canon]; omega) (by omega)
              rw [read_rows HD3.out.hG.canon] at this
              exact this)
            obtain ⟨rr, hrr⟩ : ∃ rr, readT M2 p n = rr := ⟨_, rfl⟩
            rw [hrr] at Hrd HrR
            clear hrr
            obtain ⟨⟨vn, vst, vtx⟩, er⟩ := rr
            unfold verVal at Hrd HrR
            simp only at Hrd HrR
            go_wp2_with fail
            refine Hrd.out.mono ?_
            rintro e w4 ⟨rfl, hb4⟩
            have HB4 : Hid (Below w3.heap.size w3 w4) := Lib.hid hb4
            clear hb4 Hrd
            go_upto_region 10 with fail
            refine wp_abs (F := fun W => One w4.heap.size #[.int .u64 vn, .int .u8 vst, .string vtx] W ∧ Below w4.heap.size w4 W) ⟨One.of _ _ _, (Below.refl _ _).alloc (Nat.le_refl _) _⟩ ?_
            rintro W5 ⟨hO5, hb5⟩
            have HO5 := Lib.hid hO5
            have HB5 : Hid (Below w3.heap.size w3 W5) := Lib.hid (HB4.out.trans (hb5.mono HB4.out.size))
            clear hO5 hb5
            go_wp2_with fail
            refine (HrR.out _ HB5.out).mono ?_
            rintro e w6 ⟨rfl, hb6⟩
            have HO6 := Lib.hid (HO5.out.step hb6)
            have HB6 : Hid (Below w3.heap.size w3 w6) := Lib.hid (HB5.out.trans (hb6.mono HB5.out.size))
            clear hb6 HrR HO5 HB5
            go_upto_region 11 with fail
            refine wp_abs (F := fun W => One w6.heap.size #[.int .u64 vn, .int .u8 vst, .string vtx] W ∧ Below w6.heap.size w6 W) ⟨One.of _ _ _, (Below.refl _ _).alloc (Nat.le_refl _) _⟩ ?_
            rintro W7 ⟨hO7, hb7⟩
            have HB7 : Hid (Below w3.heap.size w3 W7) := Lib.hid (HB6.out.trans (hb7.mono HB6.out.size))
            have a0 : W7.cell? ⟨w4.heap.size, 0, none⟩ = some (.int .u64 vn) := (HO6.out.step hb7).c 0
            have a1 : W7.cell? ⟨w4.heap.size, 1, none⟩ = some (.int .u8 vst) := (HO6.out.step hb7).c 1
            have a2 : W7.cell? ⟨w4.heap.size, 2, none⟩ = some (.string vtx) := (HO6.out.step hb7).c 2
            have b0 : W7.cell? ⟨w6.heap.size, 0, none⟩ = some (.int .u64 vn) := hO7.c 0
            have b1 : W7.cell? ⟨w6.heap.size, 1, none⟩ = some (.int .u8 vst) := hO7.c 1
            have b2 : W7.cell? ⟨w6.heap.size, 2, none⟩ = some (.string vtx) := hO7.c 2
            clear hO7 hb7 HO6 HB6
            have HNow : Hid (∀ W, Below w3.heap.size w3 W → Calls Tryz.prog 22 #[.pointer (some ⟨t, 0, none⟩), .string p] W fun e w' => e = .returned (.int .u64 (nowC (cellAt M2 p))) ∧ Below W.heap.size W w') := Lib.hid (fun W hW => tab_now W (HD3.out.below hW).hT HD3.out.hG p (by omega))
            have HLast : Hid (∀ W, Below w3.heap.size w3 W → Calls Tryz.prog 24 #[.pointer (some ⟨t, 0, none⟩), .string p] W fun e w' => e = .returned (.int .u64 (cellAt M2 p).last) ∧ Below W.heap.size W w') := Lib.hid (fun W hW => tab_last W (HD3.out.below hW).hT p (by omega))
            have hRl : (rowsL M2).length ≤ 50000 := by rw [rows_length HD3.out.hG.canon]; omega
            have HNowR : Hid (∀ W, Below w3.heap.size w3 W → Calls Tryz.prog 23 #[.pointer (some ⟨r, 0, none⟩), .string p] W fun e w' => e = .returned (.int .u64 (nowC (cellAt M2 p))) ∧ Below W.heap.size W w') := Lib.hid (fun W hW => by
              have := ref18_now (rowsL M2) r q1 q2 p W (HD3.out.below hW).hR HD3.out.hO (by omega)
              rw [cellR_rows HD3.out.hG.canon] at this; exact this)
            have HLastR : Hid (∀ W, Below w3.heap.size w3 W → Calls Tryz.prog 25 #[.pointer (some ⟨r, 0, none⟩), .string p] W fun e w' => e = .returned (.int .u64 (cellAt M2 p).last) ∧ Below W.heap.size W w') := Lib.hid (fun W hW => by
              have := ref18_last (rowsL M2) r q1 q2 p W (HD3.out.below hW).hR HD3.out.hO (by omega)
              rw [cellR_rows HD3.out.hG.canon] at this; exact this)
            obtain ⟨nm, hnm⟩ : ∃ nm, nm = (namesL pre.data.toList ((liveR (rowsL M2)).map (·.data.toList))).map bs := ⟨_, rfl⟩
            have hnl : nm.length ≤ 50000 := by
              rw [hnm, List.length_map]
              refine Nat.le_trans (names_len _ _) ?_
              rw [List.length_map]
              have := liveR_len (rowsL M2) (rowsL M2).length
              rw [List.take_length] at this
              omega
            have HList : Hid (∀ W, Below w3.heap.size w3 W → Calls Tryz.prog 27 #[.pointer (some ⟨t, 0, none⟩), .string pre] W fun e w' => ∃ v, e = .returned v ∧ IsStrs w' v nm ∧ Below W.heap.size W w') := Lib.hid (fun W hW => by
              refine (tab_list W (HD3.out.below hW).hT HD3.out.hG (Hm.out.below (HB3.out.trans (hW.mono HB3.out.size)) (Nat.le_refl _)) pre (by omega) (by omega)).mono ?_
              rintro e w' ⟨L, hL, v, rfl, hs, hb⟩
              refine ⟨v, rfl, ?_, hb⟩
              rw [hnm, ← names_same (p := pre.data.toList) (L := L) (fun s => (hL s).trans (live_mem HD3.out.hG.canon s).symm)]
              exact hs)
            have HListR : Hid (∀ W, Below w3.heap.size w3 W → Calls Tryz.prog 28 #[.pointer (some ⟨r, 0, none⟩), .string pre] W fun e w' => ∃ v, e = .returned v ∧ IsStrs w' v nm ∧ Below W.heap.size W w') := Lib.hid (fun W hW => by
              refine (ref18_list (rowsL M2) r q1 q2 pre W (HD3.out.below hW).hR HD3.out.hO (by omega) (by omega)).mono ?_
              rintro e w' ⟨v, Z, rfl, hs, hi, hb⟩
              refine ⟨v, rfl, ?_, hb⟩
              rw [hnm, ← ins_eq hi (fun _ => Iff.rfl)]
              exact hs)
            clear hnm hRl
            obtain ⟨nw, hnw⟩ : ∃ nw, nowC (cellAt M2 p) = nw := ⟨_, rfl⟩
            rw [hnw] at HNow HNowR
            obtain ⟨la, hla⟩ : ∃ la, (cellAt M2 p).last = la := ⟨_, rfl⟩
            rw [hla] at HLast HLastR
            clear hnw hla
            have n0 : ((vn : Int) == (vn : Int)) = true := by simp
            have n1 : ((vst : Int) == (vst : Int)) = true := by simp
            have n2 : (vtx.toList == vtx.toList) = true := by simp
            have n3 : ((er : Int) != (er : Int)) = false := by simp
            have n4 : ((nw : Int) != (nw : Int)) = false := by simp
            have n5 : ((la : Int) != (la : Int)) = false := by simp
            go_wp2_with fail
            clear a0 a1 a2 b0 b1 b2
            refine (HNow.out _ HB7.out).mono ?_
            rintro e w8 ⟨rfl, hb8⟩
            have HB8 : Hid (Below w3.heap.size w3 w8) := Lib.hid (HB7.out.trans (hb8.mono HB7.out.size)); clear hb8
            go_wp2_with fail
            refine (HNowR.out _ HB8.out).mono ?_
            rintro e w9 ⟨rfl, hb9⟩
            have HB9 : Hid (Below w3.heap.size w3 w9) := Lib.hid (HB8.out.trans (hb9.mono HB8.out.size)); clear hb9
            go_wp2_with fail
            refine (HLast.out _ HB9.out).mono ?_
            rintro e w10 ⟨rfl, hb10⟩
            have HB10 : Hid (Below w3.heap.size w3 w10) := Lib.hid (HB9.out.trans (hb10.mono HB9.out.size)); clear hb10
            go_wp2_with fail
            refine (HLastR.out _ HB10.out).mono ?_
            rintro e w11 ⟨rfl, hb11⟩
            have HB11 : Hid (Below w3.heap.size w3 w11) := Lib.hid (HB10.out.trans (hb11.mono HB10.out.size)); clear hb11
            go_wp2_with fail
            refine (HList.out _ HB11.out).mono ?_
            rintro e w12 ⟨vl1, rfl, hs1, hb12⟩
            have HB12 : Hid (Below w3.heap.size w3 w12) := Lib.hid (HB11.out.trans (hb12.mono HB11.out.size)); clear hb12
            have HS1 := Lib.hid hs1; clear hs1
            go_wp2_with fail
            refine (HListR.out _ HB12.out).mono ?_
            rintro e w13 ⟨vl2, rfl, hs2, hb13⟩
            have HS1b := Lib.hid (HS1.out.below hb13 (Nat.le_refl _))
            have HB13 : Hid (Below w3.heap.size w3 w13) := Lib.hid (HB12.out.trans (hb13.mono HB12.out.size)); clear hb13
            have HS2 := Lib.hid hs2; clear hs2 HS1
            go_wp2_with fail
            refine (law_texts vl1 vl2 nm _ HS1b.out HS2.out (by omega)).mono ?_
            rintro e w14 ⟨rfl, hb14⟩
            have HB14 : Hid (Below w3.heap.size w3 w14) := Lib.hid (HB13.out.trans (hb14.mono HB13.out.size)); clear hb14
            go_wp2_with fail
            go_roundw
            case rel => exact ⟨k + 1, M2, by omega, by go_num, Lib.hid (HD3.out.below HB14.out), HSz2, Lib.hid (HB3.out.trans (HB14.out.mono HB3.out.size))⟩
            case measure => simp [intOf]; omega
          · have hge : ¬ (k : Int) < (l.length : Int) := by omega
            go_wp2_with fail
            refine (HWk.out _ hbw.out).mono ?_
            rintro e w2 ⟨rfl, hb2⟩
            have Hb2 := Lib.hid hb2; clear hb2
            go_wp2_with fail
            go_ret
            exact ⟨rfl, Hb2.out⟩
end Go.Proofs.YtfbgnpfhjbiikaaGreatDoor

namespace Go.Proofs.YtfbgnpfhjbiikaaGreatDoor.bulks
theorem one_le {H : Type} (d : DataW H) : 1 ≤ Rows.uptoBulk d := by
  cases d with
  | lit l => cases l <;> simp [Rows.uptoBulk]
  | nil => simp [Rows.uptoBulk]
  | ptr d => simp [Rows.uptoBulk]
  | slice elems spare => simp [Rows.uptoBulk]
  | agg parts => simp [Rows.uptoBulk]
  | iface t d => simp [Rows.uptoBulk]
  | map entries => simp [Rows.uptoBulk]
  | held h => simp [Rows.uptoBulk]

theorem part_le {H : Type} {d : DataW H} {l : List (DataW H)} (h : d ∈ l) : Rows.uptoBulk d ≤ Rows.uptoBulkAll l := by
  induction l with
  | nil => cases h
  | cons x r ih =>
    simp only [Rows.uptoBulkAll]
    cases List.mem_cons.1 h with
    | inl e => subst e; omega
    | inr e => have := ih e; omega

theorem append {H : Type} (l r : List (DataW H)) : Rows.uptoBulkAll (l ++ r) = Rows.uptoBulkAll l + Rows.uptoBulkAll r := by
  induction l with
  | nil => simp [Rows.uptoBulkAll]
  | cons x l ih => simp only [List.cons_append, Rows.uptoBulkAll, ih]; omega

theorem length_le {H : Type} (l : List (DataW H)) : l.length ≤ Rows.uptoBulkAll l := by
  induction l with
  | nil => simp [Rows.uptoBulkAll]
  | cons x r ih => have := one_le x; simp only [Rows.uptoBulkAll, List.length_cons]; omega

theorem slice_elems {H : Type} (elems spare : List (DataW H)) : Rows.uptoBulkAll elems + 1 ≤ Rows.uptoBulk (.slice elems spare) := by
  simp only [Rows.uptoBulk]
  omega

theorem string_eq {H : Type} (bytes : List UInt8) : Rows.uptoBulk (DataW.lit (H := H) (.string bytes)) = bytes.length + 1 := by
  simp [Rows.uptoBulk]

theorem bound {H : Type} {l : List (DataW H)} (hk : Rows.uptoSmall H l = true) : Rows.uptoBulkAll l ≤ 1048576 := by
  simpa [Rows.uptoSmall] using hk

end Go.Proofs.YtfbgnpfhjbiikaaGreatDoor.bulks

namespace Go.Proofs.YtfbgnpfhjbiikaaGreatDoor
open Go Go.ChangeShapes Go.WideShapes Go.ChangeAt Go.RowKit
theorem list4 {α : Type} {l : List α} (h : l.length = 4) : ∃ c0 c1 c2 c3, l = [c0, c1, c2, c3] := by
  rcases l with _ | ⟨a, _ | ⟨b, _ | ⟨c, _ | ⟨d, _ | ⟨e, r⟩⟩⟩⟩⟩ <;> first | exact ⟨_, _, _, _, rfl⟩ | simp at h
theorem cAct : Tryz.prog.cellsOf 28 = 4 := by kernel_rfl
theorem cEdtsA : Tryz.prog.cellsOf 23 = 1 := by kernel_rfl
theorem cRowsA : Tryz.prog.cellsOf 26 = 1 := by kernel_rfl
theorem cStrsA : Tryz.prog.cellsOf 24 = 1 := by kernel_rfl
theorem wf_u8 {n : Int} (h : (Lit.int .u8 n).wf = true) : 0 ≤ n ∧ n < 256 := by
  simp [Lit.wf, IntKind.min, IntKind.max, IntKind.signed, IntKind.bits] at h; omega
theorem versD_bulk {H : Type} {l : List Ver} {d : DataW H} (h : VersD l d) : l.length ≤ Rows.uptoBulk d ∧ ∀ x ∈ l, x.tx.size ≤ Rows.uptoBulk d := by
  rcases h with ⟨_, rfl⟩ | ⟨sr, rfl⟩
  · exact ⟨by simp, fun x hx => by cases hx⟩
  · have h1 := bulks.slice_elems (l.map (verData (H := H))) sr
    have h2 := bulks.length_le (l.map (verData (H := H)))
    rw [List.length_map] at h2
    refine ⟨by omega, fun x hx => ?_⟩
    have h3 := bulks.part_le (d := verData (H := H) x) (List.mem_map.2 ⟨x, hx, rfl⟩)
    have h4 : Rows.uptoBulk (verData (H := H) x) = x.tx.data.toList.length + 4 := by simp [verData, Rows.uptoBulk, Rows.uptoBulkAll]; omega
    have h5 : x.tx.data.toList.length = x.tx.size := by rw [Array.length_toList]; rfl
    omega
theorem rowD_bulk {H : Type} {r : ByteArray × Cel} {d : DataW H} (h : RowD r d) : r.1.size ≤ Rows.uptoBulk d ∧ r.2.l.length ≤ Rows.uptoBulk d ∧ ∀ x ∈ r.2.l, x.tx.size ≤ Rows.uptoBulk d := by
  obtain ⟨vd, rfl, hv⟩ := h
  obtain ⟨h1, h2⟩ := versD_bulk hv
  have h3 : Rows.uptoBulk (DataW.agg [.lit (.string r.1.data.toList), .agg [.lit (.int .u64 r.2.last), vd]]) = r.1.data.toList.length + Rows.uptoBulk vd + 4 := by
    simp [Rows.uptoBulk, Rows.uptoBulkAll]; omega
  have h5 : r.1.data.toList.length = r.1.size := by rw [Array.length_toList]; rfl
  exact ⟨by omega, by omega, fun x hx => by have := h2 x hx; omega⟩
theorem edt_bulk {H : Type} (e : Edt) : e.path.size ≤ Rows.uptoBulk (edtData (H := H) e) ∧ e.text.size ≤ Rows.uptoBulk (edtData (H := H) e) := by
  have h3 : Rows.uptoBulk (edtData (H := H) e) = e.path.data.toList.length + e.text.data.toList.length + 7 := by
    simp [edtData, Rows.uptoBulk, Rows.uptoBulkAll]; omega
  have h4 : e.path.data.toList.length = e.path.size := by rw [Array.length_toList]; rfl
  have h5 : e.text.data.toList.length = e.text.size := by rw [Array.length_toList]; rfl
  omega
section
variable {H : Type} {enc : TypeId × Value → H} {w : World} {base : Nat} {sp : Nat → Bool} {held : Bool}
set_option maxRecDepth 100000 in
theorem trod_rel {α : Type} {k : Nat} {t e : TypeId} (z : α) (R : List Value → α → Nat → Prop) (ht : Tryz.prog.underlying t = some (.slice e)) (hc : Tryz.prog.cellsOf e = k) (hk : 0 < k) (hlen : ∀ cs a n, R cs a n → cs.length = k)
    (hel : ∀ {fuel : Nat} {cs : List Value} {x : DataW H × List MemPlace}, DataW.trod enc Tryz.prog w base sp held fuel e cs = some x → ∃ a : α, R cs a (Rows.uptoBulk x.1))
    {fuel : Nat} {cs : List Value} {x : DataW H × List MemPlace} (h : DataW.trod enc Tryz.prog w base sp held fuel t cs = some x) :
    ∃ (a0 : Option Addr) (cap : Nat) (l : List α), cs = [.slice a0 l.length cap] ∧ l.length ≤ cap ∧ l.length ≤ Rows.uptoBulk x.1 ∧ (l = [] ∨ ∃ b off, a0 = some ⟨b, off, none⟩ ∧ b < w.heap.size ∧ ∀ i, i < l.length →
      ∃ cs', (∀ j u, cs'[j]? = some u → w.cell? ⟨b, off + i * k + j, none⟩ = some u) ∧ ∃ n, R cs' (l.getD i z) n ∧ n ≤ Rows.uptoBulk x.1) := by
  rcases Go.Deep.open_slice ht h with ⟨hcs, hx⟩ | ⟨a, len, cap, m, n, Df, Pl, hcs, _, hl, _, hm, hx, he⟩
  · exact ⟨none, 0, [], hcs, Nat.le_refl _, Nat.zero_le _, Or.inl rfl⟩
  · have hlm : len ≤ m := by rw [hm]; split <;> omega
    have hE : ∀ i, ∃ y : α × List Value, i < len → R y.2 y.1 (Rows.uptoBulk (Df i)) ∧ (∀ j, j < k → w.cell? ((a.add (i * k)).add j) = y.2[j]?) := by
      intro i
      by_cases hi : i < len
      · obtain ⟨cs', h1, h2⟩ := he i (by omega)
        rw [hc] at h1
        obtain ⟨y, hy⟩ := hel h2
        exact ⟨(y, cs'), fun _ => ⟨hy, (World.cells?_some h1).2.2⟩⟩
      · exact ⟨(z, []), fun h => absurd h hi⟩
    obtain ⟨E, hE⟩ := Classical.axiomOfChoice hE
    have hx1 : x.1 = .slice ((List.range len).map Df) ((List.range (m - len)).map fun j => Df (len + j)) := by rw [hx]
    have hb := bulks.slice_elems ((List.range len).map Df) ((List.range (m - len)).map fun j => Df (len + j))
    rw [← hx1] at hb
    have hb2 := bulks.length_le ((List.range len).map Df)
    rw [List.length_map, List.length_range] at hb2
    refine ⟨some a, cap, (List.range len).map (fun i => (E i).1), by simpa using hcs, by simpa using hl, by simp; omega, ?_⟩
    by_cases h0 : len = 0
    · left; subst h0; rfl
    · right
      obtain ⟨r0, c0⟩ := hE 0 (by omega)
      have h00 := c0 0 hk
      have ha0 : (a.add (0 * k)).add 0 = a := by unfold Addr.add; simp
      rw [ha0, List.getElem?_eq_getElem (by rw [hlen _ _ _ r0]; exact hk)] at h00
      have hs := spot_none h00
      refine ⟨a.block, a.off, by rw [← hs], block_lt_of_cell h00, fun i hi => ?_⟩
      have hi' : i < len := by simpa using hi
      have hg : ((List.range len).map (fun i => (E i).1)).getD i z = (E i).1 := by simp [List.getD_eq_getElem?_getD, hi']
      rw [hg]
      obtain ⟨r1, c1⟩ := hE i hi'
      refine ⟨(E i).2, fun j u hu => ?_, _, r1, ?_⟩
      · have hj : j < k := by have := (List.getElem?_eq_some_iff.1 hu).1; rwa [hlen _ _ _ r1] at this
        have hc2 := c1 j hj
        rw [addrThree hs] at hc2
        exact hc2.trans hu
      · have := bulks.part_le (d := Df i) (l := (List.range len).map Df) (List.mem_map.2 ⟨i, List.mem_range.2 hi', rfl⟩)
        omega

theorem trod_edtsB {fuel : Nat} {cs : List Value} {x : DataW H × List MemPlace} (h : DataW.trod enc Tryz.prog w base sp held fuel 23 cs = some x) :
    ∃ (v : Value) (l : List Edt), cs = [v] ∧ IsEdts w v l ∧ l.length ≤ Rows.uptoBulk x.1 ∧ ∀ i, i < l.length → (l.getD i dE).path.size ≤ Rows.uptoBulk x.1 ∧ (l.getD i dE).text.size ≤ Rows.uptoBulk x.1 := by
  obtain ⟨a0, cap, l, rfl, _, hl, hh⟩ := trod_rel dE (fun cs (e : Edt) n => cs = edtCells e ∧ e.path.size ≤ n ∧ e.text.size ≤ n) Tryz.underlying23 cEdt (by decide) (fun cs a n h => by rw [h.1]; rfl) (fun h => by
    obtain ⟨e, rfl, rfl⟩ := trod_edt h
    exact ⟨e, rfl, edt_bulk e⟩) h
  refine ⟨_, l, rfl, ⟨a0, cap, rfl, ?_⟩, hl, fun i hi => ?_⟩
  · rcases hh with h | ⟨b, off, ha, hb, hc⟩
    · exact Or.inl h
    · refine Or.inr ⟨b, off, ha, hb, fun i hi => ?_⟩
      obtain ⟨cs', h1, n, ⟨rfl, _⟩, _⟩ := hc i hi
      exact ⟨h1 0 _ rfl, h1 1 _ rfl, h1 2 _ rfl, h1 3 _ rfl, h1 4 _ rfl, h1 5 _ rfl⟩
  · rcases hh with h | ⟨b, off, ha, hb, hc⟩
    · subst h; simp at hi
    · obtain ⟨cs', _, n, ⟨_, h2, h3⟩, h4⟩ := hc i hi
      exact ⟨by omega, by omega⟩
theorem trod_rowsB {fuel : Nat} {cs : List Value} {x : DataW H × List MemPlace} (h : DataW.trod enc Tryz.prog w base sp held fuel 26 cs = some x) :
    ∃ (v : Value) (l : List Rw), cs = [v] ∧ (∃ a c, v = .slice a l.length c ∧ l.length ≤ c ∧ IsRows w v l) ∧ RowsWf l ∧ l.length ≤ Rows.uptoBulk x.1 ∧
      ∀ i, i < l.length → (l.getD i dR).1.size ≤ Rows.uptoBulk x.1 ∧ (l.getD i dR).2.l.length ≤ Rows.uptoBulk x.1 ∧ ∀ y ∈ (l.getD i dR).2.l, y.tx.size ≤ Rows.uptoBulk x.1 := by
  obtain ⟨a0, cap, l, rfl, hcap, hl, hh⟩ := trod_rel dR (fun cs (r : Rw) n => ∃ s, cs = [.string r.1, .int .u64 r.2.last, s] ∧ IsVers w s r.2.l ∧ r.2.last < 18446744073709551616 ∧ r.1.size ≤ n ∧ r.2.l.length ≤ n ∧ ∀ y ∈ r.2.l, y.tx.size ≤ n)
    Tryz.underlying26 cRow (by decide) (fun cs a n h => by obtain ⟨s, rfl, _⟩ := h; rfl) (fun h => by
    obtain ⟨r, v, rfl, hv, hd, hlt⟩ := trod_row h
    exact ⟨r, v, rfl, hv, hlt, rowD_bulk hd⟩) h
  refine ⟨_, l, rfl, ⟨a0, cap, rfl, hcap, ⟨a0, cap, rfl, ?_⟩⟩, fun i hi => ?_, hl, fun i hi => ?_⟩
  · rcases hh with h | ⟨b, off, ha, hb, hc⟩
    · exact Or.inl h
    · refine Or.inr ⟨b, off, ha, hb, fun i hi => ?_⟩
      obtain ⟨cs', h1, n, ⟨s, rfl, hs, _⟩, _⟩ := hc i hi
      exact ⟨h1 0 _ rfl, h1 1 _ rfl, s, h1 2 _ rfl, hs⟩
  · rcases hh with h | ⟨b, off, ha, hb, hc⟩
    · subst h; simp at hi
    · obtain ⟨cs', _, n, ⟨s, _, _, h2, _⟩, _⟩ := hc i hi
      exact h2
  · rcases hh with h | ⟨b, off, ha, hb, hc⟩
    · subst h; simp at hi
    · obtain ⟨cs', _, n, ⟨s, _, _, _, h2, h3, h4⟩, h5⟩ := hc i hi
      exact ⟨by omega, by omega, fun y hy => Nat.le_trans (h4 y hy) h5⟩
theorem trod_strsB {fuel : Nat} {cs : List Value} {x : DataW H × List MemPlace} (h : DataW.trod enc Tryz.prog w base sp held fuel 24 cs = some x) :
    ∃ (v : Value) (l : List ByteArray), cs = [v] ∧ IsStrs w v l ∧ l.length ≤ Rows.uptoBulk x.1 ∧ ∀ i, i < l.length → (l.getD i ByteArray.empty).size ≤ Rows.uptoBulk x.1 := by
  obtain ⟨a0, cap, l, rfl, hcap, hl, hh⟩ := trod_rel ByteArray.empty (fun cs (s : ByteArray) n => cs = [.string s] ∧ s.size ≤ n) Tryz.underlying24 cStr (by decide) (fun cs a n h => by rw [h.1]; rfl) (fun h => by
    obtain ⟨s, rfl, rfl, _⟩ := DataW.trod_string Tryz.underlying9 h
    refine ⟨s, rfl, ?_⟩
    rw [bulks.string_eq, Array.length_toList]
    exact Nat.le_succ _) h
  refine ⟨_, l, rfl, ⟨a0, cap, rfl, ?_⟩, hl, fun i hi => ?_⟩
  · rcases hh with h | ⟨b, off, ha, hb, hc⟩
    · exact Or.inl h
    · refine Or.inr ⟨b, off, ha, hb, fun i hi => ?_⟩
      obtain ⟨cs', h1, n, ⟨rfl, _⟩, _⟩ := hc i hi
      have := h1 0 _ rfl
      rwa [Nat.mul_one] at this
  · rcases hh with h | ⟨b, off, ha, hb, hc⟩
    · subst h; simp at hi
    · obtain ⟨cs', _, n, ⟨_, h2⟩, h4⟩ := hc i hi
      omega
structure ActB (x : ActX) (n : Nat) : Prop where
  d : x.dd < 256
  wf : RowsWf x.rs
  e : x.es.length ≤ n
  es : ∀ i, i < x.es.length → (x.es.getD i dE).path.size ≤ n ∧ (x.es.getD i dE).text.size ≤ n
  r : x.rs.length ≤ n
  rs : ∀ i, i < x.rs.length → (x.rs.getD i dR).1.size ≤ n ∧ (x.rs.getD i dR).2.l.length ≤ n ∧ ∀ y ∈ (x.rs.getD i dR).2.l, y.tx.size ≤ n
  p : x.pp.length ≤ n
  ps : ∀ i, i < x.pp.length → (x.pp.getD i ByteArray.empty).size ≤ n
theorem ActB.fit {x : ActX} {n : Nat} (h : ActB x n) (hn : n ≤ 1048576) : ActFit x := by
  have he := h.e; have hr := h.r; have hp := h.p
  refine ⟨h.d, h.wf, ⟨Nat.le_trans he hn, Nat.le_trans hr hn, Nat.le_trans hp hn, fun i hi => ?_, fun i hi => ?_⟩, fun i hi => ?_, fun i hi => ?_⟩
  · obtain ⟨a, b⟩ := h.es i hi; exact ⟨Nat.le_trans a hn, Nat.le_trans b hn⟩
  · obtain ⟨_, b, c⟩ := h.rs i hi; exact ⟨Nat.le_trans b hn, fun j hj => Nat.le_trans (c _ (getD_mem hj)) hn⟩
  · exact Nat.le_trans (h.rs i hi).1 hn
  · exact Nat.le_trans (h.ps i hi) hn
set_option maxRecDepth 100000 in
theorem trod_act {fuel : Nat} {cs : List Value} {x : DataW H × List MemPlace} (h : DataW.trod enc Tryz.prog w base sp held fuel 28 cs = some x) :
    ∃ y : ActX, ∃ ve vr vp, cs = [.int .u8 y.dd, ve, vr, vp] ∧ ActIs w ve vr vp y ∧ ActB y (Rows.uptoBulk x.1) := by
  obtain ⟨xs, n, _, rfl, hl, hlen, hf⟩ := DataW.trod_struct Tryz.underlying28 h
  rw [cAct] at hl
  obtain ⟨c0, c1, c2, c3, rfl⟩ := list4 hl
  obtain ⟨y0, y1, y2, y3, rfl⟩ := list4 hlen
  have h0 : DataW.trod enc Tryz.prog w base sp held n 5 [c0] = some y0 := by simpa [cU8] using hf 0 _ rfl
  have h1 : DataW.trod enc Tryz.prog w base sp held n 23 [c1] = some y1 := by simpa [cEdtsA] using hf 1 _ rfl
  have h2 : DataW.trod enc Tryz.prog w base sp held n 26 [c2] = some y2 := by simpa [cRowsA] using hf 2 _ rfl
  have h3 : DataW.trod enc Tryz.prog w base sp held n 24 [c3] = some y3 := by simpa [cStrsA] using hf 3 _ rfl
  obtain ⟨a0, e0, rfl, w0⟩ := DataW.trod_int Tryz.underlying5 h0
  have w0' : 0 ≤ a0 ∧ a0 < 256 := wf_u8 w0
  obtain ⟨d, rfl⟩ : ∃ d : Nat, a0 = d := ⟨a0.toNat, by omega⟩
  obtain ⟨ve, es, e1, i1, b1, s1⟩ := trod_edtsB h1
  obtain ⟨vr, rs, e2, i2, f2, b2, s2⟩ := trod_rowsB h2
  obtain ⟨vp, pp, e3, i3, b3, s3⟩ := trod_strsB h3
  simp only [List.cons.injEq, and_true] at e0 e1 e2 e3
  subst e0; subst e1; subst e2; subst e3
  have hB : ∀ z ∈ [y1.1, y2.1, y3.1], Rows.uptoBulk z ≤ Rows.uptoBulk (DataW.agg ([(DataW.lit (.int .u8 (d : Int)), ([] : List MemPlace)), y1, y2, y3].map (·.1))) := by
    intro z hz
    simp only [List.map_cons, List.map_nil, Rows.uptoBulk, Rows.uptoBulkAll]
    simp only [List.mem_cons, List.mem_nil_iff, or_false] at hz
    rcases hz with rfl | rfl | rfl <;> omega
  have g1 := hB _ (by simp : y1.1 ∈ [y1.1, y2.1, y3.1])
  have g2 := hB _ (by simp : y2.1 ∈ [y1.1, y2.1, y3.1])
  have g3 := hB _ (by simp : y3.1 ∈ [y1.1, y2.1, y3.1])
  refine ⟨⟨d, es, rs, pp⟩, _, _, _, rfl, ⟨i1, i2, i3⟩, ?_⟩
  have hd : d < 256 := by omega
  exact ⟨hd, f2, Nat.le_trans b1 g1, fun i hi => ⟨Nat.le_trans (s1 i hi).1 g1, Nat.le_trans (s1 i hi).2 g1⟩, Nat.le_trans b2 g2, fun i hi => ⟨Nat.le_trans (s2 i hi).1 g2, Nat.le_trans (s2 i hi).2.1 g2, fun y hy => Nat.le_trans ((s2 i hi).2.2 y hy) g2⟩, Nat.le_trans b3 g3, fun i hi => Nat.le_trans (s3 i hi) g3⟩
set_option maxRecDepth 100000 in
theorem open_acts {r : Reach} {b0 : Nat} {v : Value} {d : DataW H} {ps : List MemPlace} (hval : Value.okWide Tryz.prog w r b0 22 v) (hd : DataW.Trod enc Tryz.prog w base sp held 22 v d ps) :
    ∃ l : List ActX, IsActsX w v l ∧ l.length ≤ Rows.uptoBulk d ∧ ∀ i, i < l.length → ActB (l.getD i dX) (Rows.uptoBulk d) := by
  obtain ⟨a0, len0, cap0, rfl⟩ := okWide_slice Tryz.underlying22 hval
  obtain ⟨fuel, hf⟩ := hd
  obtain ⟨a1, cap, l, hcs, hcap, hl, hh⟩ := trod_rel dX (fun cs (y : ActX) n => ∃ ve vr vp, cs = [.int .u8 y.dd, ve, vr, vp] ∧ ActIs w ve vr vp y ∧ ActB y n) Tryz.underlying22 cAct (by decide) (fun cs a n h => by obtain ⟨_, _, _, rfl, _⟩ := h; rfl) trod_act hf
  have hv : Value.slice a0 len0 cap0 = .slice a1 l.length cap := by simpa [Value.cells] using hcs
  rw [hv]
  refine ⟨l, ⟨a1, cap, rfl, ?_⟩, hl, fun i hi => ?_⟩
  · rcases hh with h | ⟨b, off, ha, hb, hc⟩
    · exact Or.inl h
    · refine Or.inr ⟨b, off, ha, hb, fun i hi => ?_⟩
      obtain ⟨cs', h1, n, ⟨ve, vr, vp, rfl, h2, _⟩, _⟩ := hc i hi
      exact ⟨ve, vr, vp, h1 0 _ rfl, h1 1 _ rfl, h1 2 _ rfl, h1 3 _ rfl, h2⟩
  · rcases hh with h | ⟨b, off, ha, hb, hc⟩
    · subst h; simp at hi
    · obtain ⟨cs', _, n, ⟨ve, vr, vp, _, _, h2⟩, h4⟩ := hc i hi
      refine ⟨h2.d, h2.wf, Nat.le_trans h2.e h4, fun j hj => ⟨Nat.le_trans (h2.es j hj).1 h4, Nat.le_trans (h2.es j hj).2 h4⟩, Nat.le_trans h2.r h4, fun j hj => ⟨Nat.le_trans (h2.rs j hj).1 h4, Nat.le_trans (h2.rs j hj).2.1 h4, fun y hy => Nat.le_trans ((h2.rs j hj).2.2 y hy) h4⟩, Nat.le_trans h2.p h4, fun j hj => Nat.le_trans (h2.ps j hj) h4⟩
end
set_option maxRecDepth 100000 in
theorem open_quota {H : Type} {enc : TypeId × Value → H} {w : World} {base : Nat} {sp : Nat → Bool} {held : Bool} {r : Reach} {b0 : Nat} {v : Value} {d : DataW H} {ps : List MemPlace} (hval : Value.okWide Tryz.prog w r b0 31 v) (hd : DataW.Trod enc Tryz.prog w base sp held 31 v d ps) :
    ∃ a b : Int, v = .agg #[.int .i64 a, .int .i64 b] ∧ d = .agg [.lit (.int .i64 a), .lit (.int .i64 b)] ∧ ps = [] ∧ True := by
  obtain ⟨v0, v1, y0, y1, n, rfl, rfl, rfl, h0, h1⟩ := Go.Joins.open_agg2 Tryz.underlying31 (by kernel_rfl) (by kernel_rfl) hval hd
  obtain ⟨z0, e0, rfl, _⟩ := DataW.trod_int Tryz.underlying3 h0
  obtain ⟨z1, e1, rfl, _⟩ := DataW.trod_int Tryz.underlying3 h1
  simp only [List.cons.injEq, and_true] at e0 e1
  subst e0; subst e1
  exact ⟨z0, z1, rfl, rfl, rfl, trivial⟩
end Go.Proofs.YtfbgnpfhjbiikaaGreatDoor
