/- Contract: model.does. Contracts: model.without, model.Rows. Contract: model.Check. Contracts: scriniumlaw31.put, get. Maps from transactions to numbers; lists of transactions. -/
import Derived.Test.YtfbgnpfhjbiikaaGreatDoorQp07
import Derived.Maps.OwnSet
import Derived.Maps.Keyed
import Derived.DeepKeys3
namespace Go.Proofs.YtfbgnpfhjbiikaaGreatDoor
open Go Go.RowKit
open Pth
open Go.Maps (has size Canon CanonK Tidy IsMap KeysOf Keyed Merged)
theorem zeroReply (w : World) : (zeroValue 85).run Tryz.prog w = .ok (.agg #[.slice none 0 0, .slice none 0 0, .slice none 0 0]) w := by kernel_rfl
theorem zeroFun (w : World) : (zeroValue 1).run Tryz.prog w = .ok .nilFunc w := by kernel_rfl
theorem kU8 : Keyed Tryz.prog 5 := Maps.int_keyed Tryz.underlying5
theorem keyU8 {k : Nat} (hk : k < 256) : keyOf Tryz.prog 5 (.int .u8 k) = some (.int .u8 k) := Maps.keyOf_int_mk Tryz.underlying5 (by
  simp [Lit.wf, IntKind.min, IntKind.max, IntKind.signed, IntKind.bits]; omega)
theorem kU8_ne {a b : Nat} (h : a ≠ b) : (Lit.int .u8 (a : Int)) ≠ .int .u8 (b : Int) := fun e => by injection e with _ e; exact h (by omega)
theorem isKeyU8 (a : Nat) : WideAt.IsKeyLit (.int .u8 (a : Int)) := trivial
theorem wpl_insert {ops : Array Oper} {rest : List Oper} {o : Oper} {a : Act} {w : World} {Q : Exit → Act → World → Prop}
    (hg : o.guard = none) (m x v : Operand) (t : TypeId) (hop : o.op = Op.insert t m x v)
    (k e : TypeId) (K : Keyed Tryz.prog k) (ht : Tryz.prog.underlying t = some (.map k e)) (b n : Nat) (D : DataW Value)
    (hm : a.eval m = .map (some b)) (hown : w.ownsMap Tryz.prog k heldR b n D) (hn : n < maxLen) (key val : Value) (kl : Lit) (hx : a.eval x = key) (hv : a.eval v = val) (hkey : keyOf Tryz.prog k key = some kl)
    (hK : ∀ w', w'.ownsMap Tryz.prog k heldR b (n + 1) (D.put kl (.held val)) → w.grownBy w' (some b) → wpList Tryz.prog ops Q rest (a.put o.dst undef) w') :
    wpList Tryz.prog ops Q (o :: rest) a w := by
  refine wpList_plain hg fun K' hK' => ?_
  obtain ⟨w', hrun, r1, r2⟩ := hown.update K ht hn hkey (show heldR val = some (.held val, []) from rfl)
  unfold Oper.wp
  simp [execOp, hop, hm, hx, hv, hrun, Result.andThen]
  exact hK' _ _ (hK w' r1 r2)

theorem setCell_self {W : World} {b o : Nat} {v : Value} (h : W.cell? ⟨b, o, none⟩ = some v) : W.setCell ⟨b, o, none⟩ v = W := by
  rw [Sort.setCell_eq]
  refine Sort.mapBlock_id _ _ _ (fun c e fr hb => ?_)
  unfold World.cell? at h
  rw [hb] at h
  have h2 : c[o]? = some v := by simpa using h
  apply Array.ext_getElem?
  intro i
  rw [Array.getElem?_setIfInBounds]
  split
  · rename_i e; subst e; rw [h2]; split
    · rfl
    · rename_i hn; exact absurd (Array.getElem?_eq_some_iff.1 h2).1 hn
  · rfl
theorem ButS.cutB {S S' : Nat → Prop} {w1 w2 w3 : World} (h : Below w1.heap.size w1 w2) (k : ButS S' w2 w3) (hS : ∀ k, S' k → k < w1.heap.size → S k) : ButS S w1 w3 :=
  ⟨k.os.trans h.os, k.tape.trans h.tape, k.output.trans h.output, Nat.le_trans h.size k.size, fun i hi hn => (k.block i (Nat.lt_of_lt_of_le hi h.size) (fun hs => hn (hS i hs hi))).trans (h.block i hi)⟩
structure Done where
  got : List GotR
  nums : List Nat
  names : List ByteArray
  is : Bool
  M : DataW Cel
  B : Int
def doesT (M : DataW Cel) (B q1 q2 : Int) (c : Cal) : Done :=
  if c.kind = 1 then ⟨gotsT M c.rds, nextV (triedT M B q1 q2 c.eds), [], decide ((triedT M B q1 q2 c.eds).1.2 = 0), nextM (triedT M B q1 q2 c.eds) M, nextB (triedT M B q1 q2 c.eds) B⟩
  else if c.kind = 2 then ⟨[], [], namesT (rowsL M) c.pre, true, M, B⟩ else ⟨[], [], [], true, M, B⟩
def DoeG (d : Done) (t b : Nat) (q1 q2 : Int) (w : World) (e : Ending) (w' : World) : Prop :=
  ∃ vG vN vM, e = .returned (.tuple #[.agg #[vG, vN, vM], .bool d.is]) ∧ IsGots w' vG d.got ∧ IsNums w' vN d.nums ∧ IsStrs w' vM d.names ∧ TabAt w' t b q1 q2 d.M d.B ∧ ButS (fun k => k = t ∨ k = b) w w'
structure CalSz (c : Cal) : Prop where
  k : c.kind < 256
  r : c.rds.length ≤ 1048576
  rs : ∀ i, i < c.rds.length → (c.rds.getD i dRd).path.size ≤ 140737488351232
  e : c.eds.length ≤ 1048576
  es : ∀ i, i < c.eds.length → (c.eds.getD i dE).path.size ≤ 140737488351232 ∧ (c.eds.getD i dE).text.size ≤ 9223372036854775807
  p : c.pre.size ≤ 140737488351232

set_option maxRecDepth 100000 in
set_option maxHeartbeats 4000000 in
theorem model_does (w0 w : World) {t b : Nat} {q1 q2 B : Int} {M : DataW Cel} (vR vE : Value) (c : Cal) (hw : Below w0.heap.size w0 w) (hc : CalIs w0 vR vE c) (ht : w0.heap.size ≤ t) (hb : w0.heap.size ≤ b) (h : TabAt w t b q1 q2 M B) (hg : Good Tryz.prog 9 M) (hm : MX w0)
    (hz : CalSz c) (hsM : size M ≤ 1073741824) (hB0 : -1125899906842624 ≤ B) (hB1 : B ≤ 1125899906842624) :
    Calls Tryz.prog 67 #[.pointer (some ⟨t, 0, none⟩), calVal vR vE c] w (DoeG (doesT M B q1 q2 c) t b q1 q2 w) := by
  have hzr := zeroReply
  have hmm := @run_makeMap Tryz.prog
  have hvR : vR.oneCell' = true := by obtain ⟨a, k, e, _⟩ := hc.r; rw [e]; rfl
  have hvE : vE.oneCell' = true := by obtain ⟨a, k, e, _⟩ := hc.e; rw [e]; rfl
  have HW := Lib.hid hw; have HC := Lib.hid hc; have HT := Lib.hid h; have HG := Lib.hid hg; have HM := Lib.hid hm; have HZ := Lib.hid hz
  have htn := Lib.hid h.lt; have hbn := Lib.hid (HoldsMap.lt h.m)
  clear hw hc h hg hm hz
  unfold calVal
  go_enter Tryz.func67, Tryz.ntmps67
  go_upto_region 2 with fail
  refine wp_abs (F := fun W => One w.heap.size #[.pointer (some ⟨t, 0, none⟩)] W ∧ One (w.heap.size + 1) #[.int .u8 c.kind, vR, vE, .string c.pre, .int .u64 c.f, .int .u64 c.t, .int .u32 c.dst] W ∧ One (w.heap.size + 2) #[.slice none 0 0, .slice none 0 0, .slice none 0 0] W ∧ One (w.heap.size + 3) #[.bool true] W ∧ Below w.heap.size w W ∧ W.heap.size = w.heap.size + 4) ?_ ?_
  · have b1 : ∀ (W : World) (o : Obj), Below W.heap.size W (W.alloc o) := fun W o => (Below.refl _ _).alloc (Nat.le_refl _) _
    refine ⟨(((One.of w _ _).step (b1 _ _)).step (b1 _ _)).step (b1 _ _), ?_, ?_, ?_, (((((Below.refl w.heap.size w).alloc (Nat.le_refl _) _).alloc (by simp) _).alloc (by simp; omega) _).alloc (by simp; omega) _), by simp⟩
    · have := ((One.of (w.alloc (.cells #[.pointer (some ⟨t, 0, none⟩)] 32)) #[.int .u8 c.kind, vR, vE, .string c.pre, .int .u64 c.f, .int .u64 c.t, .int .u32 c.dst] 80).step (b1 _ (.cells #[.slice none 0 0, .slice none 0 0, .slice none 0 0] 85))).step (b1 _ (.cells #[.bool true] 4))
      simpa using this
    · have := (One.of ((w.alloc (.cells #[.pointer (some ⟨t, 0, none⟩)] 32)).alloc (.cells #[.int .u8 c.kind, vR, vE, .string c.pre, .int .u64 c.f, .int .u64 c.t, .int .u32 c.dst] 80)) #[.slice none 0 0, .slice none 0 0, .slice none 0 0] 85).step (b1 _ (.cells #[.bool true] 4))
      simpa using this
    · have := One.of (((w.alloc (.cells #[.pointer (some ⟨t, 0, none⟩)] 32)).alloc (.cells #[.int .u8 c.kind, vR, vE, .string c.pre, .int .u64 c.f, .int .u64 c.t, .int .u32 c.dst] 80)).alloc (.cells #[.slice none 0 0, .slice none 0 0, .slice none 0 0] 85)) #[.bool true] 4
      simpa using this
  rintro W ⟨hO0, hO1, hO2, hO3, hbW, hsz⟩
  have HO0 := Lib.hid hO0; have HO1 := Lib.hid hO1; have HO2 := Lib.hid hO2; have HO3 := Lib.hid hO3; have HbW := Lib.hid hbW
  obtain ⟨nW, hnW⟩ : ∃ nW, nW = W.heap.size := ⟨_, rfl⟩
  have HnW := Lib.hid hnW; have Hsz := Lib.hid hsz
  clear hO0 hO1 hO2 hO3 hbW hnW hsz
  go_upto_region 3 with (first
    | (refine wpl_insert rfl (.tmp 9) _ (.tmp 10) 160 rfl 5 1 kU8 Tryz.underlying160 W.heap.size 0 (.map []) rfl (World.ownsMap_made W Tryz.prog 5 heldR) (by unfold maxLen; omega) (.int .u8 ((1 : Nat) : Int)) (Value.func (Fn.func 93) #[] #[.pointer (some ⟨w.heap.size + 1, 0, none⟩), .pointer (some ⟨w.heap.size, 0, none⟩), .pointer (some ⟨w.heap.size + 1 + 1, 0, none⟩), .pointer (some ⟨w.heap.size + 1 + 1 + 1, 0, none⟩)]) _ rfl rfl (keyU8 (k := 1) (by omega)) ?_; intro w1 hown1 hg1)
    | (refine wpl_insert rfl (.tmp 9) _ (.tmp 11) 160 rfl 5 1 kU8 Tryz.underlying160 W.heap.size 1 _ rfl hown1 (by unfold maxLen; omega) (.int .u8 ((2 : Nat) : Int)) (Value.func (Fn.func 94) #[] #[.pointer (some ⟨w.heap.size, 0, none⟩), .pointer (some ⟨w.heap.size + 1, 0, none⟩), .pointer (some ⟨w.heap.size + 1 + 1, 0, none⟩)]) _ rfl rfl (keyU8 (k := 2) (by omega)) ?_; intro w2 hown2 hg2)
    | fail)
  -- the map's two closures
  have HD : Hid (∀ z, (zeroValue 1).run Tryz.prog w2 = .ok z w2 → z = .nilFunc) := Lib.hid (fun z h => by rw [zeroFun] at h; injection h with h; exact h.symm)
  obtain ⟨f1, hf1⟩ : ∃ f1, f1 = Value.func (Fn.func 93) #[] #[.pointer (some ⟨w.heap.size + 1, 0, none⟩), .pointer (some ⟨w.heap.size, 0, none⟩), .pointer (some ⟨w.heap.size + 1 + 1, 0, none⟩), .pointer (some ⟨w.heap.size + 1 + 1 + 1, 0, none⟩)] := ⟨_, rfl⟩
  obtain ⟨f2, hf2⟩ : ∃ f2, f2 = Value.func (Fn.func 94) #[] #[.pointer (some ⟨w.heap.size, 0, none⟩), .pointer (some ⟨w.heap.size + 1, 0, none⟩), .pointer (some ⟨w.heap.size + 1 + 1, 0, none⟩)] := ⟨_, rfl⟩
  rw [← hf1, ← hf2] at hown2
  have tD : IsMap (.map [] : DataW Value) := (canonK_tidy (canonK_nil (KeysOf Tryz.prog 5))).isMap
  have HL : Hid (∃ v ok, (Instr.lookup 160 (.map (some W.heap.size)) (.int .u8 c.kind) true).run Tryz.prog w2 = .ok (.tuple #[v, .bool ok]) w2 ∧ (c.kind = 1 → v = f1 ∧ ok = true) ∧ (c.kind = 2 → v = f2 ∧ ok = true) ∧ (c.kind ≠ 1 → c.kind ≠ 2 → ok = false)) := Lib.hid (by
    obtain ⟨v, ps, hr, hv⟩ := hown2.look_ok kU8 Tryz.underlying160 (zeroFun w2) (zd := .held .nilFunc) (zp := []) rfl (keyU8 HZ.out.k)
    have e1 : DataW.held v = (((DataW.map [] : DataW Value).put (.int .u8 ((1 : Nat) : Int)) (.held f1)).put (.int .u8 ((2 : Nat) : Int)) (.held f2)).atKey (.int .u8 c.kind) (.held .nilFunc) := by simpa [heldR] using (congrArg (fun o => o.map Prod.fst) hv)
    refine ⟨v, _, hr, fun h => ?_, fun h => ?_, fun h1 h2 => ?_⟩
    · rw [h] at e1 ⊢
      have hne : (Lit.int .u8 ((1 : Nat) : Int)) ≠ .int .u8 ((2 : Nat) : Int) := kU8_ne (by decide)
      rw [Maps.atKey_put_other hne, Maps.atKey_put_same tD (isKeyU8 1)] at e1
      injection e1 with e1
      exact ⟨e1, by rw [Maps.has_put_other hne, Maps.has_put_same tD (isKeyU8 1)]⟩
    · rw [h] at e1 ⊢
      have tD1 : IsMap ((DataW.map [] : DataW Value).put (.int .u8 ((1 : Nat) : Int)) (.held f1)) := tD.put _ _
      rw [Maps.atKey_put_same tD1 (isKeyU8 2)] at e1
      injection e1 with e1
      exact ⟨e1, Maps.has_put_same tD1 (isKeyU8 2) _⟩
    · rw [Maps.has_put_other (kU8_ne h2), Maps.has_put_other (kU8_ne h1)]; rfl)
  have hgB : ∀ (k : Nat), k < W.heap.size → ((some W.heap.size : Option Nat) ≠ some k) := fun k hk e => by injection e with e; omega
  have hO0 := one_grown (one_grown (HO0.out.step ((Below.refl _ _).alloc (Nat.le_refl _) (.map #[] 0))) hg1 (hgB _ (by have := Hsz.out; omega))) hg2 (hgB _ (by have := Hsz.out; omega))
  have hO1 := one_grown (one_grown (HO1.out.step ((Below.refl _ _).alloc (Nat.le_refl _) (.map #[] 0))) hg1 (hgB _ (by have := Hsz.out; omega))) hg2 (hgB _ (by have := Hsz.out; omega))
  have hO2 := one_grown (one_grown (HO2.out.step ((Below.refl _ _).alloc (Nat.le_refl _) (.map #[] 0))) hg1 (hgB _ (by have := Hsz.out; omega))) hg2 (hgB _ (by have := Hsz.out; omega))
  have hO3 := one_grown (one_grown (HO3.out.step ((Below.refl _ _).alloc (Nat.le_refl _) (.map #[] 0))) hg1 (hgB _ (by have := Hsz.out; omega))) hg2 (hgB _ (by have := Hsz.out; omega))
  have hbA : Below w.heap.size w (W.alloc (.map #[] 0)) := HbW.out.alloc (by have := Hsz.out; omega) _
  have hb1 : Below w.heap.size w w1 := hbA.grown hg1 hbA.size (fun k hk => by cases hk; have := Hsz.out; omega)
  have hb2 : Below w.heap.size w w2 := hb1.grown hg2 hb1.size (fun k hk => by cases hk; have := Hsz.out; omega)
  have hszW : w.heap.size + 4 < w2.heap.size := by
    have h1 := hg1.size; have h2 := hg2.size; have h3 := Hsz.out
    simp at h1; omega
  have c0 := hO1.c 0
  simp at c0
  have HB2 := Lib.hid hb2; have HOa := Lib.hid hO0; have HOb := Lib.hid hO1; have HOc := Lib.hid hO2; have HOd := Lib.hid hO3; have HszW := Lib.hid hszW
  have HT2 := Lib.hid (HT.out.below hb2)
  have hW0 := HW.out.size
  clear hgB hO0 hO1 hO2 hO3 hbA hb1 hb2 hg1 hg2 hown1 hown2 tD hszW HO0 HO1 HO2 HO3 hzr
  obtain ⟨v, ok, hrun, h1, h2, h3⟩ := HL.out
  have HK1 := Lib.hid h1; have HK2 := Lib.hid h2; have HK3 := Lib.hid h3
  clear h1 h2 h3 HL HD
  have Hf1 := Lib.hid hf1; have Hf2 := Lib.hid hf2
  clear hf1 hf2
  -- CASES
  by_cases hk1 : c.kind = 1
  · obtain ⟨e1, e2⟩ := HK1.out hk1
    rw [e1, e2, Hf1.out] at hrun
    have hd : Hid (doesT M B q1 q2 c = ⟨gotsT M c.rds, nextV (triedT M B q1 q2 c.eds), [], decide ((triedT M B q1 q2 c.eds).1.2 = 0), nextM (triedT M B q1 q2 c.eds) M, nextB (triedT M B q1 q2 c.eds) B⟩) := Lib.hid (by unfold doesT; rw [if_pos hk1])
    have HDo := Lib.hid (does_ops w0 w2 (n := w.heap.size) (vR := vR) (vE := vE) (c := c) ⟨HW.out.trans (HB2.out.mono hW0), HC.out, ht, hb, hW0, htn.out, hbn.out, by have := HszW.out; omega, by have := HOb.out.c 1; simpa using this, by have := HOb.out.c 2; simpa using this, by have := HOa.out.c 0; simpa using this, HOc.out, HOd.out⟩ HT2.out HG.out HM.out HZ.out.r HZ.out.rs HZ.out.e hsM hB0 hB1 HZ.out.es)
    clear e1 e2 hk1 HK1 HK2 HK3
    go_wp2_with fail
    refine HDo.out.mono ?_
    rintro e w8 ⟨rfl, vG, vN, hR8, hG8, hN8, hI8, hT8, hB8⟩
    have HB8 : Hid (ButS (fun k => k = t ∨ k = b) w w8) := Lib.hid (ButS.cutB HB2.out hB8 (fun k hk hkl => by rcases hk with e | e | e | e; exact Or.inl e; exact Or.inr e; omega; omega))
    have HR8 : Hid (One (w.heap.size + 1 + 1) #[vG, vN, .slice none 0 0] w8) := Lib.hid hR8; have HI8 : Hid (One (w.heap.size + 1 + 1 + 1) #[.bool (doesT M B q1 q2 c).is] w8) := Lib.hid (by rw [hd.out]; exact hI8)
    have HG8 : Hid (IsGots w8 vG (doesT M B q1 q2 c).got) := Lib.hid (by rw [hd.out]; exact hG8)
    have HN8 : Hid (IsNums w8 vN (doesT M B q1 q2 c).nums) := Lib.hid (by rw [hd.out]; exact hN8)
    obtain ⟨vM, hvM⟩ : ∃ vM, vM = Value.slice none 0 0 := ⟨_, rfl⟩
    rw [← hvM] at HR8
    have HM8 : Hid (IsStrs w8 vM (doesT M B q1 q2 c).names) := Lib.hid (by rw [hd.out, hvM]; exact ⟨none, 0, rfl, Or.inl rfl⟩)
    have HT8 : Hid (TabAt w8 t b q1 q2 (doesT M B q1 q2 c).M (doesT M B q1 q2 c).B) := Lib.hid (by rw [hd.out]; exact hT8)
    clear hvM hG8 hN8 hR8 hI8 hT8 hB8 hd HDo c0 hrun
    obtain ⟨d, hdd⟩ : ∃ d, doesT M B q1 q2 c = d := ⟨_, rfl⟩
    rw [hdd] at HI8 HG8 HN8 HM8 HT8 ⊢
    have Hdd := Lib.hid hdd
    clear hdd
    obtain ⟨aG, cG, rfl, _⟩ := HG8.out
    obtain ⟨aN, cN, rfl, _⟩ := HN8.out
    obtain ⟨aM, cM, rfl, _⟩ := HM8.out
    go_wp2_with fail
    have m0 := HR8.out.c 0; have m1 := HR8.out.c 1; have m2 := HR8.out.c 2
    have m3 := HI8.out.c 0
    have g0 := HR8.out.f 0; have g1 := HR8.out.f 1; have g2 := HR8.out.f 2; have g3 := HI8.out.f 0
    simp at m0 m1 m2 m3
    have K1 : Hid (w8.drew.cell? ⟨w.heap.size + 1 + 1, 0, none⟩ = some (.slice aG d.got.length cG) ∧ w8.drew.cell? ⟨w.heap.size + 1 + 1, 1, none⟩ = some (.slice aN d.nums.length cN) ∧ w8.drew.cell? ⟨w.heap.size + 1 + 1, 2, none⟩ = some (.slice aM d.names.length cM) ∧ w8.drew.cell? ⟨w.heap.size + 1 + 1 + 1, 0, none⟩ = some (.bool d.is) ∧ w8.drew.frozen? ⟨w.heap.size + 1 + 1, 0, none⟩ = false ∧ w8.drew.frozen? ⟨w.heap.size + 1 + 1, 1, none⟩ = false ∧ w8.drew.frozen? ⟨w.heap.size + 1 + 1, 2, none⟩ = false ∧ w8.drew.frozen? ⟨w.heap.size + 1 + 1 + 1, 0, none⟩ = false ∧ Hid (Below w8.heap.size w8 w8.drew)) := Lib.hid ⟨m0, m1, m2, m3, g0, g1, g2, g3, Lib.hid (Below.drew (Below.refl _ _))⟩
    have E2 : Hid (((w8.setCell ⟨w.heap.size + 1 + 1, 0, none⟩ (.slice aG d.got.length cG)).setCell ⟨w.heap.size + 1 + 1, 1, none⟩ (.slice aN d.nums.length cN)).setCell ⟨w.heap.size + 1 + 1, 2, none⟩ (.slice aM d.names.length cM) = w8) := Lib.hid (by rw [setCell_self m0, setCell_self m1, setCell_self m2])
    have E3 : Hid (w8.setCell ⟨w.heap.size + 1 + 1 + 1, 0, none⟩ (.bool d.is) = w8) := Lib.hid (setCell_self m3)
    go_region_held3 (fun W' : World => W'.cell? ⟨w.heap.size + 1 + 1, 0, none⟩ = some (.slice aG d.got.length cG) ∧ W'.cell? ⟨w.heap.size + 1 + 1, 1, none⟩ = some (.slice aN d.nums.length cN) ∧ W'.cell? ⟨w.heap.size + 1 + 1, 2, none⟩ = some (.slice aM d.names.length cM) ∧ W'.cell? ⟨w.heap.size + 1 + 1 + 1, 0, none⟩ = some (.bool d.is) ∧ W'.frozen? ⟨w.heap.size + 1 + 1, 0, none⟩ = false ∧ W'.frozen? ⟨w.heap.size + 1 + 1, 1, none⟩ = false ∧ W'.frozen? ⟨w.heap.size + 1 + 1, 2, none⟩ = false ∧ W'.frozen? ⟨w.heap.size + 1 + 1 + 1, 0, none⟩ = false ∧ Hid (Below w8.heap.size w8 W')) (first | with_reducible exact K1.out | ((simp only [E2.out, E3.out]); with_reducible exact K1.out)) (fail)
    all_goals (
      rename_i hHeld
      obtain ⟨x0, x1, x2, x3, _, _, _, _, hbl⟩ := hHeld
      have hFin := hbl.out
      go_wp2_with fail
      exact bodyPost_ret (v := .tuple #[.agg #[.slice aG d.got.length cG, .slice aN d.nums.length cN, .slice aM d.names.length cM], .bool d.is]) (by simp [results, Tryz.results67, go_sem, x0, x1, x2, x3]) rfl (show DoeG (doesT M B q1 q2 c) t b q1 q2 w _ _ from by rw [Hdd.out]; exact ⟨_, _, _, rfl, HG8.out.below hFin (Nat.le_refl _), HN8.out.below hFin (Nat.le_refl _), HM8.out.below hFin (Nat.le_refl _), HT8.out.below hFin, HB8.out.trans (ButS.of hFin)⟩))
  · by_cases hk2 : c.kind = 2
    · obtain ⟨e1, e2⟩ := HK2.out hk2
      rw [e1, e2, Hf2.out] at hrun
      have hd : Hid (doesT M B q1 q2 c = ⟨[], [], namesT (rowsL M) c.pre, true, M, B⟩) := Lib.hid (by unfold doesT; rw [if_neg hk1, if_pos hk2])
      have HDo := Lib.hid (does_list w2 (n := w.heap.size) (c := c) (by have := HOa.out.c 0; simpa using this) (by have := HOb.out.c 3; simpa using this) HOc.out HT2.out HG.out ((HM.out.below HW.out (Nat.le_refl _)).below HB2.out (Nat.le_refl _)) HZ.out.p hsM)
      clear e1 e2 hk1 hk2 HK1 HK2 HK3
      go_wp2_with fail
      refine HDo.out.mono ?_
      rintro e w8 ⟨rfl, vM, hR8, hM8, hB8⟩
      have hT8 := HT2.out.but hB8 (fun k hk => by subst hk; exact (one_bare HOc.out (fun v hv => by simp at hv; rcases hv with rfl | rfl | rfl <;> exact ⟨(fun n h => (by cases h)), (fun n h => (by cases h))⟩)).noVers) (by have := htn.out; omega) (by have := hbn.out; omega)
      have HB8 : Hid (ButS (fun k => k = t ∨ k = b) w w8) := Lib.hid (ButS.cutB HB2.out hB8 (fun k hk hkl => by omega))
      have hI8 := one_but HOd.out hB8 (by show ¬ w.heap.size + 3 = w.heap.size + 2; omega)
      obtain ⟨vG, hvG⟩ : ∃ vG, vG = Value.slice none 0 0 := ⟨_, rfl⟩
      obtain ⟨vN, hvN⟩ : ∃ vN, vN = Value.slice none 0 0 := ⟨_, rfl⟩
      have HR8 : Hid (One (w.heap.size + 1 + 1) #[vG, vN, vM] w8) := Lib.hid (by rw [hvG, hvN]; exact hR8); have HI8 : Hid (One (w.heap.size + 1 + 1 + 1) #[.bool (doesT M B q1 q2 c).is] w8) := Lib.hid (by rw [hd.out]; exact hI8)
      have HG8 : Hid (IsGots w8 vG (doesT M B q1 q2 c).got) := Lib.hid (by rw [hd.out, hvG]; exact ⟨none, 0, rfl, Or.inl rfl⟩)
      have HN8 : Hid (IsNums w8 vN (doesT M B q1 q2 c).nums) := Lib.hid (by rw [hd.out, hvN]; exact ⟨none, 0, rfl, Or.inl rfl⟩)
      have HM8 : Hid (IsStrs w8 vM (doesT M B q1 q2 c).names) := Lib.hid (by rw [hd.out]; exact hM8)
      have HT8 : Hid (TabAt w8 t b q1 q2 (doesT M B q1 q2 c).M (doesT M B q1 q2 c).B) := Lib.hid (by rw [hd.out]; exact hT8)
      clear hvG hvN hM8 hR8 hI8 hT8 hB8 hd HDo c0 hrun
      obtain ⟨d, hdd⟩ : ∃ d, doesT M B q1 q2 c = d := ⟨_, rfl⟩
      rw [hdd] at HI8 HG8 HN8 HM8 HT8 ⊢
      have Hdd := Lib.hid hdd
      clear hdd
      obtain ⟨aG, cG, rfl, _⟩ := HG8.out
      obtain ⟨aN, cN, rfl, _⟩ := HN8.out
      obtain ⟨aM, cM, rfl, _⟩ := HM8.out
      go_wp2_with fail
      have m0 := HR8.out.c 0; have m1 := HR8.out.c 1; have m2 := HR8.out.c 2
      have m3 := HI8.out.c 0
      have g0 := HR8.out.f 0; have g1 := HR8.out.f 1; have g2 := HR8.out.f 2; have g3 := HI8.out.f 0
      simp at m0 m1 m2 m3
      have K1 : Hid (w8.drew.cell? ⟨w.heap.size + 1 + 1, 0, none⟩ = some (.slice aG d.got.length cG) ∧ w8.drew.cell? ⟨w.heap.size + 1 + 1, 1, none⟩ = some (.slice aN d.nums.length cN) ∧ w8.drew.cell? ⟨w.heap.size + 1 + 1, 2, none⟩ = some (.slice aM d.names.length cM) ∧ w8.drew.cell? ⟨w.heap.size + 1 + 1 + 1, 0, none⟩ = some (.bool d.is) ∧ w8.drew.frozen? ⟨w.heap.size + 1 + 1, 0, none⟩ = false ∧ w8.drew.frozen? ⟨w.heap.size + 1 + 1, 1, none⟩ = false ∧ w8.drew.frozen? ⟨w.heap.size + 1 + 1, 2, none⟩ = false ∧ w8.drew.frozen? ⟨w.heap.size + 1 + 1 + 1, 0, none⟩ = false ∧ Hid (Below w8.heap.size w8 w8.drew)) := Lib.hid ⟨m0, m1, m2, m3, g0, g1, g2, g3, Lib.hid (Below.drew (Below.refl _ _))⟩
      have E2 : Hid (((w8.setCell ⟨w.heap.size + 1 + 1, 0, none⟩ (.slice aG d.got.length cG)).setCell ⟨w.heap.size + 1 + 1, 1, none⟩ (.slice aN d.nums.length cN)).setCell ⟨w.heap.size + 1 + 1, 2, none⟩ (.slice aM d.names.length cM) = w8) := Lib.hid (by rw [setCell_self m0, setCell_self m1, setCell_self m2])
      have E3 : Hid (w8.setCell ⟨w.heap.size + 1 + 1 + 1, 0, none⟩ (.bool d.is) = w8) := Lib.hid (setCell_self m3)
      go_region_held3 (fun W' : World => W'.cell? ⟨w.heap.size + 1 + 1, 0, none⟩ = some (.slice aG d.got.length cG) ∧ W'.cell? ⟨w.heap.size + 1 + 1, 1, none⟩ = some (.slice aN d.nums.length cN) ∧ W'.cell? ⟨w.heap.size + 1 + 1, 2, none⟩ = some (.slice aM d.names.length cM) ∧ W'.cell? ⟨w.heap.size + 1 + 1 + 1, 0, none⟩ = some (.bool d.is) ∧ W'.frozen? ⟨w.heap.size + 1 + 1, 0, none⟩ = false ∧ W'.frozen? ⟨w.heap.size + 1 + 1, 1, none⟩ = false ∧ W'.frozen? ⟨w.heap.size + 1 + 1, 2, none⟩ = false ∧ W'.frozen? ⟨w.heap.size + 1 + 1 + 1, 0, none⟩ = false ∧ Hid (Below w8.heap.size w8 W')) (first | with_reducible exact K1.out | ((simp only [E2.out, E3.out]); with_reducible exact K1.out)) (fail)
      all_goals (
        rename_i hHeld
        obtain ⟨x0, x1, x2, x3, _, _, _, _, hbl⟩ := hHeld
        have hFin := hbl.out
        go_wp2_with fail
        exact bodyPost_ret (v := .tuple #[.agg #[.slice aG d.got.length cG, .slice aN d.nums.length cN, .slice aM d.names.length cM], .bool d.is]) (by simp [results, Tryz.results67, go_sem, x0, x1, x2, x3]) rfl (show DoeG (doesT M B q1 q2 c) t b q1 q2 w _ _ from by rw [Hdd.out]; exact ⟨_, _, _, rfl, HG8.out.below hFin (Nat.le_refl _), HN8.out.below hFin (Nat.le_refl _), HM8.out.below hFin (Nat.le_refl _), HT8.out.below hFin, HB8.out.trans (ButS.of hFin)⟩))
    · have e2 := HK3.out hk1 hk2
      rw [e2] at hrun
      have hd : Hid (doesT M B q1 q2 c = ⟨[], [], [], true, M, B⟩) := Lib.hid (by unfold doesT; rw [if_neg hk1, if_neg hk2])
      clear e2 hk1 hk2 HK1 HK2 HK3
      obtain ⟨vG, hvG⟩ : ∃ vG, vG = Value.slice none 0 0 := ⟨_, rfl⟩
      obtain ⟨vN, hvN⟩ : ∃ vN, vN = Value.slice none 0 0 := ⟨_, rfl⟩
      obtain ⟨vM, hvM⟩ : ∃ vM, vM = Value.slice none 0 0 := ⟨_, rfl⟩
      obtain ⟨w8, hw8⟩ : ∃ w8, w8 = w2 := ⟨_, rfl⟩
      have HB8 : Hid (ButS (fun k => k = t ∨ k = b) w w8) := Lib.hid (by rw [hw8]; exact ButS.of HB2.out)
      have HR8 : Hid (One (w.heap.size + 1 + 1) #[vG, vN, vM] w8) := Lib.hid (by rw [hw8, hvG, hvN, hvM]; exact HOc.out); have HI8 : Hid (One (w.heap.size + 1 + 1 + 1) #[.bool (doesT M B q1 q2 c).is] w8) := Lib.hid (by rw [hd.out, hw8]; exact HOd.out)
      have HG8 : Hid (IsGots w8 vG (doesT M B q1 q2 c).got) := Lib.hid (by rw [hd.out, hvG]; exact ⟨none, 0, rfl, Or.inl rfl⟩)
      have HN8 : Hid (IsNums w8 vN (doesT M B q1 q2 c).nums) := Lib.hid (by rw [hd.out, hvN]; exact ⟨none, 0, rfl, Or.inl rfl⟩)
      have HM8 : Hid (IsStrs w8 vM (doesT M B q1 q2 c).names) := Lib.hid (by rw [hd.out, hvM]; exact ⟨none, 0, rfl, Or.inl rfl⟩)
      have HT8 : Hid (TabAt w8 t b q1 q2 (doesT M B q1 q2 c).M (doesT M B q1 q2 c).B) := Lib.hid (by rw [hd.out, hw8]; exact HT2.out)
      clear hvG hvN hvM hd
      rw [← hw8] at hrun c0
      rw [← hw8]
      clear hw8
      obtain ⟨d, hdd⟩ : ∃ d, doesT M B q1 q2 c = d := ⟨_, rfl⟩
      rw [hdd] at HI8 HG8 HN8 HM8 HT8 ⊢
      have Hdd := Lib.hid hdd
      clear hdd
      obtain ⟨aG, cG, rfl, _⟩ := HG8.out
      obtain ⟨aN, cN, rfl, _⟩ := HN8.out
      obtain ⟨aM, cM, rfl, _⟩ := HM8.out
      go_wp2_with fail
      have m0 := HR8.out.c 0; have m1 := HR8.out.c 1; have m2 := HR8.out.c 2
      have m3 := HI8.out.c 0
      have g0 := HR8.out.f 0; have g1 := HR8.out.f 1; have g2 := HR8.out.f 2; have g3 := HI8.out.f 0
      simp at m0 m1 m2 m3
      have K1 : Hid (w8.drew.cell? ⟨w.heap.size + 1 + 1, 0, none⟩ = some (.slice aG d.got.length cG) ∧ w8.drew.cell? ⟨w.heap.size + 1 + 1, 1, none⟩ = some (.slice aN d.nums.length cN) ∧ w8.drew.cell? ⟨w.heap.size + 1 + 1, 2, none⟩ = some (.slice aM d.names.length cM) ∧ w8.drew.cell? ⟨w.heap.size + 1 + 1 + 1, 0, none⟩ = some (.bool d.is) ∧ w8.drew.frozen? ⟨w.heap.size + 1 + 1, 0, none⟩ = false ∧ w8.drew.frozen? ⟨w.heap.size + 1 + 1, 1, none⟩ = false ∧ w8.drew.frozen? ⟨w.heap.size + 1 + 1, 2, none⟩ = false ∧ w8.drew.frozen? ⟨w.heap.size + 1 + 1 + 1, 0, none⟩ = false ∧ Hid (Below w8.heap.size w8 w8.drew)) := Lib.hid ⟨m0, m1, m2, m3, g0, g1, g2, g3, Lib.hid (Below.drew (Below.refl _ _))⟩
      have E2 : Hid (((w8.setCell ⟨w.heap.size + 1 + 1, 0, none⟩ (.slice aG d.got.length cG)).setCell ⟨w.heap.size + 1 + 1, 1, none⟩ (.slice aN d.nums.length cN)).setCell ⟨w.heap.size + 1 + 1, 2, none⟩ (.slice aM d.names.length cM) = w8) := Lib.hid (by rw [setCell_self m0, setCell_self m1, setCell_self m2])
      have E3 : Hid (w8.setCell ⟨w.heap.size + 1 + 1 + 1, 0, none⟩ (.bool d.is) = w8) := Lib.hid (setCell_self m3)
      go_region_held3 (fun W' : World => W'.cell? ⟨w.heap.size + 1 + 1, 0, none⟩ = some (.slice aG d.got.length cG) ∧ W'.cell? ⟨w.heap.size + 1 + 1, 1, none⟩ = some (.slice aN d.nums.length cN) ∧ W'.cell? ⟨w.heap.size + 1 + 1, 2, none⟩ = some (.slice aM d.names.length cM) ∧ W'.cell? ⟨w.heap.size + 1 + 1 + 1, 0, none⟩ = some (.bool d.is) ∧ W'.frozen? ⟨w.heap.size + 1 + 1, 0, none⟩ = false ∧ W'.frozen? ⟨w.heap.size + 1 + 1, 1, none⟩ = false ∧ W'.frozen? ⟨w.heap.size + 1 + 1, 2, none⟩ = false ∧ W'.frozen? ⟨w.heap.size + 1 + 1 + 1, 0, none⟩ = false ∧ Hid (Below w8.heap.size w8 W')) (first | with_reducible exact K1.out | ((simp only [E2.out, E3.out]); with_reducible exact K1.out)) (fail)
      all_goals (
        rename_i hHeld
        obtain ⟨x0, x1, x2, x3, _, _, _, _, hbl⟩ := hHeld
        have hFin := hbl.out
        go_wp2_with fail
        exact bodyPost_ret (v := .tuple #[.agg #[.slice aG d.got.length cG, .slice aN d.nums.length cN, .slice aM d.names.length cM], .bool d.is]) (by simp [results, Tryz.results67, go_sem, x0, x1, x2, x3]) rfl (show DoeG (doesT M B q1 q2 c) t b q1 q2 w _ _ from by rw [Hdd.out]; exact ⟨_, _, _, rfl, HG8.out.below hFin (Nat.le_refl _), HN8.out.below hFin (Nat.le_refl _), HM8.out.below hFin (Nat.le_refl _), HT8.out.below hFin, HB8.out.trans (ButS.of hFin)⟩))
end Go.Proofs.YtfbgnpfhjbiikaaGreatDoor

namespace Go.Proofs.YtfbgnpfhjbiikaaGreatDoor
open Go Go.RowKit
open Pth
open Go.Maps (has size Canon CanonK Tidy IsMap KeysOf Keyed Merged)
abbrev QQ : Int := 1099511627776
set_option maxRecDepth 100000 in
theorem model_without (w : World) : Calls Tryz.prog 65 #[] w fun e w' => e = .returned (.agg #[.int .i64 1099511627776, .int .i64 1099511627776]) ∧ Below w.heap.size w w' := by
  go_enter Tryz.func65, Tryz.ntmps65
  go_wp2_with fail
  exact bodyPost_ret (v := .agg #[.int .i64 1099511627776, .int .i64 1099511627776]) (by simp [results, Tryz.results65, go_sem]) rfl ⟨rfl, (Below.refl _ _).alloc (Nat.le_refl _) _⟩

def calCells (vR vE : Value) (c : Cal) : List Value := [.int .u8 c.kind, vR, vE, .string c.pre, .int .u64 c.f, .int .u64 c.t, .int .u32 c.dst]
theorem infoCal : (Tryz.prog.info? 80).map (·.size) = some 7 := by kernel_rfl
theorem StoAt.cal {w : World} {b o : Nat} {v : Five} {s : Sto} (h : StoAt w b o v s) : w.rangeAt b (o + 1) (calCells v.r v.e s.call) := by
  intro j u hj
  have h2 : (stoCells v s)[j + 1]? = some u := by
    rcases j with _ | _ | _ | _ | _ | _ | _ | j <;> first | exact hj | (simp [calCells] at hj)
  have := h (j + 1) u h2
  rwa [show o + (j + 1) = o + 1 + j by omega] at this
theorem wpl_load_cal {ops : Array Oper} {rest : List Oper} {op : Oper} {a : Act} {w : World} {Q : Exit → Act → World → Prop} (hgd : op.guard = none) (x : Operand) (ho : op.op = .load 80 x) {b o : Nat} (hx : a.eval x = .pointer (some ⟨b, o, none⟩)) {vR vE : Value} {c : Cal} (hc : w.rangeAt b o (calCells vR vE c))
    (h : wpList Tryz.prog ops Q rest (a.put op.dst (calVal vR vE c)) w) : wpList Tryz.prog ops Q (op :: rest) a w :=
  wpList_load_mid hgd 80 x ho b o hx (calCells vR vE c) _ hc Tryz.underlying80 rfl infoCal h
theorem IsInts.but {S : Nat → Prop} {w w' : World} {v : Value} {l : List Nat} (h : IsInts w v l) (hb : ButS S w w') (hS : ∀ k, v.ownBlock = some k → ¬ S k) : IsInts w' v l := by
  obtain ⟨a, cap, hv, hc, h⟩ := h
  refine ⟨a, cap, hv, hc, ?_⟩
  rcases h with h | ⟨b2, off, ha, hlt, hc⟩
  · exact Or.inl h
  · have hn : ¬ S b2 := hS b2 (by rw [hv, ha]; rfl)
    exact Or.inr ⟨b2, off, ha, by have := hb.size; omega, fun i hi => (hb.cell (p := ⟨b2, off + i, none⟩) hlt hn).trans (hc i hi)⟩

structure StoSz (s : Sto) : Prop where
  c : CalSz s.call
  e : s.call.eds.length ≤ 1024
  g : s.got.length ≤ 140737488355328
  n : s.nums.length ≤ 140737488355328
  m : s.names.length ≤ 140737488355328
def StosSz (l : List Sto) : Prop := ∀ i, i < l.length → StoSz (l.getD i dS)
def runM (l : List Sto) : List Nat → DataW Cel × Int → DataW Cel × Int
  | [], s => s
  | i :: r, s => runM l r ((doesT s.1 s.2 QQ QQ (l.getD i dS).call).M, (doesT s.1 s.2 QQ QQ (l.getD i dS).call).B)
def rowsS (l : List Sto) : List Rw := rowsL (runM l (ordS l) (.map [], 0)).1
theorem does_good {M : DataW Cel} {q1 q2 : Int} {c : Cal} (hg : Good Tryz.prog 9 M) : Good Tryz.prog 9 (doesT M (bytesR (rowsL M)) q1 q2 c).M ∧ (doesT M (bytesR (rowsL M)) q1 q2 c).B = bytesR (rowsL (doesT M (bytesR (rowsL M)) q1 q2 c).M) ∧ size (doesT M (bytesR (rowsL M)) q1 q2 c).M ≤ size M + c.eds.length := by
  unfold doesT
  split
  · have h1 := next_good (q1 := q1) (q2 := q2) (B := (bytesR (rowsL M) : Int)) (l := c.eds) hg
    have h2 := next_bytes (q1 := q1) (q2 := q2) (l := c.eds) hg
    exact ⟨h1.1, h2, h1.2.1⟩
  · split <;> exact ⟨hg, rfl, Nat.le_add_right _ _⟩
def RowsSG (l : List Sto) (w : World) (e : Ending) (w' : World) : Prop := ∃ v, e = .returned v ∧ IsRows w' v (rowsS l) ∧ Below w.heap.size w w'

set_option maxRecDepth 100000 in
set_option maxHeartbeats 4000000 in
theorem model_rowsW (l : List Sto) (v : Value) (w : World) (hv : IsStos w v l) (hl : l.length ≤ 1048576) (hk : (idxO l l.length).length < 40) (hz : StosSz l) (hm : MX w) :
    Calls Tryz.prog 33 #[v] w (RowsSG l w) := by
  have HV := Lib.hid hv; have HZ := Lib.hid hz; have HM := Lib.hid hm; have HK := Lib.hid hk
  obtain ⟨a, cap, rfl, hcap, hcc⟩ := hv
  have HC := Lib.hid hcc
  clear hcc hz hm hk
  have HWo := Lib.hid (model_without w)
  go_enter Tryz.func33, Tryz.ntmps33
  go_wp2_with fail
  refine HWo.out.mono ?_
  rintro e w1 ⟨rfl, hb1⟩
  have Hb1 := Lib.hid hb1; clear hb1
  have HNe := Lib.hid (tab_new QQ QQ w1)
  clear HWo
  go_wp2_with fail
  refine HNe.out.mono ?_
  rintro e w2 ⟨t, b, rfl, ht, hb, hT, hb2⟩
  have Hb2 : Hid (Below w.heap.size w w2) := Lib.hid (Hb1.out.trans (hb2.mono Hb1.out.size))
  have Ht : Hid (w.heap.size ≤ t ∧ w.heap.size ≤ b) := Lib.hid (by have := Hb1.out.size; omega)
  have HT := Lib.hid hT
  have Htl := Lib.hid hT.lt; have Hbl := Lib.hid (HoldsMap.lt hT.m)
  have HOr := Lib.hid (model_orderW l _ w2 (HV.out.below Hb2.out (Nat.le_refl _)) hl HK.out)
  clear hb2 hT ht hb HNe
  go_wp2_with fail
  refine HOr.out.mono ?_
  rintro e w3 ⟨vo, rfl, hio, hfo, hb3⟩
  have Hb3 : Hid (Below w.heap.size w w3) := Lib.hid (Hb2.out.trans (hb3.mono Hb2.out.size))
  have HT3 := Lib.hid (HT.out.below hb3)
  have HIO := Lib.hid hio
  have HFO : Hid (∀ k, vo.ownBlock = some k → ¬ (k = t ∨ k = b)) := Lib.hid (fun k hk => by have := hfo k hk; have := Htl.out; have := Hbl.out; omega)
  obtain ⟨ao, co, rfl, hoc, hoo⟩ := hio
  clear hb3 hfo HOr hoo hoc
  have hol : (ordS l).length ≤ 1048576 := Nat.le_trans (ordL_le _ _) hl
  have HLen : Hid ((ordS l).length ≤ 39) := Lib.hid (by unfold ordS; rw [ordL_length]; have := HK.out; unfold idxO at this; omega)
  go_wp2_with fail
  go_loopw [11] (fun s11 wr => ∃ (k : Nat) (M : DataW Cel), k ≤ (ordS l).length ∧ s11 = .int .i64 k ∧ Hid (TabAt wr t b QQ QQ M (bytesR (rowsL M))) ∧ Hid (Good Tryz.prog 9 M) ∧ Hid (runM l ((ordS l).drop k) (M, (bytesR (rowsL M) : Int)) = runM l (ordS l) (.map [], 0)) ∧ Hid (size M ≤ k * 1024) ∧ Hid (ButS (fun k => k = t ∨ k = b) w3 wr)) (fun i _ => (ordS l).length - (intOf i).toNat)
  case atStart => exact ⟨0, .map [], Nat.zero_le _, rfl, Lib.hid (by rw [rowsL_nil]; exact HT3.out), Lib.hid (good_none _ _), Lib.hid (by rw [rowsL_nil]; rfl), Lib.hid (by simp [size]), Lib.hid (ButS.of (Below.refl _ _))⟩
  case round =>
    obtain ⟨k, M, hk, rfl, hT, hG, hrun, hsz, hbw⟩ := hrel
    have HBr : Hid (Below w.heap.size w wr) := Lib.hid (Hb3.out.trans (hbw.out.below (by rintro k (rfl | rfl); exact Ht.out.1; exact Ht.out.2) Hb3.out.size))
    have hsM : size M ≤ 1048576 := by have := hsz.out; have := HLen.out; omega
    have hby := good_bytes hG.out
    by_cases hlt : k < (ordS l).length
    · have hltI : (k : Int) < ((ordS l).length : Int) := by omega
      have hio := HIO.out.but hbw.out HFO.out
      obtain ⟨ao', co', hvo, _, hoo⟩ := hio
      injection hvo with e1 _ e3
      subst e1; subst e3
      have hone : ordS l ≠ [] := fun h => by rw [h] at hlt; simp at hlt
      rcases hoo with h0 | ⟨ob, oo, rfl, hoblt, hoc⟩
      · exact absurd h0 hone
      have hck := hoc k hlt
      have him : (ordS l).getD k 0 ∈ ordS l := by rw [List.getD_eq_getElem?_getD, List.getElem?_eq_getElem hlt]; exact List.getElem_mem hlt
      have hil := (mem_ordL.1 him).1
      have Hdr : Hid ((ordS l).drop k = (ordS l).getD k 0 :: (ordS l).drop (k + 1)) := Lib.hid (by rw [List.drop_eq_getElem_cons hlt, List.getD_eq_getElem?_getD, List.getElem?_eq_getElem hlt]; rfl)
      obtain ⟨i, hi⟩ : ∃ i, (ordS l).getD k 0 = i := ⟨_, rfl⟩
      rw [hi] at hck hil Hdr
      rcases HC.out with hn | ⟨b1, o1, rfl, hblt, hst⟩
      · rw [hn] at hil; simp at hil
      obtain ⟨f, hsi, hat⟩ := hst i hil
      have HCal := Lib.hid (hat.below HBr.out hblt).cal
      have hsz1 := HZ.out i hil
      have Hcall : Hid ((l.getD i dS).call = (l.getD i dS).call) := Lib.hid rfl
      obtain ⟨c, hc⟩ : ∃ c, (l.getD i dS).call = c := ⟨_, rfl⟩
      have HDo := Lib.hid (model_does w wr f.r f.e (l.getD i dS).call HBr.out hsi.c Ht.out.1 Ht.out.2 hT.out hG.out HM.out hsz1.c (by omega) (by omega) (by omega))
      have hel := hsz1.e
      have HGd := Lib.hid (does_good (q1 := QQ) (q2 := QQ) (c := (l.getD i dS).call) hG.out)
      have HRn : Hid (runM l ((ordS l).drop (k + 1)) ((doesT M (bytesR (rowsL M)) QQ QQ (l.getD i dS).call).M, (doesT M (bytesR (rowsL M)) QQ QQ (l.getD i dS).call).B) = runM l (ordS l) (.map [], 0)) := Lib.hid (by rw [← hrun.out, Hdr.out]; rfl)
      rw [hc] at HCal HDo HGd HRn hel
      obtain ⟨d, hd⟩ : ∃ d, doesT M (bytesR (rowsL M)) QQ QQ c = d := ⟨_, rfl⟩
      rw [hd] at HDo HGd HRn
      have hiI : (i : Int) < (l.length : Int) := by omega
      clear hi him hoc hone hst hsi hat hsz1 Hdr hc hd Hcall
      go_wp2_with (first
        | (refine wpl_load_cal rfl (.tmp 19) rfl rfl HCal.out ?_)
        | fail)
      refine HDo.out.mono ?_
      rintro e w6 ⟨vG, vN, vM, rfl, _, _, _, hT6, hB6⟩
      have HT6 : Hid (TabAt w6 t b QQ QQ d.M (bytesR (rowsL d.M))) := Lib.hid (by rw [← HGd.out.2.1]; exact hT6)
      have HB6 := Lib.hid (hbw.out.trans hB6)
      have HRn2 : Hid (runM l ((ordS l).drop (k + 1)) (d.M, (bytesR (rowsL d.M) : Int)) = runM l (ordS l) (.map [], 0)) := Lib.hid (by rw [← HGd.out.2.1]; exact HRn.out)
      have Hs6 : Hid (size d.M ≤ (k + 1) * 1024) := Lib.hid (by have := HGd.out.2.2; have := hsz.out; omega)
      have HG6 := Lib.hid HGd.out.1
      clear hT6 hB6 HDo HGd HRn hby
      go_wp2_with fail
      go_roundw
      case rel => exact ⟨k + 1, d.M, by omega, by go_num, HT6, HG6, HRn2, Hs6, HB6⟩
      case measure => simp [intOf]; omega
    · have hge : ¬ (k : Int) < ((ordS l).length : Int) := by omega
      have HRw := Lib.hid (tab_rows wr hT.out hG.out (by omega))
      have Hr : Hid (rowsS l = rowsL M) := Lib.hid (by
        unfold rowsS
        rw [← hrun.out, List.drop_eq_nil_of_le (by omega)]; rfl)
      clear hby
      go_wp2_with fail
      refine HRw.out.mono ?_
      rintro e w5 ⟨v5, rfl, hi5, hb5⟩
      have HI5 := Lib.hid hi5; have HB5 := Lib.hid hb5
      obtain ⟨a5, c5, rfl, _⟩ := hi5
      clear hb5 HRw
      go_wp2_with fail
      go_ret
      exact ⟨_, rfl, by rw [Hr.out]; exact HI5.out, HBr.out.trans (HB5.out.mono HBr.out.size)⟩
end Go.Proofs.YtfbgnpfhjbiikaaGreatDoor

namespace Go.Proofs.YtfbgnpfhjbiikaaGreatDoor
open Go Go.RowKit
open Pth
open Go.Maps (has size Canon CanonK Tidy IsMap KeysOf Keyed Merged)
theorem zeroVd (w : World) : (zeroValue 72).run Tryz.prog w = .ok (.agg #[.bool false, .int .i64 0, .int .u8 0]) w := by kernel_rfl
structure Vd where
  right : Bool
  story : Nat
  why : Nat
def vdVal (v : Vd) : Value := .agg #[.bool v.right, .int .i64 v.story, .int .u8 v.why]
def SameR (d : Done) (s : Sto) : Prop := same3 d.got s.got d.nums s.nums d.names s.names
noncomputable def wrongR (d : Done) (s : Sto) : Bool := @decide (0 < s.til ∧ ¬ SameR d s) (Classical.propDecidable _)
noncomputable def chkT (l : List Sto) (o : List Nat) : Nat → List Nat → DataW Cel × Int → Vd
  | _, [], _ => ⟨true, 0, 0⟩
  | k, i :: r, s =>
    if lateT l o k then ⟨false, i, 1⟩
    else if (doesT s.1 s.2 QQ QQ (l.getD i dS).call).is = false then ⟨false, i, 3⟩
    else if wrongR (doesT s.1 s.2 QQ QQ (l.getD i dS).call) (l.getD i dS) then ⟨false, i, 4⟩
    else chkT l o (k + 1) r ((doesT s.1 s.2 QQ QQ (l.getD i dS).call).M, (doesT s.1 s.2 QQ QQ (l.getD i dS).call).B)
def badA (s : Sto) : Bool := aloneT s != 0
noncomputable def checkT (l : List Sto) : Vd := if l.findIdx badA < l.length then ⟨false, l.findIdx badA, aloneT (l.getD (l.findIdx badA) dS)⟩ else chkT l (ordS l) 0 (ordS l) (.map [], 0)
def CheckG (l : List Sto) (w : World) (e : Ending) (w' : World) : Prop := e = .returned (vdVal (checkT l)) ∧ Below w.heap.size w w'
theorem bad_hit {l : List Sto} {k : Nat} (hk : k < l.length) (hm : ∀ j, j < k → aloneT (l.getD j dS) = 0) (hn : aloneT (l.getD k dS) ≠ 0) : checkT l = ⟨false, k, aloneT (l.getD k dS)⟩ := by
  have h : l.findIdx badA = k := by
    rw [List.findIdx_eq hk]
    refine ⟨?_, fun j hj => ?_⟩
    · rw [List.getD_eq_getElem?_getD, List.getElem?_eq_getElem hk] at hn
      simpa [badA] using hn
    · have := hm j hj
      rw [List.getD_eq_getElem?_getD, List.getElem?_eq_getElem (by omega)] at this
      simpa [badA] using this
  unfold checkT
  rw [h, if_pos hk]
theorem bad_miss {l : List Sto} (hm : ∀ j, j < l.length → aloneT (l.getD j dS) = 0) : checkT l = chkT l (ordS l) 0 (ordS l) (.map [], 0) := by
  have h : l.findIdx badA = l.length := by
    rw [List.findIdx_eq_length]
    intro x hx
    obtain ⟨j, hj, rfl⟩ := List.getElem_of_mem hx
    have := hm j hj
    rw [List.getD_eq_getElem?_getD, List.getElem?_eq_getElem hj] at this
    simpa [badA] using this
  unfold checkT
  rw [h, if_neg (Nat.lt_irrefl _)]
theorem wrongR_false {d : Done} {s : Sto} (h : ¬ 0 < s.til) : wrongR d s = false := by unfold wrongR; exact @decide_eq_false _ (Classical.propDecidable _) (fun h2 => h h2.1)
theorem wrongR_of {d : Done} {s : Sto} {r : Bool} (h : 0 < s.til) (hr : r = true ↔ SameR d s) : wrongR d s = !r := by
  unfold wrongR
  cases r with
  | true => exact @decide_eq_false _ (Classical.propDecidable _) (fun h2 => h2.2 (hr.1 rfl))
  | false => exact @decide_eq_true _ (Classical.propDecidable _) ⟨h, fun h2 => by have := hr.2 h2; cases this⟩

theorem does_lens {M : DataW Cel} {B q1 q2 : Int} {c : Cal} (hg : Good Tryz.prog 9 M) : (doesT M B q1 q2 c).got.length ≤ c.rds.length ∧ (doesT M B q1 q2 c).nums.length ≤ c.eds.length ∧ (doesT M B q1 q2 c).names.length ≤ size M := by
  unfold doesT
  split
  · refine ⟨?_, ?_, by simp⟩
    · show (gotsT M c.rds).length ≤ _
      unfold gotsT; rw [List.length_map]; exact Nat.le_refl _
    · exact next_len (q1 := q1) (q2 := q2) (M := M) (B := B) (l := c.eds)
  · split
    · refine ⟨by simp, by simp, ?_⟩
      show (namesT (rowsL M) c.pre).length ≤ _
      rw [← rows_length hg.canon]
      exact namesT_len _ _
    · exact ⟨by simp, by simp, by simp⟩
set_option maxRecDepth 100000 in
set_option maxHeartbeats 8000000 in
theorem model_check (l : List Sto) (v : Value) (w : World) (hv : IsStos w v l) (hl : l.length ≤ 1048576) (hk : (idxO l l.length).length ≤ 20) (hz : StosSz l) (hm : MX w) :
    Calls Tryz.prog 32 #[v] w (CheckG l w) := by
  have HV := Lib.hid hv; have HZ := Lib.hid hz; have HM := Lib.hid hm; have HK := Lib.hid hk
  obtain ⟨a, cap, rfl, hcap, hcc⟩ := hv
  have HC := Lib.hid hcc
  clear hcc hz hm hk
  have hzv := zeroVd; have hzs := zeroSto; have hzr := zeroReply
  go_enter Tryz.func32, Tryz.ntmps32
  go_upto_region 1 with fail
  refine wp_abs (F := fun W => One w.heap.size #[.bool false, .int .i64 0, .int .u8 0] W ∧ Below w.heap.size w W) ⟨One.of _ _ _, (Below.refl _ _).alloc (Nat.le_refl _) _⟩ ?_
  rintro W1 ⟨hO1, hb1⟩
  have HO1 := Lib.hid hO1; have Hb1 := Lib.hid hb1
  clear hO1 hb1
  have HEnd : Hid (∀ (W : World) (st why : Nat), Below W1.heap.size W1 W → Below w.heap.size w (((W.setCell ⟨w.heap.size, 0, none⟩ (.bool false)).setCell ⟨w.heap.size, 1, none⟩ (.int .i64 st)).setCell ⟨w.heap.size, 2, none⟩ (.int .u8 why))) := Lib.hid (fun W st why h =>
    (((Hb1.out.trans (h.mono Hb1.out.size)).setCell (by simp) _).setCell (by simp) _).setCell (by simp) _)
  go_wp2_with fail
  go_loopw [14] (fun s14 wr => ∃ k : Nat, k ≤ l.length ∧ s14 = .int .i64 k ∧ Hid (∀ j, j < k → aloneT (l.getD j dS) = 0) ∧ Hid (Below W1.heap.size W1 wr)) (fun i _ => l.length - (intOf i).toNat)
  case atStart => exact ⟨0, Nat.zero_le _, rfl, Lib.hid (fun j hj => by omega), Lib.hid (Below.refl _ _)⟩
  case round =>
    obtain ⟨k, hk, rfl, hno, hbw⟩ := hrel
    have HBr : Hid (Below w.heap.size w wr) := Lib.hid (Hb1.out.trans (hbw.out.mono Hb1.out.size))
    by_cases hlt : k < l.length
    · have hltI : (k : Int) < (l.length : Int) := by omega
      rcases HC.out with hn | ⟨b1, o1, rfl, hblt, hst⟩
      · rw [hn] at hlt; simp at hlt
      obtain ⟨f, hsi, hat⟩ := hst k hlt
      have HAT := Lib.hid (hat.below HBr.out hblt)
      have Hone := Lib.hid (five_one hsi)
      have Hx : Hid (∀ j, j < k + 1 → j = k ∨ aloneT (l.getD j dS) = 0) := Lib.hid (fun j hj => by
        by_cases e : j = k
        · exact Or.inl e
        · exact Or.inr (hno.out j (by omega)))
      have Hhit : Hid (aloneT (l.getD k dS) ≠ 0 → checkT l = ⟨false, k, aloneT (l.getD k dS)⟩) := Lib.hid (fun h => bad_hit hlt hno.out h)
      obtain ⟨x, hx⟩ : ∃ x, l.getD k dS = x := ⟨_, rfl⟩
      rw [hx] at HAT Hone Hhit
      have HX := Lib.hid hx
      clear hx hst hsi hat
      go_upto_region 4 with (first
        | (refine wpl_load_sto rfl (.tmp 17) rfl rfl HAT.out ?_)
        | (refine wpl_store_sto rfl (.tmp 4) (.tmp 18) rfl rfl rfl rfl Hone.out ?_)
        | fail)
      refine wp_abs (F := fun W => StoAt W wr.heap.size 0 f x ∧ Below wr.heap.size wr W) ⟨one_sto _ _ _, (Below.refl _ _).alloc (Nat.le_refl _) _⟩ ?_
      rintro W2 ⟨hs2, hb2⟩
      have HS2 := Lib.hid hs2; have HB2 : Hid (Below W1.heap.size W1 W2) := Lib.hid (hbw.out.trans (hb2.mono hbw.out.size))
      have HAl := Lib.hid (model_alone f x W2)
      have HAx : Hid (aloneT x < 256) := Lib.hid (by unfold aloneT; split; omega; split <;> omega)
      obtain ⟨y, hy⟩ : ∃ y, aloneT x = y := ⟨_, rfl⟩
      rw [hy] at HAl Hhit HAx
      have HY := Lib.hid hy
      clear hs2 hb2 HAT Hone hy
      go_wp2_with (first
        | (refine wpl_load_sto rfl (.tmp 4) rfl rfl HS2.out ?_)
        | fail)
      refine HAl.out.mono ?_
      rintro e w3 ⟨rfl, hb3⟩
      have HB3 : Hid (Below W1.heap.size W1 w3) := Lib.hid (HB2.out.trans (hb3.mono HB2.out.size))
      have hO3 := HO1.out.step HB3.out
      have n0 := hO3.c 0; have n1 := hO3.c 1; have n2 := hO3.c 2
      have p0 := hO3.f 0; have p1 := hO3.f 1; have p2 := hO3.f 2
      simp at n0 n1 n2
      clear hb3 HAl hO3
      by_cases hy0 : y = 0
      · have hyb : ((y : Int) != 0) = false := by simp [hy0]
        have HYz := Lib.hid hy0
        clear hy0
        go_wp2_with fail
        go_roundw
        case rel => exact ⟨k + 1, by omega, by go_num, Lib.hid (fun j hj => by
            rcases Hx.out j hj with e | e
            · subst e; rw [HX.out, HY.out, HYz.out]
            · exact e), HB3⟩
        case measure => simp [intOf]; omega
      · have hyb : ((y : Int) != 0) = true := by simp [hy0]
        have HR := Lib.hid (Hhit.out hy0)
        clear hy0
        go_wp2_with fail
        exact bodyPost_ret (v := .agg #[.bool false, .int .i64 k, .int .u8 y]) (by simp [results, Tryz.results32, go_sem, n0, n1, n2]) rfl ⟨by rw [HR.out]; rfl, HEnd.out _ _ _ HB3.out⟩
    · have hge : ¬ (k : Int) < (l.length : Int) := by omega
      have Hck : Hid (checkT l = chkT l (ordS l) 0 (ordS l) (.map [], 0)) := Lib.hid (bad_miss (fun j hj => hno.out j (by omega)))
      have HB0 : Hid (Below W1.heap.size W1 wr) := Lib.hid hbw.out
      have HOr := Lib.hid (model_order l _ wr (HV.out.below HBr.out (Nat.le_refl _)) hl HK.out)
      clear hno hbw
      go_wp2_with fail
      refine HOr.out.mono ?_
      rintro e w3 ⟨vo, rfl, hio, _, hb3⟩
      have HB3 : Hid (Below W1.heap.size W1 w3) := Lib.hid (HB0.out.trans (hb3.mono HB0.out.size))
      have HIO := Lib.hid hio
      have HWo := Lib.hid (model_without w3)
      clear hb3 HOr
      go_wp2_with fail
      refine HWo.out.mono ?_
      rintro e w4 ⟨rfl, hb4⟩
      have HB4 : Hid (Below W1.heap.size W1 w4) := Lib.hid (HB3.out.trans (hb4.mono HB3.out.size))
      have HIO4 := Lib.hid (HIO.out.below hb4 (Nat.le_refl _))
      have HNe := Lib.hid (tab_new QQ QQ w4)
      clear hb4 HWo HIO
      go_wp2_with fail
      refine HNe.out.mono ?_
      rintro e w5 ⟨t, b, rfl, ht, hb, hT, hb5⟩
      have HB5 : Hid (Below W1.heap.size W1 w5) := Lib.hid (HB4.out.trans (hb5.mono HB4.out.size))
      have HIO5 := Lib.hid (HIO4.out.below hb5 (Nat.le_refl _))
      have HIlt : Hid (∀ k, vo.ownBlock = some k → (ordS l ≠ [] → k < w4.heap.size)) := Lib.hid (fun k hk hne => by
        obtain ⟨a', c', hv', _, hoo⟩ := HIO4.out
        rcases hoo with h0 | ⟨ob, oo, ha, hlt', _⟩
        · exact absurd h0 hne
        · rw [hv', ha] at hk; cases hk; exact hlt')
      have Ht : Hid (W1.heap.size ≤ t ∧ W1.heap.size ≤ b) := Lib.hid (by have := HB4.out.size; omega)
      have Ht4 : Hid (w4.heap.size ≤ t ∧ w4.heap.size ≤ b) := Lib.hid ⟨ht, hb⟩
      have HT := Lib.hid hT
      obtain ⟨ao, co, rfl, hoc, _⟩ := hio
      have hol : (ordS l).length ≤ 1048576 := Nat.le_trans (ordL_le _ _) hl
      have HLen : Hid ((ordS l).length ≤ 20) := Lib.hid (by unfold ordS; rw [ordL_length]; exact HK.out)
      clear hb5 ht hb hT HNe HIO4
      go_wp2_with fail
      go_loopw [33] (fun s33 wx => ∃ (k : Nat) (M : DataW Cel), k ≤ (ordS l).length ∧ s33 = .int .i64 k ∧ Hid (TabAt wx t b QQ QQ M (bytesR (rowsL M))) ∧ Hid (Good Tryz.prog 9 M) ∧ Hid (checkT l = chkT l (ordS l) k ((ordS l).drop k) (M, (bytesR (rowsL M) : Int))) ∧ Hid (size M ≤ k * 1024) ∧ Hid (ButS (fun k => k = t ∨ k = b) w5 wx)) (fun i _ => (ordS l).length - (intOf i).toNat)
      case atStart => exact ⟨0, .map [], Nat.zero_le _, rfl, Lib.hid (by rw [rowsL_nil]; exact HT.out), Lib.hid (good_none _ _), Lib.hid (by rw [rowsL_nil]; exact Hck.out), Lib.hid (by simp [size]), Lib.hid (ButS.of (Below.refl _ _))⟩
      case round =>
        clear HBr
        obtain ⟨k, M, hk2, rfl, hT, hG, hrun, hsz, hbw⟩ := hrel
        have HB6 : Hid (Below W1.heap.size W1 wr) := Lib.hid (HB5.out.trans (hbw.out.below (by rintro k (rfl | rfl); exact Ht.out.1; exact Ht.out.2) HB5.out.size))
        have HBr : Hid (Below w.heap.size w wr) := Lib.hid (Hb1.out.trans (HB6.out.mono Hb1.out.size))
        have hsM : size M ≤ 1048576 := by have := hsz.out; have := HLen.out; omega
        have hby := good_bytes hG.out
        by_cases hlt : k < (ordS l).length
        · have hltI : (k : Int) < ((ordS l).length : Int) := by omega
          have hone : ordS l ≠ [] := fun h => by rw [h] at hlt; simp at hlt
          have hio := HIO5.out.but hbw.out (fun kk hkk h => by have := HIlt.out kk hkk hone; have := Ht4.out; omega)
          have HIOr := Lib.hid hio
          obtain ⟨ao', co', hvo, _, hoo⟩ := hio
          injection hvo with e1 _ e3
          subst e1; subst e3
          rcases hoo with h0 | ⟨ob, oo, rfl, hoblt, hoc2⟩
          · exact absurd h0 hone
          have hck := hoc2 k hlt
          have him : (ordS l).getD k 0 ∈ ordS l := by rw [List.getD_eq_getElem?_getD, List.getElem?_eq_getElem hlt]; exact List.getElem_mem hlt
          have hil := (mem_ordL.1 him).1
          have Hdr : Hid ((ordS l).drop k = (ordS l).getD k 0 :: (ordS l).drop (k + 1)) := Lib.hid (by rw [List.drop_eq_getElem_cons hlt, List.getD_eq_getElem?_getD, List.getElem?_eq_getElem hlt]; rfl)
          obtain ⟨i, hi⟩ : ∃ i, (ordS l).getD k 0 = i := ⟨_, rfl⟩
          rw [hi] at hck hil Hdr
          rcases HC.out with hn | ⟨b1, o1, rfl, hblt, hst⟩
          · rw [hn] at hil; simp at hil
          obtain ⟨f, hsi, hat⟩ := hst i hil
          have HAT := Lib.hid (hat.below HBr.out hblt)
          have HAT0 := Lib.hid hat
          have Hblt := Lib.hid hblt
          have HSI := Lib.hid hsi
          have hsz1 := HZ.out i hil
          have HSZ := Lib.hid hsz1
          have HLa := Lib.hid (model_late l (.slice (some ⟨b1, o1, none⟩) l.length cap) (.slice (some ⟨ob, oo, none⟩) (ordS l).length co) (ordS l) k wr (HV.out.below HBr.out (Nat.le_refl _)) HIOr.out hl hol hlt (fun j hj => (mem_ordL.1 hj).1))
          have hel := hsz1.e
          have HGd := Lib.hid (does_good (q1 := QQ) (q2 := QQ) (c := (l.getD i dS).call) hG.out)
          have HRn : Hid (checkT l = if lateT l (ordS l) k then ⟨false, i, 1⟩ else if (doesT M (bytesR (rowsL M)) QQ QQ (l.getD i dS).call).is = false then ⟨false, i, 3⟩ else if wrongR (doesT M (bytesR (rowsL M)) QQ QQ (l.getD i dS).call) (l.getD i dS) then ⟨false, i, 4⟩ else chkT l (ordS l) (k + 1) ((ordS l).drop (k + 1)) ((doesT M (bytesR (rowsL M)) QQ QQ (l.getD i dS).call).M, (doesT M (bytesR (rowsL M)) QQ QQ (l.getD i dS).call).B)) := Lib.hid (by rw [hrun.out, Hdr.out]; rfl)
          have hiI : (i : Int) < (l.length : Int) := by omega
          obtain ⟨x, hx⟩ : ∃ x, l.getD i dS = x := ⟨_, rfl⟩
          rw [hx] at HAT HAT0 HSI HSZ HGd HRn hel
          obtain ⟨lt0, hlt0⟩ : ∃ z, lateT l (ordS l) k = z := ⟨_, rfl⟩
          rw [hlt0] at HLa HRn
          clear hi him hoc2 hone hst hsi hat hsz1 Hdr hx hlt0
          go_wp2_with fail
          refine HLa.out.mono ?_
          rintro e w6 ⟨rfl, hb6⟩
          have HB9 : Hid (Below W1.heap.size W1 w6) := Lib.hid (HB6.out.trans (hb6.mono HB6.out.size))
          cases lt0 with
          | true =>
            have HR : Hid (checkT l = ⟨false, i, 1⟩) := Lib.hid (by rw [HRn.out, if_pos rfl])
            clear HRn hb6
            have hO9 := HO1.out.step HB9.out
            have n0 := hO9.c 0; have n1 := hO9.c 1; have n2 := hO9.c 2
            have p0 := hO9.f 0; have p1 := hO9.f 1; have p2 := hO9.f 2
            simp at n0 n1 n2
            clear hO9
            go_wp2_with fail
            exact bodyPost_ret (v := .agg #[.bool false, .int .i64 i, .int .u8 1]) (by simp [results, Tryz.results32, go_sem, n0, n1, n2]) rfl ⟨by rw [HR.out]; rfl, HEnd.out _ _ _ HB9.out⟩
          | false =>
            have HRn2 : Hid (checkT l = if (doesT M (bytesR (rowsL M)) QQ QQ x.call).is = false then ⟨false, i, 3⟩ else if wrongR (doesT M (bytesR (rowsL M)) QQ QQ x.call) x then ⟨false, i, 4⟩ else chkT l (ordS l) (k + 1) ((ordS l).drop (k + 1)) ((doesT M (bytesR (rowsL M)) QQ QQ x.call).M, (doesT M (bytesR (rowsL M)) QQ QQ x.call).B)) := Lib.hid (by rw [HRn.out]; simp)
            have HT6 := Lib.hid (hT.out.below hb6)
            have HBw6 : Hid (Below w.heap.size w w6) := Lib.hid (HBr.out.trans (hb6.mono HBr.out.size))
            have HAT6 := Lib.hid (HAT.out.below hb6 (by have := HBr.out.size; omega))
            have HBU6 : Hid (ButS (fun k => k = t ∨ k = b) w5 w6) := Lib.hid (hbw.out.trans (ButS.of hb6))
            have HCal := Lib.hid HAT6.out.cal
            have HDo := Lib.hid (model_does w w6 f.r f.e x.call HBw6.out HSI.out.c (by have := Hb1.out.size; have := Ht.out.1; omega) (by have := Hb1.out.size; have := Ht.out.2; omega) HT6.out hG.out HM.out HSZ.out.c (by omega) (by omega) (by omega))
            obtain ⟨d, hd⟩ : ∃ d, doesT M (bytesR (rowsL M)) QQ QQ x.call = d := ⟨_, rfl⟩
            have HLn := Lib.hid (does_lens (B := (bytesR (rowsL M) : Int)) (q1 := QQ) (q2 := QQ) (c := x.call) hG.out)
            rw [hd] at HDo HGd HRn2 HLn
            have hrl := HSZ.out.c.r
            clear hd HRn hb6 hbw hT HAT HT6
            go_wp2_with (first
              | (refine wpl_load_cal rfl (.tmp 49) rfl rfl HCal.out ?_)
              | fail)
            refine HDo.out.mono ?_
            rintro e w7 ⟨vG, vN, vM, rfl, hG7, hN7, hM7, hT7, hB7⟩
            obtain ⟨dg, dn, dm, di, dM, dB⟩ := d
            dsimp only at hG7 hN7 hM7 hT7 HGd HRn2 HLn
            have HB7 : Hid (Below W1.heap.size W1 w7) := Lib.hid (HB9.out.trans (hB7.below (by rintro k (rfl | rfl); exact Ht.out.1; exact Ht.out.2) HB9.out.size))
            have HBw7 : Hid (Below w.heap.size w w7) := Lib.hid (Hb1.out.trans (HB7.out.mono Hb1.out.size))
            have HG7 := Lib.hid hG7; have HN7 := Lib.hid hN7; have HM7 := Lib.hid hM7; have HT7 := Lib.hid hT7; have HBU7 := Lib.hid (HBU6.out.trans hB7)
            obtain ⟨aG, cG, rfl, _⟩ := hG7
            obtain ⟨aN, cN, rfl, _⟩ := hN7
            obtain ⟨aM, cM, rfl, _⟩ := hM7
            clear hT7 hB7 HDo HCal HAT6 HBU6 hby hck
            go_upto_region 15 with fail
            refine wp_abs (F := fun W => One w7.heap.size #[.slice aG dg.length cG, .slice aN dn.length cN, .slice aM dm.length cM] W ∧ Below w7.heap.size w7 W) ⟨One.of _ _ _, (Below.refl _ _).alloc (Nat.le_refl _) _⟩ ?_
            rintro W8 ⟨hO8, hb8⟩
            have HO8 := Lib.hid hO8
            have HB8 : Hid (Below W1.heap.size W1 W8) := Lib.hid (HB7.out.trans (hb8.mono HB7.out.size))
            have HBU8 : Hid (ButS (fun k => k = t ∨ k = b) w5 W8) := Lib.hid (HBU7.out.trans (ButS.of hb8))
            have HT8 : Hid (TabAt W8 t b QQ QQ dM (bytesR (rowsL dM))) := Lib.hid (by rw [← HGd.out.2.1]; exact HT7.out.below hb8)
            have HGd9 := Lib.hid HGd.out.1
            have Hs9 : Hid (size dM ≤ (k + 1) * 1024) := Lib.hid (by have := HGd.out.2.2; have := hsz.out; omega)
            have HG8 := Lib.hid (HG7.out.below hb8 (Nat.le_refl _)); have HN8 := Lib.hid (HN7.out.below hb8 (Nat.le_refl _)); have HM8 := Lib.hid (HM7.out.below hb8 (Nat.le_refl _))
            have HBw8 : Hid (Below w.heap.size w W8) := Lib.hid (HBw7.out.trans (hb8.mono HBw7.out.size))
            clear hO8 hb8 HG7 HN7 HM7 HT7 HBU7
            cases di with
            | false =>
              have HR : Hid (checkT l = ⟨false, i, 3⟩) := Lib.hid (by rw [HRn2.out, if_pos rfl])
              have HB9 := HB8
              clear HRn2
              have hO9 := HO1.out.step HB9.out
              have n0 := hO9.c 0; have n1 := hO9.c 1; have n2 := hO9.c 2
              have p0 := hO9.f 0; have p1 := hO9.f 1; have p2 := hO9.f 2
              simp at n0 n1 n2
              clear hO9
              go_wp2_with fail
              exact bodyPost_ret (v := .agg #[.bool false, .int .i64 i, .int .u8 3]) (by simp [results, Tryz.results32, go_sem, n0, n1, n2]) rfl ⟨by rw [HR.out]; rfl, HEnd.out _ _ _ HB9.out⟩
            | true =>
              have HRn3 : Hid (checkT l = if wrongR ⟨dg, dn, dm, true, dM, dB⟩ x then ⟨false, i, 4⟩ else chkT l (ordS l) (k + 1) ((ordS l).drop (k + 1)) (dM, dB)) := Lib.hid (by rw [HRn2.out]; simp)
              have hdB : dB = (bytesR (rowsL dM) : Int) := HGd.out.2.1
              rw [hdB] at HRn3
              clear HRn2 hdB
              have hat8 := (HAT0.out.below HBw8.out Hblt.out).all
              obtain ⟨_, _, _, _, _, _, _, _, _, g9, _, _, _, _, _, g15, g16, g17⟩ := hat8
              by_cases htl : 0 < x.til
              · have htlb : decide (x.til > 0) = true := decide_eq_true htl
                have Htl := Lib.hid htl
                have e0 := HO8.out.c 0; have e1 := HO8.out.c 1; have e2 := HO8.out.c 2
                simp at e0 e1 e2
                have HKp : Hid (∀ W : World, Below W8.heap.size W8 W → (W.cell? ⟨b1, o1 + i * 18 + 9, none⟩ = some (.int .i64 x.til) ∧ W.cell? ⟨b1, o1 + i * 18 + 15, none⟩ = some f.g ∧ W.cell? ⟨b1, o1 + i * 18 + 16, none⟩ = some f.n ∧ W.cell? ⟨b1, o1 + i * 18 + 17, none⟩ = some f.m ∧ W.cell? ⟨w7.heap.size, 0, none⟩ = some (.slice aG dg.length cG) ∧ W.cell? ⟨w7.heap.size, 1, none⟩ = some (.slice aN dn.length cN) ∧ W.cell? ⟨w7.heap.size, 2, none⟩ = some (.slice aM dm.length cM) ∧ Hid (Below W8.heap.size W8 W))) := Lib.hid (fun W hW =>
                  ⟨(hW.cell (p := ⟨b1, _, none⟩) (cell_lt g9)).trans g9, (hW.cell (p := ⟨b1, _, none⟩) (cell_lt g9)).trans g15, (hW.cell (p := ⟨b1, _, none⟩) (cell_lt g9)).trans g16, (hW.cell (p := ⟨b1, _, none⟩) (cell_lt g9)).trans g17,
                   (hW.cell (p := ⟨w7.heap.size, 0, none⟩) HO8.out.lt).trans e0, (hW.cell (p := ⟨w7.heap.size, 1, none⟩) HO8.out.lt).trans e1, (hW.cell (p := ⟨w7.heap.size, 2, none⟩) HO8.out.lt).trans e2, Lib.hid hW⟩)
                have HSm := Lib.hid (fun (W : World) (hW : Below W8.heap.size W8 W) => model_same dg x.got dn x.nums dm x.names (.slice aG dg.length cG) f.g (.slice aN dn.length cN) f.n (.slice aM dm.length cM) f.m W (HG8.out.below hW (Nat.le_refl _)) ((HSI.out.g.below HBw8.out (Nat.le_refl _)).below hW (Nat.le_refl _)) (HN8.out.below hW (Nat.le_refl _)) ((HSI.out.n.below HBw8.out (Nat.le_refl _)).below hW (Nat.le_refl _)) (HM8.out.below hW (Nat.le_refl _)) ((HSI.out.m.below HBw8.out (Nat.le_refl _)).below hW (Nat.le_refl _)) (by have := HLn.out.1; omega) HSZ.out.g (by have := HLn.out.2.1; omega) HSZ.out.n (by have := HLn.out.2.2; omega) HSZ.out.m)
                clear htl
                go_wp2_with fail
                go_region_held3 (fun W : World => W.cell? ⟨b1, o1 + i * 18 + 9, none⟩ = some (.int .i64 x.til) ∧ W.cell? ⟨b1, o1 + i * 18 + 15, none⟩ = some f.g ∧ W.cell? ⟨b1, o1 + i * 18 + 16, none⟩ = some f.n ∧ W.cell? ⟨b1, o1 + i * 18 + 17, none⟩ = some f.m ∧ W.cell? ⟨w7.heap.size, 0, none⟩ = some (.slice aG dg.length cG) ∧ W.cell? ⟨w7.heap.size, 1, none⟩ = some (.slice aN dn.length cN) ∧ W.cell? ⟨w7.heap.size, 2, none⟩ = some (.slice aM dm.length cM) ∧ Hid (Below W8.heap.size W8 W)) (first | with_reducible exact HKp.out _ HBc.out | with_reducible exact HKp.out _ (Below.drew (Below.refl _ _)))
                  (first
                    | (go_at_call 68; refine (HSm.out _ (Below.drew (Below.refl _ _))).mono ?_; rintro e w9 ⟨r9, rfl, hr9, hb9⟩; have HR9 := Lib.hid hr9; have HBc : Hid (Below W8.heap.size W8 w9) := Lib.hid ((Below.drew (Below.refl _ _)).trans hb9); clear hr9 hb9))
                cases r9 with
                | true =>
                  have HNx : Hid (checkT l = chkT l (ordS l) (k + 1) ((ordS l).drop (k + 1)) (dM, (bytesR (rowsL dM) : Int))) := Lib.hid (by rw [HRn3.out, wrongR_of (d := ⟨dg, dn, dm, true, dM, bytesR (rowsL dM)⟩) (r := true) Htl.out HR9.out]; rfl)
                  have HT9 := Lib.hid (HT8.out.below HBc.out)
                  have HBU9 : Hid (ButS (fun k => k = t ∨ k = b) w5 w9) := Lib.hid (HBU8.out.trans (ButS.of HBc.out))
                  clear HRn3 g9 g15 g16 g17 e0 e1 e2
                  go_wp2_with fail
                  go_roundw
                  case rel => exact ⟨k + 1, dM, by omega, by go_num, HT9, HGd9, HNx, Hs9, HBU9⟩
                  case measure => simp [intOf]; omega
                | false =>
                  have HR : Hid (checkT l = ⟨false, i, 4⟩) := Lib.hid (by rw [HRn3.out, wrongR_of (d := ⟨dg, dn, dm, true, dM, bytesR (rowsL dM)⟩) (r := false) Htl.out HR9.out]; rfl)
                  have HB9 : Hid (Below W1.heap.size W1 w9) := Lib.hid (HB8.out.trans (HBc.out.mono HB8.out.size))
                  clear HRn3 g9 g15 g16 g17 e0 e1 e2
                  have hO9 := HO1.out.step HB9.out
                  have n0 := hO9.c 0; have n1 := hO9.c 1; have n2 := hO9.c 2
                  have p0 := hO9.f 0; have p1 := hO9.f 1; have p2 := hO9.f 2
                  simp at n0 n1 n2
                  clear hO9
                  go_wp2_with fail
                  exact bodyPost_ret (v := .agg #[.bool false, .int .i64 i, .int .u8 4]) (by simp [results, Tryz.results32, go_sem, n0, n1, n2]) rfl ⟨by rw [HR.out]; rfl, HEnd.out _ _ _ HB9.out⟩
              · have htlb : decide (x.til > 0) = false := decide_eq_false htl
                have HNx : Hid (checkT l = chkT l (ordS l) (k + 1) ((ordS l).drop (k + 1)) (dM, (bytesR (rowsL dM) : Int))) := Lib.hid (by rw [HRn3.out, wrongR_false htl]; rfl)
                clear HRn3 htl g15 g16 g17
                go_wp2_with fail
                go_quiet (fail)
                have HT9 := Lib.hid (HT8.out.below (below_dn (Below.refl _ _) nq))
                have HBU9 : Hid (ButS (fun k => k = t ∨ k = b) w5 (W8.drewN nq)) := Lib.hid (HBU8.out.trans (ButS.of (below_dn (Below.refl _ _) nq)))
                go_wp2_with fail
                go_roundw
                case rel => exact ⟨k + 1, dM, by omega, by go_num, HT9, HGd9, HNx, Hs9, HBU9⟩
                case measure => simp [intOf]; omega
        · have hge2 : ¬ (k : Int) < ((ordS l).length : Int) := by omega
          have HR : Hid (checkT l = ⟨true, 0, 0⟩) := Lib.hid (by rw [hrun.out, List.drop_eq_nil_of_le (by omega)]; rfl)
          have hO9 := HO1.out.step HB6.out
          have n0 := hO9.c 0; have n1 := hO9.c 1; have n2 := hO9.c 2
          have p0 := hO9.f 0; have p1 := hO9.f 1; have p2 := hO9.f 2
          simp at n0 n1 n2
          clear hO9 hby
          go_wp2_with fail
          exact bodyPost_ret (v := .agg #[.bool true, .int .i64 0, .int .u8 0]) (by simp [results, Tryz.results32, go_sem, n0, n1, n2]) rfl ⟨by rw [HR.out]; rfl, (((HBr.out.setCell (by simp) _).setCell (by simp) _).setCell (by simp) _)⟩
end Go.Proofs.YtfbgnpfhjbiikaaGreatDoor

namespace Go.Proofs.YtfbgnpfhjbiikaaGreatDoor
open Go Go.RowKit
open Pth
open Go.Maps (has size Canon CanonK Tidy IsMap KeysOf Keyed Merged)
theorem zeroCal (w : World) : (zeroValue 80).run Tryz.prog w = .ok (.agg #[.int .u8 0, .slice none 0 0, .slice none 0 0, .string ByteArray.empty, .int .u64 0, .int .u64 0, .int .u32 0]) w := by kernel_rfl
def putL (p t : ByteArray) : Cal := ⟨1, [], [⟨1, p, true, 0, 0, t⟩], ByteArray.empty, 0, 0, 0⟩
def getL (p : ByteArray) : Cal := ⟨1, [⟨p, 0⟩], [], ByteArray.empty, 0, 0, 0⟩
theorem but7 (W : World) (n : Nat) (a b c d e f g : Value) : ButS (fun k => k = n) W (((((((W.setCell ⟨n, 0, none⟩ a).setCell ⟨n, 1, none⟩ b).setCell ⟨n, 2, none⟩ c).setCell ⟨n, 3, none⟩ d).setCell ⟨n, 4, none⟩ e).setCell ⟨n, 5, none⟩ f).setCell ⟨n, 6, none⟩ g) :=
  have s : ∀ (W : World) (o : Nat) (v : Value), ButS (fun k => k = n) W (W.setCell ⟨n, o, none⟩ v) := fun W o v => ButS.set (S := fun k => k = n) W (p := ⟨n, o, none⟩) rfl v
  (((((((s _ _ _).trans (s _ _ _)).trans (s _ _ _)).trans (s _ _ _)).trans (s _ _ _)).trans (s _ _ _)).trans (s _ _ _))
def PutG (p t : ByteArray) (w : World) (e : Ending) (w' : World) : Prop :=
  ∃ g, e = .returned (calVal (.slice none 0 0) (.slice (some ⟨g, 0, none⟩) 1 1) (putL p t)) ∧ w.heap.size ≤ g ∧ One g #[.int .u8 1, .string p, .bool true, .int .u64 0, .int .u64 0, .string t] w' ∧ Below w.heap.size w w'
set_option maxRecDepth 100000 in
set_option maxHeartbeats 2000000 in
theorem law_put (p t : ByteArray) (w : World) : Calls Tryz.prog 36 #[.string p, .string t] w (PutG p t w) := by
  have hzc := zeroCal
  go_enter Tryz.func36, Tryz.ntmps36
  go_upto_region 1 with fail
  refine wp_abs (F := fun W => One w.heap.size #[.int .u8 0, .slice none 0 0, .slice none 0 0, .string ByteArray.empty, .int .u64 0, .int .u64 0, .int .u32 0] W ∧ Below w.heap.size w W) ⟨One.of _ _ _, (Below.refl _ _).alloc (Nat.le_refl _) _⟩ ?_
  rintro W1 ⟨hO, hb⟩
  have hO2 := hO.step ((Below.refl _ _).alloc (Nat.le_refl _) (.cells #[.int .u8 1, .string p, .bool true, .int .u64 0, .int .u64 0, .string t] 55))
  have n0 := hO2.c 0; have n1 := hO2.c 1; have n2 := hO2.c 2; have n3 := hO2.c 3; have n4 := hO2.c 4; have n5 := hO2.c 5; have n6 := hO2.c 6
  have p0 := hO2.f 0; have p1 := hO2.f 1; have p2 := hO2.f 2; have p3 := hO2.f 3; have p4 := hO2.f 4; have p5 := hO2.f 5; have p6 := hO2.f 6
  simp at n0 n1 n2 n3 n4 n5 n6
  have Hb := Lib.hid hb; have HO := Lib.hid hO
  clear hO hb hO2
  go_wp2_with fail
  exact bodyPost_ret (v := calVal (.slice none 0 0) (.slice (some ⟨W1.heap.size, 0, none⟩) 1 1) (putL p t)) (by simp [results, Tryz.results36, go_sem, calVal, putL, n0, n1, n2, n3, n4, n5, n6]) rfl
    ⟨W1.heap.size, rfl, Hb.out.size, one_but (One.of W1 _ _) (but7 _ _ _ _ _ _ _ _ _) (by show ¬ W1.heap.size = w.heap.size; have := HO.out.lt; omega), (Hb.out.alloc Hb.out.size _).trans ((but7 _ _ _ _ _ _ _ _ _).below (fun k hk => by omega) (by have := Hb.out.size; simp; omega))⟩
def GetG (p : ByteArray) (w : World) (e : Ending) (w' : World) : Prop :=
  ∃ vR, e = .returned (calVal vR (.slice none 0 0) (getL p)) ∧ IsRds w' vR (getL p).rds ∧ Below w.heap.size w w'
set_option maxRecDepth 100000 in
set_option maxHeartbeats 2000000 in
theorem law_get (p : ByteArray) (w : World) : Calls Tryz.prog 37 #[.string p] w (GetG p w) := by
  have hzc := zeroCal
  go_enter Tryz.func37, Tryz.ntmps37
  go_upto_region 1 with fail
  refine wp_abs (F := fun W => One w.heap.size #[.int .u8 0, .slice none 0 0, .slice none 0 0, .string ByteArray.empty, .int .u64 0, .int .u64 0, .int .u32 0] W ∧ Below w.heap.size w W) ⟨One.of _ _ _, (Below.refl _ _).alloc (Nat.le_refl _) _⟩ ?_
  rintro W1 ⟨hO, hb⟩
  have hO2 := hO.step ((Below.refl _ _).alloc (Nat.le_refl _) (.cells #[.string p, .int .u64 0] 133))
  have n0 := hO2.c 0; have n1 := hO2.c 1; have n2 := hO2.c 2; have n3 := hO2.c 3; have n4 := hO2.c 4; have n5 := hO2.c 5; have n6 := hO2.c 6
  have p0 := hO2.f 0; have p1 := hO2.f 1; have p2 := hO2.f 2; have p3 := hO2.f 3; have p4 := hO2.f 4; have p5 := hO2.f 5; have p6 := hO2.f 6
  simp at n0 n1 n2 n3 n4 n5 n6
  have Hb := Lib.hid hb; have HO := Lib.hid hO
  clear hO hb hO2
  go_wp2_with fail
  refine bodyPost_ret (v := calVal (.slice (some ⟨W1.heap.size, 0, none⟩) 1 1) (.slice none 0 0) (getL p)) (by simp [results, Tryz.results37, go_sem, calVal, getL, n0, n1, n2, n3, n4, n5, n6]) rfl
    ⟨_, rfl, ⟨_, 1, rfl, Or.inr ⟨W1.heap.size, 0, rfl, ?_, fun i hi => ?_⟩⟩, (Hb.out.alloc Hb.out.size _).trans ((but7 _ _ _ _ _ _ _ _ _).below (fun k hk => by omega) (by have := Hb.out.size; simp; omega))⟩
  · have := (but7 (W1.alloc (.cells #[.string p, .int .u64 0] 133)) w.heap.size (.int .u8 1) (.slice (some ⟨W1.heap.size, 0, none⟩) 1 1) (.slice none 0 0) (.string ByteArray.empty) (.int .u64 0) (.int .u64 0) (.int .u32 0)).size
    simp at this ⊢
  · obtain rfl : i = 0 := by simpa [getL] using hi
    have hO3 := one_but (One.of W1 #[.string p, .int .u64 0] 133) (but7 _ w.heap.size (.int .u8 1) (.slice (some ⟨W1.heap.size, 0, none⟩) 1 1) (.slice none 0 0) (.string ByteArray.empty) (.int .u64 0) (.int .u64 0) (.int .u32 0)) (by show ¬ W1.heap.size = w.heap.size; have := HO.out.lt; omega)
    exact ⟨hO3.c 0, hO3.c 1⟩
end Go.Proofs.YtfbgnpfhjbiikaaGreatDoor

namespace Go.Proofs.YtfbgnpfhjbiikaaGreatDoor
open Go Go.RowKit
open Pth
open Go.Maps (has size Canon CanonK Tidy IsMap KeysOf Keyed Merged)
abbrev Tx : Type := Nat × Nat
def txOf (s : Sto) : Tx := (s.life, s.txn)
def TxOk (x : Tx) : Prop := x.1 < 18446744073709551616 ∧ x.2 < 18446744073709551616
def txVal (x : Tx) : Value := .agg #[.int .u64 x.1, .int .u64 x.2]
def keyTx (x : Tx) : Lit := .string (keyBytes [.int .u64 x.1, .int .u64 x.2])
theorem wfU64 {n : Nat} (h : n < 18446744073709551616) : (Lit.int .u64 (n : Int)).wf = true := by
  simp [Lit.wf, IntKind.min, IntKind.max, IntKind.signed, IntKind.bits]; omega
theorem txDeep1 : Tryz.prog.keyTypeAt 2 82 = true := by kernel_rfl
theorem txDeep2 : Tryz.prog.tiled 2 82 = true := by kernel_rfl
theorem txDeep3 : (match Tryz.prog.underlying 82 with | some (.array _ _) | some (.struct _) => true | _ => false) = true := by kernel_rfl
set_option maxRecDepth 100000 in
theorem kTx : Keyed Tryz.prog 82 := Maps.Keyed.of_law (deep_law (m := 2) (by omega) txDeep1 txDeep2 txDeep3)
theorem keyTx_of {x : Tx} (h : TxOk x) : keyOf Tryz.prog 82 (txVal x) = some (keyTx x) := by
  have h1 : Tryz.prog.keyType 82 = true := by kernel_rfl
  have hc : Tryz.prog.cellsOf 82 = 2 := by kernel_rfl
  have hu : Tryz.prog.cellsOf 43 = 1 := by kernel_rfl
  have h2 : (txVal x).formed Tryz.prog 82 = true := by
    simp [Value.formed, txVal, Tryz.underlying82, hc]
  obtain ⟨m, hm⟩ : ∃ m, Tryz.prog.types.size = m + 1 := ⟨Tryz.prog.types.size - 1, by
    have : 0 < Tryz.prog.types.size := of_decide_eq_true (by kernel_rfl)
    omega⟩
  have h3 : Tryz.prog.keyLits (Tryz.prog.types.size + 1) 82 (txVal x).cells.toList = some [.int .u64 x.1, .int .u64 x.2] := by
    rw [hm]
    simp [Program.keyLits, txVal, Value.cells, Tryz.underlying82, Tryz.underlying43, hc, hu, wfU64 h.1, wfU64 h.2]
  unfold keyOf
  rw [Tryz.underlying82]
  simp only [h1, h2, h3, Bool.and_self, if_true, Option.map_some]
  rfl
theorem keyTx_inj {x y : Tx} (hx : TxOk x) (hy : TxOk y) (h : keyTx x = keyTx y) : x = y := by
  have := kTx.inj (keyTx_of hx) (by rw [h]; exact keyTx_of hy)
  unfold txVal at this
  injection this with this
  simp at this
  exact Prod.ext (by omega) (by omega)

def MapTx (w : World) (b n : Nat) (F : Tx → Option Int) : Prop :=
  ∃ D : DataW Value, w.ownsMap Tryz.prog 82 heldR b n D ∧ IsMap D ∧ ∀ x, TxOk x → has D (keyTx x) = (F x).isSome ∧ ∀ v, F x = some v → D.atKey (keyTx x) .nil = .held (.int .i64 v)
theorem MapTx.move {w w' : World} {b n : Nat} {F : Tx → Option Int} (h : MapTx w b n F) (hb : w'.heap[b]? = w.heap[b]?) : MapTx w' b n F := by
  obtain ⟨D, ⟨es, clock, hh, Fi, hn, hD⟩, hm, hF⟩ := h
  exact ⟨D, ⟨es, clock, hb.trans hh, Fi, hn, hD⟩, hm, hF⟩
theorem MapTx.lt {w : World} {b n : Nat} {F : Tx → Option Int} (h : MapTx w b n F) : b < w.heap.size := by obtain ⟨D, h, _⟩ := h; exact h.lt
theorem MapTx.made (w : World) : MapTx (w.alloc (.map #[] 0)) w.heap.size 0 (fun _ => none) :=
  ⟨.map [], World.ownsMap_made w _ _ heldR, ⟨[], rfl⟩, fun x _ => ⟨rfl, fun v h => by cases h⟩⟩
theorem MapTx.put {_w w' : World} {b _n n' : Nat} {F : Tx → Option Int} {D : DataW Value} {x : Tx} {c : Int} (hx : TxOk x) (hm : IsMap D) (hF : ∀ x, TxOk x → has D (keyTx x) = (F x).isSome ∧ ∀ v, F x = some v → D.atKey (keyTx x) .nil = .held (.int .i64 v))
    (h : w'.ownsMap Tryz.prog 82 heldR b n' (D.put (keyTx x) (.held (.int .i64 c)))) : MapTx w' b n' (fun y => if y = x then some c else F y) := by
  refine ⟨_, h, hm.put _ _, fun y hy => ?_⟩
  have hk := kTx.key (keyTx_of hx)
  dsimp only
  by_cases e : y = x
  · subst e
    rw [if_pos rfl]
    exact ⟨Maps.has_put_same hm hk _, fun v hv => by injection hv with hv; subst hv; exact Maps.atKey_put_same hm hk _ _⟩
  · have hne : keyTx y ≠ keyTx x := fun h => e (keyTx_inj hy hx h)
    rw [if_neg e, Maps.has_put_other hne]
    exact ⟨(hF y hy).1, fun v hv => by rw [Maps.atKey_put_other hne]; exact (hF y hy).2 v hv⟩
theorem zeroIntT (w : World) : (zeroValue 3).run Tryz.prog w = .ok (.int .i64 0) w := by kernel_rfl
theorem MapTx.look {w : World} {b n : Nat} {F : Tx → Option Int} (h : MapTx w b n F) {x : Tx} (hx : TxOk x) :
    (Instr.lookup 141 (.map (some b)) (txVal x) true).run Tryz.prog w = .ok (.tuple #[.int .i64 ((F x).getD 0), .bool (F x).isSome]) w ∧
    (Instr.lookup 141 (.map (some b)) (txVal x) false).run Tryz.prog w = .ok (.int .i64 ((F x).getD 0)) w := by
  obtain ⟨D, ho, hm, hF⟩ := h
  obtain ⟨v1, p1, hr1, hv1⟩ := ho.look_ok kTx Tryz.underlying141 (zeroIntT w) (zd := .held (.int .i64 0)) (zp := []) rfl (keyTx_of hx)
  obtain ⟨v2, p2, hr2, hv2⟩ := ho.lookup kTx Tryz.underlying141 (zeroIntT w) (zd := .held (.int .i64 0)) (zp := []) rfl (keyTx_of hx)
  have e1 : DataW.held v1 = D.atKey (keyTx x) (.held (.int .i64 0)) := by simpa [heldR] using (congrArg (fun o => o.map Prod.fst) hv1)
  have e2 : DataW.held v2 = D.atKey (keyTx x) (.held (.int .i64 0)) := by simpa [heldR] using (congrArg (fun o => o.map Prod.fst) hv2)
  obtain ⟨h1, h2⟩ := hF x hx
  rw [h1] at hr1
  cases hf : F x with
  | none =>
    rw [hf] at h1
    rw [Maps.atKey_of_not_has h1] at e1 e2
    injection e1 with e1; injection e2 with e2
    subst e1; subst e2
    rw [hf] at hr1
    exact ⟨hr1, hr2⟩
  | some c =>
    rw [hf] at h1
    rw [Maps.atKey_indep h1 (.held (.int .i64 0)) .nil, h2 c hf] at e1 e2
    injection e1 with e1; injection e2 with e2
    subst e1; subst e2
    rw [hf] at hr1
    exact ⟨hr1, hr2⟩
theorem wpl_mapTx {ops : Array Oper} {rest : List Oper} {o : Oper} {a : Act} {w : World} {Q : Exit → Act → World → Prop} {b n : Nat} {F : Tx → Option Int}
    (hg : o.guard = none) (m k v : Operand) (hop : o.op = Op.mapUpdate 141 m k v) (h : MapTx w b n F) (hn : n < maxLen) (x : Tx) (c : Int) (hx : TxOk x)
    (hm : a.eval m = .map (some b)) (hk : a.eval k = txVal x) (hv : a.eval v = .int .i64 c)
    (hK : ∀ w', MapTx w' b (n + 1) (fun y => if y = x then some c else F y) → w.grownBy w' (some b) → wpList Tryz.prog ops Q rest (a.put o.dst undef) w') :
    wpList Tryz.prog ops Q (o :: rest) a w := by
  obtain ⟨D, ho, hmm, hF⟩ := h
  exact wpList_mapUpdate_own w hg m k v 141 hop 82 3 kTx Tryz.underlying141 heldR b n D hm ho hn _ _ _ hk hv (keyTx_of hx) _ [] rfl (fun w' h' hg' => hK w' (MapTx.put (_w := w) (_n := n) hx hmm hF h') hg')

def IsTxs (w : World) (v : Value) (l : List Tx) : Prop :=
  ∃ a cap, v = .slice a l.length cap ∧ (l = [] ∨ ∃ b off, a = some ⟨b, off, none⟩ ∧ b < w.heap.size ∧ ∀ i, i < l.length → w.cell? ⟨b, off + i * 2, none⟩ = some (.int .u64 (l.getD i (0, 0)).1) ∧ w.cell? ⟨b, off + i * 2 + 1, none⟩ = some (.int .u64 (l.getD i (0, 0)).2))
theorem IsTxs.below {w w' : World} {v : Value} {l : List Tx} {B : Nat} (h : IsTxs w v l) (hb : Below B w w') (hB : w.heap.size ≤ B) : IsTxs w' v l := by
  obtain ⟨a, cap, hv, h⟩ := h
  refine ⟨a, cap, hv, ?_⟩
  rcases h with h | ⟨b, off, ha, hlt, hc⟩
  · exact Or.inl h
  · exact Or.inr ⟨b, off, ha, by have := hb.size; omega, fun i hi => ⟨(hb.cell (p := ⟨b, _, none⟩) (by show b < B; omega)).trans (hc i hi).1, (hb.cell (p := ⟨b, _, none⟩) (by show b < B; omega)).trans (hc i hi).2⟩⟩
theorem zeroTx (w : World) : (zeroValue 82).run Tryz.prog w = .ok (.agg #[.int .u64 0, .int .u64 0]) w := by kernel_rfl
end Go.Proofs.YtfbgnpfhjbiikaaGreatDoor
