/- Contract: sha.table. Contract: sha's state behind a block. Numbers that a slice holds. -/
import Derived.Test.YtggdkfijioeijaaGreatDoorQb04
import Derived.Laws.Rows
import Derived.Laws.Tables
import Derived.Laws.CopyOwn
import Derived.Deep.AppendLies
import Derived.Laws.AppendOwnNone
namespace Go.Proofs.YtggdkfijioeijaaGreatDoor
open Go Go.RowKit
def ksV : Array Value := (Sh.ks.map (fun n : Nat => Value.int .u32 (n : Int))).toArray
def z64 : Array Value := (List.replicate 64 (Value.int .u32 0)).toArray
theorem infoT64 : (Tryz.prog.info? 229).map (·.size) = some 64 := by kernel_rfl
theorem op_value {P : Program} {o : Oper} {a : Act} {w w' : World} {K : Act → World → Prop} {Q : Exit → Act → World → Prop} {v : Value} (h : (execOp a.eval o).run P w = .ok (.value v) w') (k : K (a.put o.dst v) w') : Oper.wp P o a w K Q := by
 unfold Oper.wp; rw [h]; exact k
theorem op_call {P : Program} {o : Oper} {a : Act} {w w' : World} {K : Act → World → Prop} {Q : Exit → Act → World → Prop} {f : FuncId} {args : Array Value} (h : (execOp a.eval o).run P w = .ok (.enter f args) w')
  (k : Calls P f args w' (fun e w'' => ∃ v, e = .returned v ∧ K (a.put o.dst v) w'')) : Oper.wp P o a w K Q := by
 unfold Oper.wp; rw [h]
 exact Calls.mono k (fun e w'' ⟨v, he, hk⟩ => by subst he; exact hk)
set_option maxRecDepth 100000 in
set_option maxHeartbeats 4000000 in
theorem sha_table (w : World) : Calls Tryz.prog 161 #[] w fun e w' => e = .returned (.agg ksV) ∧ Below w.heap.size w w' := by
 have hal : (w.alloc (.cells z64 229)).heap[w.heap.size]? = some (.cells z64 229 (0, 0)) := (MapKept.heap_alloc _ _).1
 have hset := setRow_heap _ w.heap.size z64 ksV _ _ hal
 have HS := Lib.hid hset; have HA := Lib.hid hal
 clear hset hal
 go_enter Tryz.func161, Tryz.ntmps161
 go_upto_region 1 with fail
 refine wp_region_list ?_
 refine wpList_plain rfl fun K hK => ?_
 refine op_value (w' := w.alloc (.cells z64 229)) (v := .agg ksV) (by kernel_rfl) (hK _ _ ?_)
 refine wpList_store_row rfl 229 (.tmp 0) (.tmp 1) rfl w.heap.size ksV rfl rfl 229 z64 HA.out infoT64 rfl (by kernel_rfl) ?_
 apply wpList_nil
 go_wp2_with fail
 refine bodyPost_ret (v := .agg ksV) (results_cell_row rfl _ _ w.heap.size _ ksV _ _ rfl HS.out Tryz.underlying229 rfl infoT64) rfl ⟨rfl, ?_⟩
 exact below_setRow ((Below.refl _ _).alloc (Nat.le_refl _) _) (Nat.le_refl _) _
end Go.Proofs.YtggdkfijioeijaaGreatDoor
namespace Go.Proofs.YtggdkfijioeijaaGreatDoor
open Go Go.RowKit
def S8v (s : Sh.S8) : Array Value := #[.int .u32 (s.a : Int), .int .u32 (s.b : Int), .int .u32 (s.c : Int), .int .u32 (s.d : Int), .int .u32 (s.e : Int), .int .u32 (s.f : Int), .int .u32 (s.g : Int), .int .u32 (s.h : Int)]
def z8 : Array Value := #[.int .u32 0, .int .u32 0, .int .u32 0, .int .u32 0, .int .u32 0, .int .u32 0, .int .u32 0, .int .u32 0]
theorem infoSt : (Tryz.prog.info? 201).map (·.size) = some 8 := by kernel_rfl
def F4 (base : Array Value) (x5 x6 x14 x15 : Value) : Array Value := (((base.setIfInBounds 14 x14).setIfInBounds 15 x15).setIfInBounds 5 x5).setIfInBounds 6 x6
section
variable {base : Array Value} {x5 x6 x14 x15 v : Value} (h : base.size = 93)
include h
omit h in
theorem F4_2 : (F4 base x5 x6 x14 x15).getD 2 undef = base.getD 2 undef := by simp [F4]
theorem F4_5 : (F4 base x5 x6 x14 x15).getD 5 undef = x5 := by simp [F4, h]
theorem F4_6 : (F4 base x5 x6 x14 x15).getD 6 undef = x6 := by simp [F4, h]
theorem F4_14 : (F4 base x5 x6 x14 x15).getD 14 undef = x14 := by simp [F4, h]
theorem F4_15 : (F4 base x5 x6 x14 x15).getD 15 undef = x15 := by simp [F4, h]
omit h in
theorem F4_set5 : (F4 base x5 x6 x14 x15).setIfInBounds 5 v = F4 base v x6 x14 x15 := by
 unfold F4; refine Array.ext_getElem? fun k => ?_; simp only [Array.getElem?_setIfInBounds, Array.size_setIfInBounds]; split <;> (try split) <;> (try split) <;> (try split) <;> (try split) <;> first | rfl | omega
omit h in
theorem F4_set6 : (F4 base x5 x6 x14 x15).setIfInBounds 6 v = F4 base x5 v x14 x15 := by
 unfold F4; refine Array.ext_getElem? fun k => ?_; simp only [Array.getElem?_setIfInBounds, Array.size_setIfInBounds]; split <;> (try split) <;> (try split) <;> (try split) <;> (try split) <;> first | rfl | omega
omit h in
theorem F4_set14 : (F4 base x5 x6 x14 x15).setIfInBounds 14 v = F4 base x5 x6 v x15 := by
 unfold F4; refine Array.ext_getElem? fun k => ?_; simp only [Array.getElem?_setIfInBounds, Array.size_setIfInBounds]; split <;> (try split) <;> (try split) <;> (try split) <;> (try split) <;> first | rfl | omega
omit h in
theorem F4_set15 : (F4 base x5 x6 x14 x15).setIfInBounds 15 v = F4 base x5 x6 x14 v := by
 unfold F4; refine Array.ext_getElem? fun k => ?_; simp only [Array.getElem?_setIfInBounds, Array.size_setIfInBounds]; split <;> (try split) <;> (try split) <;> (try split) <;> (try split) <;> first | rfl | omega
end
structure BX (bv bk bw : Nat) (C : Array Value) (s : Sh.S8) (F : Nat → Nat) (w W : World) : Prop where
 v : W.heap[bv]? = some (.cells C 201 (0, 0))
 k : W.heap[bk]? = some (.cells ksV 229 (0, 0))
 s : W.heap[w.heap.size]? = some (.cells (S8v s) 201 (0, 0))
 r : W.heap[w.heap.size + 1]? = some (.cells z8 201 (0, 0))
 row : RowW bw F 64 W
 b : Below w.heap.size w W
theorem BX.below {bv bk bw : Nat} {C : Array Value} {s : Sh.S8} {F : Nat → Nat} {w W W' : World} (h : BX bv bk bw C s F w W) (hb : Below W.heap.size W W') : BX bv bk bw C s F w W' :=
 ⟨(hb.block _ (lt_of_block h.v)).trans h.v, (hb.block _ (lt_of_block h.k)).trans h.k, (hb.block _ (lt_of_block h.s)).trans h.s, (hb.block _ (lt_of_block h.r)).trans h.r, h.row.below hb, h.b.trans (hb.mono h.b.size)⟩
theorem BX.alloc {bv bk bw : Nat} {C : Array Value} {s : Sh.S8} {F : Nat → Nat} {w W : World} (h : BX bv bk bw C s F w W) (o : Obj) : BX bv bk bw C s F w (W.alloc o) := h.below ((Below.refl _ _).alloc (Nat.le_refl _) _)
theorem BX.drew {bv bk bw : Nat} {C : Array Value} {s : Sh.S8} {F : Nat → Nat} {w W : World} (h : BX bv bk bw C s F w W) : BX bv bk bw C s F w W.drew := h.below (Below.refl _ _).drew
theorem BX.setRow {bv bk bw : Nat} {C : Array Value} {s : Sh.S8} {F : Nat → Nat} {w W : World} (h : BX bv bk bw C s F w W) (h1 : bk ≠ bv) (h2 : bw ≠ bv) (h3 : w.heap.size + 2 ≤ bv) (C' : Array Value) : BX bv bk bw C' s F w (W.setRow bv C') := by
 have hw : (W.setRow bv C').heap[bw]? = W.heap[bw]? := setRow_other _ _ _ _ h2
 refine ⟨setRow_heap _ _ _ _ _ _ h.v, (setRow_other _ _ _ _ h1).trans h.k, (setRow_other _ _ _ _ (by omega)).trans h.s, (setRow_other _ _ _ _ (by omega)).trans h.r, ⟨by simpa using h.row.lt, fun j hj => ?_, fun j => ?_⟩, below_setRow h.b (by omega) _⟩
 ·exact (World.cell?_of_block (w := W) hw).trans (h.row.c j hj)
 ·exact (World.frozen?_of_block (w := W) hw).trans (h.row.f j)
theorem BX.set {bv bk bw : Nat} {C : Array Value} {s : Sh.S8} {F : Nat → Nat} {w W : World} (h : BX bv bk bw C s F w W) (h1 : bk ≠ bv) (h2 : bw ≠ bv) (h3 : w.heap.size + 2 ≤ bv) (i : Nat) (u : Value) : BX bv bk bw (C.setIfInBounds i u) s F w (W.setCell ⟨bv, i, none⟩ u) := by
 rw [setCell_eq_setRow W bv i C _ _ u h.v]
 exact h.setRow h1 h2 h3 _
abbrev BW (bv bk bw : Nat) (r s : Sh.S8) (F : Nat → Nat) (w W : World) : Prop := BX bv bk bw (S8v r) s F w W
theorem cell_of {W : World} {b : Nat} {C : Array Value} {t : TypeId} {fr : Nat × Nat} (h : W.heap[b]? = some (.cells C t fr)) (j : Nat) : W.cell? ⟨b, j, none⟩ = C[j]? := by
 unfold World.cell?; simp [h]
theorem frozen_of {W : World} {b : Nat} {C : Array Value} {t : TypeId} (h : W.heap[b]? = some (.cells C t (0, 0))) (j : Nat) : W.frozen? ⟨b, j, none⟩ = false := by
 unfold World.frozen?; simp only [h]; simp
theorem ksV_get {k : Nat} (hk : k < 64) : ksV[k]? = some (.int .u32 ((Sh.ks.getD k 0 : Nat) : Int)) := by
 have hl : Sh.ks.length = 64 := by rfl
 unfold ksV
 simp [List.getD_eq_getElem?_getD, show k < Sh.ks.length by omega]
theorem ks_lt (k : Nat) : Sh.ks.getD k 0 < 4294967296 := by
 have : ∀ x ∈ Sh.ks, x < 4294967296 := by decide
 rw [List.getD_eq_getElem?_getD]
 cases h : Sh.ks[k]? with
 | none => decide
 | some x => exact this x (List.mem_of_getElem? h)
theorem mix3 (x a b c : Nat) : mix x [a, b, c] = Sh.three x a b c := by simp [mix, Sh.three]
def plusC (s r : Sh.S8) (j : Nat) : Array Value := #[if 0 < j then .int .u32 (((s.a + r.a) % 4294967296 : Nat) : Int) else .int .u32 (s.a : Int), if 1 < j then .int .u32 (((s.b + r.b) % 4294967296 : Nat) : Int) else .int .u32 (s.b : Int), if 2 < j then .int .u32 (((s.c + r.c) % 4294967296 : Nat) : Int) else .int .u32 (s.c : Int), if 3 < j then .int .u32 (((s.d + r.d) % 4294967296 : Nat) : Int) else .int .u32 (s.d : Int), if 4 < j then .int .u32 (((s.e + r.e) % 4294967296 : Nat) : Int) else .int .u32 (s.e : Int), if 5 < j then .int .u32 (((s.f + r.f) % 4294967296 : Nat) : Int) else .int .u32 (s.f : Int), if 6 < j then .int .u32 (((s.g + r.g) % 4294967296 : Nat) : Int) else .int .u32 (s.g : Int), if 7 < j then .int .u32 (((s.h + r.h) % 4294967296 : Nat) : Int) else .int .u32 (s.h : Int)]
structure InvB (n : Nat) (s : Sh.S8) (W : World) (base : Array Value) (l : Nat → Bool) (t : Array Value) (W' : World) : Prop where
 size : base.size = 93
 ptr : base.getD 2 undef = .pointer (some ⟨n, 0, none⟩)
 st : W.heap[n]? = some (.cells (S8v s) 201 (0, 0))
 bel : Below W.heap.size W W'
 ex : ∃ x5 x6 x14 x15, t = F4 base x5 x6 x14 x15 ∧ (l 0 = true → x14 = .agg (S8v s)) ∧ (l 1 = true → x15 = .agg ksV) ∧
  (l 2 = true → ∃ bv, x5 = .pointer (some ⟨bv, 0, none⟩) ∧ W.heap.size ≤ bv ∧ W'.heap[bv]? = some (.cells (if l 4 = true then S8v s else z8) 201 (0, 0))) ∧
  (l 3 = true → ∃ bk, x6 = .pointer (some ⟨bk, 0, none⟩) ∧ W.heap.size ≤ bk ∧ W'.heap[bk]? = some (.cells (if l 5 = true then ksV else z64) 229 (0, 0))) ∧
  (l 2 = true → l 3 = true → x5 ≠ x6)
 ord : (l 4 = true → l 2 = true) ∧ (l 5 = true → l 3 = true)
set_option maxRecDepth 100000 in
set_option maxHeartbeats 8000000 in
theorem sha_behind (s : Sh.S8) (hs : s.Ok) (b : ByteArray) (hb : b.size = 64) (w : World) :
    Calls Tryz.prog 127 #[.agg (S8v s), .string b] w fun e w' => e = .returned (.agg (S8v (Sh.block s (nb b)))) ∧ Below w.heap.size w w' := by
  have h1 : ((w.alloc (.cells (S8v s) 201)).alloc (.cells z8 201)).heap[w.heap.size]? = some (.cells (S8v s) 201 (0, 0)) := two1 _ _ _
  have h2 : ((w.alloc (.cells (S8v s) 201)).alloc (.cells z8 201)).heap[w.heap.size + 1]? = some (.cells z8 201 (0, 0)) := two2 _ _ _
  have h3 : Below w.heap.size w ((w.alloc (.cells (S8v s) 201)).alloc (.cells z8 201)) := ((Below.refl _ _).alloc (Nat.le_refl _) _).alloc (by simp) _
  have h4 : ((w.alloc (.cells (S8v s) 201)).alloc (.cells z8 201)).heap.size = w.heap.size + 2 := by simp
  have H1 := Lib.hid h1; have H2 := Lib.hid h2; have H3 := Lib.hid h3; have H4 := Lib.hid h4
  clear h1 h2 h3 h4
  go_enter Tryz.func127, Tryz.ntmps127
  go_upto_region 1 with fail
  refine wp_abs (F := fun W => W.heap[w.heap.size]? = some (.cells (S8v s) 201 (0, 0)) ∧ W.heap[w.heap.size + 1]? = some (.cells z8 201 (0, 0)) ∧ Below w.heap.size w W ∧ W.heap.size = w.heap.size + 2) ⟨H1.out, H2.out, H3.out, H4.out⟩ ?_
  rintro W ⟨h1, h2, h3, h4⟩
  clear H1 H2 H3 H4
  have H1 := Lib.hid h1; have H2 := Lib.hid h2; have H3 := Lib.hid h3; have H4 := Lib.hid h4
  clear h1 h2 h3 h4
  go_cut [5, 6] (fun s5 s6 wx => ∃ bv bk : Nat, s5 = .pointer (some ⟨bv, 0, none⟩) ∧ s6 = .pointer (some ⟨bk, 0, none⟩) ∧ bv ≠ bk ∧ w.heap.size + 2 ≤ bv ∧ w.heap.size + 2 ≤ bk ∧
    Hid (wx.heap[bv]? = some (.cells (S8v s) 201 (0, 0))) ∧ Hid (wx.heap[bk]? = some (.cells ksV 229 (0, 0))) ∧ Hid (Below W.heap.size W wx))
  case first =>
    refine wp_region_each rfl (fun base l t W' => InvB w.heap.size s W base l t W') ?lex ?start ?step ?fin
    case lex =>
      intro i o h
      rcases i with _ | _ | _ | _ | _ | _ | i <;> simp at h <;> subst h <;> simp
    case start =>
      refine ⟨rfl, rfl, H1.out, (Below.refl _ _).drew, ⟨undef, undef, undef, undef, rfl, ?_, ?_, ?_, ?_, ?_⟩, ⟨?_, ?_⟩⟩ <;> (intro h; cases h)
    case step =>
      intro l t W' i o hI ho hli hdep K Q hK
      obtain ⟨hsz, hp, hst, hbel, ⟨x5, x6, x14, x15, rfl, hx14, hx15, hx5, hx6, hne⟩, ho4, ho5⟩ := hI
      generalize hbase : (Act.tmps _) = base at hsz hp hK ⊢
      rcases i with _ | _ | _ | _ | _ | _ | i <;> simp only [List.getElem?_toArray, List.getElem?_cons_zero, List.getElem?_cons_succ, List.getElem?_nil, Option.some.injEq, reduceCtorEq, Nat.reduceAdd] at ho
      · subst ho
        refine ⟨rfl, ?_⟩
        refine wp_load_row 201 (.tmp 2) rfl w.heap.size (F4_2.trans hp) _ (S8v s) (0, 0) _ ((hbel.block _ (lt_of_block hst)).trans hst) Tryz.underlying201 rfl infoSt ?_
        refine hK _ W' ⟨hsz, hp, hst, hbel, ⟨x5, x6, .agg (S8v s), x15, F4_set14, fun _ => rfl, by simpa using hx15, by simpa using hx5, by simpa using hx6, by simpa using hne⟩, by simpa using ho4, by simpa using ho5⟩
      · subst ho
        refine ⟨rfl, ?_⟩
        refine op_call (f := 161) (args := #[]) (w' := W') (by kernel_rfl) ((sha_table W').mono ?_)
        rintro e W2 ⟨rfl, hb2⟩
        refine ⟨_, rfl, hK _ W2 ⟨hsz, hp, hst, hbel.trans (hb2.mono hbel.size), ⟨x5, x6, x14, .agg ksV, F4_set15, by simpa using hx14, fun _ => rfl, fun h2 => ?_, fun h3 => ?_, by simpa using hne⟩, by simpa using ho4, by simpa using ho5⟩⟩
        · obtain ⟨bv, e1, e2, e3⟩ := hx5 (by simpa using h2)
          exact ⟨bv, e1, e2, (hb2.block _ (lt_of_block e3)).trans (by simpa using e3)⟩
        · obtain ⟨bk, e1, e2, e3⟩ := hx6 (by simpa using h3)
          exact ⟨bk, e1, e2, (hb2.block _ (lt_of_block e3)).trans (by simpa using e3)⟩
      · subst ho
        refine ⟨rfl, ?_⟩
        have hl4 : l 4 = false := by
          cases h : l 4 with
          | false => rfl
          | true => rw [ho4 h] at hli; cases hli
        refine op_value (w' := W'.alloc (.cells z8 201)) (v := .pointer (some ⟨W'.heap.size, 0, none⟩)) (by kernel_rfl) ?_
        refine hK _ _ ⟨hsz, hp, hst, hbel.alloc hbel.size _, ⟨.pointer (some ⟨W'.heap.size, 0, none⟩), x6, x14, x15, F4_set5, by simpa using hx14, by simpa using hx15, fun h2 => ⟨_, rfl, hbel.size, ?_⟩, fun h3 => ?_, fun h2 h3 => ?_⟩, by simp, by simpa using ho5⟩
        · rw [if_neg (by simp [hl4])]; exact (MapKept.heap_alloc _ _).1
        · obtain ⟨bk, e1, e2, e3⟩ := hx6 (by simpa using h3)
          exact ⟨bk, e1, e2, (Below.heap_alloc _ _ _ (lt_of_block e3)).trans (by simpa using e3)⟩
        · obtain ⟨bk, e1, e2, e3⟩ := hx6 (by simpa using h3)
          rw [e1]; intro e; cases e; have := lt_of_block e3; omega
      · subst ho
        refine ⟨rfl, ?_⟩
        have hl5 : l 5 = false := by
          cases h : l 5 with
          | false => rfl
          | true => rw [ho5 h] at hli; cases hli
        refine op_value (w' := W'.alloc (.cells z64 229)) (v := .pointer (some ⟨W'.heap.size, 0, none⟩)) (by kernel_rfl) ?_
        refine hK _ _ ⟨hsz, hp, hst, hbel.alloc hbel.size _, ⟨x5, .pointer (some ⟨W'.heap.size, 0, none⟩), x14, x15, F4_set6, by simpa using hx14, by simpa using hx15, fun h2 => ?_, fun h3 => ⟨_, rfl, hbel.size, ?_⟩, fun h2 h3 => ?_⟩, by simpa using ho4, by simp⟩
        · obtain ⟨bv, e1, e2, e3⟩ := hx5 (by simpa using h2)
          exact ⟨bv, e1, e2, (Below.heap_alloc _ _ _ (lt_of_block e3)).trans (by simpa using e3)⟩
        · rw [if_neg (by simp [hl5])]; exact (MapKept.heap_alloc _ _).1
        · obtain ⟨bv, e1, e2, e3⟩ := hx5 (by simpa using h2)
          rw [e1]; intro e; cases e; have := lt_of_block e3; omega
      · subst ho
        refine ⟨rfl, ?_⟩
        have h0 : l 0 = true := hdep ⟨0, .data⟩ (by simp) rfl
        have h2 : l 2 = true := hdep ⟨2, .data⟩ (by simp) rfl
        obtain rfl := hx14 h0
        obtain ⟨bv, rfl, e2, e3⟩ := hx5 h2
        rw [if_neg (by rw [hli]; simp)] at e3
        refine wp_store_row 201 (.tmp 5) (.tmp 14) rfl bv (S8v s) (F4_5 hsz) (F4_14 hsz) _ z8 e3 infoSt rfl (by simp [S8v, Value.oneCell']) ?_
        refine hK _ _ ⟨hsz, hp, hst, below_setRow hbel e2 _, ⟨.pointer (some ⟨bv, 0, none⟩), x6, .agg (S8v s), x15, rfl, fun _ => rfl, by simpa using hx15, fun _ => ⟨bv, rfl, e2, ?_⟩, fun h3 => ?_, by simpa using hne⟩, fun _ => by simpa using h2, by simpa using ho5⟩
        · rw [if_pos (by simp)]; exact setRow_heap _ _ _ _ _ _ e3
        · obtain ⟨bk, e1, e4, e5⟩ := hx6 (by simpa using h3)
          refine ⟨bk, e1, e4, (setRow_other _ _ _ _ (fun e => hne h2 (by simpa using h3) (by rw [e1, e]))).trans (by simpa using e5)⟩
      · subst ho
        refine ⟨rfl, ?_⟩
        have h1 : l 1 = true := hdep ⟨1, .data⟩ (by simp) rfl
        have h3 : l 3 = true := hdep ⟨3, .data⟩ (by simp) rfl
        obtain rfl := hx15 h1
        obtain ⟨bk, rfl, e2, e3⟩ := hx6 h3
        rw [if_neg (by rw [hli]; simp)] at e3
        refine wp_store_row 229 (.tmp 6) (.tmp 15) rfl bk ksV (F4_6 hsz) (F4_15 hsz) _ z64 e3 infoT64 rfl (by kernel_rfl) ?_
        refine hK _ _ ⟨hsz, hp, hst, below_setRow hbel e2 _, ⟨x5, .pointer (some ⟨bk, 0, none⟩), x14, .agg ksV, rfl, by simpa using hx14, fun _ => rfl, fun h2 => ?_, fun _ => ⟨bk, rfl, e2, ?_⟩, by simpa using hne⟩, by simpa using ho4, fun _ => by simpa using h3⟩
        · obtain ⟨bv, e1, e4, e5⟩ := hx5 (by simpa using h2)
          refine ⟨bv, e1, e4, (setRow_other _ _ _ _ (fun e => hne (by simpa using h2) h3 (by rw [e1, e]))).trans (by simpa using e5)⟩
        · rw [if_pos (by simp)]; exact setRow_heap _ _ _ _ _ _ e3
    case fin =>
      intro l t W' hall hI
      obtain ⟨hsz, hp, hst, hbel, ⟨x5, x6, x14, x15, rfl, hx14, hx15, hx5, hx6, hne⟩, ho4, ho5⟩ := hI
      obtain ⟨bv, rfl, hbv, hcv⟩ := hx5 (hall 2 (by decide))
      obtain ⟨bk, rfl, hbk, hck⟩ := hx6 (hall 3 (by decide))
      rw [if_pos (hall 4 (by decide))] at hcv
      rw [if_pos (hall 5 (by decide))] at hck
      have hne2 := hne (hall 2 (by decide)) (hall 3 (by decide))
      obtain rfl := hx14 (hall 0 (by decide))
      obtain rfl := hx15 (hall 1 (by decide))
      simp only [F4, List.setIfInBounds_toArray, List.set_cons_succ, List.set_cons_zero]
      go_wp2_with fail
      go_meet
      exact ⟨bv, bk, rfl, rfl, fun e => hne2 (by rw [e]), by have := H4.out; omega, by have := H4.out; omega, Lib.hid hcv, Lib.hid hck, Lib.hid hbel⟩
  case rest =>
    obtain ⟨bv, bk, rfl, rfl, hne, hbv, hbk, HV, HK0, HB⟩ := hcut
    have hWsz := H4.out
    have HBw := Lib.hid (H3.out.trans (HB.out.mono H3.out.size))
    have hbs : Hid (wc.heap[w.heap.size]? = some (.cells (S8v s) 201 (0, 0))) := Lib.hid ((HB.out.block _ (by omega)).trans H1.out)
    have hbr : Hid (wc.heap[w.heap.size + 1]? = some (.cells z8 201 (0, 0))) := Lib.hid ((HB.out.block _ (by omega)).trans H2.out)
    clear H1 H2 H3 HB
    go_wp2_with fail
    refine (sha_Words b hb wc).mono ?_
    rintro e w1 ⟨rfl, hrow, hb1⟩
    obtain ⟨F, hF⟩ : ∃ F : Nat → Nat, ∀ j, (Sh.words (nb b) 64).getD j 0 = F j := ⟨fun j => (Sh.words (nb b) 64).getD j 0, fun _ => rfl⟩
    have hFl : ∀ j, F j < 4294967296 := fun j => hF j ▸ Sh.words_getD_lt (nb_bytes b) 64 j
    rw [show (fun j => (Sh.words (nb b) 64).getD j 0) = F from funext hF] at hrow
    have hvc : wc.heap.size ≤ wc.heap.size := Nat.le_refl _
    have HF := Lib.hid hF; have HFl := Lib.hid hFl; have HW := Lib.hid hrow
    have HV1 : Hid (w1.heap[bv]? = some (.cells (S8v s) 201 (0, 0))) := Lib.hid ((hb1.block _ (lt_of_block HV.out)).trans HV.out)
    have HK1 : Hid (w1.heap[bk]? = some (.cells ksV 229 (0, 0))) := Lib.hid ((hb1.block _ (lt_of_block HK0.out)).trans HK0.out)
    have HS1 : Hid (w1.heap[w.heap.size]? = some (.cells (S8v s) 201 (0, 0))) := Lib.hid ((hb1.block _ (lt_of_block hbs.out)).trans hbs.out)
    have HR1 : Hid (w1.heap[w.heap.size + 1]? = some (.cells z8 201 (0, 0))) := Lib.hid ((hb1.block _ (lt_of_block hbr.out)).trans hbr.out)
    have HB1 := Lib.hid (HBw.out.trans (hb1.mono HBw.out.size))
    have hbvl := lt_of_block HV.out
    have hbkl := lt_of_block HK0.out
    have HVL := Lib.hid hbvl; have HKL := Lib.hid hbkl; have HOk := Lib.hid hs
    obtain ⟨bw, hbw⟩ : ∃ bw, wc.heap.size = bw := ⟨_, rfl⟩
    rw [hbw] at HW HVL HKL ⊢
    clear hF hFl hrow hb1 HV HK0 hbs hbr HBw hvc hbvl hbkl hbw hs
    have hbwv : Hid (bw ≠ bv) := Lib.hid (by have := HVL.out; omega)
    have hbwk : Hid (bw ≠ bk) := Lib.hid (by have := HKL.out; omega)
    have hbww : Hid (w.heap.size + 2 ≤ bw) := Lib.hid (by have := HVL.out; omega)
    go_wp2_with fail
    go_loopg [19] 64 (fun g i wr => ∃ k : Nat, k ≤ 64 ∧ 64 - k ≤ g ∧ i = .int .i64 k ∧ Hid (wr.heap[bv]? = some (.cells (S8v (Sh.rounds s (Sh.words (nb b) 64) k)) 201 (0, 0))) ∧ Hid (wr.heap[bk]? = some (.cells ksV 229 (0, 0))) ∧
      Hid (wr.heap[w.heap.size]? = some (.cells (S8v s) 201 (0, 0))) ∧ Hid (wr.heap[w.heap.size + 1]? = some (.cells z8 201 (0, 0))) ∧ Hid (RowW bw F 64 wr) ∧ Hid (Below w.heap.size w wr))
    case atStart => exact ⟨0, by omega, by omega, rfl, HV1, HK1, HS1, HR1, HW, HB1⟩
    case round =>
      clear HV1 HK1 HS1 HR1 HW HB1
      obtain ⟨k, hk, hg, rfl, HV, HK, HS, HR, HW, HB⟩ := hrel
      by_cases hlt : k < 64
      · have hBW : BW bv bk bw (Sh.rounds s (Sh.words (nb b) 64) k) s F w wr := ⟨HV.out, HK.out, HS.out, HR.out, HW.out, HB.out⟩
        have hnext : Sh.rounds s (Sh.words (nb b) 64) (k + 1) = Sh.rnd (Sh.rounds s (Sh.words (nb b) 64) k) (Sh.ks.getD k 0) (F k) := by rw [← HF.out k]; rfl
        have hrok := Sh.rounds_ok HOk.out (Sh.words (nb b) 64) k
        obtain ⟨r, hr⟩ : ∃ r, Sh.rounds s (Sh.words (nb b) 64) k = r := ⟨_, rfl⟩
        rw [hr] at hBW hnext hrok
        have HN := Lib.hid hnext
        clear HV HK HS HR HW HB hr hnext
        have c0 := cell_of hBW.v 0; have c4 := cell_of hBW.v 4
        have ck := hBW.row.c k hlt
        rw [if_pos hlt] at ck
        obtain ⟨ra, rb, rc, rd, re, rf, rg, rh⟩ := r
        obtain ⟨la, lb, lc, ld, le, lf, lg, lh⟩ := hrok
        simp only at la lb lc ld le lf lg lh
        simp [S8v] at c0 c4
        have HBW := Lib.hid hBW
        clear hBW
        go_wp2_with fail
        go_quiet (fail)
        go_upto_region 6 with fail
        refine wp_abs (F := fun wx => BW bv bk bw ⟨ra, rb, rc, rd, re, rf, rg, rh⟩ s F w wx) (HBW.out.below (below_dr (Below.refl _ _) nq)) ?_
        intro wa hwa
        have HA := Lib.hid hwa
        clear hwa HBW c0 c4 ck nq
        obtain ⟨m, hm⟩ : ∃ m, mix re [6, 11, 25] = m := ⟨_, rfl⟩
        have lm : m < 4294967296 := hm ▸ mix_lt le _
        obtain ⟨kk, hkk⟩ : ∃ n, Sh.ks.getD k 0 = n := ⟨_, rfl⟩
        have lkk : kk < 4294967296 := hkk ▸ ks_lt k
        obtain ⟨wk, hwk⟩ : ∃ n, F k = n := ⟨_, rfl⟩
        have lwk : wk < 4294967296 := hwk ▸ HFl.out k
        obtain ⟨u1, hu1⟩ : ∃ n, rf ^^^ rg = n := ⟨_, rfl⟩
        have lu1 : u1 < 4294967296 := hu1 ▸ Sh.xor_lt lf lg
        have e1 : bits .xor .u32 (rf : Int) (rg : Int) = (u1 : Int) := by rw [u32_xor_nat _ _ lf lg, hu1]
        obtain ⟨u2, hu2⟩ : ∃ n, re &&& u1 = n := ⟨_, rfl⟩
        have lu2 : u2 < 4294967296 := hu2 ▸ Sh.and_lt le
        have e2 : bits .and .u32 (re : Int) (u1 : Int) = (u2 : Int) := by rw [u32_and_nat _ _ le lu1, hu2]
        obtain ⟨u3, hu3⟩ : ∃ n, rg ^^^ u2 = n := ⟨_, rfl⟩
        have lu3 : u3 < 4294967296 := hu3 ▸ Sh.xor_lt lg lu2
        have e3 : bits .xor .u32 (rg : Int) (u2 : Int) = (u3 : Int) := by rw [u32_xor_nat _ _ lg lu2, hu3]
        obtain ⟨X, hX⟩ : ∃ X, (rh + Sh.three re 6 11 25 + Sh.ch re rf rg + Sh.ks.getD k 0 + F k) % 4294967296 = X := ⟨_, rfl⟩
        have lX : X < 4294967296 := hX ▸ Nat.mod_lt _ (by decide)
        have hXe : (rh + m + u3 + kk + wk) % 4294967296 = X := by
          rw [← hX, ← hm, ← hkk, ← hwk, mix3, ← hu3, ← hu2, ← hu1]; rfl
        have HX := Lib.hid hX; have HXe := Lib.hid hXe
        have hkeep : ∀ w', BW bv bk bw ⟨ra, rb, rc, rd, re, rf, rg, rh⟩ s F w w' → (w'.cell? ⟨bv, 7, none⟩ = some (.int .u32 (rh : Int)) ∧ w'.cell? ⟨bv, 6, none⟩ = some (.int .u32 (rg : Int)) ∧ w'.cell? ⟨bv, 5, none⟩ = some (.int .u32 (rf : Int)) ∧ w'.cell? ⟨bk, k, none⟩ = some (.int .u32 (kk : Int)) ∧ Hid (BW bv bk bw ⟨ra, rb, rc, rd, re, rf, rg, rh⟩ s F w w')) := fun w' h =>
          ⟨cell_of h.v 7, cell_of h.v 6, cell_of h.v 5, by rw [cell_of h.k k, ksV_get hlt, hkk], Lib.hid h⟩
        have HKP := Lib.hid hkeep
        have HKB : Hid (∀ w' : World, (w'.cell? ⟨bv, 7, none⟩ = some (.int .u32 (rh : Int)) ∧ w'.cell? ⟨bv, 6, none⟩ = some (.int .u32 (rg : Int)) ∧ w'.cell? ⟨bv, 5, none⟩ = some (.int .u32 (rf : Int)) ∧ w'.cell? ⟨bk, k, none⟩ = some (.int .u32 (kk : Int)) ∧ Hid (BW bv bk bw ⟨ra, rb, rc, rd, re, rf, rg, rh⟩ s F w w')) → BW bv bk bw ⟨ra, rb, rc, rd, re, rf, rg, rh⟩ s F w w') := Lib.hid (fun w' h => h.2.2.2.2.out)
        have hik : (k : Int) < 64 := by omega
        have hik' : (0 : Int) ≤ (k : Int) := by omega
        rw [hwk]
        have HT := Lib.hid (fun W b cap t hb => hm ▸ sha_turned re le [6, 11, 25] (by decide) (by decide) b cap t W hb)
        clear hX hXe hkeep hu1 hu2 hu3 hm hkk hwk
        go_cut [11] (fun s11 wx => s11 = .int .u32 (X : Int) ∧ Hid (BW bv bk bw ⟨ra, rb, rc, rd, re, rf, rg, rh⟩ s F w wx))
        case first =>
          go_region_held3 (fun w' => w'.cell? ⟨bv, 7, none⟩ = some (.int .u32 (rh : Int)) ∧ w'.cell? ⟨bv, 6, none⟩ = some (.int .u32 (rg : Int)) ∧ w'.cell? ⟨bv, 5, none⟩ = some (.int .u32 (rf : Int)) ∧ w'.cell? ⟨bk, k, none⟩ = some (.int .u32 (kk : Int)) ∧ Hid (BW bv bk bw ⟨ra, rb, rc, rd, re, rf, rg, rh⟩ s F w w'))
            (first
              | exact HKP.out _ HN1.out
              | exact HKP.out _ (HA.out.alloc _).drew
              | exact HKP.out _ HA.out.drew)
            (first
              | (go_at_call 163; refine (HT.out _ _ _ 3 ?hb).mono ?_; (case hb => exact (MapKept.heap_alloc _ _).1); rintro e w2 ⟨rfl, hb⟩; have HN1 := Lib.hid ((HKB.out _ (by assumption)).below hb); clear hb))
          all_goals
            have hv : IntKind.u32.wrap (IntKind.u32.wrap (IntKind.u32.wrap (IntKind.u32.wrap ((rh : Int) + (m : Int)) + (u3 : Int)) + (kk : Int)) + (wk : Int)) = ((X : Nat) : Int) := by
              rw [← HXe.out]; simp only [IntKind.wrap_u32']; omega
            rw [hv]
            clear hv
            go_wp2_with fail
            go_meet
            exact ⟨rfl, HN1⟩
        case rest =>
          obtain ⟨rfl, HA2⟩ := hcut
          clear HA HKP HKB HT e1 e2 e3 lm lu1 lu2 lu3 HXe
          go_upto_region 7 with fail
          refine wp_abs (F := fun wx => BW bv bk bw ⟨ra, rb, rc, rd, re, rf, rg, rh⟩ s F w wx) HA2.out ?_
          intro wb hwb
          have HA := Lib.hid hwb
          clear hwb HA2
          obtain ⟨m, hm⟩ : ∃ m, mix ra [2, 13, 22] = m := ⟨_, rfl⟩
          have lm : m < 4294967296 := hm ▸ mix_lt la _
          obtain ⟨u1, hu1⟩ : ∃ n, ra &&& rb = n := ⟨_, rfl⟩
          have lu1 : u1 < 4294967296 := hu1 ▸ Sh.and_lt la
          have e1 : bits .and .u32 (ra : Int) (rb : Int) = (u1 : Int) := by rw [u32_and_nat _ _ la lb, hu1]
          obtain ⟨u2, hu2⟩ : ∃ n, ra ||| rb = n := ⟨_, rfl⟩
          have lu2 : u2 < 4294967296 := hu2 ▸ Sh.or_lt la lb
          have e2 : bits .or .u32 (ra : Int) (rb : Int) = (u2 : Int) := by rw [u32_or_nat _ _ la lb, hu2]
          obtain ⟨u3, hu3⟩ : ∃ n, rc &&& u2 = n := ⟨_, rfl⟩
          have lu3 : u3 < 4294967296 := hu3 ▸ Sh.and_lt lc
          have e3 : bits .and .u32 (rc : Int) (u2 : Int) = (u3 : Int) := by rw [u32_and_nat _ _ lc lu2, hu3]
          obtain ⟨u4, hu4⟩ : ∃ n, u1 ||| u3 = n := ⟨_, rfl⟩
          have lu4 : u4 < 4294967296 := hu4 ▸ Sh.or_lt lu1 lu3
          have e4 : bits .or .u32 (u1 : Int) (u3 : Int) = (u4 : Int) := by rw [u32_or_nat _ _ lu1 lu3, hu4]
          obtain ⟨Y, hY⟩ : ∃ Y, (Sh.three ra 2 13 22 + Sh.maj ra rb rc) % 4294967296 = Y := ⟨_, rfl⟩
          have lY : Y < 4294967296 := hY ▸ Nat.mod_lt _ (by decide)
          have hYe : (m + u4) % 4294967296 = Y := by
            rw [← hY, ← hm, mix3, ← hu4, ← hu3, ← hu2, ← hu1]; rfl
          have HY := Lib.hid hY; have HYe := Lib.hid hYe
          have hkeep : ∀ w', BW bv bk bw ⟨ra, rb, rc, rd, re, rf, rg, rh⟩ s F w w' → (w'.cell? ⟨bv, 1, none⟩ = some (.int .u32 (rb : Int)) ∧ w'.cell? ⟨bv, 2, none⟩ = some (.int .u32 (rc : Int)) ∧ Hid (BW bv bk bw ⟨ra, rb, rc, rd, re, rf, rg, rh⟩ s F w w')) := fun w' h =>
            ⟨cell_of h.v 1, cell_of h.v 2, Lib.hid h⟩
          have HKP := Lib.hid hkeep
          have HKB : Hid (∀ w' : World, (w'.cell? ⟨bv, 1, none⟩ = some (.int .u32 (rb : Int)) ∧ w'.cell? ⟨bv, 2, none⟩ = some (.int .u32 (rc : Int)) ∧ Hid (BW bv bk bw ⟨ra, rb, rc, rd, re, rf, rg, rh⟩ s F w w')) → BW bv bk bw ⟨ra, rb, rc, rd, re, rf, rg, rh⟩ s F w w') := Lib.hid (fun w' h => h.2.2.out)
          have HT := Lib.hid (fun W b cap t hb => hm ▸ sha_turned ra la [2, 13, 22] (by decide) (by decide) b cap t W hb)
          clear hY hYe hkeep hu1 hu2 hu3 hu4 hm
          go_cut [12] (fun s12 wx => s12 = .int .u32 (Y : Int) ∧ Hid (BW bv bk bw ⟨ra, rb, rc, rd, re, rf, rg, rh⟩ s F w wx))
          case first =>
            go_region_held3 (fun w' => w'.cell? ⟨bv, 1, none⟩ = some (.int .u32 (rb : Int)) ∧ w'.cell? ⟨bv, 2, none⟩ = some (.int .u32 (rc : Int)) ∧ Hid (BW bv bk bw ⟨ra, rb, rc, rd, re, rf, rg, rh⟩ s F w w'))
              (first
                | exact HKP.out _ HN1.out
                | exact HKP.out _ (HA.out.alloc _).drew
                | exact HKP.out _ HA.out.drew)
              (first
                | (go_at_call 163; refine (HT.out _ _ _ 3 ?hb).mono ?_; (case hb => exact (MapKept.heap_alloc _ _).1); rintro e w2 ⟨rfl, hb⟩; have HN1 := Lib.hid ((HKB.out _ (by assumption)).below hb); clear hb))
            all_goals
              have hv : IntKind.u32.wrap ((m : Int) + (u4 : Int)) = ((Y : Nat) : Int) := by
                rw [← HYe.out]; simp only [IntKind.wrap_u32']; omega
              rw [hv]
              clear hv
              go_wp2_with fail
              go_meet
              exact ⟨rfl, HN1⟩
          case rest =>
            obtain ⟨rfl, HA2⟩ := hcut
            clear HA HKP HKB HT e1 e2 e3 e4 lm lu1 lu2 lu3 lu4 HYe
            go_upto_region 8 with fail
            refine wp_abs (F := fun wx => BW bv bk bw ⟨ra, rb, rc, rd, re, rf, rg, rh⟩ s F w wx) HA2.out ?_
            intro wd hwd
            have HA := Lib.hid hwd
            clear hwd HA2
            have hcp := fun ty => run_copy_row (P := Tryz.prog) wd.drew 64 64 ty 28 bv 1 7 7 ⟨bv, 0, none⟩ 7 8 (S8v ⟨ra, rb, rc, rd, re, rf, rg, rh⟩) 201 [.int .u32 (ra : Int), .int .u32 (rb : Int), .int .u32 (rc : Int), .int .u32 (rd : Int), .int .u32 (re : Int), .int .u32 (rf : Int), .int .u32 (rg : Int)]
              Tryz.underlying64 (by kernel_rfl) HA.out.drew.v rfl (fun j v hj => by
                rw [addrAdd1, Nat.zero_add, cell_of HA.out.drew.v]
                have hj7 : j < 7 := (List.getElem?_eq_some_iff.1 hj).1
                rcases (show j = 0 ∨ j = 1 ∨ j = 2 ∨ j = 3 ∨ j = 4 ∨ j = 5 ∨ j = 6 by omega) with rfl | rfl | rfl | rfl | rfl | rfl | rfl <;> exact hj) (by show 1 + 7 ≤ 8; decide) (by simp [Value.oneCell'])
            go_region
            have HA2 := Lib.hid (HA.out.drew.setRow (Ne.symm hne) hbwv.out hbv (#[.int .u32 (ra : Int), .int .u32 (ra : Int), .int .u32 (rb : Int), .int .u32 (rc : Int), .int .u32 (rd : Int), .int .u32 (re : Int), .int .u32 (rf : Int), .int .u32 (rg : Int)]))
            go_upto_region 9 with fail
            refine wp_abs (F := fun wx => BX bv bk bw (#[.int .u32 (ra : Int), .int .u32 (ra : Int), .int .u32 (rb : Int), .int .u32 (rc : Int), .int .u32 (rd : Int), .int .u32 (re : Int), .int .u32 (rf : Int), .int .u32 (rg : Int)]) s F w wx) HA2.out ?_
            intro we hwe
            have d4 := cell_of hwe.v 4; have d0 := cell_of hwe.v 0
            have f4 := frozen_of hwe.v 4; have f0 := frozen_of hwe.v 0
            simp at d4 d0
            have HE := Lib.hid hwe
            clear hwe HA2 HA hcp
            have hC : ((#[Value.int .u32 (ra : Int), .int .u32 (ra : Int), .int .u32 (rb : Int), .int .u32 (rc : Int), .int .u32 (rd : Int), .int .u32 (re : Int), .int .u32 (rf : Int), .int .u32 (rg : Int)] : Array Value).setIfInBounds 4 (.int .u32 (((rd : Int) + (X : Int)) % 4294967296))).setIfInBounds 0 (.int .u32 (((X : Int) + (Y : Int)) % 4294967296)) = S8v (Sh.rounds s (Sh.words (nb b) 64) (k + 1)) := by
              rw [HN.out]
              unfold S8v Sh.rnd
              simp only [Sh.M32, HX.out, HY.out]
              simp
            have hfin := ((HE.out.set (Ne.symm hne) hbwv.out hbv 4 (.int .u32 (((rd : Int) + (X : Int)) % 4294967296))).set (Ne.symm hne) hbwv.out hbv 0 (.int .u32 (((X : Int) + (Y : Int)) % 4294967296)))
            rw [hC] at hfin
            have HFN := Lib.hid hfin
            clear hfin hC
            go_wp2_with fail
            go_roundg (64 - (k + 1))
            case measure => omega
            case rel => exact ⟨k + 1, by omega, by omega, by go_num, Lib.hid HFN.out.v, Lib.hid HFN.out.k, Lib.hid HFN.out.s, Lib.hid HFN.out.r, Lib.hid HFN.out.row, Lib.hid HFN.out.b⟩
      · obtain rfl : k = 64 := by omega
        have hrok := Sh.rounds_ok HOk.out (Sh.words (nb b) 64) 64
        have hfin : Sh.block s (nb b) = Sh.plus s (Sh.rounds s (Sh.words (nb b) 64) 64) := rfl
        obtain ⟨r, hr⟩ : ∃ r, Sh.rounds s (Sh.words (nb b) 64) 64 = r := ⟨_, rfl⟩
        rw [hr] at HV hrok hfin
        have HFin := Lib.hid hfin
        have hok := HOk.out
        obtain ⟨la, lb, lc, ld, le, lf, lg, lh⟩ := hrok
        obtain ⟨ma, mb, mc, md, me, mf, mg, mh⟩ := hok
        have HS0 : Hid (wr.heap[w.heap.size]? = some (.cells (plusC s r 0) 201 (0, 0))) := Lib.hid HS.out
        clear HS HW HK hr hfin
        go_wp2_with fail
        go_loopg [80] 8 (fun g i wr => ∃ j : Nat, j ≤ 8 ∧ 8 - j ≤ g ∧ i = .int .i64 j ∧ Hid (wr.heap[w.heap.size]? = some (.cells (plusC s r j) 201 (0, 0))) ∧ Hid (wr.heap[bv]? = some (.cells (S8v r) 201 (0, 0))) ∧
          Hid (wr.heap[w.heap.size + 1]? = some (.cells z8 201 (0, 0))) ∧ Hid (Below w.heap.size w wr))
        case atStart => exact ⟨0, by omega, by omega, rfl, HS0, HV, HR, HB⟩
        case round =>
          clear HS0 HV HR HB
          obtain ⟨j, hj, hgj, rfl, HS, HV, HR, HB⟩ := hrel
          rcases (show j = 0 ∨ j = 1 ∨ j = 2 ∨ j = 3 ∨ j = 4 ∨ j = 5 ∨ j = 6 ∨ j = 7 ∨ j = 8 by omega) with rfl | rfl | rfl | rfl | rfl | rfl | rfl | rfl | rfl
          · have cs := cell_of HS.out 0; have cv := cell_of HV.out 0; have fs := frozen_of HS.out 0
            simp [plusC, S8v] at cs cv
            have hset := setCell_eq_setRow wr w.heap.size 0 _ _ _ (.int .u32 (((s.a + r.a) % 4294967296 : Nat) : Int)) HS.out
            have h1 : (wr.setCell ⟨w.heap.size, 0, none⟩ (.int .u32 (((s.a + r.a) % 4294967296 : Nat) : Int))).heap[w.heap.size]? = some (.cells (plusC s r 1) 201 (0, 0)) := by
              rw [hset, setRow_heap _ _ _ _ _ _ HS.out]; rfl
            have h2 : (wr.setCell ⟨w.heap.size, 0, none⟩ (.int .u32 (((s.a + r.a) % 4294967296 : Nat) : Int))).heap[bv]? = some (.cells (S8v r) 201 (0, 0)) := by
              rw [hset, setRow_other _ _ _ _ (by omega)]; exact HV.out
            have h3 : (wr.setCell ⟨w.heap.size, 0, none⟩ (.int .u32 (((s.a + r.a) % 4294967296 : Nat) : Int))).heap[w.heap.size + 1]? = some (.cells z8 201 (0, 0)) := by
              rw [hset, setRow_other _ _ _ _ (by omega)]; exact HR.out
            have h4 := HB.out.setCell (p := ⟨w.heap.size, 0, none⟩) (Nat.le_refl _) (.int .u32 (((s.a + r.a) % 4294967296 : Nat) : Int))
            rw [show (((s.a + r.a) % 4294967296 : Nat) : Int) = ((s.a : Int) + (r.a : Int)) % 4294967296 by omega] at h1 h2 h3 h4
            have G1 := Lib.hid h1; have G2 := Lib.hid h2; have G3 := Lib.hid h3; have G4 := Lib.hid h4
            clear h1 h2 h3 h4 hset
            go_wp2_with fail
            go_region
            all_goals go_wp2_with fail
            go_roundg (8 - 1)
            case measure => omega
            case rel => exact ⟨1, by omega, by omega, by rfl, Lib.hid G1.out, Lib.hid G2.out, Lib.hid G3.out, Lib.hid G4.out.drew⟩
          · have cs := cell_of HS.out 1; have cv := cell_of HV.out 1; have fs := frozen_of HS.out 1
            simp [plusC, S8v] at cs cv
            have hset := setCell_eq_setRow wr w.heap.size 1 _ _ _ (.int .u32 (((s.b + r.b) % 4294967296 : Nat) : Int)) HS.out
            have h1 : (wr.setCell ⟨w.heap.size, 1, none⟩ (.int .u32 (((s.b + r.b) % 4294967296 : Nat) : Int))).heap[w.heap.size]? = some (.cells (plusC s r 2) 201 (0, 0)) := by
              rw [hset, setRow_heap _ _ _ _ _ _ HS.out]; rfl
            have h2 : (wr.setCell ⟨w.heap.size, 1, none⟩ (.int .u32 (((s.b + r.b) % 4294967296 : Nat) : Int))).heap[bv]? = some (.cells (S8v r) 201 (0, 0)) := by
              rw [hset, setRow_other _ _ _ _ (by omega)]; exact HV.out
            have h3 : (wr.setCell ⟨w.heap.size, 1, none⟩ (.int .u32 (((s.b + r.b) % 4294967296 : Nat) : Int))).heap[w.heap.size + 1]? = some (.cells z8 201 (0, 0)) := by
              rw [hset, setRow_other _ _ _ _ (by omega)]; exact HR.out
            have h4 := HB.out.setCell (p := ⟨w.heap.size, 1, none⟩) (Nat.le_refl _) (.int .u32 (((s.b + r.b) % 4294967296 : Nat) : Int))
            rw [show (((s.b + r.b) % 4294967296 : Nat) : Int) = ((s.b : Int) + (r.b : Int)) % 4294967296 by omega] at h1 h2 h3 h4
            have G1 := Lib.hid h1; have G2 := Lib.hid h2; have G3 := Lib.hid h3; have G4 := Lib.hid h4
            clear h1 h2 h3 h4 hset
            go_wp2_with fail
            go_region
            all_goals go_wp2_with fail
            go_roundg (8 - 2)
            case measure => omega
            case rel => exact ⟨2, by omega, by omega, by rfl, Lib.hid G1.out, Lib.hid G2.out, Lib.hid G3.out, Lib.hid G4.out.drew⟩
          · have cs := cell_of HS.out 2; have cv := cell_of HV.out 2; have fs := frozen_of HS.out 2
            simp [plusC, S8v] at cs cv
            have hset := setCell_eq_setRow wr w.heap.size 2 _ _ _ (.int .u32 (((s.c + r.c) % 4294967296 : Nat) : Int)) HS.out
            have h1 : (wr.setCell ⟨w.heap.size, 2, none⟩ (.int .u32 (((s.c + r.c) % 4294967296 : Nat) : Int))).heap[w.heap.size]? = some (.cells (plusC s r 3) 201 (0, 0)) := by
              rw [hset, setRow_heap _ _ _ _ _ _ HS.out]; rfl
            have h2 : (wr.setCell ⟨w.heap.size, 2, none⟩ (.int .u32 (((s.c + r.c) % 4294967296 : Nat) : Int))).heap[bv]? = some (.cells (S8v r) 201 (0, 0)) := by
              rw [hset, setRow_other _ _ _ _ (by omega)]; exact HV.out
            have h3 : (wr.setCell ⟨w.heap.size, 2, none⟩ (.int .u32 (((s.c + r.c) % 4294967296 : Nat) : Int))).heap[w.heap.size + 1]? = some (.cells z8 201 (0, 0)) := by
              rw [hset, setRow_other _ _ _ _ (by omega)]; exact HR.out
            have h4 := HB.out.setCell (p := ⟨w.heap.size, 2, none⟩) (Nat.le_refl _) (.int .u32 (((s.c + r.c) % 4294967296 : Nat) : Int))
            rw [show (((s.c + r.c) % 4294967296 : Nat) : Int) = ((s.c : Int) + (r.c : Int)) % 4294967296 by omega] at h1 h2 h3 h4
            have G1 := Lib.hid h1; have G2 := Lib.hid h2; have G3 := Lib.hid h3; have G4 := Lib.hid h4
            clear h1 h2 h3 h4 hset
            go_wp2_with fail
            go_region
            all_goals go_wp2_with fail
            go_roundg (8 - 3)
            case measure => omega
            case rel => exact ⟨3, by omega, by omega, by rfl, Lib.hid G1.out, Lib.hid G2.out, Lib.hid G3.out, Lib.hid G4.out.drew⟩
          · have cs := cell_of HS.out 3; have cv := cell_of HV.out 3; have fs := frozen_of HS.out 3
            simp [plusC, S8v] at cs cv
            have hset := setCell_eq_setRow wr w.heap.size 3 _ _ _ (.int .u32 (((s.d + r.d) % 4294967296 : Nat) : Int)) HS.out
            have h1 : (wr.setCell ⟨w.heap.size, 3, none⟩ (.int .u32 (((s.d + r.d) % 4294967296 : Nat) : Int))).heap[w.heap.size]? = some (.cells (plusC s r 4) 201 (0, 0)) := by
              rw [hset, setRow_heap _ _ _ _ _ _ HS.out]; rfl
            have h2 : (wr.setCell ⟨w.heap.size, 3, none⟩ (.int .u32 (((s.d + r.d) % 4294967296 : Nat) : Int))).heap[bv]? = some (.cells (S8v r) 201 (0, 0)) := by
              rw [hset, setRow_other _ _ _ _ (by omega)]; exact HV.out
            have h3 : (wr.setCell ⟨w.heap.size, 3, none⟩ (.int .u32 (((s.d + r.d) % 4294967296 : Nat) : Int))).heap[w.heap.size + 1]? = some (.cells z8 201 (0, 0)) := by
              rw [hset, setRow_other _ _ _ _ (by omega)]; exact HR.out
            have h4 := HB.out.setCell (p := ⟨w.heap.size, 3, none⟩) (Nat.le_refl _) (.int .u32 (((s.d + r.d) % 4294967296 : Nat) : Int))
            rw [show (((s.d + r.d) % 4294967296 : Nat) : Int) = ((s.d : Int) + (r.d : Int)) % 4294967296 by omega] at h1 h2 h3 h4
            have G1 := Lib.hid h1; have G2 := Lib.hid h2; have G3 := Lib.hid h3; have G4 := Lib.hid h4
            clear h1 h2 h3 h4 hset
            go_wp2_with fail
            go_region
            all_goals go_wp2_with fail
            go_roundg (8 - 4)
            case measure => omega
            case rel => exact ⟨4, by omega, by omega, by rfl, Lib.hid G1.out, Lib.hid G2.out, Lib.hid G3.out, Lib.hid G4.out.drew⟩
          · have cs := cell_of HS.out 4; have cv := cell_of HV.out 4; have fs := frozen_of HS.out 4
            simp [plusC, S8v] at cs cv
            have hset := setCell_eq_setRow wr w.heap.size 4 _ _ _ (.int .u32 (((s.e + r.e) % 4294967296 : Nat) : Int)) HS.out
            have h1 : (wr.setCell ⟨w.heap.size, 4, none⟩ (.int .u32 (((s.e + r.e) % 4294967296 : Nat) : Int))).heap[w.heap.size]? = some (.cells (plusC s r 5) 201 (0, 0)) := by
              rw [hset, setRow_heap _ _ _ _ _ _ HS.out]; rfl
            have h2 : (wr.setCell ⟨w.heap.size, 4, none⟩ (.int .u32 (((s.e + r.e) % 4294967296 : Nat) : Int))).heap[bv]? = some (.cells (S8v r) 201 (0, 0)) := by
              rw [hset, setRow_other _ _ _ _ (by omega)]; exact HV.out
            have h3 : (wr.setCell ⟨w.heap.size, 4, none⟩ (.int .u32 (((s.e + r.e) % 4294967296 : Nat) : Int))).heap[w.heap.size + 1]? = some (.cells z8 201 (0, 0)) := by
              rw [hset, setRow_other _ _ _ _ (by omega)]; exact HR.out
            have h4 := HB.out.setCell (p := ⟨w.heap.size, 4, none⟩) (Nat.le_refl _) (.int .u32 (((s.e + r.e) % 4294967296 : Nat) : Int))
            rw [show (((s.e + r.e) % 4294967296 : Nat) : Int) = ((s.e : Int) + (r.e : Int)) % 4294967296 by omega] at h1 h2 h3 h4
            have G1 := Lib.hid h1; have G2 := Lib.hid h2; have G3 := Lib.hid h3; have G4 := Lib.hid h4
            clear h1 h2 h3 h4 hset
            go_wp2_with fail
            go_region
            all_goals go_wp2_with fail
            go_roundg (8 - 5)
            case measure => omega
            case rel => exact ⟨5, by omega, by omega, by rfl, Lib.hid G1.out, Lib.hid G2.out, Lib.hid G3.out, Lib.hid G4.out.drew⟩
          · have cs := cell_of HS.out 5; have cv := cell_of HV.out 5; have fs := frozen_of HS.out 5
            simp [plusC, S8v] at cs cv
            have hset := setCell_eq_setRow wr w.heap.size 5 _ _ _ (.int .u32 (((s.f + r.f) % 4294967296 : Nat) : Int)) HS.out
            have h1 : (wr.setCell ⟨w.heap.size, 5, none⟩ (.int .u32 (((s.f + r.f) % 4294967296 : Nat) : Int))).heap[w.heap.size]? = some (.cells (plusC s r 6) 201 (0, 0)) := by
              rw [hset, setRow_heap _ _ _ _ _ _ HS.out]; rfl
            have h2 : (wr.setCell ⟨w.heap.size, 5, none⟩ (.int .u32 (((s.f + r.f) % 4294967296 : Nat) : Int))).heap[bv]? = some (.cells (S8v r) 201 (0, 0)) := by
              rw [hset, setRow_other _ _ _ _ (by omega)]; exact HV.out
            have h3 : (wr.setCell ⟨w.heap.size, 5, none⟩ (.int .u32 (((s.f + r.f) % 4294967296 : Nat) : Int))).heap[w.heap.size + 1]? = some (.cells z8 201 (0, 0)) := by
              rw [hset, setRow_other _ _ _ _ (by omega)]; exact HR.out
            have h4 := HB.out.setCell (p := ⟨w.heap.size, 5, none⟩) (Nat.le_refl _) (.int .u32 (((s.f + r.f) % 4294967296 : Nat) : Int))
            rw [show (((s.f + r.f) % 4294967296 : Nat) : Int) = ((s.f : Int) + (r.f : Int)) % 4294967296 by omega] at h1 h2 h3 h4
            have G1 := Lib.hid h1; have G2 := Lib.hid h2; have G3 := Lib.hid h3; have G4 := Lib.hid h4
            clear h1 h2 h3 h4 hset
            go_wp2_with fail
            go_region
            all_goals go_wp2_with fail
            go_roundg (8 - 6)
            case measure => omega
            case rel => exact ⟨6, by omega, by omega, by rfl, Lib.hid G1.out, Lib.hid G2.out, Lib.hid G3.out, Lib.hid G4.out.drew⟩
          · have cs := cell_of HS.out 6; have cv := cell_of HV.out 6; have fs := frozen_of HS.out 6
            simp [plusC, S8v] at cs cv
            have hset := setCell_eq_setRow wr w.heap.size 6 _ _ _ (.int .u32 (((s.g + r.g) % 4294967296 : Nat) : Int)) HS.out
            have h1 : (wr.setCell ⟨w.heap.size, 6, none⟩ (.int .u32 (((s.g + r.g) % 4294967296 : Nat) : Int))).heap[w.heap.size]? = some (.cells (plusC s r 7) 201 (0, 0)) := by
              rw [hset, setRow_heap _ _ _ _ _ _ HS.out]; rfl
            have h2 : (wr.setCell ⟨w.heap.size, 6, none⟩ (.int .u32 (((s.g + r.g) % 4294967296 : Nat) : Int))).heap[bv]? = some (.cells (S8v r) 201 (0, 0)) := by
              rw [hset, setRow_other _ _ _ _ (by omega)]; exact HV.out
            have h3 : (wr.setCell ⟨w.heap.size, 6, none⟩ (.int .u32 (((s.g + r.g) % 4294967296 : Nat) : Int))).heap[w.heap.size + 1]? = some (.cells z8 201 (0, 0)) := by
              rw [hset, setRow_other _ _ _ _ (by omega)]; exact HR.out
            have h4 := HB.out.setCell (p := ⟨w.heap.size, 6, none⟩) (Nat.le_refl _) (.int .u32 (((s.g + r.g) % 4294967296 : Nat) : Int))
            rw [show (((s.g + r.g) % 4294967296 : Nat) : Int) = ((s.g : Int) + (r.g : Int)) % 4294967296 by omega] at h1 h2 h3 h4
            have G1 := Lib.hid h1; have G2 := Lib.hid h2; have G3 := Lib.hid h3; have G4 := Lib.hid h4
            clear h1 h2 h3 h4 hset
            go_wp2_with fail
            go_region
            all_goals go_wp2_with fail
            go_roundg (8 - 7)
            case measure => omega
            case rel => exact ⟨7, by omega, by omega, by rfl, Lib.hid G1.out, Lib.hid G2.out, Lib.hid G3.out, Lib.hid G4.out.drew⟩
          · have cs := cell_of HS.out 7; have cv := cell_of HV.out 7; have fs := frozen_of HS.out 7
            simp [plusC, S8v] at cs cv
            have hset := setCell_eq_setRow wr w.heap.size 7 _ _ _ (.int .u32 (((s.h + r.h) % 4294967296 : Nat) : Int)) HS.out
            have h1 : (wr.setCell ⟨w.heap.size, 7, none⟩ (.int .u32 (((s.h + r.h) % 4294967296 : Nat) : Int))).heap[w.heap.size]? = some (.cells (plusC s r 8) 201 (0, 0)) := by
              rw [hset, setRow_heap _ _ _ _ _ _ HS.out]; rfl
            have h2 : (wr.setCell ⟨w.heap.size, 7, none⟩ (.int .u32 (((s.h + r.h) % 4294967296 : Nat) : Int))).heap[bv]? = some (.cells (S8v r) 201 (0, 0)) := by
              rw [hset, setRow_other _ _ _ _ (by omega)]; exact HV.out
            have h3 : (wr.setCell ⟨w.heap.size, 7, none⟩ (.int .u32 (((s.h + r.h) % 4294967296 : Nat) : Int))).heap[w.heap.size + 1]? = some (.cells z8 201 (0, 0)) := by
              rw [hset, setRow_other _ _ _ _ (by omega)]; exact HR.out
            have h4 := HB.out.setCell (p := ⟨w.heap.size, 7, none⟩) (Nat.le_refl _) (.int .u32 (((s.h + r.h) % 4294967296 : Nat) : Int))
            rw [show (((s.h + r.h) % 4294967296 : Nat) : Int) = ((s.h : Int) + (r.h : Int)) % 4294967296 by omega] at h1 h2 h3 h4
            have G1 := Lib.hid h1; have G2 := Lib.hid h2; have G3 := Lib.hid h3; have G4 := Lib.hid h4
            clear h1 h2 h3 h4 hset
            go_wp2_with fail
            go_region
            all_goals go_wp2_with fail
            go_roundg (8 - 8)
            case measure => omega
            case rel => exact ⟨8, by omega, by omega, by rfl, Lib.hid G1.out, Lib.hid G2.out, Lib.hid G3.out, Lib.hid G4.out.drew⟩
          · have hl : wr.heap[w.heap.size]? = some (.cells (S8v (Sh.plus s r)) 201 (0, 0)) := HS.out
            have hst := setRow_heap wr (w.heap.size + 1) _ (S8v (Sh.plus s r)) _ _ HR.out
            have HL := Lib.hid hl; have HST := Lib.hid hst
            clear hl hst
            go_upto_region 17 with fail
            refine wp_region_list ?_
            refine wpList_load_row rfl 201 (.tmp 2) rfl w.heap.size rfl _ (S8v (Sh.plus s r)) (0, 0) _ HL.out Tryz.underlying201 rfl infoSt ?_
            refine wpList_store_row rfl 201 (.tmp 4) (.tmp 92) rfl (w.heap.size + 1) (S8v (Sh.plus s r)) rfl rfl _ z8 HR.out infoSt rfl (by simp [S8v, Value.oneCell']) ?_
            apply wpList_nil
            go_wp2_with fail
            refine bodyPost_ret (v := .agg (S8v (Sh.plus s r))) (results_cell_row rfl _ _ (w.heap.size + 1) _ (S8v (Sh.plus s r)) _ _ rfl HST.out Tryz.underlying201 rfl infoSt) rfl ⟨by rw [HFin.out], ?_⟩
            exact below_setRow HB.out (by omega) _
end Go.Proofs.YtggdkfijioeijaaGreatDoor
namespace Go.Proofs.YtggdkfijioeijaaGreatDoor
open Go Go.RowKit Go.Maps
def NumV (K : IntKind) (v : Value) (zs : List Nat) (w : World) : Prop := (∃ a c, v = .slice a 0 c ∧ (a = none → c = 0) ∧ zs = []) ∨ ∃ b off cap, v = .slice (some ⟨b, off, none⟩) zs.length cap ∧ b < w.heap.size ∧ ∀ i, i < zs.length → w.cell? ⟨b, off + i, none⟩ = some (.int K ((zs.getD i 0 : Nat) : Int))
theorem NumV.below {K : IntKind} {v : Value} {zs : List Nat} {w w' : World} (h : NumV K v zs w) (hb : Below w.heap.size w w') : NumV K v zs w' := by
 rcases h with h | ⟨b, off, cap, hv, hlt, hc⟩
 ·exact Or.inl h
 ·exact Or.inr ⟨b, off, cap, hv, Nat.lt_of_lt_of_le hlt hb.size, fun i hi => (hb.cell (p := ⟨b, off + i, none⟩) hlt).trans (hc i hi)⟩
theorem NumV.at {K : IntKind} {a : Option Addr} {n c : Nat} {zs : List Nat} {w : World} (h : NumV K (.slice a n c) zs w) (i : Nat) (hi : i < zs.length) : ∃ b off, a = some ⟨b, off, none⟩ ∧ b < w.heap.size ∧ w.cell? ⟨b, off + i, none⟩ = some (.int K ((zs.getD i 0 : Nat) : Int)) := by
 rcases h with ⟨_, _, _, _, h⟩ | ⟨b, off, cap, hv, hlt, hc⟩
 ·rw [h] at hi; simp at hi
 ·simp only [Value.slice.injEq] at hv
  exact ⟨b, off, hv.1, hlt, hc i hi⟩
theorem NumV.own {K : IntKind} {w : World} {B e g n c : Nat} {zs : List Nat} (h : w.ownsRow B e 1 (.slice (some ⟨g, 0, none⟩) n c) n (zs.map (fun s : Nat => Value.int K (s : Int)))) (hn : zs.length = n) : NumV K (.slice (some ⟨g, 0, none⟩) n c) zs w := by
 refine Or.inr ⟨g, 0, c, by rw [hn], ?_, fun i hi => ?_⟩
 ·rcases h.2 with ⟨h', _⟩ | ⟨g', cap', cur, h', _, hg, _⟩
  ·simp at h'
  ·simp only [Value.slice.injEq, Option.some.injEq, Addr.mk.injEq, and_true, true_and] at h'
   obtain ⟨rfl, rfl⟩ := h'
   exact lt_of_block hg
 ·rw [Nat.zero_add, World.ownsRow.cellAt h i (by omega), List.getElem?_map, List.getD_eq_getElem?_getD, List.getElem?_eq_getElem hi]; rfl
theorem infoW32 : (Tryz.prog.info? 28).map (fun i => (i.zero, i.size, i.bytes)) = some (some (.int .u32 0), 1, 4) := by kernel_rfl
theorem below_set {w : World} {n : Nat} (a : Addr) (v : Value) (h : n ≤ a.block) : Below n w (w.setCell a v) := ⟨rfl, rfl, rfl, by show w.heap.size ≤ (w.heap.modify _ _).size; rw [Array.size_modify]; exact Nat.le_refl _, fun j hj => Below.heap_setCell w a v j (by omega)⟩
theorem few_one (x : Nat) : ∀ u ∈ [Value.int .u32 (x : Int)], u.oneCell' = true := by
 intro u hu
 obtain rfl : u = _ := by simpa using hu
 rfl
theorem own_above {w : World} {B e n : Nat} {v : Value} {xs : List Value} (h : w.ownsRow B e 1 v n xs) : ∀ k, v.ownBlock = some k → B ≤ k := by
 intro k hk
 rcases h.2 with ⟨hv, _⟩ | ⟨g, cap, cur, hv, hB, _⟩
 ·subst hv; cases hk
 ·subst hv; cases hk; exact hB
end Go.Proofs.YtggdkfijioeijaaGreatDoor
