/- Calls, replies and stories, as they lie in memory. A story, loaded whole; stored whole into the block that was made last. DERIVED: THE SHELF's CONTRACTS AT THIS DUMP, IN PLAIN WORDS (tools/lay-plain.mjs out of 'TryzShelf.lean', which tools/lay-shelf.mjs wrote): THE SAME DECLARATIONS UNDER THE SAME NAMES: 'import', 'namespace', 'open', 'def', 'theorem' AND NOTHING ELSE: no command of the shelf's: FOR A HAND-IN. Each laying: the table of numbers ('.._ren') and one theorem, a field a fact of the dump's own or the kernel's comparison; each contract: ONE APPLICATION. Contract: scriniumlaw18.works. Contracts: table.copied, Table.Rows; scriniumref17.Same, scriniumref18.Same where both are one. Contract: Table.Rows. Contracts: scriniumref17.Same, scriniumref18.Same, where both are one. model.Order's comparison; slices.SortStableFunc over places by it: at most twenty. Contract: model.Order, of twenty stories with a number at most. Contracts: model.alone, model.late. Contract: model.late. -/
import Derived.Test.YtfbgnpfhjbiikaaGreatDoorQr03
import Derived.Deep.MidRow
import Derived.Deep.WholeRow
import Derived.Ground.SlsfProg
import Derived.Shelf.SlSortCmp.Insertion1
import Derived.Test.YtfbgnpfhjbiikaaGreatDoorProg
namespace Go.Proofs.YtfbgnpfhjbiikaaGreatDoor
open Go Go.RowKit
structure Rd where
  path : ByteArray
  n : Nat
def dRd : Rd := ⟨ByteArray.empty, 0⟩
def IsRds (w : World) (v : Value) (l : List Rd) : Prop :=
  ∃ a cap, v = .slice a l.length cap ∧ (l = [] ∨ ∃ b off, a = some ⟨b, off, none⟩ ∧ b < w.heap.size ∧ ∀ i, i < l.length → w.cell? ⟨b, off + i * 2, none⟩ = some (.string (l.getD i dRd).path) ∧ w.cell? ⟨b, off + i * 2 + 1, none⟩ = some (.int .u64 (l.getD i dRd).n))
theorem IsRds.below {w w' : World} {v : Value} {l : List Rd} {B : Nat} (h : IsRds w v l) (hb : Below B w w') (hB : w.heap.size ≤ B) : IsRds w' v l := by
  obtain ⟨a, cap, hv, h⟩ := h
  refine ⟨a, cap, hv, ?_⟩
  rcases h with h | ⟨b, off, ha, hlt, hc⟩
  · exact Or.inl h
  · exact Or.inr ⟨b, off, ha, by have := hb.size; omega, fun i hi => ⟨(hb.cell (p := ⟨b, _, none⟩) (by show b < B; omega)).trans (hc i hi).1, (hb.cell (p := ⟨b, _, none⟩) (by show b < B; omega)).trans (hc i hi).2⟩⟩
theorem IsRds.nil (w : World) : IsRds w (.slice none 0 0) [] := ⟨none, 0, rfl, Or.inl rfl⟩

structure GotR where
  ver : Ver
  err : Int
def dG : GotR := ⟨dV, 0⟩
def gotCells (g : GotR) : List Value := [.int .u64 g.ver.n, .int .u8 g.ver.st, .string g.ver.tx, .int .i64 g.err]
def IsGots (w : World) (v : Value) (l : List GotR) : Prop :=
  ∃ a cap, v = .slice a l.length cap ∧ (l = [] ∨ ∃ b off, a = some ⟨b, off, none⟩ ∧ b < w.heap.size ∧ ∀ i, i < l.length → w.cell? ⟨b, off + i * 4, none⟩ = some (.int .u64 (l.getD i dG).ver.n) ∧ w.cell? ⟨b, off + i * 4 + 1, none⟩ = some (.int .u8 (l.getD i dG).ver.st) ∧ w.cell? ⟨b, off + i * 4 + 2, none⟩ = some (.string (l.getD i dG).ver.tx) ∧ w.cell? ⟨b, off + i * 4 + 3, none⟩ = some (.int .i64 (l.getD i dG).err))
theorem IsGots.below {w w' : World} {v : Value} {l : List GotR} {B : Nat} (h : IsGots w v l) (hb : Below B w w') (hB : w.heap.size ≤ B) : IsGots w' v l := by
  obtain ⟨a, cap, hv, h⟩ := h
  refine ⟨a, cap, hv, ?_⟩
  rcases h with h | ⟨b, off, ha, hlt, hc⟩
  · exact Or.inl h
  · refine Or.inr ⟨b, off, ha, by have := hb.size; omega, fun i hi => ?_⟩
    obtain ⟨h0, h1, h2, h3⟩ := hc i hi
    have k : ∀ j, w'.cell? ⟨b, j, none⟩ = w.cell? ⟨b, j, none⟩ := fun j => hb.cell (p := ⟨b, j, none⟩) (by show b < B; omega)
    exact ⟨(k _).trans h0, (k _).trans h1, (k _).trans h2, (k _).trans h3⟩
theorem IsGots.nil (w : World) : IsGots w (.slice none 0 0) [] := ⟨none, 0, rfl, Or.inl rfl⟩

structure Cal where
  kind : Nat
  rds : List Rd
  eds : List Edt
  pre : ByteArray
  f : Nat
  t : Nat
  dst : Nat
def dCal : Cal := ⟨0, [], [], ByteArray.empty, 0, 0, 0⟩
def calVal (vR vE : Value) (c : Cal) : Value := .agg #[.int .u8 c.kind, vR, vE, .string c.pre, .int .u64 c.f, .int .u64 c.t, .int .u32 c.dst]
structure CalIs (w : World) (vR vE : Value) (c : Cal) : Prop where
  r : IsRds w vR c.rds
  e : IsEdts w vE c.eds
theorem CalIs.below {w w' : World} {vR vE : Value} {c : Cal} {B : Nat} (h : CalIs w vR vE c) (hb : Below B w w') (hB : w.heap.size ≤ B) : CalIs w' vR vE c := ⟨h.r.below hb hB, h.e.below hb hB⟩

structure Sto where
  client : Int
  call : Cal
  frm : Int
  til : Int
  lost : Bool
  life : Nat
  txn : Nat
  com : Int
  err : Int
  got : List GotR
  nums : List Nat
  names : List ByteArray
def dS : Sto := ⟨0, dCal, 0, 0, false, 0, 0, 0, 0, [], [], []⟩
structure Five where
  r : Value
  e : Value
  g : Value
  n : Value
  m : Value
def stoCells (v : Five) (s : Sto) : List Value := [.int .i64 s.client, .int .u8 s.call.kind, v.r, v.e, .string s.call.pre, .int .u64 s.call.f, .int .u64 s.call.t, .int .u32 s.call.dst, .int .i64 s.frm, .int .i64 s.til, .bool s.lost, .int .u64 s.life, .int .u64 s.txn, .int .i64 s.com, .int .i64 s.err, v.g, v.n, v.m]
structure StoIs (w : World) (v : Five) (s : Sto) : Prop where
  c : CalIs w v.r v.e s.call
  g : IsGots w v.g s.got
  n : IsNums w v.n s.nums
  m : IsStrs w v.m s.names
theorem StoIs.below {w w' : World} {v : Five} {s : Sto} {B : Nat} (h : StoIs w v s) (hb : Below B w w') (hB : w.heap.size ≤ B) : StoIs w' v s := ⟨h.c.below hb hB, h.g.below hb hB, h.n.below hb hB, h.m.below hb hB⟩
def StoAt (w : World) (b o : Nat) (v : Five) (s : Sto) : Prop := ∀ j u, (stoCells v s)[j]? = some u → w.cell? ⟨b, o + j, none⟩ = some u
theorem StoAt.all {w : World} {b o : Nat} {v : Five} {s : Sto} (h : StoAt w b o v s) :
    w.cell? ⟨b, o, none⟩ = some (.int .i64 s.client) ∧ w.cell? ⟨b, o + 1, none⟩ = some (.int .u8 s.call.kind) ∧ w.cell? ⟨b, o + 2, none⟩ = some v.r ∧ w.cell? ⟨b, o + 3, none⟩ = some v.e ∧ w.cell? ⟨b, o + 4, none⟩ = some (.string s.call.pre) ∧ w.cell? ⟨b, o + 5, none⟩ = some (.int .u64 s.call.f) ∧ w.cell? ⟨b, o + 6, none⟩ = some (.int .u64 s.call.t) ∧ w.cell? ⟨b, o + 7, none⟩ = some (.int .u32 s.call.dst) ∧
    w.cell? ⟨b, o + 8, none⟩ = some (.int .i64 s.frm) ∧ w.cell? ⟨b, o + 9, none⟩ = some (.int .i64 s.til) ∧ w.cell? ⟨b, o + 10, none⟩ = some (.bool s.lost) ∧ w.cell? ⟨b, o + 11, none⟩ = some (.int .u64 s.life) ∧ w.cell? ⟨b, o + 12, none⟩ = some (.int .u64 s.txn) ∧ w.cell? ⟨b, o + 13, none⟩ = some (.int .i64 s.com) ∧ w.cell? ⟨b, o + 14, none⟩ = some (.int .i64 s.err) ∧
    w.cell? ⟨b, o + 15, none⟩ = some v.g ∧ w.cell? ⟨b, o + 16, none⟩ = some v.n ∧ w.cell? ⟨b, o + 17, none⟩ = some v.m :=
  ⟨h 0 _ rfl, h 1 _ rfl, h 2 _ rfl, h 3 _ rfl, h 4 _ rfl, h 5 _ rfl, h 6 _ rfl, h 7 _ rfl, h 8 _ rfl, h 9 _ rfl, h 10 _ rfl, h 11 _ rfl, h 12 _ rfl, h 13 _ rfl, h 14 _ rfl, h 15 _ rfl, h 16 _ rfl, h 17 _ rfl⟩
theorem StoAt.below {w w' : World} {b o B : Nat} {v : Five} {s : Sto} (h : StoAt w b o v s) (hb : Below B w w') (hlt : b < B) : StoAt w' b o v s := fun j u hj => (hb.cell (p := ⟨b, o + j, none⟩) hlt).trans (h j u hj)
def IsStos (w : World) (v : Value) (l : List Sto) : Prop :=
  ∃ a cap, v = .slice a l.length cap ∧ l.length ≤ cap ∧ (l = [] ∨ ∃ b off, a = some ⟨b, off, none⟩ ∧ b < w.heap.size ∧ ∀ i, i < l.length → ∃ f : Five, StoIs w f (l.getD i dS) ∧ StoAt w b (off + i * 18) f (l.getD i dS))
theorem IsStos.below {w w' : World} {v : Value} {l : List Sto} {B : Nat} (h : IsStos w v l) (hb : Below B w w') (hB : w.heap.size ≤ B) : IsStos w' v l := by
  obtain ⟨a, cap, hv, hc, h⟩ := h
  refine ⟨a, cap, hv, hc, ?_⟩
  rcases h with h | ⟨b, off, ha, hlt, hc⟩
  · exact Or.inl h
  · refine Or.inr ⟨b, off, ha, by have := hb.size; omega, fun i hi => ?_⟩
    obtain ⟨f, h1, h2⟩ := hc i hi
    exact ⟨f, h1.below hb hB, h2.below hb (by omega)⟩
def comF (l : List Sto) (i : Nat) : Int := (l.getD i dS).com
def ordS (l : List Sto) : List Nat := ordL (comF l) l.length

def IsInts (w : World) (v : Value) (l : List Nat) : Prop :=
  ∃ a cap, v = .slice a l.length cap ∧ l.length ≤ cap ∧ (l = [] ∨ ∃ b off, a = some ⟨b, off, none⟩ ∧ b < w.heap.size ∧ ∀ i, i < l.length → w.cell? ⟨b, off + i, none⟩ = some (.int .i64 (l.getD i 0)))
theorem IsInts.below {w w' : World} {v : Value} {l : List Nat} {B : Nat} (h : IsInts w v l) (hb : Below B w w') (hB : w.heap.size ≤ B) : IsInts w' v l := by
  obtain ⟨a, cap, hv, hc, h⟩ := h
  refine ⟨a, cap, hv, hc, ?_⟩
  rcases h with h | ⟨b, off, ha, hlt, hc⟩
  · exact Or.inl h
  · exact Or.inr ⟨b, off, ha, by have := hb.size; omega, fun i hi => (hb.cell (p := ⟨b, _, none⟩) (by show b < B; omega)).trans (hc i hi)⟩
end Go.Proofs.YtfbgnpfhjbiikaaGreatDoor

namespace Go.Proofs.YtfbgnpfhjbiikaaGreatDoor
open Go Go.RowKit
theorem infoStoL : (Tryz.prog.info? 87).map (·.size) = some 18 := by kernel_rfl
theorem zeroSto (w : World) : (zeroValue 87).run Tryz.prog w = .ok (.agg #[.int .i64 0, .int .u8 0, .slice none 0 0, .slice none 0 0, .string ByteArray.empty, .int .u64 0, .int .u64 0, .int .u32 0, .int .i64 0, .int .i64 0, .bool false, .int .u64 0, .int .u64 0, .int .i64 0, .int .i64 0, .slice none 0 0, .slice none 0 0, .slice none 0 0]) w := by kernel_rfl
theorem five_one {w : World} {f : Five} {s : Sto} (h : StoIs w f s) : ∀ v ∈ stoCells f s, v.oneCell' = true := by
  obtain ⟨⟨⟨a1, c1, e1, _⟩, ⟨a2, c2, e2, _⟩⟩, ⟨a3, c3, e3, _⟩, ⟨a4, c4, e4, _⟩, ⟨a5, c5, e5, _⟩⟩ := h
  intro v hv
  simp only [stoCells, e1, e2, e3, e4, e5, List.mem_cons, List.not_mem_nil, or_false] at hv
  rcases hv with rfl | rfl | rfl | rfl | rfl | rfl | rfl | rfl | rfl | rfl | rfl | rfl | rfl | rfl | rfl | rfl | rfl | rfl <;> rfl

section
variable {ops : Array Oper} {rest : List Oper} {op : Oper} {a : Act} {w : World} {Q : Exit → Act → World → Prop}
theorem wpl_load_sto (hgd : op.guard = none) (x : Operand) (ho : op.op = .load 87 x) {b o : Nat} (hx : a.eval x = .pointer (some ⟨b, o, none⟩)) {f : Five} {s : Sto} (hc : StoAt w b o f s)
    (h : wpList Tryz.prog ops Q rest (a.put op.dst (.agg (stoCells f s).toArray)) w) : wpList Tryz.prog ops Q (op :: rest) a w :=
  wpList_load_mid hgd 87 x ho b o hx (stoCells f s) _ hc Tryz.underlying87 rfl infoStoL h
theorem wpl_store_new (hgd : op.guard = none) (ty : TypeId) (x y : Operand) (ho : op.op = .store ty x y) {c c' : Array Value} (hx : a.eval x = .pointer (some ⟨w.heap.size, 0, none⟩)) (hy : a.eval y = .agg c')
    (hi : (Tryz.prog.info? ty).map (·.size) = some c'.size) (hoo : c.size = c'.size) (h1 : c'.all (·.oneCell') = true)
    (h : wpList Tryz.prog ops Q rest (a.put op.dst undef) (w.alloc (.cells c' ty))) : wpList Tryz.prog ops Q (op :: rest) a (w.alloc (.cells c ty)) := by
  refine wpList_plain hgd fun K hK => ?_
  unfold Oper.wp execOp
  have := run_storeAt_new (P := Tryz.prog) w ty c c' hi hoo h1
  simp only [ho, hx, hy, Sem.run_bind, this]
  exact hK _ _ h
theorem wp_store_stoN {K : Act → World → Prop} (x y : Operand) (ho : op.op = .store 87 x y) {c : Array Value} (hx : a.eval x = .pointer (some ⟨w.heap.size, 0, none⟩)) {f : Five} {s : Sto} (hy : a.eval y = .agg (stoCells f s).toArray)
    (hoo : c.size = 18) (h1 : ∀ v ∈ stoCells f s, v.oneCell' = true)
    (h : K (a.put op.dst undef) (w.alloc (.cells (stoCells f s).toArray 87))) : op.wp Tryz.prog a (w.alloc (.cells c 87)) K Q := by
  unfold Oper.wp execOp
  have := run_storeAt_new (P := Tryz.prog) w 87 c (stoCells f s).toArray infoStoL hoo (all_oneCell_toArray h1)
  simp only [ho, hx, hy, Sem.run_bind, this]
  exact h
theorem wp_store_stoD {K : Act → World → Prop} (x y : Operand) (ho : op.op = .store 87 x y) (c : Array Value) (hoo : c.size = 18) (hx : a.eval x = .pointer (some ⟨w.heap.size, 0, none⟩)) {f : Five} {s : Sto} (hy : a.eval y = .agg (stoCells f s).toArray)
    (h1 : ∀ v ∈ stoCells f s, v.oneCell' = true)
    (h : K (a.put op.dst undef) (w.alloc (.cells (stoCells f s).toArray 87)).drew) : op.wp Tryz.prog a (w.alloc (.cells c 87)).drew K Q :=
  wp_store_stoN (w := w.drew) x y ho hx hy hoo h1 h
theorem wpl_store_sto (hgd : op.guard = none) (x y : Operand) (ho : op.op = .store 87 x y) {c : Array Value} (hx : a.eval x = .pointer (some ⟨w.heap.size, 0, none⟩)) {f : Five} {s : Sto} (hy : a.eval y = .agg (stoCells f s).toArray)
    (hoo : c.size = 18) (h1 : ∀ v ∈ stoCells f s, v.oneCell' = true)
    (h : wpList Tryz.prog ops Q rest (a.put op.dst undef) (w.alloc (.cells (stoCells f s).toArray 87))) : wpList Tryz.prog ops Q (op :: rest) a (w.alloc (.cells c 87)) :=
  wpl_store_new hgd _ x y ho hx hy infoStoL hoo (all_oneCell_toArray h1) h
end
theorem one_sto (w : World) (f : Five) (s : Sto) : StoAt (w.alloc (.cells (stoCells f s).toArray 87)) w.heap.size 0 f s := by
  intro j u hj
  have h := (One.of w (stoCells f s).toArray 87).c j
  rw [Nat.zero_add, h]
  simpa using hj
end Go.Proofs.YtfbgnpfhjbiikaaGreatDoor

namespace Go.Proofs
open Go.Shelf
def Tryz.laysSlF020_f120_ren : Go.Shelf.Ren := ⟨fun | 20 => 120 | n => n, fun | 24 => 3 | 22 => 74 | 3 => 3 | 25 => 140 | 4 => 4 | 0 => 0 | n => n, fun | n => n⟩
theorem Tryz.laysSlF020_f120 : Go.Proofs.SlLaysF.n20 Tryz.prog Tryz.laysSlF020_f120_ren := {
  mixed := by kernel_rfl
  f20 := ⟨Tryz.f120.name, by decide, Tryz.func120.trans (congrArg some (by kernel_rfl))⟩
  t0 := Tryz.underlying0
  a0 := Tryz.isAgg0
  z0 := Tryz.sizeOf0
  v0 := Tryz.zeroValue0
  t3 := Tryz.underlying3
  a3 := Tryz.isAgg3
  z3 := Tryz.sizeOf3
  v3 := Tryz.zeroValue3
  t4 := Tryz.underlying4
  a4 := Tryz.isAgg4
  z4 := Tryz.sizeOf4
  v4 := Tryz.zeroValue4
  t22 := Tryz.underlying74
  a22 := Tryz.isAgg74
  z22 := Tryz.sizeOf74
  v22 := Tryz.zeroValue74
  a24 := Tryz.isAgg3
  z24 := Tryz.sizeOf3
  t25 := Tryz.underlying140
  a25 := Tryz.isAgg140
  z25 := Tryz.sizeOf140
  v25 := Tryz.zeroValue140 }
open Go.RowKit Go.Lib Go.Sort in
theorem Tryz.slices_insertionSortCmp {α : Type} [Inhabited α] (enc : α → Value) (cf : α → α → Int) (g : Nat) (cb : Array Value) (blk off cap a b : Nat) (d0 d : Array α) (w0 w : World)
    (eg : ∀ args w, (callFunc g args).run Tryz.prog w = .ok (.enter g args) w) (hcmp : CmpLays1 Tryz.prog g cb enc cf blk off d0.size w0) (R : Row1 enc w0 blk off d0) (hs : d0.size = d.size) (S : SW enc w0 blk off d w) (hab : a ≤ b) (hb : b ≤ d.size) (hsz : d.size < 4611686018427387904) :
    Calls Tryz.prog 120 #[.slice (some ⟨blk, off, none⟩) d.size cap, .int .i64 a, .int .i64 b, .func (.func g) #[] cb] w fun e w' => e = .returned (.tuple #[]) ∧ SW enc w0 blk off (Sort.insertionSort (ltOf cf) d a b) w' := Any.insertionSortCmpFunc_s Tryz.laysSlF020_f120 enc cf g cb blk off cap a b d0 d w0 w eg hcmp R hs S hab hb hsz
end Go.Proofs

namespace Go.Proofs.YtfbgnpfhjbiikaaGreatDoor
open Go Go.RowKit
open Pth
open Go.Maps (has size Canon CanonK Tidy IsMap KeysOf Keyed Merged)
def tA : ByteArray := ⟨#[97]⟩
def tX : ByteArray := ⟨#[120]⟩
theorem good_none (P : Program) (ks : TypeId) : Good P ks (.map []) := ⟨canonK_nil _, fun k hk => by cases hk⟩
def flatE : List Edt → List Value
  | [] => []
  | x :: t => .int .u8 x.kind :: .string x.path :: .bool x.any :: .int .u64 x.want :: .int .u64 x.n :: .string x.text :: flatE t
theorem flatE_at : ∀ (l : List Edt) (i : Nat), i < l.length → (flatE l)[i * 6]? = some (.int .u8 (l.getD i dE).kind) ∧ (flatE l)[i * 6 + 1]? = some (.string (l.getD i dE).path) ∧ (flatE l)[i * 6 + 2]? = some (.bool (l.getD i dE).any) ∧
    (flatE l)[i * 6 + 3]? = some (.int .u64 (l.getD i dE).want) ∧ (flatE l)[i * 6 + 4]? = some (.int .u64 (l.getD i dE).n) ∧ (flatE l)[i * 6 + 5]? = some (.string (l.getD i dE).text)
  | [], i, h => by simp at h
  | v :: t, 0, _ => ⟨rfl, rfl, rfl, rfl, rfl, rfl⟩
  | v :: t, i + 1, h => by
    have := flatE_at t i (by simpa using h)
    rw [show (i + 1) * 6 = i * 6 + 6 by omega]
    exact this
theorem IsEdts.new (w : World) (l : List Edt) (cap : Nat) (e : TypeId) (x : Nat × Nat) (C : Array Value) (hC : C = (flatE l).toArray) : IsEdts (w.alloc (.cells C e x)) (.slice (some ⟨w.heap.size, 0, none⟩) l.length cap) l := by
  subst hC
  refine ⟨_, _, rfl, Or.inr ⟨w.heap.size, 0, rfl, by simp, fun i hi => ?_⟩⟩
  obtain ⟨h0, h1, h2, h3, h4, h5⟩ := flatE_at l i hi
  simp only [Nat.zero_add, World.cell?_alloc_mark, List.getElem?_toArray]
  exact ⟨h0, h1, h2, h3, h4, h5⟩
end Go.Proofs.YtfbgnpfhjbiikaaGreatDoor

namespace Go.Proofs.YtfbgnpfhjbiikaaGreatDoor
open Go Go.RowKit
open Pth
open Go.Maps (has size Canon CanonK Tidy IsMap KeysOf Keyed Merged)
set_option maxRecDepth 100000 in
set_option maxHeartbeats 1000000 in
theorem tab_copied (c : Cel) (v : Value) (w : World) (hv : IsVers w v c.l) (hl : c.l.length ≤ 65536) :
    Calls Tryz.prog 46 #[.agg #[.int .u64 c.last, v]] w (KeptGives c w) := by
  obtain ⟨cl, L⟩ := c
  simp only at hv hl ⊢
  have hv2 := hv
  obtain ⟨a, cap, rfl, hc⟩ := hv2
  clear hc
  have Hv := Lib.hid hv; clear hv
  go_enter Tryz.func46, Tryz.ntmps46
  go_upto_region 1 with fail
  refine wp_abs (F := Two w #[.int .u64 cl, .slice a L.length cap] #[.int .u64 0, .slice none 0 0]) (Two.of w _ _ _ _) ?_
  intro W T
  have q0 := T.c1 0
  have q1 := T.c1 1
  have T := Lib.hid T
  simp at q0 q1
  go_wp2_with fail
  refine (clone_vers L _ _ (Hv.out.below T.out.b (Nat.le_refl _)) hl).mono ?_
  rintro e w1 ⟨v1, rfl, hown, hb1⟩
  obtain ⟨a1, c1, rfl⟩ := ownShape hown
  have T1 := T.out.step hb1
  have q0 := T1.c1 0; have q1 := T1.c1 1; have f0 := T1.f1 0; have f1 := T1.f1 1
  have z0 := T1.c2 0; have z1 := T1.c2 1; have g0 := T1.f2 0; have g1 := T1.f2 1
  simp at q0 q1 z0 z1
  have T1 := Lib.hid T1; have Hown := Lib.hid hown; have Hb1 := Lib.hid hb1; clear hown hb1
  go_wp2_with fail
  have h1 := T.out.sz
  refine bodyPost_ret (v := .agg #[.int .u64 cl, .slice a1 L.length c1]) ?_ rfl ⟨_, rfl, ?_, ?_⟩
  · simp [results, Tryz.results46, go_sem, z0, z1]
  · exact ownBase (ownsRow_setCell_below (ownsRow_setCell_below (ownsRow_setCell_below Hown.out (by dsimp only; omega) _) (by dsimp only; omega) _) (by dsimp only; omega) _) (by omega)
  · refine (((T1.out.b.setCell ?_ _).setCell ?_ _).setCell ?_ _) <;> dsimp only <;> omega

def dR : ByteArray × Cel := (ByteArray.empty, ⟨0, []⟩)
def IsRows (w : World) (v : Value) (l : List (ByteArray × Cel)) : Prop :=
  ∃ a cap, v = .slice a l.length cap ∧ (l = [] ∨ ∃ b off, a = some ⟨b, off, none⟩ ∧ b < w.heap.size ∧ ∀ i, i < l.length →
    w.cell? ⟨b, off + i * 3, none⟩ = some (.string (l.getD i dR).1) ∧ w.cell? ⟨b, off + i * 3 + 1, none⟩ = some (.int .u64 (l.getD i dR).2.last) ∧ ∃ s, w.cell? ⟨b, off + i * 3 + 2, none⟩ = some s ∧ IsVers w s (l.getD i dR).2.l)
theorem IsRows.below {w w' : World} {v : Value} {l : List (ByteArray × Cel)} {B : Nat} (h : IsRows w v l) (hb : Below B w w') (hB : w.heap.size ≤ B) : IsRows w' v l := by
  obtain ⟨a, cap, hv, h⟩ := h
  refine ⟨a, cap, hv, ?_⟩
  rcases h with h | ⟨b, off, ha, hlt, hc⟩
  · exact Or.inl h
  · refine Or.inr ⟨b, off, ha, by have := hb.size; omega, fun i hi => ?_⟩
    obtain ⟨h0, h1, s, h2, hs⟩ := hc i hi
    exact ⟨(hb.cell (by dsimp only; omega)).trans h0, (hb.cell (by dsimp only; omega)).trans h1, s, (hb.cell (by dsimp only; omega)).trans h2, hs.below hb hB⟩
def keysL (M : DataW Cel) : List (List UInt8) := (strKeys M).mergeSort (fun x y => decide (x ≤ y))
def rowAt (M : DataW Cel) (k : List UInt8) : ByteArray × Cel := (bs k, cellAt M (bs k))
def rowsL (M : DataW Cel) : List (ByteArray × Cel) := (keysL M).map (rowAt M)
theorem canon_strs {C : Type} {M : DataW C} (c : CanonK (KeysOf Tryz.prog 9) M) : ∃ es, M = .map es ∧ es.Pairwise (fun p q => p.1 ≠ q.1) ∧ ∀ p ∈ es, ∃ x, p.1 = .string x := by
  obtain ⟨es, rfl, hp, hk⟩ := c
  refine ⟨es, rfl, Maps.apart_of_rising hp, fun p hp' => ?_⟩
  obtain ⟨v, hv⟩ := hk p hp'
  obtain ⟨y, _, hy, _⟩ := Maps.keyOf_str Tryz.underlying9 hv
  exact ⟨y, hy⟩
theorem mem_strKeys' {C : Type} {es : List (Lit × DataW C)} (hk : ∀ p ∈ es, ∃ x, p.1 = .string x) (x : List UInt8) : x ∈ strKeys (.map es) ↔ has (.map es) (.string x) = true := by
  show x ∈ es.map (fun p => strOf p.1) ↔ _
  rw [Maps.has_eq, List.mem_map, List.any_eq_true]
  constructor
  · rintro ⟨p, hp, rfl⟩
    obtain ⟨y, hy⟩ := hk p hp
    exact ⟨p, hp, by rw [hy]; exact WideAt.sameKey_self trivial⟩
  · rintro ⟨p, hp, hs⟩
    exact ⟨p, hp, by rw [WideAt.sameKey_eq hs]; rfl⟩
theorem strKeys_nodup {C : Type} {es : List (Lit × DataW C)} (hp : es.Pairwise (fun p q => p.1 ≠ q.1)) (hk : ∀ p ∈ es, ∃ x, p.1 = .string x) : (strKeys (.map es)).Nodup := by
  show (es.map fun p => strOf p.1).Nodup
  refine List.pairwise_map.2 (hp.imp_of_mem fun {p q} hp' hq' hne e => hne ?_)
  obtain ⟨x, hx⟩ := hk p hp'
  obtain ⟨y, hy⟩ := hk q hq'
  rw [hx, hy] at e ⊢
  exact congrArg _ e
theorem keysL_of {D : DataW Value} {M : DataW Cel} (cD : CanonK (KeysOf Tryz.prog 9) D) (cM : CanonK (KeysOf Tryz.prog 9) M) (h : ∀ k, has D k = has M k) {ss : List (List UInt8)} (hs : ss.Perm (strKeys D)) : ss.mergeSort (fun x y => decide (x ≤ y)) = keysL M := by
  obtain ⟨es, rfl, hp, hk⟩ := canon_strs cM
  obtain ⟨ed, rfl, hpd, hkd⟩ := canon_strs cD
  unfold keysL
  refine (mergeSort_of_perm (hs.trans ?_))
  refine ((perm_strKeys hp hk (strKeys_nodup hpd hkd) fun x => ?_))
  rw [mem_strKeys' hkd, h]
theorem keysL_mem {M : DataW Cel} (cM : CanonK (KeysOf Tryz.prog 9) M) {x : List UInt8} (hx : x ∈ keysL M) : has M (kS (bs x)) = true := by
  obtain ⟨es, rfl, hp, hk⟩ := canon_strs cM
  unfold keysL at hx
  exact (mem_strKeys' hk x).1 ((List.mergeSort_perm _ _).mem_iff.1 hx)
theorem keysL_length {M : DataW Cel} (cM : CanonK (KeysOf Tryz.prog 9) M) : (keysL M).length = size M := by
  obtain ⟨es, rfl, _⟩ := cM
  unfold keysL
  rw [List.length_mergeSort]
  show (es.map _).length = es.length
  simp
end Go.Proofs.YtfbgnpfhjbiikaaGreatDoor

namespace Go.Proofs.YtfbgnpfhjbiikaaGreatDoor
open Go Go.RowKit
open Pth
open Go.Maps (has size Canon CanonK Tidy IsMap KeysOf Keyed Merged)
def rowCells : List ((ByteArray × Cel) × Value) → List Value
  | [] => []
  | x :: t => .string x.1.1 :: .int .u64 x.1.2.last :: x.2 :: rowCells t
theorem rowCells_length (l : List ((ByteArray × Cel) × Value)) : (rowCells l).length = l.length * 3 := by
  induction l with
  | nil => rfl
  | cons v t ih => simp only [rowCells, List.length_cons, ih]; omega
theorem rowCells_append (a b : List ((ByteArray × Cel) × Value)) : rowCells (a ++ b) = rowCells a ++ rowCells b := by
  induction a with
  | nil => rfl
  | cons v t ih => simp only [List.cons_append, rowCells, ih]
def dRV : (ByteArray × Cel) × Value := (dR, .slice none 0 0)
theorem rowCells_at : ∀ (l : List ((ByteArray × Cel) × Value)) (i : Nat), i < l.length → (rowCells l)[i * 3]? = some (.string (l.getD i dRV).1.1) ∧ (rowCells l)[i * 3 + 1]? = some (.int .u64 (l.getD i dRV).1.2.last) ∧ (rowCells l)[i * 3 + 2]? = some (l.getD i dRV).2
  | [], i, h => by simp at h
  | v :: t, 0, _ => ⟨rfl, rfl, rfl⟩
  | v :: t, i + 1, h => by
    have := rowCells_at t i (by simpa using h)
    rw [show (i + 1) * 3 = i * 3 + 3 by omega]
    exact this
def RowsOff (w : World) (T : List ((ByteArray × Cel) × Value)) (o : Option Nat) : Prop := ∀ x ∈ T, IsVers w x.2 x.1.2.l ∧ (x.1.2.l ≠ [] → ∀ kb, x.2.ownBlock = some kb → o ≠ some kb)
theorem RowsOff.below {w w' : World} {T : List ((ByteArray × Cel) × Value)} {o : Option Nat} (h : RowsOff w T o) (hb : Below w.heap.size w w') : RowsOff w' T o := fun x hx => ⟨(h x hx).1.below hb (Nat.le_refl _), (h x hx).2⟩
theorem RowsOff.row {w w' : World} {T : List ((ByteArray × Cel) × Value)} {o o' : Option Nat} (h : RowsOff w T o) (hg : w.grownBy w' o) (ho : o' = o ∨ o' = some w.heap.size) : RowsOff w' T o' := by
  intro x hx
  obtain ⟨h1, h2⟩ := h x hx
  refine ⟨h1.row hg h2, fun hl kb hk => ?_⟩
  rcases ho with rfl | rfl
  · exact h2 hl kb hk
  · intro e
    have := h1.own_lt hl hk
    cases e; omega
theorem IsRows.own {w : World} {B e : Nat} {v : Value} {T : List ((ByteArray × Cel) × Value)} {o : Option Nat} (h : w.ownsRow B e 3 v T.length (rowCells T)) (hT : RowsOff w T o) : IsRows w v (T.map (·.1)) := by
  rcases h.2 with ⟨hv, hl⟩ | ⟨g, cap, cur, hv, hB, hg, hn, hcap, hsz, htake⟩
  · have : T = [] := List.length_eq_zero_iff.1 hl
    subst this; exact ⟨none, 0, hv, Or.inl rfl⟩
  · refine ⟨_, cap, by rw [List.length_map]; exact hv, Or.inr ⟨g, 0, rfl, lt_of_block hg, fun i hi => ?_⟩⟩
    rw [List.length_map] at hi
    subst hv
    obtain ⟨f1, f2, f3⟩ := rowCells_at T i hi
    have c1 := World.ownsRow.cellAt h (i * 3) (by omega)
    have c2 := World.ownsRow.cellAt h (i * 3 + 1) (by omega)
    have c3 := World.ownsRow.cellAt h (i * 3 + 2) (by omega)
    rw [f1] at c1; rw [f2] at c2; rw [f3] at c3
    have hd : (T.map (·.1)).getD i dR = (T.getD i dRV).1 := by
      rw [List.getD_eq_getElem?_getD, List.getD_eq_getElem?_getD, List.getElem?_map, List.getElem?_eq_getElem hi]; rfl
    have hm : T.getD i dRV ∈ T := by
      rw [List.getD_eq_getElem?_getD, List.getElem?_eq_getElem hi]; exact List.getElem_mem hi
    rw [hd, Nat.zero_add]
    exact ⟨c1, c2, _, c3, (hT _ hm).1⟩
theorem infoRow : (Tryz.prog.info? 48).map (fun i => (i.zero, i.size, i.bytes)) = some (some (.agg #[.string ByteArray.empty, .int .u64 0, .slice none 0 0]), 3, 48) := by kernel_rfl

def RowsGives (M : DataW Cel) (w : World) (e : Ending) (w' : World) : Prop := ∃ v, e = .returned v ∧ IsRows w' v (rowsL M) ∧ Below w.heap.size w w'

set_option maxRecDepth 100000 in
set_option maxHeartbeats 2000000 in
theorem tab_rows (w : World) {t b : Nat} {q1 q2 B : Int} {M : DataW Cel} (h : TabAt w t b q1 q2 M B) (hg : Good Tryz.prog 9 M) (hsM : size M ≤ 1073741824) :
    Calls Tryz.prog 12 #[.pointer (some ⟨t, 0, none⟩)] w (RowsGives M w) := by
  have Hmade := Lib.hid (tab_made w h)
  have HG := Lib.hid hg; have HT := Lib.hid h; clear hg h
  go_enter Tryz.func12, Tryz.ntmps12
  go_wp2_with fail
  refine Hmade.out.mono ?_
  rintro e w1 ⟨rfl, hb1⟩
  have h1 := HT.out.below hb1
  have c2 := h1.c2
  have hm1 := h1.m
  obtain ⟨D, hownD, hal⟩ := hm1
  have hK := callsIn_wide.1 (Tryz.maps_Keys_45 (some b) w1)
  have hS := callsIn_wide.1 (Tryz.slices_Sorted_keys_44_45 b (size M) D _ w1 hownD (by rw [hal.sizes]; unfold maxLen; omega) (by rw [hal.sizes]; omega))
  have Hkeys := Lib.hid (fun (ss : List (List UInt8)) (hs : ss.Perm (strKeys D)) => keysL_of (hownD.canonK strKeyed) hal.canon hal.keys hs)
  have HT1 := Lib.hid h1; have Hb1 := Lib.hid hb1; have HK := Lib.hid hK; have HS := Lib.hid hS
  clear h1 hb1 hK hS hal hownD
  go_wp2_with fail
  refine (HK.out).mono ?_
  rintro e w2 ⟨rfl, rfl⟩
  go_wp2_with fail
  refine (HS.out).mono ?_
  rintro e w3 ⟨v3, ss, rfl, hperm, hrow, _, hb3⟩
  have hv3 : IsStrs w3 v3 ((keysL M).map bs) := IsStrs.own (B := (w1.alloc (.cells #[.map (some b)] 103)).heap.size) (e := 9) (by rw [← Hkeys.out ss hperm, List.length_map, List.length_mergeSort, List.map_map]; exact hrow)
  have hb13 : Below w1.heap.size w1 w3 := ((Below.refl _ w1).alloc (Nat.le_refl _) _).trans (hb3.mono (by simp))
  have Hmem := Lib.hid (fun x (hx : x ∈ keysL M) => keysL_mem HG.out.canon hx)
  have hkl : (keysL M).length ≤ 1073741824 := by rw [keysL_length HG.out.canon]; exact hsM
  have Hrows : Hid (rowsL M = (keysL M).map (rowAt M)) := Lib.hid rfl
  generalize keysL M = ks at hv3 Hmem hkl Hrows
  obtain ⟨a3, c3, rfl, hc3⟩ := hv3
  have Hc3 := Lib.hid hc3; have Hb13 := Lib.hid hb13
  clear hc3 hb13 hrow hperm hb3 HS HK Hkeys
  obtain ⟨i0, hi, hz0, hz1, hz2⟩ := info_parts infoRow
  rw [List.length_map]
  go_wp2_with fail
  go_loopw [2, 15] (fun s2 i wr => ∃ (k : Nat) (T : List ((ByteArray × Cel) × Value)), k ≤ ks.length ∧ i = .int .i64 k ∧ (∃ a c, s2 = .slice a T.length c) ∧ Hid (T.map (·.1) = (ks.take k).map (rowAt M)) ∧ Hid (T.length = k) ∧ Hid (wr.ownsRow w3.heap.size 48 3 s2 T.length (rowCells T)) ∧ Hid (RowsOff wr T s2.ownBlock) ∧ Hid (Below w3.heap.size w3 wr)) (fun _ i _ => ks.length - (intOf i).toNat)
  case atStart => exact ⟨0, [], Nat.zero_le _, rfl, ⟨none, 0, rfl⟩, Lib.hid rfl, Lib.hid rfl, Lib.hid (World.ownsRow_nil _ _ _ _), Lib.hid (fun x hx => by cases hx), Lib.hid (Below.refl _ _)⟩
  case round =>
    obtain ⟨k, T, hk, rfl, ⟨a2, c2', rfl⟩, hmap, hTk, hrow, hoff, hbw⟩ := hrel
    have hw1r : Below w1.heap.size w1 wr := Hb13.out.trans (hbw.out.mono Hb13.out.size)
    have hTr := HT1.out.below hw1r
    by_cases hlt : k < ks.length
    · rcases Hc3.out with hn | ⟨b3, o3, rfl, hl3, hcc⟩
      · have := congrArg List.length hn; simp at this; rw [this] at hlt; simp at hlt
      have hcell := (hbw.out.cell (p := ⟨b3, o3 + k, none⟩) hl3).trans (hcc k (by rw [List.length_map]; exact hlt))
      clear hcc
      have hkx : ks.getD k [] ∈ ks := by rw [List.getD_eq_getElem?_getD, List.getElem?_eq_getElem hlt]; exact List.getElem_mem hlt
      have hgd : (ks.map bs).getD k ByteArray.empty = bs (ks.getD k []) := by
        rw [List.getD_eq_getElem?_getD, List.getD_eq_getElem?_getD, List.getElem?_map, List.getElem?_eq_getElem hlt]; rfl
      rw [hgd] at hcell
      have hhas := Hmem.out _ hkx
      have htake : ks.take (k + 1) = ks.take k ++ [ks.getD k []] := by
        rw [List.take_succ_eq_append_getElem hlt, List.getD_eq_getElem?_getD, List.getElem?_eq_getElem hlt]; rfl
      obtain ⟨x, hx⟩ : ∃ x, x = ks.getD k [] := ⟨_, rfl⟩
      rw [← hx] at hcell hhas htake
      clear hx hkx hgd
      obtain ⟨p', c', ep, _, _, _, _, hmp⟩ := HG.out.cells _ hhas
      have hps : (bs x).size ≤ 128 := by rw [kS_inj ep]; exact mayP_size hmp
      have c2 := hTr.c2
      obtain ⟨s, is, _, hs, _, hl⟩ := hTr.m.look2 (bs x) (by unfold maxLen; omega)
      have hmay := (HG.out.cellAt (bs x)).1
      obtain ⟨cN, hcN⟩ : ∃ c, c = cellAt M (bs x) := ⟨_, rfl⟩
      rw [← hcN] at hl hs hmay
      have hl8 := may_len hmay
      have Hs := Lib.hid hs
      obtain ⟨as1, cs1, rfl, _⟩ := hs
      obtain ⟨p, hp⟩ : ∃ p, p = bs x := ⟨_, rfl⟩
      have HcN := Lib.hid hcN; have Htake := Lib.hid htake; have HTr := Lib.hid hTr; have Hlt := Lib.hid hlt
      rw [← hp] at hcell hl
      have Hp := Lib.hid hp
      have hTl : T.length ≤ 1073741824 := by have := hTk.out; omega
      have hlt2 : (k : Int) < (ks.length : Int) := by omega
      clear hcN htake hTr hhas hp ep hmp hps hw1r hmay
      go_wp2_with (first
        | (go_at_call 46; refine (tab_copied cN _ _ Hs.out (by omega)).mono ?_; rintro e w4 ⟨v4, rfl, hown4, hb4⟩; obtain ⟨a4, c4, rfl⟩ := ownShape hown4; have Hown4 := Lib.hid hown4; have Hb4 := Lib.hid hb4; clear hown4 hb4)
        | (at_builtin; refine wpList_append_lies _ rfl (.tmp 19) (.tmp 29) 26 rfl w3.heap.size 48 i0 (.agg #[.string ByteArray.empty, .int .u64 0, .slice none 0 0]) 3 48 Tryz.underlying26 hi hz0 hz1 hz2 rfl (by decide) _ T.length (rowCells T) rfl (ownBelow (ownBelow hrow.out Hb4.out) ((Below.refl _ _).alloc (Nat.le_refl _) _)) ⟨w4.heap.size, 0, none⟩ 1 1 [.string p, .int .u64 cN.last, .slice a4 cN.l.length c4] rfl rfl (World.news_of_block (MapKept.heap_alloc _ _).1) (by intro u hu; simp only [List.mem_cons, List.mem_nil_iff, or_false] at hu; rcases hu with rfl | rfl | rfl <;> rfl) (by decide) (by unfold maxLen; omega) (by omega) ?hbase (w4.heap.size + 1) (by simp) ?go; (case hbase => have h1 := hbw.out.size; have h2 := Hb4.out.size; simp; omega); intro g cp w8 hown8 hg8 hat hlt8)
        | fail)
      go_roundw
      case rel =>
        refine ⟨k + 1, T ++ [((p, cN), .slice a4 cN.l.length c4)], by have := Hlt.out; omega, by go_num, ⟨_, _, by rw [List.length_append]; rfl⟩, Lib.hid ?_, Lib.hid (by rw [List.length_append, hTk.out]; rfl), Lib.hid ?_, Lib.hid ?_, Lib.hid ?_⟩
        · rw [Htake.out, List.map_append, List.map_append, hmap.out, Hp.out, HcN.out]; rfl
        · rw [List.length_append, rowCells_append]; exact hown8
        · have hA : RowsOff (w4.alloc (.cells #[.string p, .int .u64 cN.last, .slice a4 cN.l.length c4] 48)) (T ++ [((p, cN), .slice a4 cN.l.length c4)]) (Value.slice a2 T.length c2').ownBlock := by
            intro y hy
            rcases List.mem_append.1 hy with hy | hy
            · exact ((hoff.out.below Hb4.out).below ((Below.refl _ _).alloc (Nat.le_refl _) _)) y hy
            · rcases List.mem_singleton.1 hy with rfl
              refine ⟨(IsVers.own Hown4.out).below ((Below.refl _ _).alloc (Nat.le_refl _) _) (Nat.le_refl _), fun _ kb hkb e => ?_⟩
              have h1 := ownAbove Hown4.out kb hkb
              have h2 : kb < wr.heap.size := by
                rcases hrow.out.2 with ⟨hv, _⟩ | ⟨g', cp', cur, hv, hB, hg', _⟩
                · rw [hv] at e; cases e
                · rw [hv] at e; cases e; exact lt_of_block hg'
              omega
          refine hA.row hg8 ?_
          rcases hat with h | h
          · left; exact h.symm
          · right; show some g = some _; rw [h]; simp
        · have h1 : Below w3.heap.size w3 w4 := hbw.out.trans (Hb4.out.mono hbw.out.size)
          exact (h1.alloc h1.size _).grown hg8 (h1.alloc h1.size _).size (fun k hk => ownAbove hrow.out k hk)
      case measure => simp [intOf]; omega
    · have hge : (ks.length : Int) ≤ (k : Int) := by omega
      have hkk : k = ks.length := by omega
      have Hkk := Lib.hid hkk
      clear hkk hTr hw1r
      go_wp2_with fail
      go_ret
      refine ⟨_, rfl, ?_, Hb1.out.trans ((Hb13.out.trans (hbw.out.mono Hb13.out.size)).mono Hb1.out.size)⟩
      have h1 := IsRows.own hrow.out hoff.out
      rw [hmap.out, Hkk.out, List.take_length] at h1
      rw [Hrows.out]; exact h1
end Go.Proofs.YtfbgnpfhjbiikaaGreatDoor

namespace Go.Proofs.YtfbgnpfhjbiikaaGreatDoor
open Go Go.RowKit
theorem quiet_plain' {P : Program} {ops : Array Oper} {C : World → Prop} {Q : Act → Prop} {a : Act} {o : Oper} {rest : List Oper} (hw : Region.wanted o (yielded ops a.tmps) = true) (v : Value)
    (h : ∀ w, C w → (execOp a.eval o).run P w = .ok (.value v) w) (k : wpQuiet P ops C Q rest (a.put o.dst v)) : wpQuiet P ops C Q (o :: rest) a := by
  refine wpQuiet_step (fun K hK => ?_)
  rw [if_pos hw]
  refine ⟨v, fun w hw => ?_, hK _ k⟩
  unfold Oper.quietAt
  rw [h w hw]
  exact ⟨rfl, rfl⟩
theorem quiet_call' {P : Program} {ops : Array Oper} {C : World → Prop} {Q : Act → Prop} {a : Act} {o : Oper} {rest : List Oper} (hw : Region.wanted o (yielded ops a.tmps) = true) (v : Value) (f : FuncId) (args : Array Value)
    (h : ∀ w, C w → (execOp a.eval o).run P w = .ok (.enter f args) w ∧ Calls P f args w (fun e w'' => e = .returned v ∧ C w'')) (k : wpQuiet P ops C Q rest (a.put o.dst v)) : wpQuiet P ops C Q (o :: rest) a := by
  refine wpQuiet_step (fun K hK => ?_)
  rw [if_pos hw]
  refine ⟨v, fun w hw => ?_, hK _ k⟩
  unfold Oper.quietAt
  rw [(h w hw).1]
  exact ⟨rfl, (h w hw).2⟩

set_option maxRecDepth 100000 in
set_option maxHeartbeats 2000000 in
theorem ref17_same (c : Cel) (v1 v2 : Value) (w : World) (h1 : IsVers w v1 c.l) (h2 : IsVers w v2 c.l) (hl : c.l.length ≤ 65536) :
    Calls Tryz.prog 50 #[.agg #[.int .u64 c.last, v1], .agg #[.int .u64 c.last, v2]] w fun e w' => e = .returned (.bool true) ∧ Below w.heap.size w w' := by
  obtain ⟨cl, L⟩ := c
  simp only at h1 h2 hl ⊢
  obtain ⟨a1, cap1, rfl, hc1⟩ := h1
  obtain ⟨a2, cap2, rfl, hc2⟩ := h2
  have Hc1 := Lib.hid hc1; have Hc2 := Lib.hid hc2; clear hc1 hc2
  have hLB : ((L.length : Int) != (L.length : Int)) = false := by simp
  have hCB : ((cl : Int) != (cl : Int)) = false := by simp
  go_enter Tryz.func50, Tryz.ntmps50
  go_upto_region 1 with fail
  refine wp_abs (F := Two w #[.int .u64 cl, .slice a1 L.length cap1] #[.int .u64 cl, .slice a2 L.length cap2]) (Two.of w _ _ _ _) ?_
  intro W T
  have q0 := T.c1 0; have q1 := T.c1 1; have r0 := T.c2 0; have r1 := T.c2 1
  have T := Lib.hid T
  simp at q0 q1 r0 r1
  go_wp2_with fail
  go_loopw [5] (fun i wr => ∃ k : Nat, k ≤ L.length ∧ i = .int .i64 k ∧ Hid (Below W.heap.size W wr)) (fun i _ => L.length - (intOf i).toNat)
  case atStart => exact ⟨0, Nat.zero_le _, rfl, Lib.hid (Below.refl _ _)⟩
  case round =>
    obtain ⟨k, hk, rfl, Hbw⟩ := hrel
    have Tr := T.out.step Hbw.out
    have hbr := Tr.b
    have q1 := Tr.c1 1; have r1 := Tr.c2 1
    simp at q1 r1
    by_cases hlt : k < L.length
    · rcases Hc1.out with hn | ⟨b1, o1, rfl, hl1, hcc1⟩
      · subst hn; simp at hlt
      rcases Hc2.out with hn | ⟨b2, o2, rfl, hl2, hcc2⟩
      · subst hn; simp at hlt
      obtain ⟨g1, g2, g3⟩ := hcc1 k hlt
      obtain ⟨g4, g5, g6⟩ := hcc2 k hlt
      have k1 := (hbr.cell (p := ⟨b1, o1 + k * 3, none⟩) hl1).trans g1
      have k2 := (hbr.cell (p := ⟨b1, o1 + k * 3 + 1, none⟩) hl1).trans g2
      have k3 := (hbr.cell (p := ⟨b1, o1 + k * 3 + 2, none⟩) hl1).trans g3
      have k4 := (hbr.cell (p := ⟨b2, o2 + k * 3, none⟩) hl2).trans g4
      have k5 := (hbr.cell (p := ⟨b2, o2 + k * 3 + 1, none⟩) hl2).trans g5
      have k6 := (hbr.cell (p := ⟨b2, o2 + k * 3 + 2, none⟩) hl2).trans g6
      clear hcc1 hcc2 g1 g2 g3 g4 g5 g6
      obtain ⟨x, hx⟩ : ∃ x, x = L.getD k dV := ⟨_, rfl⟩
      rw [← hx] at k1 k2 k3 k4 k5 k6
      clear hx hbr
      have Tr := Lib.hid Tr
      go_wp2_with fail
      go_quiet (fail)
      go_wp2_with fail
      go_roundw
      case rel => exact ⟨k + 1, by omega, by go_num, Lib.hid (below_dr Hbw.out _)⟩
      case measure => simp [intOf]; omega
    · have hge : (L.length : Int) ≤ (k : Int) := by omega
      clear hbr
      have Tr := Lib.hid Tr
      go_wp2_with fail
      go_ret
      exact ⟨rfl, Tr.out.b⟩
end Go.Proofs.YtfbgnpfhjbiikaaGreatDoor

namespace Go.Proofs.YtfbgnpfhjbiikaaGreatDoor
open Go Go.RowKit
def sgnI (x y : Int) : Int := if x < y then -1 else if y < x then 1 else 0

theorem cmp_isNaN (x : Int) (w : World) : Calls Tryz.prog 99 #[.int .i64 x] w fun e w' => e = .returned (.bool false) ∧ w = w' := by
  have hx : ((x : Int) != x) = false := by simp
  go_enter Tryz.func99, Tryz.ntmps99
  go_wp2
  go_ret
  first | exact ⟨rfl, rfl⟩ | (simp)
theorem cmp_compare (x y : Int) (w : World) : Calls Tryz.prog 71 #[.int .i64 x, .int .i64 y] w fun e w' => e = .returned (.int .i64 (sgnI x y)) ∧ w = w' := by
  by_cases h1 : x < y
  · have hs : Hid (sgnI x y = -1) := Lib.hid (by unfold sgnI; rw [if_pos h1])
    go_enter Tryz.func71, Tryz.ntmps71
    go_wp2_with (go_at_call 99; refine (cmp_isNaN _ _).mono ?_; rintro e w' ⟨rfl, rfl⟩)
    go_ret
    exact ⟨ret_int hs.out.symm, rfl⟩
  · by_cases h2 : y < x
    · have hs : Hid (sgnI x y = 1) := Lib.hid (by unfold sgnI; rw [if_neg h1, if_pos h2])
      go_enter Tryz.func71, Tryz.ntmps71
      go_wp2_with (go_at_call 99; refine (cmp_isNaN _ _).mono ?_; rintro e w' ⟨rfl, rfl⟩)
      go_ret
      exact ⟨ret_int hs.out.symm, rfl⟩
    · have hs : Hid (sgnI x y = 0) := Lib.hid (by unfold sgnI; rw [if_neg h1, if_neg h2])
      go_enter Tryz.func71, Tryz.ntmps71
      go_wp2_with (go_at_call 99; refine (cmp_isNaN _ _).mono ?_; rintro e w' ⟨rfl, rfl⟩)
      go_ret
      exact ⟨ret_int hs.out.symm, rfl⟩
theorem enters_cmp : ∀ args w, (callFunc 70 args).run Tryz.prog w = .ok (.enter 70 args) w := enters_of Tryz.func70 (by kernel_rfl) rfl

structure ComAt (w : World) (bx sb so n cap : Nat) (C : Nat → Int) : Prop where
  box : w.cell? ⟨bx, 0, none⟩ = some (.slice (some ⟨sb, so, none⟩) n cap)
  com : ∀ i, i < n → w.cell? ⟨sb, so + i * 18 + 13, none⟩ = some (.int .i64 (C i))

set_option maxRecDepth 100000 in
set_option maxHeartbeats 2000000 in
theorem ord_cmp {bx sb so n cap : Nat} {C : Nat → Int} (i j : Nat) (w : World) (h : ComAt w bx sb so n cap C) (hi : i < n) (hj : j < n) :
    Calls Tryz.prog 70 #[.int .i64 i, .int .i64 j, .pointer (some ⟨bx, 0, none⟩)] w fun e w' => e = .returned (.int .i64 (sgnI (C i) (C j))) ∧ ∃ q, w' = w.drewN q := by
  have hb := h.box
  have ci := h.com i hi
  have cj := h.com j hj
  have hi' : (i : Int) < (n : Int) := by omega
  have hj' : (j : Int) < (n : Int) := by omega
  obtain ⟨x, hx⟩ : ∃ x, x = C i := ⟨_, rfl⟩
  obtain ⟨y, hy⟩ : ∃ y, y = C j := ⟨_, rfl⟩
  rw [← hx] at ci ⊢; rw [← hy] at cj ⊢
  have HC := Lib.hid (cmp_compare x y)
  clear h hx hy
  go_enter Tryz.func70, Tryz.ntmps70
  go_wp2
  go_quiet (exact Calls.quiet_of_same ((HC.out _).mono fun e wz h => ⟨h.1, h.2.symm⟩))
  go_wp2
  go_ret
  exact ⟨rfl, _, rfl⟩

section
variable {α : Type} [Inhabited α] {enc : α → Value} {w0 W : World} {blk off : Nat} {dk : Array α}
theorem sw_grown (h : SW enc w0 blk off dk W) : w0.grownBy W (some blk) := by
  obtain ⟨n, os, rfl⟩ := h
  unfold sortWorld
  refine ⟨rfl, rfl, rfl, by simp [Sort.ahead], fun k hk hne => ?_⟩
  rw [Sort.heap_grow_old _ _ (by simpa [Sort.ahead] using hk)]
  have : blk ≠ k := fun e => hne (by rw [e])
  simp [Sort.putRow, Sort.mapBlock, Sort.ahead, Array.getElem?_modify, this]
end
theorem ComAt.grown {w w' : World} {bx sb so n cap b : Nat} {C : Nat → Int} (h : ComAt w bx sb so n cap C) (hg : w.grownBy w' (some b)) (h1 : bx ≠ b) (h2 : sb ≠ b) : ComAt w' bx sb so n cap C :=
  ⟨(hg.cell_far ⟨bx, 0, none⟩ (cell_lt h.box) (by simpa using h1)).trans h.box, fun i hi => (hg.cell_far ⟨sb, _, none⟩ (cell_lt (h.com i hi)) (by simpa using h2)).trans (h.com i hi)⟩

def encP (n : Nat) (x : Nat) : Value := .int .i64 ((x % n : Nat) : Int)
theorem encP_one (n : Nat) : OneCell (encP n) := fun _ => rfl
theorem encP_lt {n x : Nat} (h : x < n) : encP n x = .int .i64 (x : Int) := by unfold encP; rw [Nat.mod_eq_of_lt h]
def cfP (C : Nat → Int) (n : Nat) (x y : Nat) : Int := sgnI (C (x % n)) (C (y % n))
theorem lt_cfP (C : Nat → Int) (n : Nat) (x y : Nat) : ltOf (cfP C n) x y = ltC (fun i => C (i % n)) x y := by
  unfold ltOf cfP ltC sgnI
  apply decide_eq_decide.2
  split
  · simp [*]
  · split <;> simp [*]
theorem lays_cmp {bx sb so n cap blk off sz : Nat} {C : Nat → Int} {w : World} (h : ComAt w bx sb so n cap C) (hn : 0 < n) (h1 : bx ≠ blk) (h2 : sb ≠ blk) :
    CmpLays1 Tryz.prog 70 #[.pointer (some ⟨bx, 0, none⟩)] (encP n) (cfP C n) blk off sz w := by
  intro m os dk _ x y
  have hg := sw_grown (enc := encP n) (w0 := w) (blk := blk) (off := off) (dk := dk) ⟨m, os, rfl⟩
  refine (ord_cmp (x % n) (y % n) _ (h.grown hg h1 h2) (Nat.mod_lt _ hn) (Nat.mod_lt _ hn)).mono ?_
  rintro e w' ⟨rfl, q, rfl⟩
  exact ⟨rfl, q, #[], (Sort.grow_empty _).symm⟩

set_option maxRecDepth 100000 in
set_option maxHeartbeats 2000000 in
theorem ins_nil (fv : Value) (w : World) : Calls Tryz.prog 120 #[.slice none 0 0, .int .i64 0, .int .i64 0, fv] w fun e w' => e = .returned (.tuple #[]) ∧ w = w' := by
  go_enter Tryz.func120, Tryz.ntmps120
  go_wp2
  go_loop [8] (fun i => i = .int .i64 1) (fun _ => 0)
  case atStart => rfl
  case round =>
    obtain rfl := hrel
    go_wp2
    go_end0
    exact ⟨rfl, rfl⟩
set_option maxRecDepth 100000 in
set_option maxHeartbeats 2000000 in
theorem stable_nil (fv : Value) (w : World) : Calls Tryz.prog 69 #[.slice none 0 0, fv] w fun e w' => e = .returned (.tuple #[]) ∧ w = w' := by
  have hst : Calls Tryz.prog 98 #[.slice none 0 0, .int .i64 0, fv] w fun e w' => e = .returned (.tuple #[]) ∧ w = w' := by
    have HI := Lib.hid (ins_nil fv w)
    go_enter Tryz.func98, Tryz.ntmps98
    go_wp2
    go_loop [7, 8] (fun a b => a = .int .i64 0 ∧ b = .int .i64 20) (fun _ _ => 0)
    case atStart => exact ⟨rfl, rfl⟩
    case round =>
      obtain ⟨rfl, rfl⟩ := hrel
      go_wp2_with fail
      refine HI.out.mono ?_
      rintro e w' ⟨rfl, rfl⟩
      go_wp2_with fail
      go_loop [6] (fun a => a = .int .i64 20) (fun _ => 0)
      case atStart => rfl
      case round =>
        obtain rfl := hrel
        go_wp2
        go_end0
        exact ⟨rfl, rfl⟩
  go_enter Tryz.func69, Tryz.ntmps69
  go_wp2_with fail
  refine hst.mono ?_
  rintro e w' ⟨rfl, rfl⟩
  go_wp2_with fail
  go_end0
  exact ⟨rfl, rfl⟩

theorem ins_size (lt : Nat → Nat → Bool) (a b : Nat) (d : Array Nat) (hb : b ≤ d.size) : (Sort.insertionSort lt d a b).size = d.size := by
  have : ∀ (n i : Nat) (d : Array Nat), b - i = n → b ≤ d.size → (Sort.insOuter lt a b i d).size = d.size := by
    intro n
    induction n with
    | zero => intro i d h _; rw [io_stop _ _ _ _ _ (by omega)]
    | succ n ih =>
      intro i d h hb
      rw [io_go _ _ _ _ _ (by omega)]
      have h1 := (insInner_at lt a i d (by omega)).1
      rw [ih (i + 1) _ (by omega) (by rw [h1]; exact hb), h1]
  exact this _ _ d rfl hb
theorem ins_none (lt : Nat → Nat → Bool) (d : Array Nat) (a : Nat) : Sort.insertionSort lt d a a = d := by
  unfold Sort.insertionSort
  exact io_stop _ _ _ _ _ (by omega)

set_option maxRecDepth 100000 in
set_option maxHeartbeats 4000000 in
theorem stable_20 {bx sb so n cap blk c : Nat} {C : Nat → Int} (d : Array Nat) (w : World) (h : ComAt w bx sb so n cap C) (hn : 0 < n) (h1 : bx ≠ blk) (h2 : sb ≠ blk) (hH : Sort.Holds (encP n) w blk 0 d) (hblk : blk < w.heap.size) (hd : d.size ≤ 20) :
    Calls Tryz.prog 69 #[.slice (some ⟨blk, 0, none⟩) d.size c, .func (.func 70) #[] #[.pointer (some ⟨bx, 0, none⟩)]] w
      fun e w' => e = .returned (.tuple #[]) ∧ SW (encP n) w blk 0 (Sort.insertionSort (ltOf (cfP C n)) d 0 d.size) w' := by
  have hL := lays_cmp (off := 0) (sz := d.size) h hn h1 h2
  have R : Row1 (encP n) w blk 0 d := ⟨encP_one n, hH, hblk⟩
  have HI : Hid (∀ (dk : Array Nat) (a b : Nat) (W : World), dk.size = d.size → SW (encP n) w blk 0 dk W → a ≤ b → b ≤ d.size →
      Calls Tryz.prog 120 #[.slice (some ⟨blk, 0, none⟩) d.size c, .int .i64 a, .int .i64 b, .func (.func 70) #[] #[.pointer (some ⟨bx, 0, none⟩)]] W fun e w' => e = .returned (.tuple #[]) ∧ SW (encP n) w blk 0 (Sort.insertionSort (ltOf (cfP C n)) dk a b) w') :=
    Lib.hid (fun dk a b W hs S hab hb => by
      have := Tryz.slices_insertionSortCmp (encP n) (cfP C n) 70 #[.pointer (some ⟨bx, 0, none⟩)] blk 0 c a b d dk w W enters_cmp hL R hs.symm S hab (by omega) (by omega)
      rwa [hs] at this)
  have S0 := Lib.hid (SW.start hH)
  clear hL R hH h
  have hst : Calls Tryz.prog 98 #[.slice (some ⟨blk, 0, none⟩) d.size c, .int .i64 d.size, .func (.func 70) #[] #[.pointer (some ⟨bx, 0, none⟩)]] w
      fun e w' => e = .returned (.tuple #[]) ∧ SW (encP n) w blk 0 (Sort.insertionSort (ltOf (cfP C n)) d 0 d.size) w' := by
    have h20 : ¬ (20 : Int) < (d.size : Int) := by omega
    go_enter Tryz.func98, Tryz.ntmps98
    go_wp2
    by_cases hd20 : d.size = 20
    · have hge : (20 : Int) ≤ (d.size : Int) := by omega
      have hlt : ¬ (40 : Int) ≤ (d.size : Int) := by omega
      have HD := Lib.hid hd20; clear hd20
      go_loopw [7, 8] (fun a b wr => (a = .int .i64 0 ∧ b = .int .i64 20 ∧ Hid (wr = w)) ∨ (a = .int .i64 20 ∧ b = .int .i64 40 ∧ Hid (SW (encP n) w blk 0 (Sort.insertionSort (ltOf (cfP C n)) d 0 20) wr))) (fun _ b _ => (40 - intOf b).toNat)
      case atStart => exact Or.inl ⟨rfl, rfl, Lib.hid rfl⟩
      case round =>
        rcases hrel with ⟨rfl, rfl, hw⟩ | ⟨rfl, rfl, hS1⟩
        · obtain rfl := hw.out
          have HI0 := Lib.hid (HI.out d 0 20 wr rfl S0.out (Nat.zero_le _) (by omega))
          go_wp2_with fail
          refine HI0.out.mono ?_
          rintro e w' ⟨rfl, hS⟩
          have HS := Lib.hid hS; clear hS
          go_wp2_with fail
          go_roundw
          case rel => exact Or.inr ⟨rfl, rfl, HS⟩
          case measure => simp [intOf]
        · have hsz : (Sort.insertionSort (ltOf (cfP C n)) d 0 20).size = d.size := ins_size _ _ _ _ (by omega)
          have HI0 := Lib.hid (HI.out (Sort.insertionSort (ltOf (cfP C n)) d 0 20) 20 d.size wr hsz hS1.out (by omega) (Nat.le_refl _))
          clear hsz
          go_wp2_with fail
          refine HI0.out.mono ?_
          rintro e w' ⟨rfl, hS⟩
          have hS2 : SW (encP n) w blk 0 (Sort.insertionSort (ltOf (cfP C n)) d 0 d.size) w' := by
            rw [HD.out, ins_none] at hS
            rw [HD.out]; exact hS
          have HS := Lib.hid hS2; clear hS hS2
          go_wp2_with fail
          go_loop [6] (fun a => a = .int .i64 20) (fun _ => 0)
          case atStart => rfl
          case round =>
            obtain rfl := hrel
            go_wp2
            go_end0
            exact ⟨rfl, HS.out⟩
    · have hlt : ¬ (20 : Int) ≤ (d.size : Int) := by omega
      go_loopw [7, 8] (fun a b wr => a = .int .i64 0 ∧ b = .int .i64 20 ∧ Hid (wr = w)) (fun _ _ _ => 0)
      case atStart => exact ⟨rfl, rfl, Lib.hid rfl⟩
      case round =>
        obtain ⟨rfl, rfl, hw⟩ := hrel
        obtain rfl := hw.out
        have HI0 := Lib.hid (HI.out d 0 d.size wr rfl S0.out (Nat.zero_le _) (Nat.le_refl _))
        go_wp2_with fail
        refine HI0.out.mono ?_
        rintro e w' ⟨rfl, hS⟩
        have HS := Lib.hid hS; clear hS
        go_wp2_with fail
        go_loop [6] (fun a => a = .int .i64 20) (fun _ => 0)
        case atStart => rfl
        case round =>
          obtain rfl := hrel
          go_wp2
          go_end0
          exact ⟨rfl, HS.out⟩
  have HST := Lib.hid hst
  clear hst HI S0
  go_enter Tryz.func69, Tryz.ntmps69
  go_wp2_with fail
  refine HST.out.mono ?_
  rintro e w' ⟨rfl, hS⟩
  have HS := Lib.hid hS; clear hS
  go_wp2_with fail
  go_end0
  exact ⟨rfl, HS.out⟩
end Go.Proofs.YtfbgnpfhjbiikaaGreatDoor

namespace Go.Proofs.YtfbgnpfhjbiikaaGreatDoor
open Go Go.RowKit
theorem infoIntO : (Tryz.prog.info? 3).map (fun i => (i.zero, i.size, i.bytes)) = some (some (.int .i64 0), 1, 8) := by kernel_rfl
def idxO (l : List Sto) (k : Nat) : List Nat := (List.range k).filter (fun i => decide (0 < comF l i))
theorem idxO_succ (l : List Sto) (k : Nat) : idxO l (k + 1) = if 0 < comF l k then idxO l k ++ [k] else idxO l k := by
  unfold idxO
  rw [List.range_succ, List.filter_append]
  by_cases h : 0 < comF l k <;> simp [h]
theorem idxO_le (l : List Sto) (k : Nat) : (idxO l k).length ≤ k := Nat.le_trans (List.length_filter_le _ _) (by simp)
def OrdG (l : List Sto) (w : World) (e : Ending) (w' : World) : Prop := ∃ v, e = .returned v ∧ IsInts w' v (ordS l) ∧ (∀ k, v.ownBlock = some k → w.heap.size ≤ k) ∧ Below w.heap.size w w'

set_option maxRecDepth 100000 in
set_option maxHeartbeats 4000000 in
theorem model_order (l : List Sto) (v : Value) (w : World) (hv : IsStos w v l) (hl : l.length ≤ 1048576) (hk : (idxO l l.length).length ≤ 20) :
    Calls Tryz.prog 34 #[v] w (OrdG l w) := by
  obtain ⟨a, cap, rfl, hcap, hcc⟩ := hv
  have HC := Lib.hid hcc; have HK := Lib.hid hk; clear hcc hk
  obtain ⟨i0, hi, hz0, hz1, hz2⟩ := info_parts infoIntO
  have hzs := zeroSto
  go_enter Tryz.func34, Tryz.ntmps34
  go_upto_region 1 with fail
  refine wp_abs (F := fun W => One w.heap.size #[.slice a l.length cap] W ∧ Below w.heap.size w W ∧ W.heap.size = w.heap.size + 1) ⟨One.of _ _ _, (Below.refl _ _).alloc (Nat.le_refl _) _, by simp⟩ ?_
  rintro W1 ⟨hO, hb1, hs1⟩
  have HO := Lib.hid hO; have Hb1 := Lib.hid hb1
  have c0 := hO.c 0
  simp at c0
  have hlt1 := hO.lt
  have HW1 : Hid (W1.heap.size = w.heap.size + 1) := Lib.hid hs1
  clear hO hb1 hs1
  go_wp2_with fail
  go_loopw [2, 7] (fun s2 s7 wr => ∃ (k : Nat), k ≤ l.length ∧ s7 = .int .i64 k ∧ (∃ a2 c2, s2 = .slice a2 (idxO l k).length c2) ∧ Hid (idxO l k = [] → s2 = .slice none 0 0) ∧ Hid (wr.ownsRow (w.heap.size + 1) 3 1 s2 (idxO l k).length ((idxO l k).map (fun n : Nat => Value.int .i64 n))) ∧ Hid (Below W1.heap.size W1 wr)) (fun _ i _ => l.length - (intOf i).toNat)
  case atStart => exact ⟨0, Nat.zero_le _, rfl, ⟨none, 0, rfl⟩, Lib.hid (fun _ => rfl), Lib.hid (World.ownsRow_nil _ _ _ _), Lib.hid (Below.refl _ _)⟩
  case round =>
    obtain ⟨k, hk, rfl, ⟨a2, c2, rfl⟩, hnil, hrow, hbw⟩ := hrel
    by_cases hlt : k < l.length
    · have hltI : (k : Int) < (l.length : Int) := by omega
      rcases HC.out with hn | ⟨b, off, rfl, hblt, hst⟩
      · rw [hn] at hlt; simp at hlt
      obtain ⟨f, hsi, hat⟩ := hst k hlt
      have hb0 : Below w.heap.size w wr := Hb1.out.trans (hbw.out.mono Hb1.out.size)
      have HX := Lib.hid (idxO_succ l k)
      have Hcm : Hid (comF l k = (l.getD k dS).com) := Lib.hid rfl
      have hone := five_one hsi
      have HAT := Lib.hid (hat.below hb0 hblt)
      obtain ⟨x, hx⟩ : ∃ x, x = l.getD k dS := ⟨_, rfl⟩
      rw [← hx] at HAT Hcm hone
      have hlenK := idxO_le l k
      have Hbw := Lib.hid hbw.out; have Hrow := Lib.hid hrow.out; have Hone := Lib.hid hone
      clear hx hrow hb0 hst hat hsi hone
      go_upto_region 4 with (first
        | (refine wpl_load_sto rfl (.tmp 10) rfl rfl HAT.out ?_)
        | (refine wpl_store_sto rfl (.tmp 4) (.tmp 11) rfl rfl rfl rfl Hone.out ?_)
        | fail)
      refine wp_abs (F := fun W => One wr.heap.size (stoCells f x).toArray W ∧ Below wr.heap.size wr W) ⟨One.of _ _ _, (Below.refl _ _).alloc (Nat.le_refl _) _⟩ ?_
      rintro W2 ⟨hO2, hb2⟩
      have d13 := hO2.c 13
      simp [stoCells] at d13
      have hlt2 := hO2.lt
      have HB2 := Lib.hid hb2
      have HRow2 := Lib.hid (ownBelow Hrow.out hb2)
      clear hO2 hb2
      by_cases hp : 0 < x.com
      · have hp' : x.com > 0 := hp
        have hXe : Hid (idxO l (k + 1) = idxO l k ++ [k]) := Lib.hid (by rw [HX.out, if_pos (by rw [Hcm.out]; exact hp)])
        clear HX Hcm
        go_wp2_with (first
          | (at_builtin; refine wpList_append_own _ rfl (.tmp 15) (.tmp 17) 74 rfl (w.heap.size + 1) 3 i0 (.int .i64 0) 1 8 Tryz.underlying74 hi hz0 hz1 hz2 rfl (by decide) _ _ _ rfl (ownBelow HRow2.out ((Below.refl _ _).alloc (Nat.le_refl _) _)) ⟨W2.heap.size, 0, none⟩ 1 1 [.int .i64 k] rfl rfl (World.news_of_block (MapKept.heap_alloc _ _).1) (by intro u hu; rcases List.mem_singleton.1 hu with rfl; rfl) (by unfold maxLen; omega) (by omega) ?hbase ?go; (case hbase => have h1 := HB2.out.size; have h2 := Hbw.out.size; have h3 := HW1.out; simp; omega); intro v5 w5 hown5 hg5 _)
          | fail)
        obtain ⟨a6, c6, rfl⟩ := ownShape hown5
        go_roundw
        case rel =>
          refine ⟨k + 1, by omega, by go_num, ⟨a6, c6, by rw [hXe.out, List.length_append]; rfl⟩, Lib.hid (fun h => by rw [hXe.out] at h; simp at h), Lib.hid ?_, Lib.hid ?_⟩
          · rw [hXe.out, List.length_append, List.map_append]; exact hown5
          · have hbA : Below W1.heap.size W1 (W2.alloc (.cells #[.int .i64 k] 3)) := (Hbw.out.trans (HB2.out.mono Hbw.out.size)).alloc (by have h1 := HB2.out.size; have h2 := Hbw.out.size; omega) _
            exact hbA.grown hg5 hbA.size (fun k hk => by have := ownAbove HRow2.out k hk; have := HW1.out; omega)
        case measure => simp [intOf]; omega
      · have hp' : ¬ x.com > 0 := hp
        have hXe : Hid (idxO l (k + 1) = idxO l k) := Lib.hid (by rw [HX.out, if_neg (by rw [Hcm.out]; exact hp)])
        clear HX Hcm
        go_wp2_with fail
        go_roundw
        case rel => exact ⟨k + 1, by omega, by go_num, ⟨a2, c2, by rw [hXe.out]⟩, Lib.hid (fun h => by rw [hXe.out] at h; exact hnil.out h), Lib.hid (by rw [hXe.out]; exact HRow2.out), Lib.hid (Hbw.out.trans (HB2.out.mono Hbw.out.size))⟩
        case measure => simp [intOf]; omega
    · have hge : ¬ (k : Int) < (l.length : Int) := by omega
      obtain rfl : k = l.length := by omega
      have Hrow := Lib.hid hrow.out
      have hb0 : Below w.heap.size w wr := Hb1.out.trans (hbw.out.mono Hb1.out.size)
      have hbox : wr.cell? ⟨w.heap.size, 0, none⟩ = some (.slice a l.length cap) := (hbw.out.cell (p := ⟨w.heap.size, 0, none⟩) hlt1).trans c0
      have hK := HK.out
      by_cases hz : (idxO l l.length).length = 0
      · have hv2 := hnil.out (List.length_eq_zero_iff.1 hz)
        have hord : Hid (ordS l = []) := Lib.hid (by
          have h1 := ordL_length (comF l) l.length
          exact List.length_eq_zero_iff.1 (h1.trans hz))
        rw [hv2]
        have HN := Lib.hid (fun fv => stable_nil fv wr)
        have HB0 := Lib.hid hb0
        clear hv2 hnil hz hbox hb0 hrow Hrow
        go_wp2_with fail
        refine (HN.out _).mono ?_
        rintro e w' ⟨rfl, rfl⟩
        go_wp2_with fail
        go_ret
        exact ⟨.slice none 0 0, rfl, ⟨none, 0, by rw [hord.out]; rfl, by rw [hord.out]; exact Nat.le_refl _, Or.inl hord.out⟩, (fun k hk => (by cases hk)), HB0.out⟩
      · rcases hrow.out.2 with ⟨hv2, hn2⟩ | ⟨g, cap2, cur, hv2, hB2, hg2, hn2, hcap2, hsz2, htk2⟩
        · exact absurd hn2 hz
        · injection hv2 with e1 e2 e3
          subst e1; subst e3
          rcases HC.out with hn | ⟨b, off, rfl, hblt, hst⟩
          · exfalso; apply hz; unfold idxO; rw [hn]; rfl
          have hCom : ComAt wr w.heap.size b off l.length cap (comF l) := ⟨hbox, fun i hi => by
            obtain ⟨f, _, hat⟩ := hst i hi
            exact (hat.below hb0 hblt).all.2.2.2.2.2.2.2.2.2.2.2.2.2.1⟩
          have hlt : ∀ i ∈ idxO l l.length, i < l.length := fun i hi => by
            unfold idxO at hi
            exact List.mem_range.1 (List.mem_filter.1 hi).1
          have hH : Sort.Holds (encP l.length) wr g 0 (idxO l l.length).toArray := by
            intro j hj
            have hj' : j < (idxO l l.length).length := by simpa using hj
            refine ⟨?_, ?_⟩
            · have h1 := hrow.out.cellAt j (by omega)
              rw [Nat.zero_add, h1, List.getElem?_map, List.getElem?_eq_getElem hj', Option.map_some]
              have h2 : (idxO l l.length).toArray[j]! = (idxO l l.length)[j] := by simp [hj']
              rw [h2, encP_lt (hlt _ (List.getElem_mem hj'))]
            · unfold World.frozen?; rw [hg2]; simp
          have hgl : g < wr.heap.size := lt_of_block hg2
          have hl0 : 0 < l.length := by
            have := idxO_le l l.length
            omega
          have hsz : (idxO l l.length).toArray.size = (idxO l l.length).length := by simp
          have hst := stable_20 (c := c2) (idxO l l.length).toArray wr hCom hl0 (by omega) (by omega) hH hgl (by rw [hsz]; exact hK)
          rw [hsz] at hst
          have HSt := Lib.hid hst
          have HH := Lib.hid hH; have HB0 := Lib.hid hb0
          have hres : Hid ((Sort.insertionSort (ltOf (cfP (comF l) l.length)) (idxO l l.length).toArray 0 (idxO l l.length).length).toList = ordS l) := Lib.hid (by
            have e1 : ltOf (cfP (comF l) l.length) = ltC (fun i => comF l (i % l.length)) := by funext x y; exact lt_cfP _ _ x y
            have e2 : (idxO l l.length).toArray.toList = (List.range l.length).filter (fun i => decide (0 < comF l (i % l.length))) := by
              show idxO l l.length = _
              unfold idxO
              exact List.filter_congr (fun i hi => by rw [Nat.mod_eq_of_lt (List.mem_range.1 hi)])
            have h := ins_ord e2
            rw [e1, ← hsz, h]
            exact ordL_congr (fun i hi => by rw [Nat.mod_eq_of_lt hi]))
          have hol : Hid ((ordS l).length = (idxO l l.length).length) := Lib.hid (ordL_length _ _)
          have hgB := Lib.hid hB2
          clear hst hsz hH hCom hnil hz hrow Hrow hbox hb0 hg2 htk2 hsz2 hB2
          go_wp2_with fail
          refine HSt.out.mono ?_
          rintro e w' ⟨rfl, hS⟩
          have HS := Lib.hid hS; clear hS
          go_wp2_with fail
          go_ret
          refine ⟨.slice (some ⟨g, 0, none⟩) (idxO l l.length).length c2, rfl, ⟨some ⟨g, 0, none⟩, c2, by rw [hol.out], by rw [hol.out]; exact hn2, Or.inr ⟨g, 0, rfl, Nat.lt_of_lt_of_le hgl HS.out.le, fun i hi => ?_⟩⟩, (fun k hk => (by cases hk; have := hgB.out; show w.heap.size ≤ g; omega)), ?_⟩
          · have hsz2 : (Sort.insertionSort (ltOf (cfP (comF l) l.length)) (idxO l l.length).toArray 0 (idxO l l.length).length).size = (idxO l l.length).toArray.size := ins_size _ _ _ _ (by simp)
            have hi2 : i < (Sort.insertionSort (ltOf (cfP (comF l) l.length)) (idxO l l.length).toArray 0 (idxO l l.length).length).size := by rw [hsz2]; simpa [hol.out] using hi
            have h1 := (HS.out.holds hgl HH.out hsz2 i hi2).1
            rw [h1, getElem!_pos _ i hi2]
            have h3 : (Sort.insertionSort (ltOf (cfP (comF l) l.length)) (idxO l l.length).toArray 0 (idxO l l.length).length)[i] = (ordS l).getD i 0 := by
              rw [← hres.out, List.getD_eq_getElem?_getD, List.getElem?_eq_getElem (by simpa using hi2)]
              simp
            rw [h3, encP_lt]
            have hm : (ordS l).getD i 0 ∈ ordS l := by rw [List.getD_eq_getElem?_getD, List.getElem?_eq_getElem hi]; exact List.getElem_mem hi
            exact (mem_ordL.1 hm).1
          · exact HB0.out.grown (sw_grown HS.out) HB0.out.size (fun k hk => by cases hk; have := hgB.out; omega)
end Go.Proofs.YtfbgnpfhjbiikaaGreatDoor

namespace Go.Proofs.YtfbgnpfhjbiikaaGreatDoor
open Go Go.RowKit
def aloneB1 (s : Sto) : Bool := decide (s.frm ≤ 0) || (s.til != 0 && decide (s.til ≤ s.frm)) || (s.lost && s.til != 0)
def aloneB2 (s : Sto) : Bool := decide (0 < s.til) && ((s.err == 0) != decide (0 < s.com))
def aloneT (s : Sto) : Nat := if aloneB1 s then 1 else if aloneB2 s then 2 else 0

set_option maxRecDepth 100000 in
set_option maxHeartbeats 2000000 in
theorem model_alone (f : Five) (s : Sto) (w : World) :
    Calls Tryz.prog 64 #[.agg (stoCells f s).toArray] w fun e w' => e = .returned (.int .u8 (aloneT s)) ∧ Below w.heap.size w w' := by
  have HT : Hid (aloneT s = if aloneB1 s then 1 else if aloneB2 s then 2 else 0) := Lib.hid rfl
  have HB1 : Hid (aloneB1 s = (decide (s.frm ≤ 0) || (s.til != 0 && decide (s.til ≤ s.frm)) || (s.lost && s.til != 0))) := Lib.hid rfl
  have HB2 : Hid (aloneB2 s = (decide (0 < s.til) && ((s.err == 0) != decide (0 < s.com)))) := Lib.hid rfl
  generalize aloneT s = r at HT
  generalize aloneB1 s = b1 at HT HB1
  generalize aloneB2 s = b2 at HT HB2
  go_enter Tryz.func64, Tryz.ntmps64
  go_upto_region 1 with fail
  refine wp_abs (F := fun W => One w.heap.size (stoCells f s).toArray W ∧ Below w.heap.size w W) ⟨One.of _ _ _, (Below.refl _ _).alloc (Nat.le_refl _) _⟩ ?_
  rintro W ⟨hO, hb⟩
  have c8 := hO.c 8; have c9 := hO.c 9; have c10 := hO.c 10; have c13 := hO.c 13; have c14 := hO.c 14
  simp [stoCells] at c8 c9 c10 c13 c14
  have Hb := Lib.hid hb
  clear hO hb
  obtain ⟨_, _, fr, tl, ls, _, _, cm, er, _, _, _⟩ := s
  dsimp only at c8 c9 c10 c13 c14 HB1 HB2
  go_wp2_with fail
  all_goals (
    go_ret
    have h1 := HB1.out; have h2 := HB2.out; have h3 := HT.out
    clear HB1 HB2 HT
    refine ⟨ret_int ?_, Hb.out⟩
    clear Hb c8 c9 c10 c13 c14
    rw [h3]
    first
      | (simp_all; done)
      | (have g1 : b1 = true := by (rw [h1]; simp_all; done)
         simp [g1])
      | (have g1 : b1 = false := by (rw [h1]; simp_all; omega)
         have g2 : b2 = true := by (rw [h2]; simp_all; done)
         simp [g1, g2])
      | (have g1 : b1 = false := by (rw [h1]; simp_all; omega)
         have g2 : b2 = false := by (rw [h2]; simp_all; done)
         simp [g1, g2])
      | (have n1 : ¬ fr ≤ 0 := by omega
         have n2 : ¬ 0 < tl := by omega
         have g1 : b1 = false := by (rw [h1]; simp_all; done)
         have g2 : b2 = false := by (rw [h2]; simp [n2]; done)
         simp [g1, g2])
      | (have n1 : ¬ fr ≤ 0 := by omega
         have n2 : ¬ tl ≤ fr := by omega
         have n3 : (0 : Int) < tl := by omega
         have g1 : b1 = false := by (rw [h1]; simp_all; done)
         by_cases k5 : er = 0 <;> by_cases k6 : 0 < cm <;> simp_all))
end Go.Proofs.YtfbgnpfhjbiikaaGreatDoor

namespace Go.Proofs.YtfbgnpfhjbiikaaGreatDoor
open Go Go.RowKit
def lateT (l : List Sto) (o : List Nat) (k : Nat) : Bool :=
  (decide (0 < k) && (l.getD (o.getD (k - 1) 0) dS).com == (l.getD (o.getD k 0) dS).com) ||
  (o.drop (k + 1)).any (fun i => decide (0 < (l.getD i dS).til) && decide ((l.getD i dS).til < (l.getD (o.getD k 0) dS).frm))

theorem below_dn {B : Nat} {w w' : World} (h : Below B w w') (n : Nat) : Below B w (w'.drewN n) := ⟨h.os, h.tape, h.output, h.size, fun i hi => h.block i hi⟩
structure LateAt (w : World) (bx sb so n cap sx : Nat) (T : Nat → Int) (fr : Int) : Prop where
  box : w.cell? ⟨bx, 0, none⟩ = some (.slice (some ⟨sb, so, none⟩) n cap)
  til : ∀ i, i < n → w.cell? ⟨sb, so + i * 18 + 9, none⟩ = some (.int .i64 (T i))
  frm : w.cell? ⟨sx, 8, none⟩ = some (.int .i64 fr)
def lateB (T : Nat → Int) (fr : Int) (i : Nat) : Bool := decide (0 < T i) && decide (T i < fr)
theorem LateAt.drewN {w : World} {bx sb so n cap sx : Nat} {T : Nat → Int} {fr : Int} (h : LateAt w bx sb so n cap sx T fr) (q : Nat) : LateAt (w.drewN q) bx sb so n cap sx T fr := ⟨h.box, h.til, h.frm⟩

set_option maxRecDepth 100000 in
set_option maxHeartbeats 2000000 in
theorem late_one {bx sb so n cap sx : Nat} {T : Nat → Int} {fr : Int} (i : Nat) (w : World) (h : LateAt w bx sb so n cap sx T fr) (hi : i < n) :
    Calls Tryz.prog 92 #[.int .i64 i, .pointer (some ⟨bx, 0, none⟩), .pointer (some ⟨sx, 0, none⟩)] w fun e w' => e = .returned (.bool (lateB T fr i)) ∧ ∃ q, w' = w.drewN q := by
  have h1 := h.box
  have h2 := h.til i hi
  have h3 := h.frm
  have hi' : (i : Int) < (n : Int) := by omega
  have HB : Hid (lateB T fr i = (decide (0 < T i) && decide (T i < fr))) := Lib.hid rfl
  generalize lateB T fr i = r at HB
  obtain ⟨x, hx⟩ : ∃ x, T i = x := ⟨_, rfl⟩
  rw [hx] at h2 HB
  clear h hx
  by_cases hx0 : 0 < x
  · have hd : decide (x > 0) = true := decide_eq_true hx0
    by_cases hx1 : x < fr
    · have hd1 : decide (x < fr) = true := decide_eq_true hx1
      have hr : Hid (r = true) := Lib.hid (by rw [HB.out, decide_eq_true hx0, hd1]; rfl)
      clear HB
      go_enter Tryz.func92, Tryz.ntmps92
      go_wp2
      go_quiet (fail)
      go_wp2
      go_ret
      exact ⟨ret_bool (by rw [hr.out]), _, rfl⟩
    · have hd1 : decide (x < fr) = false := decide_eq_false hx1
      have hr : Hid (r = false) := Lib.hid (by rw [HB.out, decide_eq_true hx0, hd1]; rfl)
      clear HB
      go_enter Tryz.func92, Tryz.ntmps92
      go_wp2
      go_quiet (fail)
      go_wp2
      go_ret
      exact ⟨ret_bool (by rw [hr.out]), _, rfl⟩
  · have hd : decide (x > 0) = false := decide_eq_false hx0
    have hr : Hid (r = false) := Lib.hid (by rw [HB.out, decide_eq_false hx0]; rfl)
    clear HB
    go_enter Tryz.func92, Tryz.ntmps92
    go_wp2
    go_quiet (fail)
    go_wp2
    go_ret
    exact ⟨ret_bool (by rw [hr.out]), _, rfl⟩

def lateIdx (T : Nat → Int) (fr : Int) (o : List Nat) (r : Int) : Prop := (0 ≤ r ∧ o.any (lateB T fr) = true) ∨ (r = -1 ∧ o.any (lateB T fr) = false)
def LateIG (T : Nat → Int) (fr : Int) (o : List Nat) (w : World) (e : Ending) (w' : World) : Prop := ∃ r, e = .returned (.int .i64 r) ∧ lateIdx T fr o r ∧ ∃ q, w' = w.drewN q
theorem any_take_succ {α : Type} {p : α → Bool} {l : List α} {k : Nat} (hk : k < l.length) (d : α) : (l.take (k + 1)).any p = ((l.take k).any p || p (l.getD k d)) := by
  rw [List.take_succ_eq_append_getElem hk, List.any_append, List.getD_eq_getElem?_getD, List.getElem?_eq_getElem hk]; simp
set_option maxRecDepth 100000 in
set_option maxHeartbeats 2000000 in
theorem late_index {bx sb so n cap sx : Nat} {T : Nat → Int} {fr : Int} (o : List Nat) (vo : Value) (w : World) (h : LateAt w bx sb so n cap sx T fr) (ho : IsInts w vo o) (hall : ∀ i ∈ o, i < n) (hol : o.length ≤ 1048576) :
    Calls Tryz.prog 119 #[vo, .func (.func 92) #[] #[.pointer (some ⟨bx, 0, none⟩), .pointer (some ⟨sx, 0, none⟩)]] w (LateIG T fr o w) := by
  obtain ⟨a, cap2, rfl, _, hoo⟩ := ho
  have HO := Lib.hid hoo; have HA := Lib.hid hall; have HL := Lib.hid h
  clear hoo hall h
  go_enter Tryz.func119, Tryz.ntmps119
  go_wp2
  go_loopw [8] (fun i wr => ∃ k : Nat, k ≤ o.length ∧ i = .int .i64 k ∧ Hid ((o.take k).any (lateB T fr) = false) ∧ ∃ q, wr = w.drewN q) (fun i _ => o.length - (intOf i).toNat)
  case atStart => exact ⟨0, Nat.zero_le _, rfl, Lib.hid (by simp), 0, rfl⟩
  case round =>
    obtain ⟨k, hk, rfl, hn, q, rfl⟩ := hrel
    by_cases hlt : k < o.length
    · rcases HO.out with h0 | ⟨b, off, rfl, hblt, hc⟩
      · rw [h0] at hlt; simp at hlt
      have hck : (w.drewN q).cell? ⟨b, off + k, none⟩ = some (.int .i64 (o.getD k 0)) := hc k hlt
      have him : o.getD k 0 ∈ o := by rw [List.getD_eq_getElem?_getD, List.getElem?_eq_getElem hlt]; exact List.getElem_mem hlt
      have hin := HA.out _ him
      have HT := Lib.hid (any_take_succ (p := lateB T fr) hlt 0)
      obtain ⟨i, hi⟩ : ∃ i, o.getD k 0 = i := ⟨_, rfl⟩
      rw [hi] at hck hin HT
      have Hin := Lib.hid hin
      clear hi him hin hc
      have hltI : (k : Int) < (o.length : Int) := by omega
      have HC := Lib.hid (fun W => late_one (T := T) (fr := fr) (bx := bx) (sb := sb) (so := so) (n := n) (cap := cap) (sx := sx) i W)
      cases hb : lateB T fr i with
      | true =>
        rw [hb] at HC HT
        have HT2 : Hid (o.any (lateB T fr) = true) := Lib.hid (by
          have h1 := HT.out
          rw [Bool.or_true] at h1
          rw [List.any_eq_true] at h1 ⊢
          obtain ⟨x, hx, hy⟩ := h1
          exact ⟨x, List.mem_of_mem_take hx, hy⟩)
        clear HT
        go_wp2_with fail
        refine (HC.out _ (HL.out.drewN q) Hin.out).mono ?_
        rintro e w' ⟨rfl, q2, rfl⟩
        go_wp2_with fail
        go_ret
        exact ⟨_, rfl, Or.inl ⟨by omega, HT2.out⟩, q + q2, by first | rfl | rw [World.drewN_drewN]⟩
      | false =>
        rw [hb] at HC HT
        clear hb
        have HN : Hid ((o.take (k + 1)).any (lateB T fr) = false) := Lib.hid (by rw [HT.out, hn.out]; rfl)
        clear HT
        go_wp2_with fail
        refine (HC.out _ (HL.out.drewN q) Hin.out).mono ?_
        rintro e w' ⟨rfl, q2, rfl⟩
        go_wp2_with fail
        go_roundw
        case rel => exact ⟨k + 1, by omega, by go_num, HN, q + q2, by first | rfl | rw [World.drewN_drewN]⟩
        case measure => simp [intOf]; omega
    · have hge : ¬ (k : Int) < (o.length : Int) := by omega
      have hn2 : Hid (o.any (lateB T fr) = false) := Lib.hid (by have := hn.out; rwa [List.take_of_length_le (by omega)] at this)
      go_wp2
      go_ret
      exact ⟨-1, rfl, Or.inr ⟨rfl, hn2.out⟩, q, rfl⟩
set_option maxRecDepth 100000 in
set_option maxHeartbeats 2000000 in
theorem late_contains {bx sb so n cap sx : Nat} {T : Nat → Int} {fr : Int} (o : List Nat) (vo : Value) (w : World) (h : LateAt w bx sb so n cap sx T fr) (ho : IsInts w vo o) (hall : ∀ i ∈ o, i < n) (hol : o.length ≤ 1048576) :
    Calls Tryz.prog 91 #[vo, .func (.func 92) #[] #[.pointer (some ⟨bx, 0, none⟩), .pointer (some ⟨sx, 0, none⟩)]] w fun e w' => e = .returned (.bool (o.any (lateB T fr))) ∧ ∃ q, w' = w.drewN q := by
  have HI := Lib.hid (late_index o vo w h ho hall hol)
  clear h ho hall
  go_enter Tryz.func91, Tryz.ntmps91
  go_wp2_with fail
  refine HI.out.mono ?_
  rintro e w' ⟨r, rfl, hr, q, rfl⟩
  rcases hr with ⟨h1, h2⟩ | ⟨rfl, h2⟩
  · have H2 := Lib.hid h2; clear h2
    have h1' : r ≥ 0 := h1
    go_wp2_with fail
    go_ret
    exact ⟨ret_bool (by rw [H2.out]), q, rfl⟩
  · have H2 := Lib.hid h2; clear h2
    go_wp2_with fail
    go_ret
    exact ⟨ret_bool (by rw [H2.out]), q, rfl⟩

set_option maxRecDepth 100000 in
set_option maxHeartbeats 4000000 in
theorem model_late (l : List Sto) (v vo : Value) (o : List Nat) (k : Nat) (w : World) (hv : IsStos w v l) (ho : IsInts w vo o) (_hl : l.length ≤ 1048576) (hol : o.length ≤ 1048576) (hk : k < o.length) (hall : ∀ i ∈ o, i < l.length) :
    Calls Tryz.prog 66 #[v, vo, .int .i64 k] w fun e w' => e = .returned (.bool (lateT l o k)) ∧ Below w.heap.size w w' := by
  obtain ⟨a, cap, rfl, hcap, hcc⟩ := hv
  obtain ⟨a2, c2, rfl, hc2, hoo⟩ := ho
  have hol0 : o ≠ [] := fun h => by rw [h] at hk; simp at hk
  rcases hoo with h | ⟨ob, oo, rfl, hoblt, hoc⟩
  · exact absurd h hol0
  have him : o.getD k 0 ∈ o := by rw [List.getD_eq_getElem?_getD, List.getElem?_eq_getElem hk]; exact List.getElem_mem hk
  have hik := hall _ him
  rcases hcc with hn | ⟨b, off, rfl, hblt, hst⟩
  · rw [hn] at hik; simp at hik
  obtain ⟨i, hi⟩ : ∃ i, o.getD k 0 = i := ⟨_, rfl⟩
  rw [hi] at hik
  obtain ⟨f, hsi, hat⟩ := hst i hik
  have hck := hoc k hk
  rw [hi] at hck
  obtain ⟨s, hs⟩ : ∃ s, l.getD i dS = s := ⟨_, rfl⟩
  rw [hs] at hsi hat
  have HOC := Lib.hid hoc; have HST := Lib.hid hst; have Hi := Lib.hid hi; have Hs := Lib.hid hs; have HALL := Lib.hid hall
  have hone := five_one hsi
  clear hoc hst hi hs hall him hol0 hsi
  have hkI : (k : Int) < (o.length : Int) := by omega
  have hiI : (i : Int) < (l.length : Int) := by omega
  have hzs := zeroSto
  go_enter Tryz.func66, Tryz.ntmps66
  go_upto_region 1 with fail
  refine wp_abs (F := fun W => One w.heap.size #[.slice (some ⟨b, off, none⟩) l.length cap] W ∧ Below w.heap.size w W) ⟨One.of _ _ _, (Below.refl _ _).alloc (Nat.le_refl _) _⟩ ?_
  rintro W1 ⟨hO, hb1⟩
  have c0 := hO.c 0
  simp at c0
  have hck1 := (hb1.cell (p := ⟨ob, oo + k, none⟩) hoblt).trans hck
  have hat1 := hat.below hb1 hblt
  refine wp_region_held_drew (S := fun w' => w'.cell? ⟨w.heap.size, 0, none⟩ = some (.slice (some ⟨b, off, none⟩) l.length cap) ∧ w'.cell? ⟨ob, oo + k, none⟩ = some (.int .i64 i) ∧ StoAt w' b (off + i * 18) f s) (by kernel_rfl) ⟨c0, hck1, hat1⟩ (fun hS => ?_)
  -- TAKES
  refine wpAnyH_take (i := 0) (oi := { dst := some 8, op := Op.load 68 (Operand.tmp 3), type := 68, pos := "model.go:62", after := #[], guard := none }) (v := .slice (some ⟨b, off, none⟩) l.length cap) rfl (by kernel_rfl) (by kernel_rfl) (by kernel_rfl) (fun _ _ _ h => h) (Or.inl ⟨by rfl, fun w' hw => ?_⟩) hS ?_
  · obtain ⟨h1, h2, h3⟩ := hw
    clear h3
    go_simp
  simp only [Act.put, List.setIfInBounds_toArray, List.set_cons_zero, List.set_cons_succ]
  refine wpAnyH_take (i := 1) (oi := { dst := some 9, op := Op.move (Operand.tmp 1), type := 74, pos := "model.go:62", after := #[], guard := none }) (v := .slice (some ⟨ob, oo, none⟩) o.length c2) rfl (by kernel_rfl) (by kernel_rfl) (by kernel_rfl) (fun _ _ _ h => h) (Or.inl ⟨by rfl, fun w' hw => ?_⟩) hS ?_
  · obtain ⟨h1, h2, h3⟩ := hw
    clear h3
    go_simp
  simp only [Act.put, List.setIfInBounds_toArray, List.set_cons_zero, List.set_cons_succ]
  refine wpAnyH_take (i := 2) (oi := { dst := some 10, op := Op.move (Operand.tmp 2), type := 3, pos := "model.go:62", after := #[], guard := none }) (v := .int .i64 k) rfl (by kernel_rfl) (by kernel_rfl) (by kernel_rfl) (fun _ _ _ h => h) (Or.inl ⟨by rfl, fun w' hw => ?_⟩) hS ?_
  · obtain ⟨h1, h2, h3⟩ := hw
    clear h3
    go_simp
  simp only [Act.put, List.setIfInBounds_toArray, List.set_cons_zero, List.set_cons_succ]
  refine wpAnyH_take (i := 3) (oi := { dst := some 11, op := Op.indexAddr 74 (Operand.tmp 9) (Operand.tmp 10), type := 0, pos := "model.go:62", after := #[{ on := 1, ground := Ground.data }, { on := 2, ground := Ground.data }], guard := none }) (v := .pointer (some ⟨ob, oo + k, none⟩)) rfl (by kernel_rfl) (by kernel_rfl) (by kernel_rfl) (fun _ _ _ h => h) (Or.inl ⟨by rfl, fun w' hw => ?_⟩) hS ?_
  · obtain ⟨h1, h2, h3⟩ := hw
    clear h3
    go_simp
  simp only [Act.put, List.setIfInBounds_toArray, List.set_cons_zero, List.set_cons_succ]
  refine wpAnyH_take (i := 4) (oi := { dst := some 12, op := Op.load 3 (Operand.tmp 11), type := 3, pos := "model.go:62", after := #[{ on := 3, ground := Ground.data }], guard := none }) (v := .int .i64 i) rfl (by kernel_rfl) (by kernel_rfl) (by kernel_rfl) (fun _ _ _ h => h) (Or.inl ⟨by rfl, fun w' hw => ?_⟩) hS ?_
  · obtain ⟨h1, h2, h3⟩ := hw
    clear h3
    go_simp
  simp only [Act.put, List.setIfInBounds_toArray, List.set_cons_zero, List.set_cons_succ]
  refine wpAnyH_take (i := 5) (oi := { dst := some 13, op := Op.indexAddr 68 (Operand.tmp 8) (Operand.tmp 12), type := 0, pos := "model.go:62", after := #[{ on := 0, ground := Ground.data }, { on := 4, ground := Ground.data }], guard := none }) (v := .pointer (some ⟨b, off + i * 18, none⟩)) rfl (by kernel_rfl) (by kernel_rfl) (by kernel_rfl) (fun _ _ _ h => h) (Or.inl ⟨by rfl, fun w' hw => ?_⟩) hS ?_
  · obtain ⟨h1, h2, h3⟩ := hw
    clear h3
    go_simp
  simp only [Act.put, List.setIfInBounds_toArray, List.set_cons_zero, List.set_cons_succ]
  refine wpAnyH_take (i := 6) (oi := { dst := some 14, op := Op.load 87 (Operand.tmp 13), type := 87, pos := "model.go:62", after := #[{ on := 5, ground := Ground.data }], guard := none }) (v := .agg (stoCells f s).toArray) rfl (by kernel_rfl) (by kernel_rfl) (by kernel_rfl) (fun _ _ _ h => h) (yieldsIf_load_mid (by rfl) 87 _ rfl b (off + i * 18) rfl (stoCells f s) _ (fun w' hw => hw.2.2) Tryz.underlying87 rfl infoStoL) hS ?_
  simp only [Act.put, List.setIfInBounds_toArray, List.set_cons_zero, List.set_cons_succ]
  refine wpAnyH_ready (rs := [7]) (by kernel_rfl) (by simp) ?_
  refine AllReadyH.cons (o := { dst := some 7, op := Op.alloc 87, type := 0, pos := "model.go:62", after := #[], guard := none }) rfl (fun K hK => ?_) AllReadyH.nil
  rw [if_pos (by rfl)]
  go_simp
  refine hK.out _ _ ⟨?_, ?_, ?_⟩ (fun _ => ?_)
  · exact (((Below.refl _ _).alloc (Nat.le_refl _) _).cell (p := ⟨w.heap.size, 0, none⟩) hO.lt).trans c0
  · exact (((Below.refl _ _).alloc (Nat.le_refl _) _).cell (p := ⟨ob, oo + k, none⟩) (by have := hb1.size; show ob < W1.heap.size; omega)).trans hck1
  · exact hat1.below (Below.drew ((Below.refl _ _).alloc (Nat.le_refl _) _)) (by have := hb1.size; show b < W1.heap.size; omega)
  refine wpAnyH_ready (rs := [8]) (by kernel_rfl) (by simp) ?_
  refine AllReadyH.cons (o := { dst := none, op := Op.store 87 (Operand.tmp 7) (Operand.tmp 14), type := 0, pos := "model.go:62", after := #[{ on := 7, ground := Ground.data }, { on := 6, ground := Ground.data }, { on := 0, ground := Ground.phase }, { on := 1, ground := Ground.phase }, { on := 2, ground := Ground.phase }, { on := 3, ground := Ground.phase }, { on := 4, ground := Ground.phase }, { on := 5, ground := Ground.phase }, { on := 6, ground := Ground.phase }, { on := 7, ground := Ground.phase }], guard := none }) rfl (fun K hK => ?_) AllReadyH.nil
  rw [if_pos (by rfl)]
  refine wp_store_stoD _ _ rfl _ rfl rfl rfl hone ?_
  simp only [Act.put]
  refine hK.out _ _ ⟨?_, ?_, ?_⟩ (fun _ => ?_)
  · exact (((Below.refl _ _).alloc (Nat.le_refl _) _).cell (p := ⟨w.heap.size, 0, none⟩) hO.lt).trans c0
  · exact (((Below.refl _ _).alloc (Nat.le_refl _) _).cell (p := ⟨ob, oo + k, none⟩) (by have := hb1.size; show ob < W1.heap.size; omega)).trans hck1
  · exact hat1.below (Below.drew ((Below.refl _ _).alloc (Nat.le_refl _) _)) (by have := hb1.size; show b < W1.heap.size; omega)
  refine wpAnyH_done (by kernel_rfl) ?_ _
  clear hS
  -- END
  go_upto_region 2 with fail
  refine wp_abs (F := fun W => StoAt W W1.heap.size 0 f s ∧ Below W1.heap.size W1 W) ⟨fun j u hj => one_sto W1 f s j u hj, Below.drew ((Below.refl _ _).alloc (Nat.le_refl _) _)⟩ ?_
  rintro W2 ⟨hs2, hb2⟩
  have hb02 : Below w.heap.size w W2 := hb1.trans (hb2.mono hb1.size)
  have d0 : W2.cell? ⟨w.heap.size, 0, none⟩ = some (.slice (some ⟨b, off, none⟩) l.length cap) := (hb2.cell (p := ⟨w.heap.size, 0, none⟩) hO.lt).trans c0
  have d8 := hs2 8 _ rfl
  have d13 := hs2 13 _ rfl
  rw [Nat.zero_add] at d8 d13
  have HLA : Hid (LateAt W2 w.heap.size b off l.length cap W1.heap.size (fun i => (l.getD i dS).til) s.frm) := Lib.hid ⟨d0, fun i hi => by
    obtain ⟨f, _, hat⟩ := HST.out i hi
    exact (hat.below hb02 hblt).all.2.2.2.2.2.2.2.2.2.1, d8⟩
  have HO2 : Hid (∀ i, i < o.length → W2.cell? ⟨ob, oo + i, none⟩ = some (.int .i64 (o.getD i 0))) := Lib.hid (fun i hi => (hb02.cell (p := ⟨ob, oo + i, none⟩) hoblt).trans (HOC.out i hi))
  have Hob2 : Hid (ob < W2.heap.size) := Lib.hid (by have := hb02.size; omega)
  have HB02 := Lib.hid hb02
  have HT : Hid (lateT l o k = ((decide (0 < k) && (l.getD (o.getD (k - 1) 0) dS).com == s.com) || (o.drop (k + 1)).any (lateB (fun i => (l.getD i dS).til) s.frm))) := Lib.hid (by
    unfold lateT lateB
    rw [Hi.out, Hs.out])
  have hdl : (o.drop (k + 1)).length = o.length - (k + 1) := List.length_drop
  have HSub : Hid (∀ a' c', (a' = some ⟨ob, oo + (k + 1), none⟩ ∧ c' = c2 - (k + 1) ∨ o.length = k + 1 ∧ c' = c2 - (k + 1)) → IsInts W2 (.slice a' (o.length - (k + 1)) c') (o.drop (k + 1))) := Lib.hid (by
    rintro a' c' (⟨rfl, rfl⟩ | ⟨h1, rfl⟩)
    · refine ⟨_, _, by rw [hdl], by rw [hdl]; omega, Or.inr ⟨ob, oo + (k + 1), rfl, Hob2.out, fun i hi => ?_⟩⟩
      rw [hdl] at hi
      have h2 := HO2.out (k + 1 + i) (by omega)
      rw [show oo + (k + 1 + i) = oo + (k + 1) + i by omega] at h2
      rw [h2]; simp [List.getD_eq_getElem?_getD]
    · exact ⟨_, _, by rw [hdl], by rw [hdl]; omega, Or.inl (List.drop_eq_nil_of_le (by omega))⟩)
  have hdall : Hid (∀ i ∈ o.drop (k + 1), i < l.length) := Lib.hid (fun i hi => HALL.out i (List.mem_of_mem_drop hi))
  have HCt := Lib.hid (fun (q : Nat) (vo : Value) (hv : IsInts W2 vo (o.drop (k + 1))) => late_contains (o.drop (k + 1)) vo (W2.drewN q) (HLA.out.drewN q) (hv.below (below_dn (Below.refl _ _) q) (Nat.le_refl _)) hdall.out (by rw [hdl]; omega))
  have H13 := Lib.hid d13
  have hBlt := Lib.hid hblt
  clear c0 hck hck1 hat hat1 hone hs2 hb2 hb02 d8 d13 hO hb1 hdl hdall
  obtain ⟨z, hz⟩ : ∃ z, (o.drop (k + 1)).any (lateB (fun i => (l.getD i dS).til) s.frm) = z := ⟨_, rfl⟩
  rw [hz] at HT HCt
  clear hz
  have hwk1 : IntKind.i64.wrap ((k : Int) + 1) = ((k + 1 : Nat) : Int) := by rw [IntKind.wrap_i64]; omega
  have hHD0 : Hid (∀ wz, Below W2.heap.size W2 wz → Below w.heap.size w wz) := Lib.hid (fun wz h => HB02.out.trans (h.mono HB02.out.size))
  obtain ⟨sc, hsc⟩ : ∃ sc, s.com = sc := ⟨_, rfl⟩
  rw [hsc] at HT H13
  have d13 := H13.out
  clear hsc H13
  by_cases hk0 : 0 < k
  · obtain ⟨kp, hkp⟩ : ∃ kp, k = kp + 1 := ⟨k - 1, by omega⟩
    have ck := HO2.out kp (by omega)
    have him : o.getD kp 0 ∈ o := by rw [List.getD_eq_getElem?_getD, List.getElem?_eq_getElem (by omega)]; exact List.getElem_mem _
    have hj := HALL.out _ him
    obtain ⟨f2, _, hat2⟩ := HST.out _ hj
    have cy := (hat2.below HB02.out hBlt.out).all.2.2.2.2.2.2.2.2.2.2.2.2.2.1
    have HT2 : Hid (lateT l o k = (((l.getD (o.getD kp 0) dS).com == sc) || z)) := Lib.hid (by rw [HT.out, decide_eq_true hk0, Bool.true_and, show k - 1 = kp by omega])
    obtain ⟨j, hjj⟩ : ∃ j, o.getD kp 0 = j := ⟨_, rfl⟩
    rw [hjj] at ck hj cy HT2
    obtain ⟨y, hy⟩ : ∃ y, (l.getD j dS).com = y := ⟨_, rfl⟩
    rw [hy] at cy HT2
    have hkpI : (kp : Int) < (o.length : Int) := by omega
    have hjI : (j : Int) < (l.length : Int) := by omega
    have hkw : IntKind.i64.wrap ((k : Int) - 1) = (kp : Int) := by rw [IntKind.wrap_i64]; omega
    have hk0d : decide ((k : Int) > 0) = true := by simp; omega
    have Hkp := Lib.hid hkp
    clear hjj hy him hat2 HT hkp hj
    by_cases hxy : y = sc
    · have hb : ((y : Int) == sc) = true := by simp [hxy]
      have hr : Hid (lateT l o k = true) := Lib.hid (by rw [HT2.out, hb]; rfl)
      clear HT2 hxy
      go_quiet (fail)
      go_wp2_with fail
      go_ret
      exact ⟨ret_bool (by rw [hr.out]), below_dn HB02.out _⟩
    · have hb : ((y : Int) == sc) = false := by simp [hxy]
      have hr : Hid (lateT l o k = z) := Lib.hid (by rw [HT2.out, hb]; rfl)
      clear HT2 hxy
      go_quiet (fail)
      go_wp2_with fail
      all_goals (
        refine (HCt.out _ _ (HSub.out _ _ ?_)).mono ?_
        · first | exact Or.inl ⟨rfl, rfl⟩ | exact Or.inr ⟨by omega, rfl⟩ | exact Or.inr ⟨by omega, by omega⟩
        rintro e w' ⟨rfl, q, rfl⟩
        go_wp2_with fail
        go_ret
        exact ⟨ret_bool (by rw [hr.out]), by first | exact below_dn HB02.out _ | exact below_dn (below_dn HB02.out _) _⟩)
  · have hk0d : decide ((k : Int) > 0) = false := by simp; omega
    have hr : Hid (lateT l o k = z) := Lib.hid (by rw [HT.out, decide_eq_false hk0]; rfl)
    clear HT
    go_quiet (fail)
    go_wp2_with fail
    all_goals (
      refine (HCt.out _ _ (HSub.out _ _ ?_)).mono ?_
      · first | exact Or.inl ⟨rfl, rfl⟩ | exact Or.inr ⟨by omega, rfl⟩ | exact Or.inr ⟨by omega, by omega⟩
      rintro e w' ⟨rfl, q, rfl⟩
      go_wp2_with fail
      go_ret
      exact ⟨ret_bool (by rw [hr.out]), by first | exact below_dn HB02.out _ | exact below_dn (below_dn HB02.out _) _⟩)
end Go.Proofs.YtfbgnpfhjbiikaaGreatDoor
