/- Calls, replies and stories, as they lie in memory. A story, loaded whole; stored whole into the block that was made last. DERIVED: THE SHELF's CONTRACTS AT THIS DUMP, IN PLAIN WORDS (tools/lay-plain.mjs out of 'TryzShelf.lean', which tools/lay-shelf.mjs wrote): THE SAME DECLARATIONS UNDER THE SAME NAMES: 'import', 'namespace', 'open', 'def', 'theorem' AND NOTHING ELSE: no command of the shelf's: FOR A HAND-IN. Each laying: the table of numbers ('.._ren') and one theorem, a field a fact of the dump's own or the kernel's comparison; each contract: ONE APPLICATION. Contract: scriniumlaw18.works. Contracts: table.copied, Table.Rows; scriniumref17.Same, scriniumref18.Same where both are one. Contract: Table.Rows. Contracts: scriniumref17.Same, scriniumref18.Same, where both are one. model.Order's comparison; slices.SortStableFunc over places by it: at most twenty. slices.swapRangeCmpFunc, rotateCmpFunc over places: what is exchanged, what is turned. slices.symMergeCmpFunc over places: two runs that rise become one; where one of them is one place. -/
import Derived.Test.YtfbgnpfhjbiikaaGreatDoorQp03
import Derived.Deep.MidRow
import Derived.Deep.WholeRow
import Derived.Ground.SlsfProg
import Derived.Shelf.SlSortCmp.Insertion1
import Derived.Test.YtfbgnpfhjbiikaaGreatDoorProg
import Derived.Deep.LoopGhost
namespace Go.Proofs.YtfbgnpfhjbiikaaGreatDoor
open Go Go.RowKit
structure Rd where
  path : ByteArray
  n : Nat
def dRd : Rd := ⟨ByteArray.empty, 0⟩
def IsRds (w : World) (v : Value) (l : List Rd) : Prop :=
  ∃ a cap, v = .slice a l.length cap ∧ (l = [] ∨ ∃ b off, a = some ⟨b, off, none⟩ ∧ b < w.heap.size ∧ ∀ i, i < l.length → w.cell? ⟨b, off + i * 2, none⟩ = some (.string (l.getD i dRd).path) ∧ w.cell? ⟨b, off + i * 2 + 1, none⟩ = some (.int .u64 (l.getD i dRd).n))
theorem IsRds.below {w w' : World} {v : Value} {l : List Rd} {B : Nat} (h : IsRds w v l) (hb : Below B w w') (hB : w.heap.size ≤ B) : IsRds w' v l := by
  obtain ⟨a, cap, hv, h⟩ := h
  refine ⟨a, cap, hv, ?_⟩
  rcases h with h | ⟨b, off, ha, hlt, hc⟩
  · exact Or.inl h
  · exact Or.inr ⟨b, off, ha, by have := hb.size; omega, fun i hi => ⟨(hb.cell (p := ⟨b, _, none⟩) (by show b < B; omega)).trans (hc i hi).1, (hb.cell (p := ⟨b, _, none⟩) (by show b < B; omega)).trans (hc i hi).2⟩⟩
theorem IsRds.nil (w : World) : IsRds w (.slice none 0 0) [] := ⟨none, 0, rfl, Or.inl rfl⟩

structure GotR where
  ver : Ver
  err : Int
def dG : GotR := ⟨dV, 0⟩
def gotCells (g : GotR) : List Value := [.int .u64 g.ver.n, .int .u8 g.ver.st, .string g.ver.tx, .int .i64 g.err]
def IsGots (w : World) (v : Value) (l : List GotR) : Prop :=
  ∃ a cap, v = .slice a l.length cap ∧ (l = [] ∨ ∃ b off, a = some ⟨b, off, none⟩ ∧ b < w.heap.size ∧ ∀ i, i < l.length → w.cell? ⟨b, off + i * 4, none⟩ = some (.int .u64 (l.getD i dG).ver.n) ∧ w.cell? ⟨b, off + i * 4 + 1, none⟩ = some (.int .u8 (l.getD i dG).ver.st) ∧ w.cell? ⟨b, off + i * 4 + 2, none⟩ = some (.string (l.getD i dG).ver.tx) ∧ w.cell? ⟨b, off + i * 4 + 3, none⟩ = some (.int .i64 (l.getD i dG).err))
theorem IsGots.below {w w' : World} {v : Value} {l : List GotR} {B : Nat} (h : IsGots w v l) (hb : Below B w w') (hB : w.heap.size ≤ B) : IsGots w' v l := by
  obtain ⟨a, cap, hv, h⟩ := h
  refine ⟨a, cap, hv, ?_⟩
  rcases h with h | ⟨b, off, ha, hlt, hc⟩
  · exact Or.inl h
  · refine Or.inr ⟨b, off, ha, by have := hb.size; omega, fun i hi => ?_⟩
    obtain ⟨h0, h1, h2, h3⟩ := hc i hi
    have k : ∀ j, w'.cell? ⟨b, j, none⟩ = w.cell? ⟨b, j, none⟩ := fun j => hb.cell (p := ⟨b, j, none⟩) (by show b < B; omega)
    exact ⟨(k _).trans h0, (k _).trans h1, (k _).trans h2, (k _).trans h3⟩
theorem IsGots.nil (w : World) : IsGots w (.slice none 0 0) [] := ⟨none, 0, rfl, Or.inl rfl⟩

structure Cal where
  kind : Nat
  rds : List Rd
  eds : List Edt
  pre : ByteArray
  f : Nat
  t : Nat
  dst : Nat
def dCal : Cal := ⟨0, [], [], ByteArray.empty, 0, 0, 0⟩
def calVal (vR vE : Value) (c : Cal) : Value := .agg #[.int .u8 c.kind, vR, vE, .string c.pre, .int .u64 c.f, .int .u64 c.t, .int .u32 c.dst]
structure CalIs (w : World) (vR vE : Value) (c : Cal) : Prop where
  r : IsRds w vR c.rds
  e : IsEdts w vE c.eds
theorem CalIs.below {w w' : World} {vR vE : Value} {c : Cal} {B : Nat} (h : CalIs w vR vE c) (hb : Below B w w') (hB : w.heap.size ≤ B) : CalIs w' vR vE c := ⟨h.r.below hb hB, h.e.below hb hB⟩

structure Sto where
  client : Int
  call : Cal
  frm : Int
  til : Int
  lost : Bool
  life : Nat
  txn : Nat
  com : Int
  err : Int
  got : List GotR
  nums : List Nat
  names : List ByteArray
def dS : Sto := ⟨0, dCal, 0, 0, false, 0, 0, 0, 0, [], [], []⟩
structure Five where
  r : Value
  e : Value
  g : Value
  n : Value
  m : Value
def stoCells (v : Five) (s : Sto) : List Value := [.int .i64 s.client, .int .u8 s.call.kind, v.r, v.e, .string s.call.pre, .int .u64 s.call.f, .int .u64 s.call.t, .int .u32 s.call.dst, .int .i64 s.frm, .int .i64 s.til, .bool s.lost, .int .u64 s.life, .int .u64 s.txn, .int .i64 s.com, .int .i64 s.err, v.g, v.n, v.m]
structure StoIs (w : World) (v : Five) (s : Sto) : Prop where
  c : CalIs w v.r v.e s.call
  g : IsGots w v.g s.got
  n : IsNums w v.n s.nums
  m : IsStrs w v.m s.names
theorem StoIs.below {w w' : World} {v : Five} {s : Sto} {B : Nat} (h : StoIs w v s) (hb : Below B w w') (hB : w.heap.size ≤ B) : StoIs w' v s := ⟨h.c.below hb hB, h.g.below hb hB, h.n.below hb hB, h.m.below hb hB⟩
def StoAt (w : World) (b o : Nat) (v : Five) (s : Sto) : Prop := ∀ j u, (stoCells v s)[j]? = some u → w.cell? ⟨b, o + j, none⟩ = some u
theorem StoAt.all {w : World} {b o : Nat} {v : Five} {s : Sto} (h : StoAt w b o v s) :
    w.cell? ⟨b, o, none⟩ = some (.int .i64 s.client) ∧ w.cell? ⟨b, o + 1, none⟩ = some (.int .u8 s.call.kind) ∧ w.cell? ⟨b, o + 2, none⟩ = some v.r ∧ w.cell? ⟨b, o + 3, none⟩ = some v.e ∧ w.cell? ⟨b, o + 4, none⟩ = some (.string s.call.pre) ∧ w.cell? ⟨b, o + 5, none⟩ = some (.int .u64 s.call.f) ∧ w.cell? ⟨b, o + 6, none⟩ = some (.int .u64 s.call.t) ∧ w.cell? ⟨b, o + 7, none⟩ = some (.int .u32 s.call.dst) ∧
    w.cell? ⟨b, o + 8, none⟩ = some (.int .i64 s.frm) ∧ w.cell? ⟨b, o + 9, none⟩ = some (.int .i64 s.til) ∧ w.cell? ⟨b, o + 10, none⟩ = some (.bool s.lost) ∧ w.cell? ⟨b, o + 11, none⟩ = some (.int .u64 s.life) ∧ w.cell? ⟨b, o + 12, none⟩ = some (.int .u64 s.txn) ∧ w.cell? ⟨b, o + 13, none⟩ = some (.int .i64 s.com) ∧ w.cell? ⟨b, o + 14, none⟩ = some (.int .i64 s.err) ∧
    w.cell? ⟨b, o + 15, none⟩ = some v.g ∧ w.cell? ⟨b, o + 16, none⟩ = some v.n ∧ w.cell? ⟨b, o + 17, none⟩ = some v.m :=
  ⟨h 0 _ rfl, h 1 _ rfl, h 2 _ rfl, h 3 _ rfl, h 4 _ rfl, h 5 _ rfl, h 6 _ rfl, h 7 _ rfl, h 8 _ rfl, h 9 _ rfl, h 10 _ rfl, h 11 _ rfl, h 12 _ rfl, h 13 _ rfl, h 14 _ rfl, h 15 _ rfl, h 16 _ rfl, h 17 _ rfl⟩
theorem StoAt.below {w w' : World} {b o B : Nat} {v : Five} {s : Sto} (h : StoAt w b o v s) (hb : Below B w w') (hlt : b < B) : StoAt w' b o v s := fun j u hj => (hb.cell (p := ⟨b, o + j, none⟩) hlt).trans (h j u hj)
def IsStos (w : World) (v : Value) (l : List Sto) : Prop :=
  ∃ a cap, v = .slice a l.length cap ∧ l.length ≤ cap ∧ (l = [] ∨ ∃ b off, a = some ⟨b, off, none⟩ ∧ b < w.heap.size ∧ ∀ i, i < l.length → ∃ f : Five, StoIs w f (l.getD i dS) ∧ StoAt w b (off + i * 18) f (l.getD i dS))
theorem IsStos.below {w w' : World} {v : Value} {l : List Sto} {B : Nat} (h : IsStos w v l) (hb : Below B w w') (hB : w.heap.size ≤ B) : IsStos w' v l := by
  obtain ⟨a, cap, hv, hc, h⟩ := h
  refine ⟨a, cap, hv, hc, ?_⟩
  rcases h with h | ⟨b, off, ha, hlt, hc⟩
  · exact Or.inl h
  · refine Or.inr ⟨b, off, ha, by have := hb.size; omega, fun i hi => ?_⟩
    obtain ⟨f, h1, h2⟩ := hc i hi
    exact ⟨f, h1.below hb hB, h2.below hb (by omega)⟩
def comF (l : List Sto) (i : Nat) : Int := (l.getD i dS).com
def ordS (l : List Sto) : List Nat := ordL (comF l) l.length

def IsInts (w : World) (v : Value) (l : List Nat) : Prop :=
  ∃ a cap, v = .slice a l.length cap ∧ l.length ≤ cap ∧ (l = [] ∨ ∃ b off, a = some ⟨b, off, none⟩ ∧ b < w.heap.size ∧ ∀ i, i < l.length → w.cell? ⟨b, off + i, none⟩ = some (.int .i64 (l.getD i 0)))
theorem IsInts.below {w w' : World} {v : Value} {l : List Nat} {B : Nat} (h : IsInts w v l) (hb : Below B w w') (hB : w.heap.size ≤ B) : IsInts w' v l := by
  obtain ⟨a, cap, hv, hc, h⟩ := h
  refine ⟨a, cap, hv, hc, ?_⟩
  rcases h with h | ⟨b, off, ha, hlt, hc⟩
  · exact Or.inl h
  · exact Or.inr ⟨b, off, ha, by have := hb.size; omega, fun i hi => (hb.cell (p := ⟨b, _, none⟩) (by show b < B; omega)).trans (hc i hi)⟩
end Go.Proofs.YtfbgnpfhjbiikaaGreatDoor

namespace Go.Proofs.YtfbgnpfhjbiikaaGreatDoor
open Go Go.RowKit
theorem infoStoL : (Tryz.prog.info? 87).map (·.size) = some 18 := by kernel_rfl
theorem zeroSto (w : World) : (zeroValue 87).run Tryz.prog w = .ok (.agg #[.int .i64 0, .int .u8 0, .slice none 0 0, .slice none 0 0, .string ByteArray.empty, .int .u64 0, .int .u64 0, .int .u32 0, .int .i64 0, .int .i64 0, .bool false, .int .u64 0, .int .u64 0, .int .i64 0, .int .i64 0, .slice none 0 0, .slice none 0 0, .slice none 0 0]) w := by kernel_rfl
theorem five_one {w : World} {f : Five} {s : Sto} (h : StoIs w f s) : ∀ v ∈ stoCells f s, v.oneCell' = true := by
  obtain ⟨⟨⟨a1, c1, e1, _⟩, ⟨a2, c2, e2, _⟩⟩, ⟨a3, c3, e3, _⟩, ⟨a4, c4, e4, _⟩, ⟨a5, c5, e5, _⟩⟩ := h
  intro v hv
  simp only [stoCells, e1, e2, e3, e4, e5, List.mem_cons, List.not_mem_nil, or_false] at hv
  rcases hv with rfl | rfl | rfl | rfl | rfl | rfl | rfl | rfl | rfl | rfl | rfl | rfl | rfl | rfl | rfl | rfl | rfl | rfl <;> rfl

section
variable {ops : Array Oper} {rest : List Oper} {op : Oper} {a : Act} {w : World} {Q : Exit → Act → World → Prop}
theorem wpl_load_sto (hgd : op.guard = none) (x : Operand) (ho : op.op = .load 87 x) {b o : Nat} (hx : a.eval x = .pointer (some ⟨b, o, none⟩)) {f : Five} {s : Sto} (hc : StoAt w b o f s)
    (h : wpList Tryz.prog ops Q rest (a.put op.dst (.agg (stoCells f s).toArray)) w) : wpList Tryz.prog ops Q (op :: rest) a w :=
  wpList_load_mid hgd 87 x ho b o hx (stoCells f s) _ hc Tryz.underlying87 rfl infoStoL h
theorem wpl_store_new (hgd : op.guard = none) (ty : TypeId) (x y : Operand) (ho : op.op = .store ty x y) {c c' : Array Value} (hx : a.eval x = .pointer (some ⟨w.heap.size, 0, none⟩)) (hy : a.eval y = .agg c')
    (hi : (Tryz.prog.info? ty).map (·.size) = some c'.size) (hoo : c.size = c'.size) (h1 : c'.all (·.oneCell') = true)
    (h : wpList Tryz.prog ops Q rest (a.put op.dst undef) (w.alloc (.cells c' ty))) : wpList Tryz.prog ops Q (op :: rest) a (w.alloc (.cells c ty)) := by
  refine wpList_plain hgd fun K hK => ?_
  unfold Oper.wp execOp
  have := run_storeAt_new (P := Tryz.prog) w ty c c' hi hoo h1
  simp only [ho, hx, hy, Sem.run_bind, this]
  exact hK _ _ h
theorem wp_store_stoN {K : Act → World → Prop} (x y : Operand) (ho : op.op = .store 87 x y) {c : Array Value} (hx : a.eval x = .pointer (some ⟨w.heap.size, 0, none⟩)) {f : Five} {s : Sto} (hy : a.eval y = .agg (stoCells f s).toArray)
    (hoo : c.size = 18) (h1 : ∀ v ∈ stoCells f s, v.oneCell' = true)
    (h : K (a.put op.dst undef) (w.alloc (.cells (stoCells f s).toArray 87))) : op.wp Tryz.prog a (w.alloc (.cells c 87)) K Q := by
  unfold Oper.wp execOp
  have := run_storeAt_new (P := Tryz.prog) w 87 c (stoCells f s).toArray infoStoL hoo (all_oneCell_toArray h1)
  simp only [ho, hx, hy, Sem.run_bind, this]
  exact h
theorem wp_store_stoD {K : Act → World → Prop} (x y : Operand) (ho : op.op = .store 87 x y) (c : Array Value) (hoo : c.size = 18) (hx : a.eval x = .pointer (some ⟨w.heap.size, 0, none⟩)) {f : Five} {s : Sto} (hy : a.eval y = .agg (stoCells f s).toArray)
    (h1 : ∀ v ∈ stoCells f s, v.oneCell' = true)
    (h : K (a.put op.dst undef) (w.alloc (.cells (stoCells f s).toArray 87)).drew) : op.wp Tryz.prog a (w.alloc (.cells c 87)).drew K Q :=
  wp_store_stoN (w := w.drew) x y ho hx hy hoo h1 h
theorem wpl_store_sto (hgd : op.guard = none) (x y : Operand) (ho : op.op = .store 87 x y) {c : Array Value} (hx : a.eval x = .pointer (some ⟨w.heap.size, 0, none⟩)) {f : Five} {s : Sto} (hy : a.eval y = .agg (stoCells f s).toArray)
    (hoo : c.size = 18) (h1 : ∀ v ∈ stoCells f s, v.oneCell' = true)
    (h : wpList Tryz.prog ops Q rest (a.put op.dst undef) (w.alloc (.cells (stoCells f s).toArray 87))) : wpList Tryz.prog ops Q (op :: rest) a (w.alloc (.cells c 87)) :=
  wpl_store_new hgd _ x y ho hx hy infoStoL hoo (all_oneCell_toArray h1) h
end
theorem one_sto (w : World) (f : Five) (s : Sto) : StoAt (w.alloc (.cells (stoCells f s).toArray 87)) w.heap.size 0 f s := by
  intro j u hj
  have h := (One.of w (stoCells f s).toArray 87).c j
  rw [Nat.zero_add, h]
  simpa using hj
end Go.Proofs.YtfbgnpfhjbiikaaGreatDoor

namespace Go.Proofs
open Go.Shelf
def Tryz.laysSlF020_f120_ren : Go.Shelf.Ren := ⟨fun | 20 => 120 | n => n, fun | 24 => 3 | 22 => 74 | 3 => 3 | 25 => 140 | 4 => 4 | 0 => 0 | n => n, fun | n => n⟩
theorem Tryz.laysSlF020_f120 : Go.Proofs.SlLaysF.n20 Tryz.prog Tryz.laysSlF020_f120_ren := {
  mixed := by kernel_rfl
  f20 := ⟨Tryz.f120.name, by decide, Tryz.func120.trans (congrArg some (by kernel_rfl))⟩
  t0 := Tryz.underlying0
  a0 := Tryz.isAgg0
  z0 := Tryz.sizeOf0
  v0 := Tryz.zeroValue0
  t3 := Tryz.underlying3
  a3 := Tryz.isAgg3
  z3 := Tryz.sizeOf3
  v3 := Tryz.zeroValue3
  t4 := Tryz.underlying4
  a4 := Tryz.isAgg4
  z4 := Tryz.sizeOf4
  v4 := Tryz.zeroValue4
  t22 := Tryz.underlying74
  a22 := Tryz.isAgg74
  z22 := Tryz.sizeOf74
  v22 := Tryz.zeroValue74
  a24 := Tryz.isAgg3
  z24 := Tryz.sizeOf3
  t25 := Tryz.underlying140
  a25 := Tryz.isAgg140
  z25 := Tryz.sizeOf140
  v25 := Tryz.zeroValue140 }
open Go.RowKit Go.Lib Go.Sort in
theorem Tryz.slices_insertionSortCmp {α : Type} [Inhabited α] (enc : α → Value) (cf : α → α → Int) (g : Nat) (cb : Array Value) (blk off cap a b : Nat) (d0 d : Array α) (w0 w : World)
    (eg : ∀ args w, (callFunc g args).run Tryz.prog w = .ok (.enter g args) w) (hcmp : CmpLays1 Tryz.prog g cb enc cf blk off d0.size w0) (R : Row1 enc w0 blk off d0) (hs : d0.size = d.size) (S : SW enc w0 blk off d w) (hab : a ≤ b) (hb : b ≤ d.size) (hsz : d.size < 4611686018427387904) :
    Calls Tryz.prog 120 #[.slice (some ⟨blk, off, none⟩) d.size cap, .int .i64 a, .int .i64 b, .func (.func g) #[] cb] w fun e w' => e = .returned (.tuple #[]) ∧ SW enc w0 blk off (Sort.insertionSort (ltOf cf) d a b) w' := Any.insertionSortCmpFunc_s Tryz.laysSlF020_f120 enc cf g cb blk off cap a b d0 d w0 w eg hcmp R hs S hab hb hsz
end Go.Proofs

namespace Go.Proofs.YtfbgnpfhjbiikaaGreatDoor
open Go Go.RowKit
open Pth
open Go.Maps (has size Canon CanonK Tidy IsMap KeysOf Keyed Merged)
def tA : ByteArray := ⟨#[97]⟩
def tX : ByteArray := ⟨#[120]⟩
theorem good_none (P : Program) (ks : TypeId) : Good P ks (.map []) := ⟨canonK_nil _, fun k hk => by cases hk⟩
def flatE : List Edt → List Value
  | [] => []
  | x :: t => .int .u8 x.kind :: .string x.path :: .bool x.any :: .int .u64 x.want :: .int .u64 x.n :: .string x.text :: flatE t
theorem flatE_at : ∀ (l : List Edt) (i : Nat), i < l.length → (flatE l)[i * 6]? = some (.int .u8 (l.getD i dE).kind) ∧ (flatE l)[i * 6 + 1]? = some (.string (l.getD i dE).path) ∧ (flatE l)[i * 6 + 2]? = some (.bool (l.getD i dE).any) ∧
    (flatE l)[i * 6 + 3]? = some (.int .u64 (l.getD i dE).want) ∧ (flatE l)[i * 6 + 4]? = some (.int .u64 (l.getD i dE).n) ∧ (flatE l)[i * 6 + 5]? = some (.string (l.getD i dE).text)
  | [], i, h => by simp at h
  | v :: t, 0, _ => ⟨rfl, rfl, rfl, rfl, rfl, rfl⟩
  | v :: t, i + 1, h => by
    have := flatE_at t i (by simpa using h)
    rw [show (i + 1) * 6 = i * 6 + 6 by omega]
    exact this
theorem IsEdts.new (w : World) (l : List Edt) (cap : Nat) (e : TypeId) (x : Nat × Nat) (C : Array Value) (hC : C = (flatE l).toArray) : IsEdts (w.alloc (.cells C e x)) (.slice (some ⟨w.heap.size, 0, none⟩) l.length cap) l := by
  subst hC
  refine ⟨_, _, rfl, Or.inr ⟨w.heap.size, 0, rfl, by simp, fun i hi => ?_⟩⟩
  obtain ⟨h0, h1, h2, h3, h4, h5⟩ := flatE_at l i hi
  simp only [Nat.zero_add, World.cell?_alloc_mark, List.getElem?_toArray]
  exact ⟨h0, h1, h2, h3, h4, h5⟩
end Go.Proofs.YtfbgnpfhjbiikaaGreatDoor

namespace Go.Proofs.YtfbgnpfhjbiikaaGreatDoor
open Go Go.RowKit
open Pth
open Go.Maps (has size Canon CanonK Tidy IsMap KeysOf Keyed Merged)
set_option maxRecDepth 100000 in
set_option maxHeartbeats 1000000 in
theorem tab_copied (c : Cel) (v : Value) (w : World) (hv : IsVers w v c.l) (hl : c.l.length ≤ 65536) :
    Calls Tryz.prog 46 #[.agg #[.int .u64 c.last, v]] w (KeptGives c w) := by
  obtain ⟨cl, L⟩ := c
  simp only at hv hl ⊢
  have hv2 := hv
  obtain ⟨a, cap, rfl, hc⟩ := hv2
  clear hc
  have Hv := Lib.hid hv; clear hv
  go_enter Tryz.func46, Tryz.ntmps46
  go_upto_region 1 with fail
  refine wp_abs (F := Two w #[.int .u64 cl, .slice a L.length cap] #[.int .u64 0, .slice none 0 0]) (Two.of w _ _ _ _) ?_
  intro W T
  have q0 := T.c1 0
  have q1 := T.c1 1
  have T := Lib.hid T
  simp at q0 q1
  go_wp2_with fail
  refine (clone_vers L _ _ (Hv.out.below T.out.b (Nat.le_refl _)) hl).mono ?_
  rintro e w1 ⟨v1, rfl, hown, hb1⟩
  obtain ⟨a1, c1, rfl⟩ := ownShape hown
  have T1 := T.out.step hb1
  have q0 := T1.c1 0; have q1 := T1.c1 1; have f0 := T1.f1 0; have f1 := T1.f1 1
  have z0 := T1.c2 0; have z1 := T1.c2 1; have g0 := T1.f2 0; have g1 := T1.f2 1
  simp at q0 q1 z0 z1
  have T1 := Lib.hid T1; have Hown := Lib.hid hown; have Hb1 := Lib.hid hb1; clear hown hb1
  go_wp2_with fail
  have h1 := T.out.sz
  refine bodyPost_ret (v := .agg #[.int .u64 cl, .slice a1 L.length c1]) ?_ rfl ⟨_, rfl, ?_, ?_⟩
  · simp [results, Tryz.results46, go_sem, z0, z1]
  · exact ownBase (ownsRow_setCell_below (ownsRow_setCell_below (ownsRow_setCell_below Hown.out (by dsimp only; omega) _) (by dsimp only; omega) _) (by dsimp only; omega) _) (by omega)
  · refine (((T1.out.b.setCell ?_ _).setCell ?_ _).setCell ?_ _) <;> dsimp only <;> omega

def dR : ByteArray × Cel := (ByteArray.empty, ⟨0, []⟩)
def IsRows (w : World) (v : Value) (l : List (ByteArray × Cel)) : Prop :=
  ∃ a cap, v = .slice a l.length cap ∧ (l = [] ∨ ∃ b off, a = some ⟨b, off, none⟩ ∧ b < w.heap.size ∧ ∀ i, i < l.length →
    w.cell? ⟨b, off + i * 3, none⟩ = some (.string (l.getD i dR).1) ∧ w.cell? ⟨b, off + i * 3 + 1, none⟩ = some (.int .u64 (l.getD i dR).2.last) ∧ ∃ s, w.cell? ⟨b, off + i * 3 + 2, none⟩ = some s ∧ IsVers w s (l.getD i dR).2.l)
theorem IsRows.below {w w' : World} {v : Value} {l : List (ByteArray × Cel)} {B : Nat} (h : IsRows w v l) (hb : Below B w w') (hB : w.heap.size ≤ B) : IsRows w' v l := by
  obtain ⟨a, cap, hv, h⟩ := h
  refine ⟨a, cap, hv, ?_⟩
  rcases h with h | ⟨b, off, ha, hlt, hc⟩
  · exact Or.inl h
  · refine Or.inr ⟨b, off, ha, by have := hb.size; omega, fun i hi => ?_⟩
    obtain ⟨h0, h1, s, h2, hs⟩ := hc i hi
    exact ⟨(hb.cell (by dsimp only; omega)).trans h0, (hb.cell (by dsimp only; omega)).trans h1, s, (hb.cell (by dsimp only; omega)).trans h2, hs.below hb hB⟩
def keysL (M : DataW Cel) : List (List UInt8) := (strKeys M).mergeSort (fun x y => decide (x ≤ y))
def rowAt (M : DataW Cel) (k : List UInt8) : ByteArray × Cel := (bs k, cellAt M (bs k))
def rowsL (M : DataW Cel) : List (ByteArray × Cel) := (keysL M).map (rowAt M)
theorem canon_strs {C : Type} {M : DataW C} (c : CanonK (KeysOf Tryz.prog 9) M) : ∃ es, M = .map es ∧ es.Pairwise (fun p q => p.1 ≠ q.1) ∧ ∀ p ∈ es, ∃ x, p.1 = .string x := by
  obtain ⟨es, rfl, hp, hk⟩ := c
  refine ⟨es, rfl, Maps.apart_of_rising hp, fun p hp' => ?_⟩
  obtain ⟨v, hv⟩ := hk p hp'
  obtain ⟨y, _, hy, _⟩ := Maps.keyOf_str Tryz.underlying9 hv
  exact ⟨y, hy⟩
theorem mem_strKeys' {C : Type} {es : List (Lit × DataW C)} (hk : ∀ p ∈ es, ∃ x, p.1 = .string x) (x : List UInt8) : x ∈ strKeys (.map es) ↔ has (.map es) (.string x) = true := by
  show x ∈ es.map (fun p => strOf p.1) ↔ _
  rw [Maps.has_eq, List.mem_map, List.any_eq_true]
  constructor
  · rintro ⟨p, hp, rfl⟩
    obtain ⟨y, hy⟩ := hk p hp
    exact ⟨p, hp, by rw [hy]; exact WideAt.sameKey_self trivial⟩
  · rintro ⟨p, hp, hs⟩
    exact ⟨p, hp, by rw [WideAt.sameKey_eq hs]; rfl⟩
theorem strKeys_nodup {C : Type} {es : List (Lit × DataW C)} (hp : es.Pairwise (fun p q => p.1 ≠ q.1)) (hk : ∀ p ∈ es, ∃ x, p.1 = .string x) : (strKeys (.map es)).Nodup := by
  show (es.map fun p => strOf p.1).Nodup
  refine List.pairwise_map.2 (hp.imp_of_mem fun {p q} hp' hq' hne e => hne ?_)
  obtain ⟨x, hx⟩ := hk p hp'
  obtain ⟨y, hy⟩ := hk q hq'
  rw [hx, hy] at e ⊢
  exact congrArg _ e
theorem keysL_of {D : DataW Value} {M : DataW Cel} (cD : CanonK (KeysOf Tryz.prog 9) D) (cM : CanonK (KeysOf Tryz.prog 9) M) (h : ∀ k, has D k = has M k) {ss : List (List UInt8)} (hs : ss.Perm (strKeys D)) : ss.mergeSort (fun x y => decide (x ≤ y)) = keysL M := by
  obtain ⟨es, rfl, hp, hk⟩ := canon_strs cM
  obtain ⟨ed, rfl, hpd, hkd⟩ := canon_strs cD
  unfold keysL
  refine (mergeSort_of_perm (hs.trans ?_))
  refine ((perm_strKeys hp hk (strKeys_nodup hpd hkd) fun x => ?_))
  rw [mem_strKeys' hkd, h]
theorem keysL_mem {M : DataW Cel} (cM : CanonK (KeysOf Tryz.prog 9) M) {x : List UInt8} (hx : x ∈ keysL M) : has M (kS (bs x)) = true := by
  obtain ⟨es, rfl, hp, hk⟩ := canon_strs cM
  unfold keysL at hx
  exact (mem_strKeys' hk x).1 ((List.mergeSort_perm _ _).mem_iff.1 hx)
theorem keysL_length {M : DataW Cel} (cM : CanonK (KeysOf Tryz.prog 9) M) : (keysL M).length = size M := by
  obtain ⟨es, rfl, _⟩ := cM
  unfold keysL
  rw [List.length_mergeSort]
  show (es.map _).length = es.length
  simp
end Go.Proofs.YtfbgnpfhjbiikaaGreatDoor

namespace Go.Proofs.YtfbgnpfhjbiikaaGreatDoor
open Go Go.RowKit
open Pth
open Go.Maps (has size Canon CanonK Tidy IsMap KeysOf Keyed Merged)
def rowCells : List ((ByteArray × Cel) × Value) → List Value
  | [] => []
  | x :: t => .string x.1.1 :: .int .u64 x.1.2.last :: x.2 :: rowCells t
theorem rowCells_length (l : List ((ByteArray × Cel) × Value)) : (rowCells l).length = l.length * 3 := by
  induction l with
  | nil => rfl
  | cons v t ih => simp only [rowCells, List.length_cons, ih]; omega
theorem rowCells_append (a b : List ((ByteArray × Cel) × Value)) : rowCells (a ++ b) = rowCells a ++ rowCells b := by
  induction a with
  | nil => rfl
  | cons v t ih => simp only [List.cons_append, rowCells, ih]
def dRV : (ByteArray × Cel) × Value := (dR, .slice none 0 0)
theorem rowCells_at : ∀ (l : List ((ByteArray × Cel) × Value)) (i : Nat), i < l.length → (rowCells l)[i * 3]? = some (.string (l.getD i dRV).1.1) ∧ (rowCells l)[i * 3 + 1]? = some (.int .u64 (l.getD i dRV).1.2.last) ∧ (rowCells l)[i * 3 + 2]? = some (l.getD i dRV).2
  | [], i, h => by simp at h
  | v :: t, 0, _ => ⟨rfl, rfl, rfl⟩
  | v :: t, i + 1, h => by
    have := rowCells_at t i (by simpa using h)
    rw [show (i + 1) * 3 = i * 3 + 3 by omega]
    exact this
def RowsOff (w : World) (T : List ((ByteArray × Cel) × Value)) (o : Option Nat) : Prop := ∀ x ∈ T, IsVers w x.2 x.1.2.l ∧ (x.1.2.l ≠ [] → ∀ kb, x.2.ownBlock = some kb → o ≠ some kb)
theorem RowsOff.below {w w' : World} {T : List ((ByteArray × Cel) × Value)} {o : Option Nat} (h : RowsOff w T o) (hb : Below w.heap.size w w') : RowsOff w' T o := fun x hx => ⟨(h x hx).1.below hb (Nat.le_refl _), (h x hx).2⟩
theorem RowsOff.row {w w' : World} {T : List ((ByteArray × Cel) × Value)} {o o' : Option Nat} (h : RowsOff w T o) (hg : w.grownBy w' o) (ho : o' = o ∨ o' = some w.heap.size) : RowsOff w' T o' := by
  intro x hx
  obtain ⟨h1, h2⟩ := h x hx
  refine ⟨h1.row hg h2, fun hl kb hk => ?_⟩
  rcases ho with rfl | rfl
  · exact h2 hl kb hk
  · intro e
    have := h1.own_lt hl hk
    cases e; omega
theorem IsRows.own {w : World} {B e : Nat} {v : Value} {T : List ((ByteArray × Cel) × Value)} {o : Option Nat} (h : w.ownsRow B e 3 v T.length (rowCells T)) (hT : RowsOff w T o) : IsRows w v (T.map (·.1)) := by
  rcases h.2 with ⟨hv, hl⟩ | ⟨g, cap, cur, hv, hB, hg, hn, hcap, hsz, htake⟩
  · have : T = [] := List.length_eq_zero_iff.1 hl
    subst this; exact ⟨none, 0, hv, Or.inl rfl⟩
  · refine ⟨_, cap, by rw [List.length_map]; exact hv, Or.inr ⟨g, 0, rfl, lt_of_block hg, fun i hi => ?_⟩⟩
    rw [List.length_map] at hi
    subst hv
    obtain ⟨f1, f2, f3⟩ := rowCells_at T i hi
    have c1 := World.ownsRow.cellAt h (i * 3) (by omega)
    have c2 := World.ownsRow.cellAt h (i * 3 + 1) (by omega)
    have c3 := World.ownsRow.cellAt h (i * 3 + 2) (by omega)
    rw [f1] at c1; rw [f2] at c2; rw [f3] at c3
    have hd : (T.map (·.1)).getD i dR = (T.getD i dRV).1 := by
      rw [List.getD_eq_getElem?_getD, List.getD_eq_getElem?_getD, List.getElem?_map, List.getElem?_eq_getElem hi]; rfl
    have hm : T.getD i dRV ∈ T := by
      rw [List.getD_eq_getElem?_getD, List.getElem?_eq_getElem hi]; exact List.getElem_mem hi
    rw [hd, Nat.zero_add]
    exact ⟨c1, c2, _, c3, (hT _ hm).1⟩
theorem infoRow : (Tryz.prog.info? 48).map (fun i => (i.zero, i.size, i.bytes)) = some (some (.agg #[.string ByteArray.empty, .int .u64 0, .slice none 0 0]), 3, 48) := by kernel_rfl

def RowsGives (M : DataW Cel) (w : World) (e : Ending) (w' : World) : Prop := ∃ v, e = .returned v ∧ IsRows w' v (rowsL M) ∧ Below w.heap.size w w'

set_option maxRecDepth 100000 in
set_option maxHeartbeats 2000000 in
theorem tab_rows (w : World) {t b : Nat} {q1 q2 B : Int} {M : DataW Cel} (h : TabAt w t b q1 q2 M B) (hg : Good Tryz.prog 9 M) (hsM : size M ≤ 1073741824) :
    Calls Tryz.prog 12 #[.pointer (some ⟨t, 0, none⟩)] w (RowsGives M w) := by
  have Hmade := Lib.hid (tab_made w h)
  have HG := Lib.hid hg; have HT := Lib.hid h; clear hg h
  go_enter Tryz.func12, Tryz.ntmps12
  go_wp2_with fail
  refine Hmade.out.mono ?_
  rintro e w1 ⟨rfl, hb1⟩
  have h1 := HT.out.below hb1
  have c2 := h1.c2
  have hm1 := h1.m
  obtain ⟨D, hownD, hal⟩ := hm1
  have hK := callsIn_wide.1 (Tryz.maps_Keys_45 (some b) w1)
  have hS := callsIn_wide.1 (Tryz.slices_Sorted_keys_44_45 b (size M) D _ w1 hownD (by rw [hal.sizes]; unfold maxLen; omega) (by rw [hal.sizes]; omega))
  have Hkeys := Lib.hid (fun (ss : List (List UInt8)) (hs : ss.Perm (strKeys D)) => keysL_of (hownD.canonK strKeyed) hal.canon hal.keys hs)
  have HT1 := Lib.hid h1; have Hb1 := Lib.hid hb1; have HK := Lib.hid hK; have HS := Lib.hid hS
  clear h1 hb1 hK hS hal hownD
  go_wp2_with fail
  refine (HK.out).mono ?_
  rintro e w2 ⟨rfl, rfl⟩
  go_wp2_with fail
  refine (HS.out).mono ?_
  rintro e w3 ⟨v3, ss, rfl, hperm, hrow, _, hb3⟩
  have hv3 : IsStrs w3 v3 ((keysL M).map bs) := IsStrs.own (B := (w1.alloc (.cells #[.map (some b)] 103)).heap.size) (e := 9) (by rw [← Hkeys.out ss hperm, List.length_map, List.length_mergeSort, List.map_map]; exact hrow)
  have hb13 : Below w1.heap.size w1 w3 := ((Below.refl _ w1).alloc (Nat.le_refl _) _).trans (hb3.mono (by simp))
  have Hmem := Lib.hid (fun x (hx : x ∈ keysL M) => keysL_mem HG.out.canon hx)
  have hkl : (keysL M).length ≤ 1073741824 := by rw [keysL_length HG.out.canon]; exact hsM
  have Hrows : Hid (rowsL M = (keysL M).map (rowAt M)) := Lib.hid rfl
  generalize keysL M = ks at hv3 Hmem hkl Hrows
  obtain ⟨a3, c3, rfl, hc3⟩ := hv3
  have Hc3 := Lib.hid hc3; have Hb13 := Lib.hid hb13
  clear hc3 hb13 hrow hperm hb3 HS HK Hkeys
  obtain ⟨i0, hi, hz0, hz1, hz2⟩ := info_parts infoRow
  rw [List.length_map]
  go_wp2_with fail
  go_loopw [2, 15] (fun s2 i wr => ∃ (k : Nat) (T : List ((ByteArray × Cel) × Value)), k ≤ ks.length ∧ i = .int .i64 k ∧ (∃ a c, s2 = .slice a T.length c) ∧ Hid (T.map (·.1) = (ks.take k).map (rowAt M)) ∧ Hid (T.length = k) ∧ Hid (wr.ownsRow w3.heap.size 48 3 s2 T.length (rowCells T)) ∧ Hid (RowsOff wr T s2.ownBlock) ∧ Hid (Below w3.heap.size w3 wr)) (fun _ i _ => ks.length - (intOf i).toNat)
  case atStart => exact ⟨0, [], Nat.zero_le _, rfl, ⟨none, 0, rfl⟩, Lib.hid rfl, Lib.hid rfl, Lib.hid (World.ownsRow_nil _ _ _ _), Lib.hid (fun x hx => by cases hx), Lib.hid (Below.refl _ _)⟩
  case round =>
    obtain ⟨k, T, hk, rfl, ⟨a2, c2', rfl⟩, hmap, hTk, hrow, hoff, hbw⟩ := hrel
    have hw1r : Below w1.heap.size w1 wr := Hb13.out.trans (hbw.out.mono Hb13.out.size)
    have hTr := HT1.out.below hw1r
    by_cases hlt : k < ks.length
    · rcases Hc3.out with hn | ⟨b3, o3, rfl, hl3, hcc⟩
      · have := congrArg List.length hn; simp at this; rw [this] at hlt; simp at hlt
      have hcell := (hbw.out.cell (p := ⟨b3, o3 + k, none⟩) hl3).trans (hcc k (by rw [List.length_map]; exact hlt))
      clear hcc
      have hkx : ks.getD k [] ∈ ks := by rw [List.getD_eq_getElem?_getD, List.getElem?_eq_getElem hlt]; exact List.getElem_mem hlt
      have hgd : (ks.map bs).getD k ByteArray.empty = bs (ks.getD k []) := by
        rw [List.getD_eq_getElem?_getD, List.getD_eq_getElem?_getD, List.getElem?_map, List.getElem?_eq_getElem hlt]; rfl
      rw [hgd] at hcell
      have hhas := Hmem.out _ hkx
      have htake : ks.take (k + 1) = ks.take k ++ [ks.getD k []] := by
        rw [List.take_succ_eq_append_getElem hlt, List.getD_eq_getElem?_getD, List.getElem?_eq_getElem hlt]; rfl
      obtain ⟨x, hx⟩ : ∃ x, x = ks.getD k [] := ⟨_, rfl⟩
      rw [← hx] at hcell hhas htake
      clear hx hkx hgd
      obtain ⟨p', c', ep, _, _, _, _, hmp⟩ := HG.out.cells _ hhas
      have hps : (bs x).size ≤ 128 := by rw [kS_inj ep]; exact mayP_size hmp
      have c2 := hTr.c2
      obtain ⟨s, is, _, hs, _, hl⟩ := hTr.m.look2 (bs x) (by unfold maxLen; omega)
      have hmay := (HG.out.cellAt (bs x)).1
      obtain ⟨cN, hcN⟩ : ∃ c, c = cellAt M (bs x) := ⟨_, rfl⟩
      rw [← hcN] at hl hs hmay
      have hl8 := may_len hmay
      have Hs := Lib.hid hs
      obtain ⟨as1, cs1, rfl, _⟩ := hs
      obtain ⟨p, hp⟩ : ∃ p, p = bs x := ⟨_, rfl⟩
      have HcN := Lib.hid hcN; have Htake := Lib.hid htake; have HTr := Lib.hid hTr; have Hlt := Lib.hid hlt
      rw [← hp] at hcell hl
      have Hp := Lib.hid hp
      have hTl : T.length ≤ 1073741824 := by have := hTk.out; omega
      have hlt2 : (k : Int) < (ks.length : Int) := by omega
      clear hcN htake hTr hhas hp ep hmp hps hw1r hmay
      go_wp2_with (first
        | (go_at_call 46; refine (tab_copied cN _ _ Hs.out (by omega)).mono ?_; rintro e w4 ⟨v4, rfl, hown4, hb4⟩; obtain ⟨a4, c4, rfl⟩ := ownShape hown4; have Hown4 := Lib.hid hown4; have Hb4 := Lib.hid hb4; clear hown4 hb4)
        | (at_builtin; refine wpList_append_lies _ rfl (.tmp 19) (.tmp 29) 26 rfl w3.heap.size 48 i0 (.agg #[.string ByteArray.empty, .int .u64 0, .slice none 0 0]) 3 48 Tryz.underlying26 hi hz0 hz1 hz2 rfl (by decide) _ T.length (rowCells T) rfl (ownBelow (ownBelow hrow.out Hb4.out) ((Below.refl _ _).alloc (Nat.le_refl _) _)) ⟨w4.heap.size, 0, none⟩ 1 1 [.string p, .int .u64 cN.last, .slice a4 cN.l.length c4] rfl rfl (World.news_of_block (MapKept.heap_alloc _ _).1) (by intro u hu; simp only [List.mem_cons, List.mem_nil_iff, or_false] at hu; rcases hu with rfl | rfl | rfl <;> rfl) (by decide) (by unfold maxLen; omega) (by omega) ?hbase (w4.heap.size + 1) (by simp) ?go; (case hbase => have h1 := hbw.out.size; have h2 := Hb4.out.size; simp; omega); intro g cp w8 hown8 hg8 hat hlt8)
        | fail)
      go_roundw
      case rel =>
        refine ⟨k + 1, T ++ [((p, cN), .slice a4 cN.l.length c4)], by have := Hlt.out; omega, by go_num, ⟨_, _, by rw [List.length_append]; rfl⟩, Lib.hid ?_, Lib.hid (by rw [List.length_append, hTk.out]; rfl), Lib.hid ?_, Lib.hid ?_, Lib.hid ?_⟩
        · rw [Htake.out, List.map_append, List.map_append, hmap.out, Hp.out, HcN.out]; rfl
        · rw [List.length_append, rowCells_append]; exact hown8
        · have hA : RowsOff (w4.alloc (.cells #[.string p, .int .u64 cN.last, .slice a4 cN.l.length c4] 48)) (T ++ [((p, cN), .slice a4 cN.l.length c4)]) (Value.slice a2 T.length c2').ownBlock := by
            intro y hy
            rcases List.mem_append.1 hy with hy | hy
            · exact ((hoff.out.below Hb4.out).below ((Below.refl _ _).alloc (Nat.le_refl _) _)) y hy
            · rcases List.mem_singleton.1 hy with rfl
              refine ⟨(IsVers.own Hown4.out).below ((Below.refl _ _).alloc (Nat.le_refl _) _) (Nat.le_refl _), fun _ kb hkb e => ?_⟩
              have h1 := ownAbove Hown4.out kb hkb
              have h2 : kb < wr.heap.size := by
                rcases hrow.out.2 with ⟨hv, _⟩ | ⟨g', cp', cur, hv, hB, hg', _⟩
                · rw [hv] at e; cases e
                · rw [hv] at e; cases e; exact lt_of_block hg'
              omega
          refine hA.row hg8 ?_
          rcases hat with h | h
          · left; exact h.symm
          · right; show some g = some _; rw [h]; simp
        · have h1 : Below w3.heap.size w3 w4 := hbw.out.trans (Hb4.out.mono hbw.out.size)
          exact (h1.alloc h1.size _).grown hg8 (h1.alloc h1.size _).size (fun k hk => ownAbove hrow.out k hk)
      case measure => simp [intOf]; omega
    · have hge : (ks.length : Int) ≤ (k : Int) := by omega
      have hkk : k = ks.length := by omega
      have Hkk := Lib.hid hkk
      clear hkk hTr hw1r
      go_wp2_with fail
      go_ret
      refine ⟨_, rfl, ?_, Hb1.out.trans ((Hb13.out.trans (hbw.out.mono Hb13.out.size)).mono Hb1.out.size)⟩
      have h1 := IsRows.own hrow.out hoff.out
      rw [hmap.out, Hkk.out, List.take_length] at h1
      rw [Hrows.out]; exact h1
end Go.Proofs.YtfbgnpfhjbiikaaGreatDoor

namespace Go.Proofs.YtfbgnpfhjbiikaaGreatDoor
open Go Go.RowKit
theorem quiet_plain' {P : Program} {ops : Array Oper} {C : World → Prop} {Q : Act → Prop} {a : Act} {o : Oper} {rest : List Oper} (hw : Region.wanted o (yielded ops a.tmps) = true) (v : Value)
    (h : ∀ w, C w → (execOp a.eval o).run P w = .ok (.value v) w) (k : wpQuiet P ops C Q rest (a.put o.dst v)) : wpQuiet P ops C Q (o :: rest) a := by
  refine wpQuiet_step (fun K hK => ?_)
  rw [if_pos hw]
  refine ⟨v, fun w hw => ?_, hK _ k⟩
  unfold Oper.quietAt
  rw [h w hw]
  exact ⟨rfl, rfl⟩
theorem quiet_call' {P : Program} {ops : Array Oper} {C : World → Prop} {Q : Act → Prop} {a : Act} {o : Oper} {rest : List Oper} (hw : Region.wanted o (yielded ops a.tmps) = true) (v : Value) (f : FuncId) (args : Array Value)
    (h : ∀ w, C w → (execOp a.eval o).run P w = .ok (.enter f args) w ∧ Calls P f args w (fun e w'' => e = .returned v ∧ C w'')) (k : wpQuiet P ops C Q rest (a.put o.dst v)) : wpQuiet P ops C Q (o :: rest) a := by
  refine wpQuiet_step (fun K hK => ?_)
  rw [if_pos hw]
  refine ⟨v, fun w hw => ?_, hK _ k⟩
  unfold Oper.quietAt
  rw [(h w hw).1]
  exact ⟨rfl, (h w hw).2⟩

set_option maxRecDepth 100000 in
set_option maxHeartbeats 2000000 in
theorem ref17_same (c : Cel) (v1 v2 : Value) (w : World) (h1 : IsVers w v1 c.l) (h2 : IsVers w v2 c.l) (hl : c.l.length ≤ 65536) :
    Calls Tryz.prog 50 #[.agg #[.int .u64 c.last, v1], .agg #[.int .u64 c.last, v2]] w fun e w' => e = .returned (.bool true) ∧ Below w.heap.size w w' := by
  obtain ⟨cl, L⟩ := c
  simp only at h1 h2 hl ⊢
  obtain ⟨a1, cap1, rfl, hc1⟩ := h1
  obtain ⟨a2, cap2, rfl, hc2⟩ := h2
  have Hc1 := Lib.hid hc1; have Hc2 := Lib.hid hc2; clear hc1 hc2
  have hLB : ((L.length : Int) != (L.length : Int)) = false := by simp
  have hCB : ((cl : Int) != (cl : Int)) = false := by simp
  go_enter Tryz.func50, Tryz.ntmps50
  go_upto_region 1 with fail
  refine wp_abs (F := Two w #[.int .u64 cl, .slice a1 L.length cap1] #[.int .u64 cl, .slice a2 L.length cap2]) (Two.of w _ _ _ _) ?_
  intro W T
  have q0 := T.c1 0; have q1 := T.c1 1; have r0 := T.c2 0; have r1 := T.c2 1
  have T := Lib.hid T
  simp at q0 q1 r0 r1
  go_wp2_with fail
  go_loopw [5] (fun i wr => ∃ k : Nat, k ≤ L.length ∧ i = .int .i64 k ∧ Hid (Below W.heap.size W wr)) (fun i _ => L.length - (intOf i).toNat)
  case atStart => exact ⟨0, Nat.zero_le _, rfl, Lib.hid (Below.refl _ _)⟩
  case round =>
    obtain ⟨k, hk, rfl, Hbw⟩ := hrel
    have Tr := T.out.step Hbw.out
    have hbr := Tr.b
    have q1 := Tr.c1 1; have r1 := Tr.c2 1
    simp at q1 r1
    by_cases hlt : k < L.length
    · rcases Hc1.out with hn | ⟨b1, o1, rfl, hl1, hcc1⟩
      · subst hn; simp at hlt
      rcases Hc2.out with hn | ⟨b2, o2, rfl, hl2, hcc2⟩
      · subst hn; simp at hlt
      obtain ⟨g1, g2, g3⟩ := hcc1 k hlt
      obtain ⟨g4, g5, g6⟩ := hcc2 k hlt
      have k1 := (hbr.cell (p := ⟨b1, o1 + k * 3, none⟩) hl1).trans g1
      have k2 := (hbr.cell (p := ⟨b1, o1 + k * 3 + 1, none⟩) hl1).trans g2
      have k3 := (hbr.cell (p := ⟨b1, o1 + k * 3 + 2, none⟩) hl1).trans g3
      have k4 := (hbr.cell (p := ⟨b2, o2 + k * 3, none⟩) hl2).trans g4
      have k5 := (hbr.cell (p := ⟨b2, o2 + k * 3 + 1, none⟩) hl2).trans g5
      have k6 := (hbr.cell (p := ⟨b2, o2 + k * 3 + 2, none⟩) hl2).trans g6
      clear hcc1 hcc2 g1 g2 g3 g4 g5 g6
      obtain ⟨x, hx⟩ : ∃ x, x = L.getD k dV := ⟨_, rfl⟩
      rw [← hx] at k1 k2 k3 k4 k5 k6
      clear hx hbr
      have Tr := Lib.hid Tr
      go_wp2_with fail
      go_quiet (fail)
      go_wp2_with fail
      go_roundw
      case rel => exact ⟨k + 1, by omega, by go_num, Lib.hid (below_dr Hbw.out _)⟩
      case measure => simp [intOf]; omega
    · have hge : (L.length : Int) ≤ (k : Int) := by omega
      clear hbr
      have Tr := Lib.hid Tr
      go_wp2_with fail
      go_ret
      exact ⟨rfl, Tr.out.b⟩
end Go.Proofs.YtfbgnpfhjbiikaaGreatDoor

namespace Go.Proofs.YtfbgnpfhjbiikaaGreatDoor
open Go Go.RowKit
def sgnI (x y : Int) : Int := if x < y then -1 else if y < x then 1 else 0

theorem cmp_isNaN (x : Int) (w : World) : Calls Tryz.prog 99 #[.int .i64 x] w fun e w' => e = .returned (.bool false) ∧ w = w' := by
  have hx : ((x : Int) != x) = false := by simp
  go_enter Tryz.func99, Tryz.ntmps99
  go_wp2
  go_ret
  first | exact ⟨rfl, rfl⟩ | (simp)
theorem cmp_compare (x y : Int) (w : World) : Calls Tryz.prog 71 #[.int .i64 x, .int .i64 y] w fun e w' => e = .returned (.int .i64 (sgnI x y)) ∧ w = w' := by
  by_cases h1 : x < y
  · have hs : Hid (sgnI x y = -1) := Lib.hid (by unfold sgnI; rw [if_pos h1])
    go_enter Tryz.func71, Tryz.ntmps71
    go_wp2_with (go_at_call 99; refine (cmp_isNaN _ _).mono ?_; rintro e w' ⟨rfl, rfl⟩)
    go_ret
    exact ⟨ret_int hs.out.symm, rfl⟩
  · by_cases h2 : y < x
    · have hs : Hid (sgnI x y = 1) := Lib.hid (by unfold sgnI; rw [if_neg h1, if_pos h2])
      go_enter Tryz.func71, Tryz.ntmps71
      go_wp2_with (go_at_call 99; refine (cmp_isNaN _ _).mono ?_; rintro e w' ⟨rfl, rfl⟩)
      go_ret
      exact ⟨ret_int hs.out.symm, rfl⟩
    · have hs : Hid (sgnI x y = 0) := Lib.hid (by unfold sgnI; rw [if_neg h1, if_neg h2])
      go_enter Tryz.func71, Tryz.ntmps71
      go_wp2_with (go_at_call 99; refine (cmp_isNaN _ _).mono ?_; rintro e w' ⟨rfl, rfl⟩)
      go_ret
      exact ⟨ret_int hs.out.symm, rfl⟩
theorem enters_cmp : ∀ args w, (callFunc 70 args).run Tryz.prog w = .ok (.enter 70 args) w := enters_of Tryz.func70 (by kernel_rfl) rfl

structure ComAt (w : World) (bx sb so n cap : Nat) (C : Nat → Int) : Prop where
  box : w.cell? ⟨bx, 0, none⟩ = some (.slice (some ⟨sb, so, none⟩) n cap)
  com : ∀ i, i < n → w.cell? ⟨sb, so + i * 18 + 13, none⟩ = some (.int .i64 (C i))

set_option maxRecDepth 100000 in
set_option maxHeartbeats 2000000 in
theorem ord_cmp {bx sb so n cap : Nat} {C : Nat → Int} (i j : Nat) (w : World) (h : ComAt w bx sb so n cap C) (hi : i < n) (hj : j < n) :
    Calls Tryz.prog 70 #[.int .i64 i, .int .i64 j, .pointer (some ⟨bx, 0, none⟩)] w fun e w' => e = .returned (.int .i64 (sgnI (C i) (C j))) ∧ ∃ q, w' = w.drewN q := by
  have hb := h.box
  have ci := h.com i hi
  have cj := h.com j hj
  have hi' : (i : Int) < (n : Int) := by omega
  have hj' : (j : Int) < (n : Int) := by omega
  obtain ⟨x, hx⟩ : ∃ x, x = C i := ⟨_, rfl⟩
  obtain ⟨y, hy⟩ : ∃ y, y = C j := ⟨_, rfl⟩
  rw [← hx] at ci ⊢; rw [← hy] at cj ⊢
  have HC := Lib.hid (cmp_compare x y)
  clear h hx hy
  go_enter Tryz.func70, Tryz.ntmps70
  go_wp2
  go_quiet (exact Calls.quiet_of_same ((HC.out _).mono fun e wz h => ⟨h.1, h.2.symm⟩))
  go_wp2
  go_ret
  exact ⟨rfl, _, rfl⟩

section
variable {α : Type} [Inhabited α] {enc : α → Value} {w0 W : World} {blk off : Nat} {dk : Array α}
theorem sw_grown (h : SW enc w0 blk off dk W) : w0.grownBy W (some blk) := by
  obtain ⟨n, os, rfl⟩ := h
  unfold sortWorld
  refine ⟨rfl, rfl, rfl, by simp [Sort.ahead], fun k hk hne => ?_⟩
  rw [Sort.heap_grow_old _ _ (by simpa [Sort.ahead] using hk)]
  have : blk ≠ k := fun e => hne (by rw [e])
  simp [Sort.putRow, Sort.mapBlock, Sort.ahead, Array.getElem?_modify, this]
end
theorem ComAt.grown {w w' : World} {bx sb so n cap b : Nat} {C : Nat → Int} (h : ComAt w bx sb so n cap C) (hg : w.grownBy w' (some b)) (h1 : bx ≠ b) (h2 : sb ≠ b) : ComAt w' bx sb so n cap C :=
  ⟨(hg.cell_far ⟨bx, 0, none⟩ (cell_lt h.box) (by simpa using h1)).trans h.box, fun i hi => (hg.cell_far ⟨sb, _, none⟩ (cell_lt (h.com i hi)) (by simpa using h2)).trans (h.com i hi)⟩

def encP (n : Nat) (x : Nat) : Value := .int .i64 ((x % n : Nat) : Int)
theorem encP_one (n : Nat) : OneCell (encP n) := fun _ => rfl
theorem encP_lt {n x : Nat} (h : x < n) : encP n x = .int .i64 (x : Int) := by unfold encP; rw [Nat.mod_eq_of_lt h]
def cfP (C : Nat → Int) (n : Nat) (x y : Nat) : Int := sgnI (C (x % n)) (C (y % n))
theorem lt_cfP (C : Nat → Int) (n : Nat) (x y : Nat) : ltOf (cfP C n) x y = ltC (fun i => C (i % n)) x y := by
  unfold ltOf cfP ltC sgnI
  apply decide_eq_decide.2
  split
  · simp [*]
  · split <;> simp [*]
theorem lays_cmp {bx sb so n cap blk off sz : Nat} {C : Nat → Int} {w : World} (h : ComAt w bx sb so n cap C) (hn : 0 < n) (h1 : bx ≠ blk) (h2 : sb ≠ blk) :
    CmpLays1 Tryz.prog 70 #[.pointer (some ⟨bx, 0, none⟩)] (encP n) (cfP C n) blk off sz w := by
  intro m os dk _ x y
  have hg := sw_grown (enc := encP n) (w0 := w) (blk := blk) (off := off) (dk := dk) ⟨m, os, rfl⟩
  refine (ord_cmp (x % n) (y % n) _ (h.grown hg h1 h2) (Nat.mod_lt _ hn) (Nat.mod_lt _ hn)).mono ?_
  rintro e w' ⟨rfl, q, rfl⟩
  exact ⟨rfl, q, #[], (Sort.grow_empty _).symm⟩

set_option maxRecDepth 100000 in
set_option maxHeartbeats 2000000 in
theorem ins_nil (fv : Value) (w : World) : Calls Tryz.prog 120 #[.slice none 0 0, .int .i64 0, .int .i64 0, fv] w fun e w' => e = .returned (.tuple #[]) ∧ w = w' := by
  go_enter Tryz.func120, Tryz.ntmps120
  go_wp2
  go_loop [8] (fun i => i = .int .i64 1) (fun _ => 0)
  case atStart => rfl
  case round =>
    obtain rfl := hrel
    go_wp2
    go_end0
    exact ⟨rfl, rfl⟩
set_option maxRecDepth 100000 in
set_option maxHeartbeats 2000000 in
theorem stable_nil (fv : Value) (w : World) : Calls Tryz.prog 69 #[.slice none 0 0, fv] w fun e w' => e = .returned (.tuple #[]) ∧ w = w' := by
  have hst : Calls Tryz.prog 98 #[.slice none 0 0, .int .i64 0, fv] w fun e w' => e = .returned (.tuple #[]) ∧ w = w' := by
    have HI := Lib.hid (ins_nil fv w)
    go_enter Tryz.func98, Tryz.ntmps98
    go_wp2
    go_loop [7, 8] (fun a b => a = .int .i64 0 ∧ b = .int .i64 20) (fun _ _ => 0)
    case atStart => exact ⟨rfl, rfl⟩
    case round =>
      obtain ⟨rfl, rfl⟩ := hrel
      go_wp2_with fail
      refine HI.out.mono ?_
      rintro e w' ⟨rfl, rfl⟩
      go_wp2_with fail
      go_loop [6] (fun a => a = .int .i64 20) (fun _ => 0)
      case atStart => rfl
      case round =>
        obtain rfl := hrel
        go_wp2
        go_end0
        exact ⟨rfl, rfl⟩
  go_enter Tryz.func69, Tryz.ntmps69
  go_wp2_with fail
  refine hst.mono ?_
  rintro e w' ⟨rfl, rfl⟩
  go_wp2_with fail
  go_end0
  exact ⟨rfl, rfl⟩

theorem ins_size (lt : Nat → Nat → Bool) (a b : Nat) (d : Array Nat) (hb : b ≤ d.size) : (Sort.insertionSort lt d a b).size = d.size := by
  have : ∀ (n i : Nat) (d : Array Nat), b - i = n → b ≤ d.size → (Sort.insOuter lt a b i d).size = d.size := by
    intro n
    induction n with
    | zero => intro i d h _; rw [io_stop _ _ _ _ _ (by omega)]
    | succ n ih =>
      intro i d h hb
      rw [io_go _ _ _ _ _ (by omega)]
      have h1 := (insInner_at lt a i d (by omega)).1
      rw [ih (i + 1) _ (by omega) (by rw [h1]; exact hb), h1]
  exact this _ _ d rfl hb
theorem ins_none (lt : Nat → Nat → Bool) (d : Array Nat) (a : Nat) : Sort.insertionSort lt d a a = d := by
  unfold Sort.insertionSort
  exact io_stop _ _ _ _ _ (by omega)

set_option maxRecDepth 100000 in
set_option maxHeartbeats 4000000 in
theorem stable_20 {bx sb so n cap blk c : Nat} {C : Nat → Int} (d : Array Nat) (w : World) (h : ComAt w bx sb so n cap C) (hn : 0 < n) (h1 : bx ≠ blk) (h2 : sb ≠ blk) (hH : Sort.Holds (encP n) w blk 0 d) (hblk : blk < w.heap.size) (hd : d.size ≤ 20) :
    Calls Tryz.prog 69 #[.slice (some ⟨blk, 0, none⟩) d.size c, .func (.func 70) #[] #[.pointer (some ⟨bx, 0, none⟩)]] w
      fun e w' => e = .returned (.tuple #[]) ∧ SW (encP n) w blk 0 (Sort.insertionSort (ltOf (cfP C n)) d 0 d.size) w' := by
  have hL := lays_cmp (off := 0) (sz := d.size) h hn h1 h2
  have R : Row1 (encP n) w blk 0 d := ⟨encP_one n, hH, hblk⟩
  have HI : Hid (∀ (dk : Array Nat) (a b : Nat) (W : World), dk.size = d.size → SW (encP n) w blk 0 dk W → a ≤ b → b ≤ d.size →
      Calls Tryz.prog 120 #[.slice (some ⟨blk, 0, none⟩) d.size c, .int .i64 a, .int .i64 b, .func (.func 70) #[] #[.pointer (some ⟨bx, 0, none⟩)]] W fun e w' => e = .returned (.tuple #[]) ∧ SW (encP n) w blk 0 (Sort.insertionSort (ltOf (cfP C n)) dk a b) w') :=
    Lib.hid (fun dk a b W hs S hab hb => by
      have := Tryz.slices_insertionSortCmp (encP n) (cfP C n) 70 #[.pointer (some ⟨bx, 0, none⟩)] blk 0 c a b d dk w W enters_cmp hL R hs.symm S hab (by omega) (by omega)
      rwa [hs] at this)
  have S0 := Lib.hid (SW.start hH)
  clear hL R hH h
  have hst : Calls Tryz.prog 98 #[.slice (some ⟨blk, 0, none⟩) d.size c, .int .i64 d.size, .func (.func 70) #[] #[.pointer (some ⟨bx, 0, none⟩)]] w
      fun e w' => e = .returned (.tuple #[]) ∧ SW (encP n) w blk 0 (Sort.insertionSort (ltOf (cfP C n)) d 0 d.size) w' := by
    have h20 : ¬ (20 : Int) < (d.size : Int) := by omega
    go_enter Tryz.func98, Tryz.ntmps98
    go_wp2
    by_cases hd20 : d.size = 20
    · have hge : (20 : Int) ≤ (d.size : Int) := by omega
      have hlt : ¬ (40 : Int) ≤ (d.size : Int) := by omega
      have HD := Lib.hid hd20; clear hd20
      go_loopw [7, 8] (fun a b wr => (a = .int .i64 0 ∧ b = .int .i64 20 ∧ Hid (wr = w)) ∨ (a = .int .i64 20 ∧ b = .int .i64 40 ∧ Hid (SW (encP n) w blk 0 (Sort.insertionSort (ltOf (cfP C n)) d 0 20) wr))) (fun _ b _ => (40 - intOf b).toNat)
      case atStart => exact Or.inl ⟨rfl, rfl, Lib.hid rfl⟩
      case round =>
        rcases hrel with ⟨rfl, rfl, hw⟩ | ⟨rfl, rfl, hS1⟩
        · obtain rfl := hw.out
          have HI0 := Lib.hid (HI.out d 0 20 wr rfl S0.out (Nat.zero_le _) (by omega))
          go_wp2_with fail
          refine HI0.out.mono ?_
          rintro e w' ⟨rfl, hS⟩
          have HS := Lib.hid hS; clear hS
          go_wp2_with fail
          go_roundw
          case rel => exact Or.inr ⟨rfl, rfl, HS⟩
          case measure => simp [intOf]
        · have hsz : (Sort.insertionSort (ltOf (cfP C n)) d 0 20).size = d.size := ins_size _ _ _ _ (by omega)
          have HI0 := Lib.hid (HI.out (Sort.insertionSort (ltOf (cfP C n)) d 0 20) 20 d.size wr hsz hS1.out (by omega) (Nat.le_refl _))
          clear hsz
          go_wp2_with fail
          refine HI0.out.mono ?_
          rintro e w' ⟨rfl, hS⟩
          have hS2 : SW (encP n) w blk 0 (Sort.insertionSort (ltOf (cfP C n)) d 0 d.size) w' := by
            rw [HD.out, ins_none] at hS
            rw [HD.out]; exact hS
          have HS := Lib.hid hS2; clear hS hS2
          go_wp2_with fail
          go_loop [6] (fun a => a = .int .i64 20) (fun _ => 0)
          case atStart => rfl
          case round =>
            obtain rfl := hrel
            go_wp2
            go_end0
            exact ⟨rfl, HS.out⟩
    · have hlt : ¬ (20 : Int) ≤ (d.size : Int) := by omega
      go_loopw [7, 8] (fun a b wr => a = .int .i64 0 ∧ b = .int .i64 20 ∧ Hid (wr = w)) (fun _ _ _ => 0)
      case atStart => exact ⟨rfl, rfl, Lib.hid rfl⟩
      case round =>
        obtain ⟨rfl, rfl, hw⟩ := hrel
        obtain rfl := hw.out
        have HI0 := Lib.hid (HI.out d 0 d.size wr rfl S0.out (Nat.zero_le _) (Nat.le_refl _))
        go_wp2_with fail
        refine HI0.out.mono ?_
        rintro e w' ⟨rfl, hS⟩
        have HS := Lib.hid hS; clear hS
        go_wp2_with fail
        go_loop [6] (fun a => a = .int .i64 20) (fun _ => 0)
        case atStart => rfl
        case round =>
          obtain rfl := hrel
          go_wp2
          go_end0
          exact ⟨rfl, HS.out⟩
  have HST := Lib.hid hst
  clear hst HI S0
  go_enter Tryz.func69, Tryz.ntmps69
  go_wp2_with fail
  refine HST.out.mono ?_
  rintro e w' ⟨rfl, hS⟩
  have HS := Lib.hid hS; clear hS
  go_wp2_with fail
  go_end0
  exact ⟨rfl, HS.out⟩
end Go.Proofs.YtfbgnpfhjbiikaaGreatDoor

namespace Go.Proofs.YtfbgnpfhjbiikaaGreatDoor
open Go Go.RowKit
open Go.Sort (swp)
def swF (a b n : Nat) (f : Nat → Nat) (k : Nat) : Nat := if a ≤ k ∧ k < a + n then f (k - a + b) else if b ≤ k ∧ k < b + n then f (k - b + a) else f k
def rotF (a m b : Nat) (f : Nat → Nat) (k : Nat) : Nat := if a ≤ k ∧ k < a + (b - m) then f (k + (m - a)) else if a + (b - m) ≤ k ∧ k < b then f (k - (b - m)) else f k
theorem swF_step {a b i : Nat} (f : Nat → Nat) (hab : a + i < b) (k : Nat) : (if k = b + i then swF a b i f (a + i) else if k = a + i then swF a b i f (b + i) else swF a b i f k) = swF a b (i + 1) f k := by
  unfold swF
  repeat' split
  all_goals first | (exfalso; omega) | rfl | (congr 1; omega)
theorem rot_end {m i : Nat} (f : Nat → Nat) (hi : i ≤ m) (k : Nat) : swF (m - i) m i f k = rotF (m - i) m (m + i) f k := by
  unfold swF rotF
  try dsimp only
  repeat' split
  all_goals first | (exfalso; omega) | rfl | (congr 1; omega)
theorem rot_left {m i j : Nat} (f : Nat → Nat) (hi : i ≤ m) (hj : j < i) (h0 : 0 < j) (k : Nat) : rotF (m - (i - j)) m (m + j) (swF (m - i) m j f) k = rotF (m - i) m (m + j) f k := by
  unfold swF rotF
  try dsimp only
  repeat' split
  all_goals first | (exfalso; omega) | rfl | (congr 1; omega)
theorem rot_right {m i j : Nat} (f : Nat → Nat) (hi : i ≤ m) (hj : i < j) (h0 : 0 < i) (k : Nat) : rotF (m - i) m (m + (j - i)) (swF (m - i) (m + (j - i)) i f) k = rotF (m - i) m (m + j) f k := by
  unfold swF rotF
  try dsimp only
  repeat' split
  all_goals first | (exfalso; omega) | rfl | (congr 1; omega)
theorem rotF_congr {a m b : Nat} {f g : Nat → Nat} (h : ∀ k, f k = g k) (k : Nat) : rotF a m b f k = rotF a m b g k := by
  unfold rotF; simp only [h]
def MovG (enc : Nat → Value) (w0 : World) (blk : Nat) (d : Array Nat) (lo hi : Nat) (f : Nat → Nat) (e : Ending) (w' : World) : Prop :=
  e = .returned (.tuple #[]) ∧ ∃ d' : Array Nat, SW enc w0 blk 0 d' w' ∧ Sort.PermIn lo hi d d' ∧ ∀ k, d'[k]! = f k
theorem perm_swp {d dk : Array Nat} {lo hi i j : Nat} (h : Sort.PermIn lo hi d dk) (hi1 : lo ≤ i) (hi2 : i < hi) (hj1 : lo ≤ j) (hj2 : j < hi) (hs : hi ≤ d.size) : Sort.PermIn lo hi d (swp dk i j) :=
  Sort.permIn_trans _ _ _ _ _ h (Sort.swp_permIn dk lo hi i j hi1 hi2 hj1 hj2 (by rw [h.1]; exact hs))

section
variable {enc : Nat → Value} {w0 : World} {blk cap : Nat} {d0 : Array Nat}
set_option maxRecDepth 1000000 in
set_option maxHeartbeats 8000000 in
theorem swr_s (R : Row1 enc w0 blk 0 d0) (fv : Value) (d : Array Nat) (w : World) (a b n lo hi : Nat) (hs : d.size = d0.size) (S : SW enc w0 blk 0 d w) (hab : a + n ≤ b) (hb : b + n ≤ d0.size) (hsz : d0.size < 4611686018427387904) (hlo : lo ≤ a) (hhi : b + n ≤ hi) (hh : hi ≤ d0.size) :
    Calls Tryz.prog 157 #[.slice (some ⟨blk, 0, none⟩) d0.size cap, .int .i64 a, .int .i64 b, .int .i64 n, fv] w (MovG enc w0 blk d lo hi (swF a b n (fun k => d[k]!))) := by
  have hcl0 := R.hO.cells
  simp only [Value.cells] at hcl0
  have hst := R.hO.store Tryz.prog
  have mixed : Tryz.prog.follows Departure.mixedOrders = true := by kernel_rfl
  have S0 := Lib.hid S
  clear S
  go_enter Tryz.func157, Tryz.ntmps157
  go_wp2_with fail
  go_loopw [10] (fun v wr => ∃ (i : Nat) (dk : Array Nat), v = .int .i64 i ∧ i ≤ n ∧ dk.size = d0.size ∧ Hid (SW enc w0 blk 0 dk wr) ∧ Hid (Sort.PermIn lo hi d dk) ∧ Hid (∀ k, dk[k]! = swF a b i (fun k => d[k]!) k)) (fun v _ => n - (intOf v).toNat)
  case atStart => exact ⟨0, d, rfl, Nat.zero_le _, hs, S0, Lib.hid (Sort.permIn_refl _ _ _), Lib.hid (fun k => by
      unfold swF
      rw [if_neg (by omega), if_neg (by omega)])⟩
  case round =>
    clear S0
    obtain ⟨i, dk, rfl, hi0, hsk, SK, HP, HF⟩ := hrel
    by_cases hlt : i < n
    · have hltI : (i : Int) < (n : Int) := by omega
      obtain ⟨iN1, hiN1⟩ : ∃ q, q = a + i := ⟨_, rfl⟩
      obtain ⟨jN1, hjN1⟩ : ∃ q, q = b + i := ⟨_, rfl⟩
      have ea1 : ((a : Int) + (i : Int)).toNat = iN1 := by omega
      have pa1 : (0 : Int) ≤ (a : Int) + (i : Int) := by omega
      have ba1 : (a : Int) + (i : Int) < (d0.size : Int) := by omega
      have ra1 : IntKind.i64.wrap ((a : Int) + (i : Int)) = (a : Int) + (i : Int) := by rw [IntKind.wrap_i64]; omega
      have ec1 : ((b : Int) + (i : Int)).toNat = jN1 := by omega
      have pc1 : (0 : Int) ≤ (b : Int) + (i : Int) := by omega
      have bc1 : (b : Int) + (i : Int) < (d0.size : Int) := by omega
      have rc1 : IntKind.i64.wrap ((b : Int) + (i : Int)) = (b : Int) + (i : Int) := by rw [IntKind.wrap_i64]; omega
      obtain ⟨x1, hx1⟩ : ∃ x, x = dk[a + i]! := ⟨_, rfl⟩
      obtain ⟨y1, hy1⟩ : ∃ x, x = dk[b + i]! := ⟨_, rfl⟩
      have S3 : Hid (SW enc w0 blk 0 (Sort.swp dk (a + i) (b + i)) ((wr.setCell ⟨blk, iN1, none⟩ (enc y1)).setCell ⟨blk, jN1, none⟩ (enc x1)).drew) := Lib.hid (by rw [hiN1, hjN1, hx1, hy1]; have := SK.out.swapped R (a + i) (b + i) (by omega) (by omega); simpa only [Nat.zero_add] using this)
      have c1a := SK.out.c1 R (by omega) (a + i) (by omega)
      have c1b := SK.out.c1 R (by omega) (b + i) (by omega)
      have f1a := SK.out.f1 R (by omega) (a + i) (by omega)
      have f1b := SK.out.f1 R (by omega) (b + i) (by omega)
      obtain ⟨u1, c1c⟩ := SK.out.c2 R (by omega) (a + i) (b + i) (by omega) (by omega) (enc y1)
      rw [← hjN1, ← hiN1] at c1c
      rw [← hx1, ← hiN1] at c1a
      rw [← hy1, ← hjN1] at c1b
      rw [← hiN1] at f1a
      rw [← hjN1] at f1b
      rw [Nat.zero_add] at c1a c1b f1a f1b
      simp only [Nat.zero_add] at c1c
      clear hx1 hy1 hiN1 hjN1
      go_wp2_with fail
      go_big_region_o
      clear c1a c1b c1c f1a f1b
      generalize ((wr.setCell ⟨blk, iN1, none⟩ (enc y1)).setCell ⟨blk, jN1, none⟩ (enc x1)).drew = ws at S3 ⊢
      clear ea1 ec1
      go_wp2_with fail
      go_roundw
      case rel => exact ⟨i + 1, swp dk (a + i) (b + i), by go_num, by omega, by rw [Sort.size_swp]; exact hsk, S3, Lib.hid (perm_swp HP.out (by omega) (by omega) (by omega) (by omega) (by omega)), Lib.hid (fun k => by
        rw [Sort.swp_get dk (by omega) (by omega), HF.out, HF.out, HF.out]
        exact swF_step _ (by omega) k)⟩
      case measure => simp [intOf]; omega
    · have hge : ¬ (i : Int) < (n : Int) := by omega
      obtain rfl : i = n := by omega
      go_wp2_with fail
      go_end0
      exact ⟨rfl, dk, SK.out, HP.out, HF.out⟩
set_option maxRecDepth 1000000 in
set_option maxHeartbeats 8000000 in
theorem rot_s (R : Row1 enc w0 blk 0 d0) (fv : Value) (d : Array Nat) (w : World) (a m b : Nat) (hs : d.size = d0.size) (S : SW enc w0 blk 0 d w) (ham : a < m) (hmb : m < b) (hb : b ≤ d0.size) (hsz : d0.size < 4611686018427387904) :
    Calls Tryz.prog 144 #[.slice (some ⟨blk, 0, none⟩) d0.size cap, .int .i64 a, .int .i64 m, .int .i64 b, fv] w (MovG enc w0 blk d a b (rotF a m b (fun k => d[k]!))) := by
  have HSw := Lib.hid (fun (dk : Array Nat) (wk : World) (x y n : Nat) (h1 : dk.size = d0.size) (h2 : SW enc w0 blk 0 dk wk) (h3 : x + n ≤ y) (h4 : y + n ≤ b) (h5 : a ≤ x) => swr_s (cap := cap) R fv dk wk x y n a b h1 h2 h3 (by omega) hsz h5 h4 hb)
  have S0 := Lib.hid S
  clear S
  go_enter Tryz.func144, Tryz.ntmps144
  go_wp2_with fail
  go_loopw [10, 11] (fun v u wr => ∃ (i j : Nat) (dk : Array Nat), v = .int .i64 i ∧ u = .int .i64 j ∧ 0 < i ∧ 0 < j ∧ i ≤ m - a ∧ j ≤ b - m ∧ dk.size = d0.size ∧ Hid (SW enc w0 blk 0 dk wr) ∧ Hid (Sort.PermIn a b d dk) ∧ Hid (∀ k, rotF (m - i) m (m + j) (fun k => dk[k]!) k = rotF a m b (fun k => d[k]!) k)) (fun v u _ => (intOf v).toNat + (intOf u).toNat)
  case atStart => exact ⟨m - a, b - m, d, by go_num, by go_num, by omega, by omega, Nat.le_refl _, Nat.le_refl _, hs, S0, Lib.hid (Sort.permIn_refl _ _ _), Lib.hid (fun k => by rw [show m - (m - a) = a by omega, show m + (b - m) = b by omega])⟩
  case round =>
    clear S0
    obtain ⟨i, j, dk, rfl, rfl, hi0, hj0, him, hjb, hsk, SK, HP, HF⟩ := hrel
    obtain ⟨mi, hmi⟩ : ∃ mi, m = mi + i := ⟨m - i, by omega⟩
    have hmI : (m : Int) = (mi : Int) + (i : Int) := by omega
    have hmi2 : (m : Int) - (i : Int) = (mi : Int) := by omega
    by_cases hij : i = j
    · subst hij
      have hijb : ((i : Int) != (i : Int)) = false := by simp
      have HS := Lib.hid (HSw.out dk wr mi m i hsk SK.out (by omega) (by omega) (by omega))
      have HMI := Lib.hid hmi
      clear hmi hmI
      go_wp2_with fail
      refine HS.out.mono ?_
      rintro e w' ⟨rfl, d', hS', hP', hf'⟩
      have HS' := Lib.hid hS'; have HP' := Lib.hid hP'; have HF' := Lib.hid hf'
      clear hS' hP' hf'
      go_wp2_with fail
      go_end0
      refine ⟨rfl, d', HS'.out, Sort.permIn_trans _ _ _ _ _ HP.out HP'.out, fun k => ?_⟩
      rw [← HF.out k, HF'.out k]
      have h := rot_end (m := m) (i := i) (fun k => dk[k]!) (by omega) k
      rw [show m - i = mi by have := HMI.out; omega] at h ⊢
      exact h
    · have hijI : ¬ (i : Int) = (j : Int) := by omega
      have hijb : ((i : Int) != (j : Int)) = true := by simp; omega
      by_cases hlt : j < i
      · have hltI : (j : Int) < (i : Int) := by omega
        have HS := Lib.hid (HSw.out dk wr mi m j hsk SK.out (by omega) (by omega) (by omega))
        have HMI := Lib.hid hmi
        obtain ⟨iq, hiq⟩ : ∃ q, i = j + q := ⟨i - j, by omega⟩
        have hiI : (i : Int) - (j : Int) = (iq : Int) := by omega
        have HIQ := Lib.hid hiq
        clear hij hmi hmI hiq
        go_wp2_with fail
        refine HS.out.mono ?_
        rintro e w' ⟨rfl, d', hS', hP', hf'⟩
        have HS' := Lib.hid hS'; have HP' := Lib.hid hP'; have HF' := Lib.hid hf'
        clear hS' hP' hf'
        go_wp2_with fail
        go_roundw
        case rel =>
          have h1 := HIQ.out; have h2 := HMI.out
          refine ⟨iq, j, d', by first | rfl | go_num, rfl, by omega, hj0, by omega, hjb, by rw [HP'.out.1]; exact hsk, HS', Lib.hid (Sort.permIn_trans _ _ _ _ _ HP.out HP'.out), Lib.hid (fun k => ?_)⟩
          rw [← HF.out k, rotF_congr HF'.out k]
          have h := rot_left (m := m) (i := i) (j := j) (fun k => dk[k]!) (by omega) hlt hj0 k
          rw [show m - (i - j) = m - iq by omega, show m - i = mi by omega] at h
          rw [show m - i = mi by omega]
          exact h
        case measure => have h1 := HIQ.out; simp [intOf]; omega
      · have hltI : ¬ (j : Int) < (i : Int) := by omega
        obtain ⟨jq, hjq⟩ : ∃ q, j = i + q := ⟨j - i, by omega⟩
        obtain ⟨mj, hmj⟩ : ∃ q, m + jq = q := ⟨_, rfl⟩
        have HS := Lib.hid (HSw.out dk wr mi mj i hsk SK.out (by omega) (by omega) (by omega))
        have HMJ := Lib.hid hmj
        have HMI := Lib.hid hmi
        have hjI : (j : Int) - (i : Int) = (jq : Int) := by omega
        have hjI2 : (m : Int) + (j : Int) - (i : Int) = (mj : Int) := by omega
        have HJQ := Lib.hid hjq
        clear hij hmi hmI hjq hmj
        go_wp2_with fail
        refine HS.out.mono ?_
        rintro e w' ⟨rfl, d', hS', hP', hf'⟩
        have HS' := Lib.hid hS'; have HP' := Lib.hid hP'; have HF' := Lib.hid hf'
        clear hS' hP' hf'
        go_wp2_with fail
        go_roundw
        case rel =>
          have h1 := HJQ.out; have h2 := HMI.out
          refine ⟨i, jq, d', rfl, by first | rfl | go_num, hi0, by omega, him, by omega, by rw [HP'.out.1]; exact hsk, HS', Lib.hid (Sort.permIn_trans _ _ _ _ _ HP.out HP'.out), Lib.hid (fun k => ?_)⟩
          rw [← HF.out k, rotF_congr HF'.out k]
          have h := rot_right (m := m) (i := i) (j := j) (fun k => dk[k]!) (by omega) (by omega) hi0 k
          rw [show j - i = jq by omega, show m - i = mi by omega, HMJ.out] at h
          rw [show m - i = mi by omega, HMJ.out]
          exact h
        case measure => have h1 := HJQ.out; simp [intOf]; omega
end
end Go.Proofs.YtfbgnpfhjbiikaaGreatDoor

namespace Go.Proofs.YtfbgnpfhjbiikaaGreatDoor
open Go Go.RowKit
open Go.Sort (swp)
theorem ltS_of {K : Nat → Int} {x y : Nat} (h : y < x) : ltC K x y = ltS K x y := by
  unfold ltC ltS
  apply decide_eq_decide.2
  omega
theorem ltS_tr {K : Nat → Int} {x y z : Nat} (h1 : ltS K y x = false) (h2 : ltS K z y = false) : ltS K z x = false := by
  simp only [ltS, decide_eq_false_iff_not] at *; omega
theorem ltS_as {K : Nat → Int} {x y : Nat} (h : ltS K x y = true) : ltS K y x = false := by
  simp only [ltS, decide_eq_true_eq, decide_eq_false_iff_not] at *; omega
theorem ltS_lt {K : Nat → Int} {x y z : Nat} (h1 : ltS K y x = false) (h2 : ltS K y z = true) : ltS K x z = true := by
  simp only [ltS, decide_eq_true_eq, decide_eq_false_iff_not] at *; omega
theorem ltS_tl {K : Nat → Int} {x y z : Nat} (h1 : ltS K x y = true) (h2 : ltS K z y = false) : ltS K x z = true := by
  simp only [ltS, decide_eq_true_eq, decide_eq_false_iff_not] at *; omega
theorem ltS_self {K : Nat → Int} (x : Nat) : ltS K x x = false := by
  simp only [ltS, decide_eq_false_iff_not]; omega
structure Runs (K : Nat → Int) (a m b : Nat) (d : Array Nat) : Prop where
  l : Sort.SortedIn (ltS K) a m d
  r : Sort.SortedIn (ltS K) m b d
  x : ∀ q p, m ≤ q → q < b → a ≤ p → p < m → d[p]! < d[q]!
def SymG (K : Nat → Int) (enc : Nat → Value) (w0 : World) (blk : Nat) (d : Array Nat) (a b : Nat) (e : Ending) (w' : World) : Prop :=
  e = .returned (.tuple #[]) ∧ ∃ d' : Array Nat, SW enc w0 blk 0 d' w' ∧ Sort.PermIn a b d d' ∧ Sort.SortedIn (ltS K) a b d'
def upF (a e : Nat) (f : Nat → Nat) (k : Nat) : Nat := if a ≤ k ∧ k < e then f (k + 1) else if k = e then f a else f k
def dnF (i m : Nat) (f : Nat → Nat) (k : Nat) : Nat := if k = i then f m else if i < k ∧ k ≤ m then f (k - 1) else f k
theorem upF_step {a k : Nat} (f : Nat → Nat) (h : a ≤ k) (t : Nat) : (if t = k + 1 then upF a k f k else if t = k then upF a k f (k + 1) else upF a k f t) = upF a (k + 1) f t := by
  unfold upF
  repeat' split
  all_goals first | (exfalso; omega) | rfl | (congr 1; omega)
theorem dnF_step {k m : Nat} (f : Nat → Nat) (h : k < m) (t : Nat) : (if t = k then dnF (k + 1) m f (k + 1) else if t = k + 1 then dnF (k + 1) m f k else dnF (k + 1) m f t) = dnF k m f t := by
  unfold dnF
  repeat' split
  all_goals first | (exfalso; omega) | rfl | (congr 1; omega)
theorem up_sorted {K : Nat → Int} {a e b : Nat} {d d' : Array Nat} (hr : Sort.SortedIn (ltS K) (a + 1) b d) (hae : a ≤ e) (heb : e < b) (h1 : ∀ h, a + 1 ≤ h → h ≤ e → ltS K d[h]! d[a]! = true) (h2 : ∀ h, e < h → h < b → ltS K d[h]! d[a]! = false) (hd : ∀ k, d'[k]! = upF a e (fun k => d[k]!) k) : Sort.SortedIn (ltS K) a b d' := by
  intro s t hs hst ht
  rw [hd s, hd t]
  unfold upF
  dsimp only
  by_cases hse : s < e
  · rw [if_pos (show a ≤ s ∧ s < e from ⟨hs, hse⟩)]
    by_cases hte : t < e
    · rw [if_pos (show a ≤ t ∧ t < e from ⟨by omega, hte⟩)]
      exact hr (s + 1) (t + 1) (by omega) (by omega) (by omega)
    · rw [if_neg (show ¬ (a ≤ t ∧ t < e) by omega)]
      by_cases hte2 : t = e
      · rw [if_pos hte2]; exact ltS_as (h1 (s + 1) (by omega) (by omega))
      · rw [if_neg hte2]; exact hr (s + 1) t (by omega) (by omega) ht
  · rw [if_neg (show ¬ (a ≤ s ∧ s < e) by omega), if_neg (show ¬ (a ≤ t ∧ t < e) by omega), if_neg (show ¬ t = e by omega)]
    by_cases hse2 : s = e
    · rw [if_pos hse2]; exact h2 t (by omega) ht
    · rw [if_neg hse2]; exact hr s t (by omega) hst ht
theorem dn_sorted {K : Nat → Int} {a i m : Nat} {d d' : Array Nat} (hr : Sort.SortedIn (ltS K) a m d) (hai : a ≤ i) (him : i ≤ m) (h1 : ∀ h, a ≤ h → h < i → ltS K d[m]! d[h]! = false) (h2 : ∀ h, i ≤ h → h < m → ltS K d[m]! d[h]! = true) (hd : ∀ k, d'[k]! = dnF i m (fun k => d[k]!) k) : Sort.SortedIn (ltS K) a (m + 1) d' := by
  intro s t hs hst ht
  rw [hd s, hd t]
  unfold dnF
  dsimp only
  by_cases hs1 : s < i
  · rw [if_neg (show ¬ s = i by omega), if_neg (show ¬ (i < s ∧ s ≤ m) by omega)]
    by_cases ht1 : t = i
    · rw [if_pos ht1]; exact h1 s hs hs1
    · rw [if_neg ht1]
      by_cases ht2 : i < t ∧ t ≤ m
      · rw [if_pos ht2]
        by_cases e : s = t - 1
        · omega
        · exact hr s (t - 1) hs (by omega) (by omega)
      · rw [if_neg ht2]; exact hr s t hs hst (by omega)
  · by_cases hs2 : s = i
    · rw [if_pos hs2, if_neg (show ¬ t = i by omega), if_pos (show i < t ∧ t ≤ m by omega)]
      exact ltS_as (h2 (t - 1) (by omega) (by omega))
    · rw [if_neg hs2, if_pos (show i < s ∧ s ≤ m by omega), if_neg (show ¬ t = i by omega), if_pos (show i < t ∧ t ≤ m by omega)]
      exact hr (s - 1) (t - 1) (by omega) (by omega) (by omega)
section
variable {enc : Nat → Value} {w0 : World} {blk cap : Nat} {d0 : Array Nat}
set_option maxRecDepth 1000000 in
set_option maxHeartbeats 8000000 in
theorem sym_one {cf : Nat → Nat → Int} {K : Nat → Int} {cb : Array Value} (hcf : ∀ x y, ltOf cf x y = ltC K x y) (hcmp : CmpLays1 Tryz.prog 70 cb enc cf blk 0 d0.size w0) (R : Row1 enc w0 blk 0 d0) (d : Array Nat) (w : World) (a m b : Nat) (hs : d.size = d0.size) (S : SW enc w0 blk 0 d w) (hm : m = a + 1) (hmb : m < b) (hb : b ≤ d0.size) (hsz : d0.size < 1000000) (hr : Runs K a m b d) :
    Calls Tryz.prog 121 #[.slice (some ⟨blk, 0, none⟩) d0.size cap, .int .i64 a, .int .i64 m, .int .i64 b, .func (.func 70) #[] cb] w (SymG K enc w0 blk d a b) := by
  have hcl0 := R.hO.cells
  simp only [Value.cells] at hcl0
  have hst := R.hO.store Tryz.prog
  have mixed : Tryz.prog.follows Departure.mixedOrders = true := by kernel_rfl
  have HC := Lib.hid hcmp
  have eg := enters_cmp
  have S0 := Lib.hid S
  have HR := Lib.hid hr
  have hmI : (m : Int) - (a : Int) = 1 := by omega
  have hma : a < m := by omega
  have HM := Lib.hid hm
  clear S hcmp hr hm
  go_enter Tryz.func121, Tryz.ntmps121
  go_wp2_with fail
  go_loopw [10, 11, 12] (fun v u _ wr => ∃ (i j : Nat), v = .int .i64 i ∧ u = .int .i64 j ∧ m ≤ i ∧ i ≤ j ∧ j ≤ b ∧ Hid (SW enc w0 blk 0 d wr) ∧ Hid (∀ h, m ≤ h → h < i → ltS K d[h]! d[a]! = true) ∧ Hid (∀ h, j ≤ h → h < b → ltS K d[h]! d[a]! = false)) (fun v u _ _ => (intOf u).toNat - (intOf v).toNat)
  case atStart => exact ⟨m, b, rfl, rfl, Nat.le_refl _, by omega, Nat.le_refl _, S0, Lib.hid (fun h h1 h2 => by omega), Lib.hid (fun h h1 h2 => by omega)⟩
  case round =>
    clear S0
    obtain ⟨i, j, rfl, rfl, hmi, hij, hjb, SJ, HI, HJ⟩ := hrel
    by_cases hlt : i < j
    · have hltI : (i : Int) < (j : Int) := by omega
      obtain ⟨h, hh⟩ : ∃ h, (i + j) / 2 = h := ⟨_, rfl⟩
      have hhI : ((i : Int) + (j : Int)) / 2 = (h : Int) := by omega
      have h1 : i ≤ h := by omega
      have h2 : h < j := by omega
      clear hh
      cases hq : ltS K d[h]! d[a]! with
      | true =>
        have HQ : Hid (∀ t, m ≤ t → t < h + 1 → ltS K d[t]! d[a]! = true) := Lib.hid (fun t ht1 ht2 => by
          by_cases e : t = h
          · rw [e]; exact hq
          · exact ltS_lt (HR.out.r t h ht1 (by omega) (by omega)) hq)
        obtain ⟨iN1, hiN1⟩ : ∃ q, q = h := ⟨_, rfl⟩
        obtain ⟨jN1, hjN1⟩ : ∃ q, q = a := ⟨_, rfl⟩
        have ea1 : ((h : Int)).toNat = iN1 := by omega
        have pa1 : (0 : Int) ≤ (h : Int) := by omega
        have ba1 : (h : Int) < (d0.size : Int) := by omega
        have ra1 : IntKind.i64.wrap ((h : Int)) = (h : Int) := by rw [IntKind.wrap_i64]; omega
        have ec1 : ((a : Int)).toNat = jN1 := by omega
        have pc1 : (0 : Int) ≤ (a : Int) := by omega
        have bc1 : (a : Int) < (d0.size : Int) := by omega
        have rc1 : IntKind.i64.wrap ((a : Int)) = (a : Int) := by rw [IntKind.wrap_i64]; omega
        have hlt1 : ltS K d[h]! d[a]! = true := hq
        have hlu1 : ltOf cf d[h]! d[a]! = true := by rw [hcf, ltS_of (HR.out.x (h) (a) (by omega) (by omega) (by omega) (by omega))]; exact hlt1
        obtain ⟨x1, hx1⟩ : ∃ x, x = d[h]! := ⟨_, rfl⟩
        obtain ⟨y1, hy1⟩ : ∃ x, x = d[a]! := ⟨_, rfl⟩
        have l1a := SJ.out.cl R (by omega) (h) (by omega)
        have l1b := SJ.out.cl R (by omega) (a) (by omega)
        rw [← hx1, ← hiN1] at l1a
        rw [← hy1, ← hjN1] at l1b
        rw [Nat.zero_add] at l1a l1b
        have hc1 := SJ.out.cmp HC.out (by omega) x1 y1
        have hv1 : cf x1 y1 < 0 := by rw [hx1, hy1]; exact of_decide_eq_true hlu1
        have hd1 : decide (cf x1 y1 < 0) = true := decide_eq_true hv1
        clear hx1 hy1 hiN1 hjN1 hlt1 hlu1
        go_wp2_with fail
        go_quiet_grown (first | (go_at_fn 70; refine Calls.grown_of (hc1 _ _)))
        have SC1 : Hid (SW enc w0 blk 0 d (Sort.grow (wr.drewN nq) osq)) := Lib.hid (SJ.out.grown nq osq)
        clear l1a l1b hc1
        generalize Sort.grow (wr.drewN nq) osq = wc1 at SC1 ⊢
        clear nq osq
        clear ea1 ec1
        go_wp2_with fail
        go_roundw
        case rel => exact ⟨h + 1, j, by go_num, rfl, by omega, by omega, hjb, SC1, HQ, HJ⟩
        case measure => simp [intOf]; omega
      | false =>
        have HQ : Hid (∀ t, h ≤ t → t < b → ltS K d[t]! d[a]! = false) := Lib.hid (fun t ht1 ht2 => by
          by_cases e : t = h
          · rw [e]; exact hq
          · exact ltS_tr hq (HR.out.r h t (by omega) (by omega) ht2))
        obtain ⟨iN2, hiN2⟩ : ∃ q, q = h := ⟨_, rfl⟩
        obtain ⟨jN2, hjN2⟩ : ∃ q, q = a := ⟨_, rfl⟩
        have ea2 : ((h : Int)).toNat = iN2 := by omega
        have pa2 : (0 : Int) ≤ (h : Int) := by omega
        have ba2 : (h : Int) < (d0.size : Int) := by omega
        have ra2 : IntKind.i64.wrap ((h : Int)) = (h : Int) := by rw [IntKind.wrap_i64]; omega
        have ec2 : ((a : Int)).toNat = jN2 := by omega
        have pc2 : (0 : Int) ≤ (a : Int) := by omega
        have bc2 : (a : Int) < (d0.size : Int) := by omega
        have rc2 : IntKind.i64.wrap ((a : Int)) = (a : Int) := by rw [IntKind.wrap_i64]; omega
        have hlt2 : ltS K d[h]! d[a]! = false := hq
        have hlu2 : ltOf cf d[h]! d[a]! = false := by rw [hcf, ltS_of (HR.out.x (h) (a) (by omega) (by omega) (by omega) (by omega))]; exact hlt2
        obtain ⟨x2, hx2⟩ : ∃ x, x = d[h]! := ⟨_, rfl⟩
        obtain ⟨y2, hy2⟩ : ∃ x, x = d[a]! := ⟨_, rfl⟩
        have l2a := SJ.out.cl R (by omega) (h) (by omega)
        have l2b := SJ.out.cl R (by omega) (a) (by omega)
        rw [← hx2, ← hiN2] at l2a
        rw [← hy2, ← hjN2] at l2b
        rw [Nat.zero_add] at l2a l2b
        have hc2 := SJ.out.cmp HC.out (by omega) x2 y2
        have hv2 : ¬ cf x2 y2 < 0 := by rw [hx2, hy2]; exact of_decide_eq_false hlu2
        have hd2 : decide (cf x2 y2 < 0) = false := decide_eq_false hv2
        clear hx2 hy2 hiN2 hjN2 hlt2 hlu2
        go_wp2_with fail
        go_quiet_grown (first | (go_at_fn 70; refine Calls.grown_of (hc2 _ _)))
        have SC2 : Hid (SW enc w0 blk 0 d (Sort.grow (wr.drewN nq) osq)) := Lib.hid (SJ.out.grown nq osq)
        clear l2a l2b hc2
        generalize Sort.grow (wr.drewN nq) osq = wc2 at SC2 ⊢
        clear nq osq
        clear ea2 ec2
        go_wp2_with fail
        go_roundw
        case rel => exact ⟨i, h, rfl, by go_num, hmi, h1, by omega, SC2, HI, HQ⟩
        case measure => simp [intOf]; omega
    · have hltI : ¬ (i : Int) < (j : Int) := by omega
      obtain rfl : i = j := by omega
      obtain ⟨e, he⟩ : ∃ e, i = e + 1 := ⟨i - 1, by omega⟩
      have heI : (i : Int) - 1 = (e : Int) := by omega
      have hae : a ≤ e := by omega
      have heb : e < b := by omega
      have HE := Lib.hid he
      clear he
      go_wp2_with fail
      go_loopw [13] (fun v wr => ∃ (k : Nat) (dk : Array Nat), v = .int .i64 k ∧ a ≤ k ∧ k ≤ e ∧ dk.size = d0.size ∧ Hid (SW enc w0 blk 0 dk wr) ∧ Hid (Sort.PermIn a b d dk) ∧ Hid (∀ t, dk[t]! = upF a k (fun k => d[k]!) t)) (fun v _ => e - (intOf v).toNat)
      case atStart => exact ⟨a, d, rfl, Nat.le_refl _, hae, hs, SJ, Lib.hid (Sort.permIn_refl _ _ _), Lib.hid (fun t => by
        unfold upF
        rw [if_neg (by omega)]
        by_cases e : t = a
        · rw [if_pos e, e]
        · rw [if_neg e])⟩
      case round =>
        clear SJ
        obtain ⟨k, dk, rfl, hak, hke, hsk, SK, HP, HF⟩ := hrel
        by_cases hlt : k < e
        · have hltI : (k : Int) < (e : Int) := by omega
          obtain ⟨iN3, hiN3⟩ : ∃ q, q = k := ⟨_, rfl⟩
          obtain ⟨jN3, hjN3⟩ : ∃ q, q = k + 1 := ⟨_, rfl⟩
          have ea3 : ((k : Int)).toNat = iN3 := by omega
          have pa3 : (0 : Int) ≤ (k : Int) := by omega
          have ba3 : (k : Int) < (d0.size : Int) := by omega
          have ra3 : IntKind.i64.wrap ((k : Int)) = (k : Int) := by rw [IntKind.wrap_i64]; omega
          have ec3 : ((k : Int) + 1).toNat = jN3 := by omega
          have pc3 : (0 : Int) ≤ (k : Int) + 1 := by omega
          have bc3 : (k : Int) + 1 < (d0.size : Int) := by omega
          have rc3 : IntKind.i64.wrap ((k : Int) + 1) = (k : Int) + 1 := by rw [IntKind.wrap_i64]; omega
          obtain ⟨x3, hx3⟩ : ∃ x, x = dk[k]! := ⟨_, rfl⟩
          obtain ⟨y3, hy3⟩ : ∃ x, x = dk[k + 1]! := ⟨_, rfl⟩
          have S3 : Hid (SW enc w0 blk 0 (Sort.swp dk (k) (k + 1)) ((wr.setCell ⟨blk, iN3, none⟩ (enc y3)).setCell ⟨blk, jN3, none⟩ (enc x3)).drew) := Lib.hid (by rw [hiN3, hjN3, hx3, hy3]; have := SK.out.swapped R (k) (k + 1) (by omega) (by omega); simpa only [Nat.zero_add] using this)
          have c3a := SK.out.c1 R (by omega) (k) (by omega)
          have c3b := SK.out.c1 R (by omega) (k + 1) (by omega)
          have f3a := SK.out.f1 R (by omega) (k) (by omega)
          have f3b := SK.out.f1 R (by omega) (k + 1) (by omega)
          obtain ⟨u3, c3c⟩ := SK.out.c2 R (by omega) (k) (k + 1) (by omega) (by omega) (enc y3)
          rw [← hjN3, ← hiN3] at c3c
          rw [← hx3, ← hiN3] at c3a
          rw [← hy3, ← hjN3] at c3b
          rw [← hiN3] at f3a
          rw [← hjN3] at f3b
          rw [Nat.zero_add] at c3a c3b f3a f3b
          simp only [Nat.zero_add] at c3c
          clear hx3 hy3 hiN3 hjN3
          go_wp2_with fail
          go_big_region_o
          clear c3a c3b c3c f3a f3b
          generalize ((wr.setCell ⟨blk, iN3, none⟩ (enc y3)).setCell ⟨blk, jN3, none⟩ (enc x3)).drew = ws at S3 ⊢
          clear ea3 ec3
          go_wp2_with fail
          go_roundw
          case rel => exact ⟨k + 1, swp dk k (k + 1), by go_num, by omega, by omega, by rw [Sort.size_swp]; exact hsk, S3, Lib.hid (perm_swp HP.out (by omega) (by omega) (by omega) (by omega) (by omega)), Lib.hid (fun t => by
            rw [Sort.swp_get dk (by omega) (by omega), HF.out, HF.out, HF.out]
            exact upF_step _ (by omega) t)⟩
          case measure => simp [intOf]; omega
        · have hltI : ¬ (k : Int) < (e : Int) := by omega
          obtain rfl : k = e := by omega
          go_wp2_with fail
          go_end0
          have he := HE.out; have hm := HM.out
          exact ⟨rfl, dk, SK.out, HP.out, up_sorted (by rw [← hm]; exact HR.out.r) hak heb (fun h h1 h2 => HI.out h (by omega) (by omega)) (fun h h1 h2 => HJ.out h (by omega) h2) HF.out⟩
set_option maxRecDepth 1000000 in
set_option maxHeartbeats 8000000 in
theorem sym_last {cf : Nat → Nat → Int} {K : Nat → Int} {cb : Array Value} (hcf : ∀ x y, ltOf cf x y = ltC K x y) (hcmp : CmpLays1 Tryz.prog 70 cb enc cf blk 0 d0.size w0) (R : Row1 enc w0 blk 0 d0) (d : Array Nat) (w : World) (a m b : Nat) (hs : d.size = d0.size) (S : SW enc w0 blk 0 d w) (hm : b = m + 1) (ham : a + 1 < m) (hb : b ≤ d0.size) (hsz : d0.size < 1000000) (hr : Runs K a m b d) :
    Calls Tryz.prog 121 #[.slice (some ⟨blk, 0, none⟩) d0.size cap, .int .i64 a, .int .i64 m, .int .i64 b, .func (.func 70) #[] cb] w (SymG K enc w0 blk d a b) := by
  have hcl0 := R.hO.cells
  simp only [Value.cells] at hcl0
  have hst := R.hO.store Tryz.prog
  have mixed : Tryz.prog.follows Departure.mixedOrders = true := by kernel_rfl
  have HC := Lib.hid hcmp
  have eg := enters_cmp
  have S0 := Lib.hid S
  have HR := Lib.hid hr
  have hmI : (b : Int) - (m : Int) = 1 := by omega
  have hmI2 : ((m : Int) - (a : Int) == 1) = false := by simp; omega
  have hmI3 : ¬ (m : Int) - (a : Int) = 1 := by omega
  have hma : a < m := by omega
  have HM := Lib.hid hm
  have hmb : m < b := by omega
  clear S hcmp hr hm
  go_enter Tryz.func121, Tryz.ntmps121
  go_wp2_with fail
  go_loopw [14, 15, 16] (fun v u _ wr => ∃ (i j : Nat), v = .int .i64 i ∧ u = .int .i64 j ∧ a ≤ i ∧ i ≤ j ∧ j ≤ m ∧ Hid (SW enc w0 blk 0 d wr) ∧ Hid (∀ h, a ≤ h → h < i → ltS K d[m]! d[h]! = false) ∧ Hid (∀ h, j ≤ h → h < m → ltS K d[m]! d[h]! = true)) (fun v u _ _ => (intOf u).toNat - (intOf v).toNat)
  case atStart => exact ⟨a, m, rfl, rfl, Nat.le_refl _, by omega, Nat.le_refl _, S0, Lib.hid (fun h h1 h2 => by omega), Lib.hid (fun h h1 h2 => by omega)⟩
  case round =>
    clear S0
    obtain ⟨i, j, rfl, rfl, hai, hij, hjm, SJ, HI, HJ⟩ := hrel
    by_cases hlt : i < j
    · have hltI : (i : Int) < (j : Int) := by omega
      obtain ⟨h, hh⟩ : ∃ h, (i + j) / 2 = h := ⟨_, rfl⟩
      have hhI : ((i : Int) + (j : Int)) / 2 = (h : Int) := by omega
      have h1 : i ≤ h := by omega
      have h2 : h < j := by omega
      clear hh
      cases hq : ltS K d[m]! d[h]! with
      | true =>
        have HQ : Hid (∀ t, h ≤ t → t < m → ltS K d[m]! d[t]! = true) := Lib.hid (fun t ht1 ht2 => by
          by_cases e : t = h
          · rw [e]; exact hq
          · exact ltS_tl hq (HR.out.l h t (by omega) (by omega) ht2))
        obtain ⟨iN1, hiN1⟩ : ∃ q, q = m := ⟨_, rfl⟩
        obtain ⟨jN1, hjN1⟩ : ∃ q, q = h := ⟨_, rfl⟩
        have ea1 : ((m : Int)).toNat = iN1 := by omega
        have pa1 : (0 : Int) ≤ (m : Int) := by omega
        have ba1 : (m : Int) < (d0.size : Int) := by omega
        have ra1 : IntKind.i64.wrap ((m : Int)) = (m : Int) := by rw [IntKind.wrap_i64]; omega
        have ec1 : ((h : Int)).toNat = jN1 := by omega
        have pc1 : (0 : Int) ≤ (h : Int) := by omega
        have bc1 : (h : Int) < (d0.size : Int) := by omega
        have rc1 : IntKind.i64.wrap ((h : Int)) = (h : Int) := by rw [IntKind.wrap_i64]; omega
        have hlt1 : ltS K d[m]! d[h]! = true := hq
        have hlu1 : ltOf cf d[m]! d[h]! = true := by rw [hcf, ltS_of (HR.out.x (m) (h) (by omega) (by omega) (by omega) (by omega))]; exact hlt1
        obtain ⟨x1, hx1⟩ : ∃ x, x = d[m]! := ⟨_, rfl⟩
        obtain ⟨y1, hy1⟩ : ∃ x, x = d[h]! := ⟨_, rfl⟩
        have l1a := SJ.out.cl R (by omega) (m) (by omega)
        have l1b := SJ.out.cl R (by omega) (h) (by omega)
        rw [← hx1, ← hiN1] at l1a
        rw [← hy1, ← hjN1] at l1b
        rw [Nat.zero_add] at l1a l1b
        have hc1 := SJ.out.cmp HC.out (by omega) x1 y1
        have hv1 : cf x1 y1 < 0 := by rw [hx1, hy1]; exact of_decide_eq_true hlu1
        have hd1 : decide (cf x1 y1 < 0) = true := decide_eq_true hv1
        clear hx1 hy1 hiN1 hjN1 hlt1 hlu1
        go_wp2_with fail
        go_quiet_grown (first | (go_at_fn 70; refine Calls.grown_of (hc1 _ _)))
        have SC1 : Hid (SW enc w0 blk 0 d (Sort.grow (wr.drewN nq) osq)) := Lib.hid (SJ.out.grown nq osq)
        clear l1a l1b hc1
        generalize Sort.grow (wr.drewN nq) osq = wc1 at SC1 ⊢
        clear nq osq
        clear ea1 ec1
        go_wp2_with fail
        go_roundw
        case rel => exact ⟨i, h, rfl, by go_num, hai, h1, by omega, SC1, HI, HQ⟩
        case measure => simp [intOf]; omega
      | false =>
        have HQ : Hid (∀ t, a ≤ t → t < h + 1 → ltS K d[m]! d[t]! = false) := Lib.hid (fun t ht1 ht2 => by
          by_cases e : t = h
          · rw [e]; exact hq
          · exact ltS_tr (HR.out.l t h ht1 (by omega) (by omega)) hq)
        obtain ⟨iN2, hiN2⟩ : ∃ q, q = m := ⟨_, rfl⟩
        obtain ⟨jN2, hjN2⟩ : ∃ q, q = h := ⟨_, rfl⟩
        have ea2 : ((m : Int)).toNat = iN2 := by omega
        have pa2 : (0 : Int) ≤ (m : Int) := by omega
        have ba2 : (m : Int) < (d0.size : Int) := by omega
        have ra2 : IntKind.i64.wrap ((m : Int)) = (m : Int) := by rw [IntKind.wrap_i64]; omega
        have ec2 : ((h : Int)).toNat = jN2 := by omega
        have pc2 : (0 : Int) ≤ (h : Int) := by omega
        have bc2 : (h : Int) < (d0.size : Int) := by omega
        have rc2 : IntKind.i64.wrap ((h : Int)) = (h : Int) := by rw [IntKind.wrap_i64]; omega
        have hlt2 : ltS K d[m]! d[h]! = false := hq
        have hlu2 : ltOf cf d[m]! d[h]! = false := by rw [hcf, ltS_of (HR.out.x (m) (h) (by omega) (by omega) (by omega) (by omega))]; exact hlt2
        obtain ⟨x2, hx2⟩ : ∃ x, x = d[m]! := ⟨_, rfl⟩
        obtain ⟨y2, hy2⟩ : ∃ x, x = d[h]! := ⟨_, rfl⟩
        have l2a := SJ.out.cl R (by omega) (m) (by omega)
        have l2b := SJ.out.cl R (by omega) (h) (by omega)
        rw [← hx2, ← hiN2] at l2a
        rw [← hy2, ← hjN2] at l2b
        rw [Nat.zero_add] at l2a l2b
        have hc2 := SJ.out.cmp HC.out (by omega) x2 y2
        have hv2 : ¬ cf x2 y2 < 0 := by rw [hx2, hy2]; exact of_decide_eq_false hlu2
        have hd2 : decide (cf x2 y2 < 0) = false := decide_eq_false hv2
        clear hx2 hy2 hiN2 hjN2 hlt2 hlu2
        go_wp2_with fail
        go_quiet_grown (first | (go_at_fn 70; refine Calls.grown_of (hc2 _ _)))
        have SC2 : Hid (SW enc w0 blk 0 d (Sort.grow (wr.drewN nq) osq)) := Lib.hid (SJ.out.grown nq osq)
        clear l2a l2b hc2
        generalize Sort.grow (wr.drewN nq) osq = wc2 at SC2 ⊢
        clear nq osq
        clear ea2 ec2
        go_wp2_with fail
        go_roundw
        case rel => exact ⟨h + 1, j, by go_num, rfl, by omega, by omega, hjm, SC2, HQ, HJ⟩
        case measure => simp [intOf]; omega
    · have hltI : ¬ (i : Int) < (j : Int) := by omega
      obtain rfl : i = j := by omega
      go_wp2_with fail
      go_loopw [17] (fun v wr => ∃ (k : Nat) (dk : Array Nat), v = .int .i64 k ∧ i ≤ k ∧ k ≤ m ∧ dk.size = d0.size ∧ Hid (SW enc w0 blk 0 dk wr) ∧ Hid (Sort.PermIn a b d dk) ∧ Hid (∀ t, dk[t]! = dnF k m (fun k => d[k]!) t)) (fun v _ => (intOf v).toNat - i)
      case atStart => exact ⟨m, d, rfl, hjm, Nat.le_refl _, hs, SJ, Lib.hid (Sort.permIn_refl _ _ _), Lib.hid (fun t => by
        unfold dnF
        by_cases e : t = m
        · rw [if_pos e, e]
        · rw [if_neg e, if_neg (by omega)])⟩
      case round =>
        clear SJ
        obtain ⟨k, dk, rfl, hik, hkm, hsk, SK, HP, HF⟩ := hrel
        by_cases hlt : i < k
        · have hltI : (i : Int) < (k : Int) := by omega
          obtain ⟨kp, rfl⟩ : ∃ q, k = q + 1 := ⟨k - 1, by omega⟩
          have hkI : ((kp + 1 : Nat) : Int) - 1 = (kp : Int) := by omega
          have hkI2 : (kp : Int) + 1 - 1 = (kp : Int) := by omega
          obtain ⟨iN3, hiN3⟩ : ∃ q, q = kp + 1 := ⟨_, rfl⟩
          obtain ⟨jN3, hjN3⟩ : ∃ q, q = kp := ⟨_, rfl⟩
          have ea3 : ((kp : Int) + 1).toNat = iN3 := by omega
          have pa3 : (0 : Int) ≤ (kp : Int) + 1 := by omega
          have ba3 : (kp : Int) + 1 < (d0.size : Int) := by omega
          have ra3 : IntKind.i64.wrap ((kp : Int) + 1) = (kp : Int) + 1 := by rw [IntKind.wrap_i64]; omega
          have ec3 : ((kp : Int)).toNat = jN3 := by omega
          have pc3 : (0 : Int) ≤ (kp : Int) := by omega
          have bc3 : (kp : Int) < (d0.size : Int) := by omega
          have rc3 : IntKind.i64.wrap ((kp : Int)) = (kp : Int) := by rw [IntKind.wrap_i64]; omega
          obtain ⟨x3, hx3⟩ : ∃ x, x = dk[kp + 1]! := ⟨_, rfl⟩
          obtain ⟨y3, hy3⟩ : ∃ x, x = dk[kp]! := ⟨_, rfl⟩
          have S3 : Hid (SW enc w0 blk 0 (Sort.swp dk (kp + 1) (kp)) ((wr.setCell ⟨blk, iN3, none⟩ (enc y3)).setCell ⟨blk, jN3, none⟩ (enc x3)).drew) := Lib.hid (by rw [hiN3, hjN3, hx3, hy3]; have := SK.out.swapped R (kp + 1) (kp) (by omega) (by omega); simpa only [Nat.zero_add] using this)
          have c3a := SK.out.c1 R (by omega) (kp + 1) (by omega)
          have c3b := SK.out.c1 R (by omega) (kp) (by omega)
          have f3a := SK.out.f1 R (by omega) (kp + 1) (by omega)
          have f3b := SK.out.f1 R (by omega) (kp) (by omega)
          obtain ⟨u3, c3c⟩ := SK.out.c2 R (by omega) (kp + 1) (kp) (by omega) (by omega) (enc y3)
          rw [← hiN3, ← hjN3] at c3c
          rw [← hx3, ← hiN3] at c3a
          rw [← hy3, ← hjN3] at c3b
          rw [← hiN3] at f3a
          rw [← hjN3] at f3b
          rw [Nat.zero_add] at c3a c3b f3a f3b
          simp only [Nat.zero_add] at c3c
          clear hx3 hy3 hiN3 hjN3
          go_wp2_with fail
          go_big_region_o
          clear c3a c3b c3c f3a f3b
          generalize ((wr.setCell ⟨blk, iN3, none⟩ (enc y3)).setCell ⟨blk, jN3, none⟩ (enc x3)).drew = ws at S3 ⊢
          clear ea3 ec3
          go_wp2_with fail
          go_roundw
          case rel => exact ⟨kp, swp dk (kp + 1) kp, by first | rfl | go_num, by omega, by omega, by rw [Sort.size_swp]; exact hsk, S3, Lib.hid (perm_swp HP.out (by omega) (by omega) (by omega) (by omega) (by omega)), Lib.hid (fun t => by
            rw [Sort.swp_get dk (by omega) (by omega), HF.out, HF.out, HF.out]
            exact dnF_step _ (by omega) t)⟩
          case measure => simp [intOf]; omega
        · have hltI : ¬ (i : Int) < (k : Int) := by omega
          obtain rfl : k = i := by omega
          go_wp2_with fail
          go_end0
          have hm := HM.out
          exact ⟨rfl, dk, SK.out, HP.out, by rw [hm]; exact dn_sorted HR.out.l hai hkm HI.out HJ.out HF.out⟩
end
end Go.Proofs.YtfbgnpfhjbiikaaGreatDoor
