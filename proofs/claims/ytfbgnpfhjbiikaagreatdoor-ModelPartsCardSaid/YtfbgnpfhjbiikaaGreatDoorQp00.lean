/- What every law's end uses: a call that answers true and makes new memory alone meets a law's row, whatever its arguments are. Small facts that all walks of this seat use: lists of strings in memory, and how they stay as they are when only new memory is made. A slice of strings that came in, opened: it reads as a list of strings, each within the reach. What the ends of the laws of this seat share: the library's variable, the world of the witness. Versions and cells as plain data, and how they lie in memory. Contracts for package cell: May, Now, Size. Contracts for package cell: Now, Clone of versions, kept. Contracts: slices.Clone of versions, cell.kept. Contract: cell.comes. Contracts: cell.Put, cell.Delete. Contracts: cell.find$1, slices.IndexFunc over versions. Contract: cell.find. -/
import Derived.Test.YtfbgnpfhjbiikaaGreatDoorCards
import Derived.Test.YtfbgnpfhjbiikaaGreatDoorTie
import Derived.WalkKit
import Derived.ProofKit
import Derived.OpenShut
import Derived.Deep.DeepHandedRow
import Derived.Shelf.Vars
import Derived.Test.YtfbgnpfhjbiikaaGreatDoorRows
import Derived.WalkSpells
import Derived.WalkLawsBesides
import Derived.Lib.Hide
import Derived.SliceStrings
import Derived.SizedLaws
import Derived.Laws.AppendOwnNone
import Derived.Deep.RegionHeld3
import Derived.Deep.AppendLies
import Derived.Deep.RegionWith
import Derived.Deep.DeepCutAuto
namespace Go.Proofs.YtfbgnpfhjbiikaaGreatDoor
open Go Go.ChangeShapes Go.WideShapes Go.ChangeAt Go.RowKit
section
variable {H : Type} {enc : TypeId × Value → H} {P : Program}
theorem trodAll_below (hl : laidOutB P = true) {W W' : World} (hb : Below W.heap.size W W') : ∀ (ts : List TypeId) (vs : List Value) (ds : List (DataW H)) (ps : List MemPlace),
    (∀ t ∈ ts, P.readableRec t = true ∧ t < P.types.size) → (∀ x ∈ ps, x.block < W.heap.size) → DataW.TrodAll enc P W 0 (fun _ => true) true ts vs ds ps → DataW.TrodAll enc P W' 0 (fun b => decide (b < W.heap.size)) true ts vs ds ps
  | [], [], [], _, _, _, h => h
  | [], [], _ :: _, _, _, _, h => h.elim
  | [], _ :: _, _, _, _, _, h => h.elim
  | _ :: _, [], _, _, _, _, h => h.elim
  | _ :: _, _ :: _, [], _, _, _, h => h.elim
  | t :: ts, v :: vs, d :: ds, ps, hr, hlt, h => by
    obtain ⟨p, q, h1, h2, rfl⟩ := h
    have ht := hr t (List.mem_cons_self)
    exact ⟨p, q, Below.trod hl ht.1 ht.2 h1 hb (fun x hx => hlt x (List.mem_append_left _ hx)), trodAll_below hl hb ts vs ds q (fun t' h' => hr t' (List.mem_cons_of_mem _ h')) (fun x hx => hlt x (List.mem_append_right _ hx)) h2, rfl⟩
theorem law_post {f : Func} {s : ChangeSpec} {tb : TypeId} (hl : laidOutB P = true) (hts : ∀ t ∈ f.params.toList, P.readableRec t = true ∧ t < P.types.size) (hrt : f.resultTypes.toList = [tb]) (htb : P.underlying tb = some .bool)
    (hv : s.vars = []) {W W' : World} {args : Array Value} {ds gs : List (DataW H)} {before : List MemPlace} (hW : DataW.Whole enc P f.params.toList s.vars false W args.toList ds gs before)
    (hfn : s.fn H ds = { results := [.lit (.bool true)], args := ds }) (hb : Below W.heap.size W W') : s.post enc P f false true false false W args (.bool true) W' := by
  have hW2 := hW
  obtain ⟨p, q, hA, hV, hpq, _, _⟩ := hW
  rw [hv] at hV
  have hg : gs = [] ∧ q = [] := by
    cases gs with
    | nil => exact ⟨rfl, hV⟩
    | cons a t => exact hV.elim
  obtain ⟨rfl, rfl⟩ := hg
  have hfn2 : s.fn H (ds ++ []) = { results := [.lit (.bool true)], args := ds } := by rw [List.append_nil]; exact hfn
  have hlt : ∀ x ∈ p, x.block < W.heap.size := fun x hx => hW2.lt x (by rw [hpq]; simpa using hx)
  refine ⟨ds, [], before, [], p, [], hW2, ?_, ?_, ?_, ?_, fun h => by cases h⟩
  · have hsz : f.resultTypes.size = 1 := by have := congrArg List.length hrt; simpa using this
    rw [hrt, hsz, hfn2]
    exact ⟨[], [], shut_bool htb true, rfl, rfl⟩
  · rw [hfn2]; exact trodAll_below hl hb _ _ _ _ hts hlt hA
  · rw [hfn2, hv]; rfl
  · exact hb.frame _
end
theorem ownNone : ownKnob Tryz.prog.godebug = none := by kernel_rfl
theorem laidOut : laidOutB Tryz.prog = true := by kernel_rfl
end Go.Proofs.YtfbgnpfhjbiikaaGreatDoor

namespace Go.Proofs.YtfbgnpfhjbiikaaGreatDoor
open Go Go.RowKit
theorem ret_bool {a b : Bool} (h : a = b) : Ending.returned (.bool a) = .returned (.bool b) := by rw [h]
theorem ret_strb {a b : ByteArray} {x y : Bool} (h : a = b) (h2 : x = y) : Ending.returned (.tuple #[.string a, .bool x]) = .returned (.tuple #[.string b, .bool y]) := by rw [h, h2]

def bs (l : List UInt8) : ByteArray := ⟨l.toArray⟩
theorem bs_toList (l : List UInt8) : (bs l).data.toList = l := rfl
theorem toList_bs (s : ByteArray) : bs s.data.toList = s := rfl
theorem bs_size (l : List UInt8) : (bs l).size = l.length := rfl
theorem ba_ext {a b : ByteArray} (h : a.data.toList = b.data.toList) : a = b := by rw [← toList_bs a, h]; rfl
def IsStrs (w : World) (v : Value) (l : List ByteArray) : Prop :=
  ∃ a cap, v = .slice a l.length cap ∧ (l = [] ∨ ∃ b off, a = some ⟨b, off, none⟩ ∧ b < w.heap.size ∧ ∀ i, i < l.length → w.cell? ⟨b, off + i, none⟩ = some (.string (l.getD i ByteArray.empty)))
theorem IsStrs.below {w w' : World} {v : Value} {l : List ByteArray} {B : Nat} (h : IsStrs w v l) (hb : Below B w w') (hB : w.heap.size ≤ B) : IsStrs w' v l := by
  obtain ⟨a, cap, hv, h⟩ := h
  refine ⟨a, cap, hv, ?_⟩
  rcases h with h | ⟨b, off, ha, hlt, hc⟩
  · exact Or.inl h
  · exact Or.inr ⟨b, off, ha, by have := hb.size; omega, fun i hi => (hb.cell (p := ⟨b, off + i, none⟩) (by show b < B; omega)).trans (hc i hi)⟩
theorem IsStrs.drewN {w : World} {v : Value} {l : List ByteArray} (h : IsStrs w v l) (n : Nat) : IsStrs (w.drewN n) v l := by
  obtain ⟨a, cap, hv, h⟩ := h
  refine ⟨a, cap, hv, ?_⟩
  rcases h with h | ⟨b, off, ha, hlt, hc⟩
  · exact Or.inl h
  · exact Or.inr ⟨b, off, ha, hlt, hc⟩
theorem IsStrs.nil (w : World) : IsStrs w (.slice none 0 0) [] := ⟨none, 0, rfl, Or.inl rfl⟩
theorem IsStrs.own {w : World} {B e : Nat} {v : Value} {l : List ByteArray} (h : w.ownsRow B e 1 v l.length (l.map Value.string)) : IsStrs w v l := by
  rcases h.2 with ⟨hv, hl⟩ | ⟨g, cap, cur, hv, hB, hg, hn, hcap, hsz, htake⟩
  · have : l = [] := List.length_eq_zero_iff.1 hl
    subst this; exact ⟨none, 0, hv, Or.inl rfl⟩
  · refine ⟨_, _, hv, Or.inr ⟨g, 0, rfl, lt_of_block hg, fun i hi => ?_⟩⟩
    subst hv
    have := World.ownsRow.cellAt h i (by omega)
    rw [Nat.zero_add, this, List.getElem?_map, List.getD_eq_getElem?_getD, List.getElem?_eq_getElem hi]; rfl
theorem IsStrs.new (w : World) (l : List ByteArray) (cap : Nat) (e : TypeId) (x : Nat × Nat) : IsStrs (w.alloc (.cells (l.map Value.string).toArray e x)) (.slice (some ⟨w.heap.size, 0, none⟩) l.length cap) l := by
  refine ⟨_, _, rfl, Or.inr ⟨w.heap.size, 0, rfl, by simp, fun i hi => ?_⟩⟩
  rw [Nat.zero_add, World.cell?_alloc_mark]
  simp [hi]
def MX (w : World) : Prop := ∃ m, w.cell? ⟨0, 0, none⟩ = some (.int .i64 m)
theorem cell_lt {w : World} {b o : Nat} {v : Value} (h : w.cell? ⟨b, o, none⟩ = some v) : b < w.heap.size := block_lt_of_cell h
theorem MX.below {w w' : World} {B : Nat} (h : MX w) (hb : Below B w w') (hB : w.heap.size ≤ B) : MX w' := by
  obtain ⟨m, hm⟩ := h
  exact ⟨m, (hb.cell (p := ⟨0, 0, none⟩) (by have := cell_lt hm; show 0 < B; omega)).trans hm⟩
theorem MX.drewN {w : World} (h : MX w) (n : Nat) : MX (w.drewN n) := h
end Go.Proofs.YtfbgnpfhjbiikaaGreatDoor

namespace Go.Proofs.YtfbgnpfhjbiikaaGreatDoor
open Go Go.ChangeShapes Go.WideShapes Go.ChangeAt Go.RowKit
theorem spot_none {w : World} {a : Addr} {v : Value} (h : w.cell? a = some v) : a = ⟨a.block, a.off, none⟩ := by
  obtain ⟨b, o, sp⟩ := a
  cases sp with
  | none => rfl
  | some x =>
    unfold World.cell? at h
    split at h
    · simp at h
    · cases h
end Go.Proofs.YtfbgnpfhjbiikaaGreatDoor

namespace Go.Proofs.YtfbgnpfhjbiikaaGreatDoor
open Go Go.ChangeShapes Go.WideShapes Go.ChangeAt Go.RowKit
theorem facts {W : World} (h : W.ShapedOpen Tryz.prog) : MX W :=
  cell_of_shapedOpen_int (g := 0) (t := 3) (zero := #[.int .i64 0]) h (by decide +kernel) (by kernel_rfl) rfl (by kernel_rfl) (by kernel_rfl) Tryz.underlying3
def layCells (cs : Array Value) : Obj → Obj
  | .cells _ t frozen => .cells cs t frozen
  | o => o
noncomputable def laidWorld (os : Os) : World :=
  { World.holding Tryz.prog os ⟨#[], #[], []⟩ with heap := ((World.holding Tryz.prog os ⟨#[], #[], []⟩).heap.modify 1 (layCells (Go.Pinned.utf8FirstZ.map fun z => Value.int .u8 (z : Nat)).toArray)).modify 2 (layCells #[.int .u8 128, .int .u8 191, .int .u8 160, .int .u8 191, .int .u8 128, .int .u8 159, .int .u8 144, .int .u8 191, .int .u8 128, .int .u8 143, .int .u8 0, .int .u8 0, .int .u8 0, .int .u8 0, .int .u8 0, .int .u8 0, .int .u8 0, .int .u8 0, .int .u8 0, .int .u8 0, .int .u8 0, .int .u8 0, .int .u8 0, .int .u8 0, .int .u8 0, .int .u8 0, .int .u8 0, .int .u8 0, .int .u8 0, .int .u8 0, .int .u8 0, .int .u8 0]) }
end Go.Proofs.YtfbgnpfhjbiikaaGreatDoor

namespace Go.Proofs.YtfbgnpfhjbiikaaGreatDoor
open Go Go.RowKit
theorem ret_int {k : IntKind} {a b : Int} (h : a = b) : Ending.returned (.int k a) = .returned (.int k b) := by rw [h]

structure Ver where
  n : Nat
  st : Nat
  tx : ByteArray
def dV : Ver := ⟨0, 0, ByteArray.empty⟩
structure Cel where
  last : Nat
  l : List Ver
def dC : Cel := ⟨0, []⟩
def verCells (v : Ver) : List Value := [.int .u64 v.n, .int .u8 v.st, .string v.tx]
def verVal (v : Ver) : Value := .agg #[.int .u64 v.n, .int .u8 v.st, .string v.tx]

def IsVers (w : World) (v : Value) (l : List Ver) : Prop :=
  ∃ a cap, v = .slice a l.length cap ∧ (l = [] ∨ ∃ b off, a = some ⟨b, off, none⟩ ∧ b < w.heap.size ∧ ∀ i, i < l.length →
    w.cell? ⟨b, off + i * 3, none⟩ = some (.int .u64 (l.getD i dV).n) ∧ w.cell? ⟨b, off + i * 3 + 1, none⟩ = some (.int .u8 (l.getD i dV).st) ∧ w.cell? ⟨b, off + i * 3 + 2, none⟩ = some (.string (l.getD i dV).tx))
theorem IsVers.below {w w' : World} {v : Value} {l : List Ver} {B : Nat} (h : IsVers w v l) (hb : Below B w w') (hB : w.heap.size ≤ B) : IsVers w' v l := by
  obtain ⟨a, cap, hv, h⟩ := h
  refine ⟨a, cap, hv, ?_⟩
  rcases h with h | ⟨b, off, ha, hlt, hc⟩
  · exact Or.inl h
  · refine Or.inr ⟨b, off, ha, by have := hb.size; omega, fun i hi => ?_⟩
    obtain ⟨h1, h2, h3⟩ := hc i hi
    exact ⟨(hb.cell (p := ⟨b, off + i * 3, none⟩) (by show b < B; omega)).trans h1, (hb.cell (p := ⟨b, off + i * 3 + 1, none⟩) (by show b < B; omega)).trans h2, (hb.cell (p := ⟨b, off + i * 3 + 2, none⟩) (by show b < B; omega)).trans h3⟩
theorem IsVers.nil (w : World) : IsVers w (.slice none 0 0) [] := ⟨none, 0, rfl, Or.inl rfl⟩
def IsCel (w : World) (v : Value) (c : Cel) : Prop := ∃ s, v = .agg #[.int .u64 c.last, s] ∧ IsVers w s c.l
theorem IsCel.below {w w' : World} {v : Value} {c : Cel} {B : Nat} (h : IsCel w v c) (hb : Below B w w') (hB : w.heap.size ≤ B) : IsCel w' v c := by
  obtain ⟨s, hv, h⟩ := h; exact ⟨s, hv, h.below hb hB⟩

def flat : List Ver → List Value
  | [] => []
  | v :: t => .int .u64 v.n :: .int .u8 v.st :: .string v.tx :: flat t
theorem flat_length (l : List Ver) : (flat l).length = l.length * 3 := by
  induction l with
  | nil => rfl
  | cons v t ih => simp only [flat, List.length_cons, ih]; omega
theorem flat_append (a b : List Ver) : flat (a ++ b) = flat a ++ flat b := by
  induction a with
  | nil => rfl
  | cons v t ih => simp only [List.cons_append, flat, ih]
theorem flat_at : ∀ (l : List Ver) (i : Nat), i < l.length → (flat l)[i * 3]? = some (.int .u64 (l.getD i dV).n) ∧ (flat l)[i * 3 + 1]? = some (.int .u8 (l.getD i dV).st) ∧ (flat l)[i * 3 + 2]? = some (.string (l.getD i dV).tx)
  | [], i, h => by simp at h
  | v :: t, 0, _ => ⟨rfl, rfl, rfl⟩
  | v :: t, i + 1, h => by
    have := flat_at t i (by simpa using h)
    rw [show (i + 1) * 3 = i * 3 + 3 by omega]
    exact this
theorem flat_cell {w : World} {b off : Nat} {l : List Ver} (h : ∀ i, i < l.length → w.cell? ⟨b, off + i * 3, none⟩ = some (.int .u64 (l.getD i dV).n) ∧ w.cell? ⟨b, off + i * 3 + 1, none⟩ = some (.int .u8 (l.getD i dV).st) ∧ w.cell? ⟨b, off + i * 3 + 2, none⟩ = some (.string (l.getD i dV).tx)) :
    ∀ j u, (flat l)[j]? = some u → w.cell? ⟨b, off + j, none⟩ = some u := by
  intro j u hu
  obtain ⟨hj, _⟩ := List.getElem?_eq_some_iff.1 hu
  rw [flat_length] at hj
  obtain ⟨h1, h2, h3⟩ := h (j / 3) (by omega)
  obtain ⟨f1, f2, f3⟩ := flat_at l (j / 3) (by omega)
  rcases (show j = j / 3 * 3 ∨ j = j / 3 * 3 + 1 ∨ j = j / 3 * 3 + 2 by omega) with e | e | e
  · rw [← e] at f1 h1; rw [f1] at hu; rw [← hu]; exact h1
  · rw [← e] at f2; rw [f2] at hu
    have e2 : off + j / 3 * 3 + 1 = off + j := by omega
    rw [e2] at h2; rw [← hu]; exact h2
  · rw [← e] at f3; rw [f3] at hu
    have e2 : off + j / 3 * 3 + 2 = off + j := by omega
    rw [e2] at h3; rw [← hu]; exact h3
theorem addrAdd (g o i : Nat) : (⟨g, o, none⟩ : Addr).add i = ⟨g, o + i, none⟩ := by
  unfold Addr.add
  split
  · rename_i h; subst h; rfl
  · rfl
theorem flat_one (l : List Ver) : ∀ u ∈ flat l, u.oneCell' = true := by
  induction l with
  | nil => intro u hu; cases hu
  | cons v t ih =>
    intro u hu
    rcases List.mem_cons.1 hu with rfl | hu
    · rfl
    rcases List.mem_cons.1 hu with rfl | hu
    · rfl
    rcases List.mem_cons.1 hu with rfl | hu
    · rfl
    · exact ih u hu
theorem IsVers.own {w : World} {B e : Nat} {v : Value} {l : List Ver} (h : w.ownsRow B e 3 v l.length (flat l)) : IsVers w v l := by
  rcases h.2 with ⟨hv, hl⟩ | ⟨g, cap, cur, hv, hB, hg, hn, hcap, hsz, htake⟩
  · have : l = [] := List.length_eq_zero_iff.1 hl
    subst this; exact ⟨none, 0, hv, Or.inl rfl⟩
  · refine ⟨_, _, hv, Or.inr ⟨g, 0, rfl, lt_of_block hg, fun i hi => ?_⟩⟩
    subst hv
    obtain ⟨f1, f2, f3⟩ := flat_at l i hi
    have c1 := World.ownsRow.cellAt h (i * 3) (by omega)
    have c2 := World.ownsRow.cellAt h (i * 3 + 1) (by omega)
    have c3 := World.ownsRow.cellAt h (i * 3 + 2) (by omega)
    rw [f1] at c1; rw [f2] at c2; rw [f3] at c3
    refine ⟨?_, ?_, ?_⟩
    · rw [Nat.zero_add]; exact c1
    · rw [Nat.zero_add]; exact c2
    · rw [Nat.zero_add]; exact c3
theorem twoNew {w w1 : World} {C1 C2 : Array Value} {t1 t2 : TypeId} {n : Nat} (hb : Below n ((w.alloc (.cells C1 t1)).alloc (.cells C2 t2)) w1) (hn : w.heap.size + 2 ≤ n) :
    (∀ j, w1.cell? ⟨w.heap.size, j, none⟩ = C1[j]?) ∧ (∀ j, w1.cell? ⟨w.heap.size + 1, j, none⟩ = C2[j]?) ∧ (∀ j, w1.frozen? ⟨w.heap.size, j, none⟩ = false) ∧ (∀ j, w1.frozen? ⟨w.heap.size + 1, j, none⟩ = false) := by
  have b1 : ((w.alloc (.cells C1 t1)).alloc (.cells C2 t2)).heap[w.heap.size]? = some (.cells C1 t1 (0, 0)) := by
    rw [Below.heap_alloc _ _ _ (by simp)]; exact (MapKept.heap_alloc w _).1
  have b2 : ((w.alloc (.cells C1 t1)).alloc (.cells C2 t2)).heap[w.heap.size + 1]? = some (.cells C2 t2 (0, 0)) := by
    have := (MapKept.heap_alloc (w.alloc (.cells C1 t1)) (.cells C2 t2)).1
    simpa using this
  have e1 := (hb.block w.heap.size (by omega)).trans b1
  have e2 := (hb.block (w.heap.size + 1) (by omega)).trans b2
  refine ⟨fun j => ?_, fun j => ?_, fun j => ?_, fun j => ?_⟩
  · unfold World.cell?; rw [e1]; rfl
  · unfold World.cell?; rw [e2]; rfl
  · unfold World.frozen?; rw [e1]; simp
  · unfold World.frozen?; rw [e2]; simp
theorem ownBase {w : World} {B B' e n k : Nat} {v : Value} {xs : List Value} (h : w.ownsRow B e k v n xs) (hB : B' ≤ B) : w.ownsRow B' e k v n xs := by
  refine ⟨h.1, ?_⟩
  rcases h.2 with hn | ⟨g, cap, cur, hv, hBg, rest⟩
  · exact Or.inl hn
  · exact Or.inr ⟨g, cap, cur, hv, by omega, rest⟩
theorem ownShape {w : World} {B e n k : Nat} {v : Value} {xs : List Value} (h : w.ownsRow B e k v n xs) : ∃ a c, v = .slice a n c := by
  rcases h.2 with ⟨hv, hn⟩ | ⟨g, cap, cur, hv, hB, _⟩
  · exact ⟨none, 0, by rw [hv, hn]⟩
  · exact ⟨_, _, hv⟩
theorem ownAbove {w : World} {B e n k : Nat} {v : Value} {xs : List Value} (h : w.ownsRow B e k v n xs) : ∀ k, v.ownBlock = some k → B ≤ k := by
  intro k hk
  rcases h.2 with ⟨hv, _⟩ | ⟨g, cap, cur, hv, hB, _⟩
  · subst hv; cases hk
  · subst hv; cases hk; exact hB
theorem ownBelow {w w' : World} {B e n k : Nat} {v : Value} {xs : List Value} (h : w.ownsRow B e k v n xs) (hb : Below w.heap.size w w') : w'.ownsRow B e k v n xs := by
  refine ⟨h.1, ?_⟩
  rcases h.2 with hn | ⟨g, cap, cur, hv, hBg, hg, rest⟩
  · exact Or.inl hn
  · exact Or.inr ⟨g, cap, cur, hv, hBg, (hb.block g (lt_of_block hg)).trans hg, rest⟩

-- what a cell may be
def okVer (last : Nat) (v : Ver) : Bool := decide (last < v.n) && decide (1 ≤ v.st) && decide (v.st ≤ 3) && (decide (v.st = 1) && decide (v.tx.size ≤ 4096) || !decide (v.st = 1) && v.tx.data.toList.isEmpty)
def okFrom (last : Nat) : List Ver → Option Nat
  | [] => some last
  | v :: t => if okVer last v then okFrom v.n t else none
def mayC (c : Cel) : Bool :=
  match okFrom 0 c.l with
  | none => false
  | some x => decide (c.l.length ≤ 8) && decide (c.last = x)
theorem okFrom_append (last : Nat) (a b : List Ver) : okFrom last (a ++ b) = (okFrom last a).bind (fun x => okFrom x b) := by
  induction a generalizing last with
  | nil => rfl
  | cons v t ih =>
    rw [List.cons_append, okFrom, okFrom]
    split
    · exact ih _
    · rfl
theorem okFrom_snoc {last x : Nat} {l : List Ver} {k : Nat} (hk : k < l.length) (h : okFrom last (l.take k) = some x) : okFrom last (l.take (k + 1)) = if okVer x (l.getD k dV) then some (l.getD k dV).n else none := by
  rw [List.take_succ_eq_append_getElem hk, okFrom_append, h, List.getD_eq_getElem?_getD, List.getElem?_eq_getElem hk]; rfl
theorem okFrom_bad {last x : Nat} {l : List Ver} {k : Nat} (hk : k < l.length) (h : okFrom last (l.take k) = some x) (hb : okVer x (l.getD k dV) = false) : okFrom last l = none := by
  rw [← List.take_append_drop (k + 1) l, okFrom_append, okFrom_snoc hk h, hb]; rfl

theorem ver_cases (x : Nat) (v : Ver) : (okVer x v = false ∧ v.n ≤ x) ∨ (okVer x v = false ∧ x < v.n ∧ v.st < 1) ∨ (okVer x v = false ∧ x < v.n ∧ 3 < v.st) ∨
    (okVer x v = false ∧ x < v.n ∧ (1 ≤ v.st ∧ v.st ≤ 1) ∧ ((v.st : Int) == 1) = true ∧ 4096 < v.tx.size) ∨ (okVer x v = false ∧ x < v.n ∧ (2 ≤ v.st ∧ v.st ≤ 3) ∧ ((v.st : Int) == 1) = false ∧ (v.tx.toList.isEmpty = false ∧ ¬ v.tx.toList = [])) ∨
    (okVer x v = true ∧ x < v.n ∧ (1 ≤ v.st ∧ v.st ≤ 1) ∧ ((v.st : Int) == 1) = true ∧ v.tx.size ≤ 4096) ∨ (okVer x v = true ∧ x < v.n ∧ (2 ≤ v.st ∧ v.st ≤ 3) ∧ ((v.st : Int) == 1) = false ∧ v.tx.toList = []) := by
  by_cases h1 : x < v.n
  · by_cases h2 : v.st < 1
    · right; left; exact ⟨by unfold okVer; simp; omega, h1, h2⟩
    · by_cases h3 : 3 < v.st
      · right; right; left; exact ⟨by unfold okVer; simp; omega, h1, h3⟩
      · by_cases h4 : v.st = 1
        · by_cases h5 : v.tx.size ≤ 4096
          · right; right; right; right; right; left; exact ⟨by unfold okVer; simp [h1, h4, h5], h1, by omega, by simp [h4], h5⟩
          · right; right; right; left; exact ⟨by unfold okVer; simp [h4, h5], h1, by omega, by simp [h4], by omega⟩
        · have h6 : ((v.st : Int) == 1) = false := by rw [beq_eq_false_iff_ne]; omega
          by_cases h5 : v.tx.data.toList = []
          · right; right; right; right; right; right; exact ⟨by unfold okVer; simp only [h5, h4]; simp; omega, h1, by omega, h6, by rw [ByteArray.toList_eq]; exact h5⟩
          · right; right; right; right; left
            have : v.tx.data.toList.isEmpty = false := by simpa using h5
            exact ⟨by unfold okVer; simp only [this, h4]; simp, h1, by omega, h6, by rw [ByteArray.toList_eq]; exact this, by rw [ByteArray.toList_eq]; exact h5⟩
  · left; exact ⟨by unfold okVer; simp [h1], by omega⟩

theorem may_bad {c : Cel} {L : List Ver} (hL : c.l = L) {k y : Nat} (hk : k < L.length) (h : okFrom 0 (L.take k) = some y) (hb : okVer y (L.getD k dV) = false) : mayC c = false := by
  unfold mayC; rw [hL, okFrom_bad hk h hb]
theorem may_end {c : Cel} {L : List Ver} (hL : c.l = L) {k y : Nat} (hk : ¬ k < L.length) (h : okFrom 0 (L.take k) = some y) : mayC c = (decide (L.length ≤ 8) && decide (c.last = y)) := by
  rw [List.take_of_length_le (by omega)] at h
  unfold mayC; rw [hL, h]
end Go.Proofs.YtfbgnpfhjbiikaaGreatDoor

namespace Go.Proofs.YtfbgnpfhjbiikaaGreatDoor
open Go Go.RowKit
set_option maxRecDepth 100000 in
set_option maxHeartbeats 4000000 in
theorem cell_may (c : Cel) (v : Value) (w : World) (hv : IsVers w v c.l) (hl : c.l.length ≤ 9223372036854775807) :
    Calls Tryz.prog 48 #[.agg #[.int .u64 c.last, v]] w fun e w' => e = .returned (.bool (mayC c)) ∧ Below w.heap.size w w' := by
  obtain ⟨cl, L⟩ := c
  obtain ⟨a, cap, rfl, hc⟩ := hv
  simp only at hc hl ⊢
  have HC := Lib.hid hc; clear hc
  go_enter Tryz.func48, Tryz.ntmps48
  go_wp2
  go_loopw [3, 10] (fun x i wr => ∃ k y : Nat, k ≤ L.length ∧ i = .int .i64 k ∧ x = .int .u64 y ∧ Hid (okFrom 0 (L.take k) = some y) ∧ Hid (Below (w.heap.size + 1) (w.alloc (.cells #[.int .u64 cl, .slice a L.length cap] 46)) wr)) (fun _ i _ => L.length - (intOf i).toNat)
  case atStart => exact ⟨0, 0, Nat.zero_le _, rfl, rfl, Lib.hid rfl, Lib.hid (Below.refl _ _)⟩
  case round =>
    obtain ⟨k, y, hk, rfl, rfl, hok, hbw⟩ := hrel
    have hsz := hbw.out.size
    have hsz1 : w.heap.size + 1 ≤ wr.heap.size := by simpa using hsz
    clear hsz
    have hbx0 : wr.cell? ⟨w.heap.size, 0, none⟩ = some (.int .u64 cl) := (hbw.out.cell (p := ⟨w.heap.size, 0, none⟩) (by show w.heap.size < w.heap.size + 1; omega)).trans (World.cell?_alloc_mark _ _ _ _ _)
    have hbx1 : wr.cell? ⟨w.heap.size, 1, none⟩ = some (.slice a L.length cap) := (hbw.out.cell (p := ⟨w.heap.size, 1, none⟩) (by show w.heap.size < w.heap.size + 1; omega)).trans (World.cell?_alloc_mark _ _ _ _ _)
    have HB0 := Lib.hid (((Below.refl w.heap.size w).alloc (Nat.le_refl _) (.cells #[.int .u64 cl, .slice a L.length cap] 46)).trans (hbw.out.mono (Nat.le_succ _)))
    by_cases hlt : k < L.length
    · rcases HC.out with hn | ⟨b, off, rfl, hblt, hcc⟩
      · subst hn; simp at hlt
      obtain ⟨h1, h2, h3⟩ := hcc k hlt
      have g1 := (HB0.out.cell (p := ⟨b, off + k * 3, none⟩) hblt).trans h1
      have g2 := (HB0.out.cell (p := ⟨b, off + k * 3 + 1, none⟩) hblt).trans h2
      have g3 := (HB0.out.cell (p := ⟨b, off + k * 3 + 2, none⟩) hblt).trans h3
      clear h1 h2 h3 hcc
      obtain ⟨x, hx⟩ : ∃ x, x = L.getD k dV := ⟨_, rfl⟩
      rw [← hx] at g1 g2 g3
      have Hx := Lib.hid hx; clear hx
      rcases ver_cases y x with ⟨ho, hx⟩ | ⟨ho, hx⟩ | ⟨ho, hx⟩ | ⟨ho, hx⟩ | ⟨ho, hx⟩ | ⟨ho, hx⟩ | ⟨ho, hx⟩
      iterate 5
        · have Ho := Lib.hid ho; clear ho
          go_wp2
          go_ret
          refine ⟨ret_bool (may_bad rfl hlt hok.out (by rw [← Hx.out]; exact Ho.out)).symm, ?_⟩
          exact HB0.out.alloc (by omega) _
      iterate 2
        · have Ho := Lib.hid ho; clear ho
          go_wp2
          go_roundw
          case rel => exact ⟨k + 1, x.n, by omega, by go_num, rfl, Lib.hid (by rw [okFrom_snoc hlt hok.out, ← Hx.out, Ho.out]; rfl), Lib.hid (hbw.out.alloc (by simpa using hsz1) _)⟩
          case measure => simp [intOf]; omega
    · have hge : (L.length : Int) ≤ (k : Int) := by omega
      have H := Lib.hid (may_end (c := ⟨cl, L⟩) rfl hlt hok.out)
      have hbb : ((cl : Int) == (y : Int)) = decide (cl = y) := by
        by_cases e : cl = y
        · simp [e]
        · have : ¬ (cl : Int) = (y : Int) := by omega
          simp [e, this]
      by_cases h8 : L.length ≤ 8
      · go_wp2
        go_ret
        refine ⟨ret_bool ?_, HB0.out⟩
        rw [H.out]; simp [h8]
      · go_wp2
        go_ret
        refine ⟨ret_bool ?_, HB0.out⟩
        rw [H.out]; simp [h8]

def lastV (l : List Ver) : Ver := l.getD (l.length - 1) dV
def nowC (c : Cel) : Nat := if (lastV c.l).st = 1 then (lastV c.l).n else 0
def sizeL : List Ver → Nat
  | [] => 0
  | v :: t => v.tx.size + sizeL t
theorem sizeL_append (a b : List Ver) : sizeL (a ++ b) = sizeL a + sizeL b := by
  induction a with
  | nil => simp [sizeL]
  | cons v t ih => simp [sizeL, ih]; omega
theorem sizeL_snoc {l : List Ver} {k : Nat} (hk : k < l.length) : sizeL (l.take (k + 1)) = sizeL (l.take k) + (l.getD k dV).tx.size := by
  rw [List.take_succ_eq_append_getElem hk, sizeL_append, List.getD_eq_getElem?_getD, List.getElem?_eq_getElem hk]; rfl

set_option maxRecDepth 100000 in
set_option maxHeartbeats 1000000 in
theorem cell_size (c : Cel) (v : Value) (w : World) (hv : IsVers w v c.l) (hl : c.l.length ≤ 65536) (hs : ∀ i, i < c.l.length → (c.l.getD i dV).tx.size ≤ 140737488351232) :
    Calls Tryz.prog 80 #[.agg #[.int .u64 c.last, v]] w fun e w' => e = .returned (.int .i64 (sizeL c.l)) ∧ Below w.heap.size w w' := by
  obtain ⟨cl, L⟩ := c
  obtain ⟨a, cap, rfl, hc⟩ := hv
  simp only at hc hl hs ⊢
  have HC := Lib.hid hc; have Hs := Lib.hid hs; clear hc hs
  go_enter Tryz.func80, Tryz.ntmps80
  go_wp2
  go_loopw [2, 8] (fun n i wr => ∃ k N : Nat, k ≤ L.length ∧ i = .int .i64 k ∧ n = .int .i64 N ∧ Hid (N = sizeL (L.take k)) ∧ Hid (N ≤ k * 140737488351232) ∧ Hid (Below w.heap.size w wr)) (fun _ i _ => L.length - (intOf i).toNat)
  case atStart => exact ⟨0, 0, Nat.zero_le _, rfl, rfl, Lib.hid rfl, Lib.hid (by omega), Lib.hid ((Below.refl _ _).alloc (Nat.le_refl _) _)⟩
  case round =>
    obtain ⟨k, N, hk, rfl, rfl, hN, hNb, hbw⟩ := hrel
    have hsz := hbw.out.size
    have hNs : N ≤ 9223372036854775807 := by have := hNb.out; omega
    by_cases hlt : k < L.length
    · rcases HC.out with hn | ⟨b, off, rfl, hblt, hcc⟩
      · subst hn; simp at hlt
      obtain ⟨h1, h2, h3⟩ := hcc k hlt
      have g1 := (hbw.out.cell (p := ⟨b, off + k * 3, none⟩) hblt).trans h1
      have g2 := (hbw.out.cell (p := ⟨b, off + k * 3 + 1, none⟩) hblt).trans h2
      have g3 := (hbw.out.cell (p := ⟨b, off + k * 3 + 2, none⟩) hblt).trans h3
      have hx0 := Hs.out k hlt
      clear h1 h2 h3 hcc
      obtain ⟨x, hx⟩ : ∃ x, x = L.getD k dV := ⟨_, rfl⟩
      rw [← hx] at g1 g2 g3 hx0
      have Hx := Lib.hid hx; clear hx
      have hNx : N + x.tx.size ≤ 9223372036854775807 := by have := hNb.out; omega
      have Hx0 := Lib.hid hx0; clear hx0
      go_wp2
      go_roundw
      case rel => exact ⟨k + 1, N + x.tx.size, by omega, by go_num, by go_num, Lib.hid (by rw [sizeL_snoc hlt, ← hN.out, ← Hx.out]), Lib.hid (by have := hNb.out; have := Hx0.out; omega), Lib.hid (hbw.out.alloc hsz _)⟩
      case measure => simp [intOf]; omega
    · have hge : (L.length : Int) ≤ (k : Int) := by omega
      have H : Hid (N = sizeL L) := Lib.hid (by have := hN.out; rw [List.take_of_length_le (by omega)] at this; exact this)
      go_wp2
      go_ret
      exact ⟨ret_int (by rw [H.out]), hbw.out⟩
end Go.Proofs.YtfbgnpfhjbiikaaGreatDoor

namespace Go.Proofs.YtfbgnpfhjbiikaaGreatDoor
open Go Go.RowKit
set_option maxRecDepth 100000 in
set_option maxHeartbeats 1000000 in
theorem cell_now1 (L : List Ver) (b : Nat) (v : Value) (w : World) (hb1 : w.cell? ⟨b, 1, none⟩ = some v) (hv : IsVers w v L) (hl : L.length ≤ 9223372036854775807) :
    Calls Tryz.prog 87 #[.pointer (some ⟨b, 0, none⟩)] w fun e w' => e = .returned (verVal (lastV L)) ∧ Below w.heap.size w w' := by
  obtain ⟨a, cap, rfl, hc⟩ := hv
  have HC := Lib.hid hc; clear hc
  have hbw := cell_lt hb1
  by_cases h0 : 0 < L.length
  · rcases HC.out with hn | ⟨b2, off, rfl, hblt, hcc⟩
    · subst hn; simp at h0
    obtain ⟨g1, g2, g3⟩ := hcc (L.length - 1) (by omega)
    clear hcc
    obtain ⟨x, hx⟩ : ∃ x, x = lastV L := ⟨_, rfl⟩
    rw [show L.getD (L.length - 1) dV = x from hx.symm] at g1 g2 g3
    rw [← hx]
    clear hx
    go_enter Tryz.func87, Tryz.ntmps87
    go_wp2
    exact bodyPost_ret (v := verVal x) (by simp [results, Tryz.results87, go_sem, verVal]) rfl ⟨rfl, (Below.refl _ _).alloc (Nat.le_refl _) _⟩
  · obtain rfl : L = [] := List.length_eq_zero_iff.1 (by omega)
    have H : Hid (lastV [] = dV) := Lib.hid rfl
    rw [H.out]
    go_enter Tryz.func87, Tryz.ntmps87
    go_wp2
    exact bodyPost_ret (v := verVal dV) (by simp [results, Tryz.results87, go_sem, verVal, dV]; rfl) rfl ⟨rfl, (Below.refl _ _).alloc (Nat.le_refl _) _⟩

set_option maxRecDepth 100000 in
set_option maxHeartbeats 1000000 in
theorem cell_now (c : Cel) (v : Value) (w : World) (hv : IsVers w v c.l) (hl : c.l.length ≤ 9223372036854775807) :
    Calls Tryz.prog 58 #[.agg #[.int .u64 c.last, v]] w fun e w' => e = .returned (.int .u64 (nowC c)) ∧ Below w.heap.size w w' := by
  obtain ⟨cl, L⟩ := c
  simp only at hv hl ⊢
  have hv2 := hv
  obtain ⟨a, cap, rfl, hc⟩ := hv2
  clear hc
  have Hv := Lib.hid hv; clear hv
  have C := Lib.hid (cell_now1 L w.heap.size (.slice a L.length cap) (w.alloc (.cells #[.int .u64 cl, .slice a L.length cap] 46)) (World.cell?_alloc_mark _ _ _ _ _) (Hv.out.below ((Below.refl _ _).alloc (Nat.le_refl _) _) (Nat.le_refl _)) hl)
  obtain ⟨x, hx⟩ : ∃ x, x = lastV L := ⟨_, rfl⟩
  rw [← hx] at C
  have hn : Hid (nowC ⟨cl, L⟩ = if x.st = 1 then x.n else 0) := Lib.hid (by rw [hx]; rfl)
  clear hx
  unfold verVal at C
  by_cases hs : x.st = 1
  · have hB : ((x.st : Int) == 1) = true := by simp [hs]
    have hs1 : 1 ≤ x.st ∧ x.st ≤ 1 := by omega
    have Hs := Lib.hid hs; clear hs
    go_enter Tryz.func58, Tryz.ntmps58
    go_wp2_with (go_at_call 87; refine (C.out).mono ?_; rintro e w1 ⟨rfl, hb⟩; have Hb := Lib.hid (((Below.refl _ _).alloc (Nat.le_refl _) _).trans (hb.mono (by simp))); clear hb)
    go_ret
    refine ⟨ret_int ?_, Hb.out.alloc Hb.out.size _⟩
    rw [hn.out, if_pos Hs.out]
  · have hB : ((x.st : Int) == 1) = false := by rw [beq_eq_false_iff_ne]; omega
    have hN : ¬ (x.st : Int) = 1 := by omega
    have Hs := Lib.hid hs; clear hs
    go_enter Tryz.func58, Tryz.ntmps58
    go_wp2_with (go_at_call 87; refine (C.out).mono ?_; rintro e w1 ⟨rfl, hb⟩; have Hb := Lib.hid (((Below.refl _ _).alloc (Nat.le_refl _) _).trans (hb.mono (by simp))); clear hb)
    go_ret
    refine ⟨ret_int ?_, Hb.out.alloc Hb.out.size _⟩
    rw [hn.out, if_neg Hs.out]; rfl
end Go.Proofs.YtfbgnpfhjbiikaaGreatDoor

namespace Go.Proofs.YtfbgnpfhjbiikaaGreatDoor
open Go Go.RowKit
theorem infoVer : (Tryz.prog.info? 50).map (fun i => (i.zero, i.size, i.bytes)) = some (some (.agg #[.int .u64 0, .int .u8 0, .string ByteArray.empty]), 3, 32) := by kernel_rfl

theorem ownsRow_empty (w : World) (e : TypeId) : (w.alloc (.cells #[] e)).ownsRow w.heap.size e 3 (.slice (some ⟨w.heap.size, 0, none⟩) 0 0) 0 [] :=
  ⟨rfl, Or.inr ⟨w.heap.size, 0, #[], rfl, Nat.le_refl _, (MapKept.heap_alloc w _).1, Nat.le_refl _, Nat.zero_le _, rfl, rfl⟩⟩

def CloneGives (L : List Ver) (w : World) (e : Ending) (w' : World) : Prop :=
  ∃ v, e = .returned v ∧ w'.ownsRow w.heap.size 50 3 v L.length (flat L) ∧ Below w.heap.size w w'

set_option maxRecDepth 100000 in
set_option maxHeartbeats 1000000 in
theorem clone_vers (L : List Ver) (v : Value) (w : World) (hv : IsVers w v L) (hl : L.length ≤ 65536) :
    Calls Tryz.prog 78 #[v] w (CloneGives L w) := by
  obtain ⟨a, cap, rfl, hc⟩ := hv
  have HC := Lib.hid hc; clear hc
  obtain ⟨i0, hi, hz0, hz1, hz2⟩ := info_parts infoVer
  cases a with
  | none =>
    have h0 : L = [] := by
      rcases HC.out with h | ⟨b, o, h, _⟩
      · exact h
      · cases h
    subst h0
    go_enter Tryz.func78, Tryz.ntmps78
    have hne := fun w => Lib.run_eql_slice_nil (P := Tryz.prog) w 44 50 none 0 cap 0 0 Tryz.underlying44
    go_wp2
    go_ret
    exact ⟨_, rfl, ⟨by simp [flat], Or.inl ⟨rfl, rfl⟩⟩, Below.refl _ _⟩
  | some p =>
    have hne := fun w => Lib.run_eql_slice_nil (P := Tryz.prog) w 44 50 (some p) L.length cap 0 0 Tryz.underlying44
    have hnews : ∀ j u, (flat L)[j]? = some u → (w.alloc (.cells #[] 50)).cell? (p.add j) = some u := by
      intro j u hu
      rcases HC.out with h | ⟨b, o, h, hlt, hcc⟩
      · subst h; simp [flat] at hu
      · obtain rfl : p = ⟨b, o, none⟩ := by simpa using h
        rw [addrAdd, World.cell?_alloc_past _ _ _ hlt]
        exact flat_cell hcc j u hu
    have Hnews := Lib.hid hnews; clear hnews
    go_enter Tryz.func78, Tryz.ntmps78
    go_wp2_with (at_builtin; refine wpList_append_own _ rfl _ _ 44 rfl w.heap.size 50 i0 (.agg #[.int .u64 0, .int .u8 0, .string ByteArray.empty]) 3 32 Tryz.underlying44 hi hz0 hz1 hz2 rfl (by decide) _ _ _ rfl (ownsRow_empty _ _) p L.length cap (flat L) rfl (flat_length L) Hnews.out (flat_one L) (by unfold maxLen; omega) (by omega) (by simp) ?_; intro v' w1 hown' hgrow _hnil; have Hb := Lib.hid (((Below.refl w.heap.size w).alloc (Nat.le_refl _) (.cells #[] 50)).grown hgrow (by simp) (fun k h => by cases h; exact Nat.le_refl _)); simp only [Nat.zero_add, List.nil_append] at hown'; clear hgrow _hnil)
    go_ret
    exact ⟨_, rfl, hown', Hb.out⟩

def KeptGives (c : Cel) (w : World) (e : Ending) (w' : World) : Prop :=
  ∃ v, e = .returned (.agg #[.int .u64 c.last, v]) ∧ w'.ownsRow w.heap.size 50 3 v c.l.length (flat c.l) ∧ Below w.heap.size w w'

set_option maxRecDepth 100000 in
set_option maxHeartbeats 1000000 in
theorem cell_kept (c : Cel) (v : Value) (w : World) (hv : IsVers w v c.l) (hl : c.l.length ≤ 65536) :
    Calls Tryz.prog 138 #[.agg #[.int .u64 c.last, v]] w (KeptGives c w) := by
  obtain ⟨cl, L⟩ := c
  simp only at hv hl ⊢
  have hv2 := hv
  obtain ⟨a, cap, rfl, hc⟩ := hv2
  clear hc
  have Hv := Lib.hid hv; clear hv
  go_enter Tryz.func138, Tryz.ntmps138
  go_wp2_with fail
  refine (clone_vers L _ _ (Hv.out.below (((Below.refl _ _).alloc (Nat.le_refl _) _).alloc (by simp) _) (Nat.le_refl _)) hl).mono ?_
  rintro e w1 ⟨v1, rfl, hown, hb⟩
  have hz : w.heap.size + 1 < w1.heap.size := by have := hb.size; simp at this; omega
  obtain ⟨a1, c1, rfl⟩ := ownShape hown
  obtain ⟨n1, n2, f1, f2⟩ := twoNew hb (by simp)
  have k0 : w1.cell? ⟨w.heap.size, 0, none⟩ = some (.int .u64 cl) := n1 0
  have k1 : w1.cell? ⟨w.heap.size, 1, none⟩ = some (.slice a L.length cap) := n1 1
  have k2 : w1.cell? ⟨w.heap.size + 1, 0, none⟩ = some (.int .u64 0) := n2 0
  have k3 : w1.cell? ⟨w.heap.size + 1, 1, none⟩ = some (.slice none 0 0) := n2 1
  clear n1 n2
  have Hown := Lib.hid hown; have Hb := Lib.hid hb; clear hown hb
  go_wp2
  refine bodyPost_ret (v := .agg #[.int .u64 cl, .slice a1 L.length c1]) (by simp [results, Tryz.results138, go_sem, k2, k3]) rfl ⟨_, rfl, ?_, ?_⟩
  · exact ownBase (ownsRow_setCell_below (ownsRow_setCell_below (ownsRow_setCell_below Hown.out (by simp; omega) _) (by simp) _) (by simp) _) (by simp; omega)
  · exact ((((((Below.refl _ _).alloc (Nat.le_refl _) _).alloc (by simp) _).trans (Hb.out.mono (by simp; omega))).setCell (Nat.le_refl _) _).setCell (by simp) _).setCell (by simp) _
end Go.Proofs.YtfbgnpfhjbiikaaGreatDoor

namespace Go.Proofs.YtfbgnpfhjbiikaaGreatDoor
open Go Go.RowKit
theorem wp_abs {P : Program} {c : Code} {Q : Exit → Act → World → Prop} {a : Act} {W : World} {F : World → Prop} (h : F W) (k : ∀ W', F W' → c.wp P Q a W') : c.wp P Q a W := k W h

theorem threeNew (w : World) (C1 C2 C3 : Array Value) (t1 t2 t3 : TypeId) {W : World} (hW : W = ((w.alloc (.cells C1 t1)).alloc (.cells C2 t2)).alloc (.cells C3 t3)) :
    W.heap.size = w.heap.size + 3 ∧ (∀ j, W.cell? ⟨w.heap.size, j, none⟩ = C1[j]?) ∧ (∀ j, W.cell? ⟨w.heap.size + 1, j, none⟩ = C2[j]?) ∧ (∀ j, W.cell? ⟨w.heap.size + 2, j, none⟩ = C3[j]?) ∧ (∀ j, W.frozen? ⟨w.heap.size + 1, j, none⟩ = false) ∧ (∀ j, W.frozen? ⟨w.heap.size + 2, j, none⟩ = false) ∧ Below w.heap.size w W := by
  subst hW
  have b1 : (((w.alloc (.cells C1 t1)).alloc (.cells C2 t2)).alloc (.cells C3 t3)).heap[w.heap.size]? = some (.cells C1 t1 (0, 0)) := by
    rw [Below.heap_alloc _ _ _ (by simp; omega), Below.heap_alloc _ _ _ (by simp)]; exact (MapKept.heap_alloc w _).1
  have b2 : (((w.alloc (.cells C1 t1)).alloc (.cells C2 t2)).alloc (.cells C3 t3)).heap[w.heap.size + 1]? = some (.cells C2 t2 (0, 0)) := by
    rw [Below.heap_alloc _ _ _ (by simp)]
    have := (MapKept.heap_alloc (w.alloc (.cells C1 t1)) (.cells C2 t2)).1
    simpa using this
  have b3 : (((w.alloc (.cells C1 t1)).alloc (.cells C2 t2)).alloc (.cells C3 t3)).heap[w.heap.size + 2]? = some (.cells C3 t3 (0, 0)) := by
    have := (MapKept.heap_alloc ((w.alloc (.cells C1 t1)).alloc (.cells C2 t2)) (.cells C3 t3)).1
    simpa using this
  refine ⟨by simp, fun j => ?_, fun j => ?_, fun j => ?_, fun j => ?_, fun j => ?_, (((Below.refl _ _).alloc (Nat.le_refl _) _).alloc (by simp) _).alloc (by simp; omega) _⟩
  · unfold World.cell?; rw [b1]; rfl
  · unfold World.cell?; rw [b2]; rfl
  · unfold World.cell?; rw [b3]; rfl
  · unfold World.frozen?; rw [b2]; simp
  · unfold World.frozen?; rw [b3]; simp

theorem oneSet {w W2 : World} {v1 : Value} {s : Int} {tx : ByteArray} {r0 : Int} (hb : Below w.heap.size w W2) (q1 : W2.cell? ⟨w.heap.size, 1, none⟩ = some v1) (k1 : ∀ j, W2.cell? ⟨w.heap.size + 1, j, none⟩ = (#[Value.int .u64 r0, .int .u8 s, .string tx])[j]?)
    (k2 : ∀ j, W2.cell? ⟨w.heap.size + 2, j, none⟩ = (#[Value.int .u64 0, .slice none 0 0])[j]?) (f2 : ∀ j, W2.frozen? ⟨w.heap.size + 2, j, none⟩ = false) {u : Int} :
    let W := W2.setCell ⟨w.heap.size + 1, 0, none⟩ (.int .u64 u)
    W.heap.size = W2.heap.size ∧ W.cell? ⟨w.heap.size, 1, none⟩ = some v1 ∧ W.cell? ⟨w.heap.size + 1, 0, none⟩ = some (.int .u64 u) ∧ W.cell? ⟨w.heap.size + 1, 1, none⟩ = some (.int .u8 s) ∧ W.cell? ⟨w.heap.size + 1, 2, none⟩ = some (.string tx) ∧ (∀ j, W.cell? ⟨w.heap.size + 2, j, none⟩ = (#[Value.int .u64 0, .slice none 0 0])[j]?) ∧ (∀ j, W.frozen? ⟨w.heap.size + 2, j, none⟩ = false) ∧ Below w.heap.size w W := by
  have k0 := k1 0
  have k11 := k1 1
  have k12 := k1 2
  refine ⟨by simp, ?_, ?_, ?_, ?_, fun j => ?_, fun j => ?_, hb.setCell (by dsimp only; omega) _⟩
  · rw [World.cell?_setCell_far _ _ _ _ (by simp)]; exact q1
  · exact World.cell?_setCell_same' _ _ _ (by rw [k0]; rfl)
  · refine (World.cell?_setCell_other _ _ _ _ ?_).trans k11; simp
  · refine (World.cell?_setCell_other _ _ _ _ ?_).trans k12; simp
  · rw [World.cell?_setCell_far _ _ _ _ (by simp)]; exact k2 j
  · rw [World.frozen?_setCell]; exact f2 j

theorem ownCap {w : World} {B e n k g cap : Nat} {xs : List Value} (h : w.ownsRow B e k (.slice (some ⟨g, 0, none⟩) n cap) n xs) : n ≤ cap := by
  rcases h.2 with ⟨hv, _⟩ | ⟨g', cap', cur, hv, hB, hg, hn, hcap, hsz, htake⟩
  · cases hv
  · cases hv; exact hn

theorem IsVers.ownDrop {w : World} {B e g cap : Nat} {l : List Ver} (h : w.ownsRow B e 3 (.slice (some ⟨g, 0, none⟩) l.length cap) l.length (flat l)) (d cap' : Nat) : IsVers w (.slice (some ⟨g, d * 3, none⟩) (l.drop d).length cap') (l.drop d) := by
  have hg : g < w.heap.size := by
    rcases h.2 with ⟨hv, _⟩ | ⟨g', cap'', cur, hv, hB, hg, _⟩
    · cases hv
    · cases hv; exact lt_of_block hg
  refine ⟨_, _, rfl, Or.inr ⟨g, d * 3, rfl, hg, fun i hi => ?_⟩⟩
  rw [List.length_drop] at hi
  have hgd : (l.drop d).getD i dV = l.getD (d + i) dV := by simp [List.getD_eq_getElem?_getD]
  rw [hgd]
  obtain ⟨f1, f2, f3⟩ := flat_at l (d + i) (by omega)
  have c1 := World.ownsRow.cellAt h ((d + i) * 3) (by omega)
  have c2 := World.ownsRow.cellAt h ((d + i) * 3 + 1) (by omega)
  have c3 := World.ownsRow.cellAt h ((d + i) * 3 + 2) (by omega)
  rw [f1] at c1; rw [f2] at c2; rw [f3] at c3
  rw [Nat.add_mul] at c1 c2 c3
  exact ⟨c1, c2, c3⟩

theorem IsVers.setFar {w : World} {v : Value} {l : List Ver} (h : IsVers w v l) {p : Addr} (hp : ∀ k, v.ownBlock = some k → k ≠ p.block) (u : Value) : IsVers (w.setCell p u) v l := by
  obtain ⟨a, cap, rfl, h⟩ := h
  refine ⟨a, cap, rfl, ?_⟩
  rcases h with h | ⟨b, off, rfl, hlt, hc⟩
  · exact Or.inl h
  · have hb := hp b rfl
    refine Or.inr ⟨b, off, rfl, by simpa using hlt, fun i hi => ?_⟩
    obtain ⟨h1, h2, h3⟩ := hc i hi
    exact ⟨(World.cell?_setCell_far _ _ _ _ (fun e => hb e.symm)).trans h1, (World.cell?_setCell_far _ _ _ _ (fun e => hb e.symm)).trans h2, (World.cell?_setCell_far _ _ _ _ (fun e => hb e.symm)).trans h3⟩

theorem neNat (a b : Nat) : ((a : Int) != (b : Int)) = !decide (a = b) := by
  by_cases h : a = b
  · subst h; simp
  · have : ¬ (a : Int) = b := by omega
    simp [bne, h]
    exact this

theorem ownDropSet {wc : World} {B e b g cap : Nat} {l : List Ver} (h : wc.ownsRow B e 3 (.slice (some ⟨g, 0, none⟩) l.length cap) l.length (flat l)) (hb : b + 2 < B) (u1 u2 : Value) (d cap' : Nat) :
    IsVers ((wc.setCell ⟨b + 1 + 1, 0, none⟩ u1).setCell ⟨b + 1 + 1, 1, none⟩ u2).drew (.slice (some ⟨g, d * 3, none⟩) (l.drop d).length cap') (l.drop d) :=
  (IsVers.ownDrop (ownsRow_setCell_below (ownsRow_setCell_below h (by dsimp only; omega) u1) (by dsimp only; omega) u2) d cap').below (Below.drew (Below.refl _ _)) (Nat.le_refl _)

def putC (c : Cel) (x : Ver) : Cel := ⟨c.last + 1, (c.l ++ [(⟨c.last + 1, x.st, x.tx⟩ : Ver)]).drop (c.l.length + 1 - 8)⟩
def stale (c : Cel) (any : Bool) (want : Nat) : Bool := !any && !decide (want = nowC c)
def comesC (c : Cel) (any : Bool) (want : Nat) (x : Ver) : Cel × Nat :=
  if stale c any want then (c, 170) else if c.last + 1 = 18446744073709551616 then (c, 4) else (putC c x, 0)
def CelErr (r : Cel × Nat) (w : World) (e : Ending) (w' : World) : Prop :=
  ∃ v, e = .returned (.tuple #[.agg #[.int .u64 r.1.last, v], .int .i64 r.2]) ∧ IsVers w' v r.1.l ∧ (∀ k, v.ownBlock = some k → w.heap.size ≤ k) ∧ Below w.heap.size w w'

set_option maxRecDepth 100000 in
set_option maxHeartbeats 2000000 in
theorem cell_comes (c : Cel) (v : Value) (x : Ver) (any : Bool) (want : Nat) (w : World) (hv : IsVers w v c.l) (hl : c.l.length ≤ 8) (hlast : c.last < 18446744073709551616) :
    Calls Tryz.prog 139 #[.agg #[.int .u64 c.last, v], .bool any, .int .u64 want, verVal x] w (CelErr (comesC c any want x) w) := by
  have ht : stale c any want = (!any && !decide (want = nowC c)) := rfl
  have Hr : Hid (comesC c any want x = if stale c any want then (c, 170) else if c.last + 1 = 18446744073709551616 then (c, 4) else (putC c x, 0)) := Lib.hid rfl
  generalize comesC c any want x = r at Hr
  have Hp : Hid (putC c x = ⟨c.last + 1, (c.l ++ [(⟨c.last + 1, x.st, x.tx⟩ : Ver)]).drop (c.l.length + 1 - 8)⟩) := Lib.hid rfl
  generalize putC c x = pc at Hr Hp
  generalize stale c any want = t at ht Hr
  obtain ⟨n, hn⟩ : ∃ n, n = nowC c := ⟨_, rfl⟩
  rw [← hn] at ht
  have Hnow := Lib.hid (fun (v : Value) (w : World) (h : IsVers w v c.l) => (cell_now c v w h (by omega))); rw [← hn] at Hnow
  have Hkept := Lib.hid (fun (v : Value) (w : World) (h : IsVers w v c.l) => (cell_kept c v w h (by omega)))
  clear hn
  obtain ⟨cl, L⟩ := c
  simp only at hv hl hlast Hnow Hkept Hr Hp ⊢
  have hv2 := hv
  obtain ⟨a, cap, rfl, hc⟩ := hv2
  clear hc
  have Hv := Lib.hid hv; clear hv
  have Ht := Lib.hid ht; clear ht
  unfold verVal
  go_enter Tryz.func139, Tryz.ntmps139
  go_upto_region 1 with fail
  refine wp_abs (F := fun W => W.heap.size = w.heap.size + 3 ∧ (∀ j, W.cell? ⟨w.heap.size, j, none⟩ = (#[Value.int .u64 cl, .slice a L.length cap])[j]?) ∧ (∀ j, W.cell? ⟨w.heap.size + 1, j, none⟩ = (#[Value.int .u64 x.n, .int .u8 x.st, .string x.tx])[j]?) ∧ (∀ j, W.cell? ⟨w.heap.size + 2, j, none⟩ = (#[Value.int .u64 0, .slice none 0 0])[j]?) ∧ (∀ j, W.frozen? ⟨w.heap.size + 1, j, none⟩ = false) ∧ (∀ j, W.frozen? ⟨w.heap.size + 2, j, none⟩ = false) ∧ Below w.heap.size w W) (threeNew w _ _ _ _ _ _ rfl) ?_
  rintro W ⟨hsz, n0, n1, n2, fr1, fr, hb⟩
  have q0 : W.cell? ⟨w.heap.size, 0, none⟩ = some (.int .u64 cl) := n0 0
  have q1 : W.cell? ⟨w.heap.size, 1, none⟩ = some (.slice a L.length cap) := n0 1
  have Hsz := Lib.hid hsz; have N0 := Lib.hid n0; have N1 := Lib.hid n1; have N2 := Lib.hid n2; have Fr1 := Lib.hid fr1; have Fr := Lib.hid fr; have Hb := Lib.hid hb; clear hsz n0 n1 n2 fr1 fr hb
  have HvW : Hid (IsVers W (.slice a L.length cap) L) := Lib.hid (Hv.out.below Hb.out (Nat.le_refl _))
  go_cut [11] (fun s11 wx => s11 = .bool t ∧ Hid (Below W.heap.size W wx))
  case first =>
    cases any with
    | true =>
      go_wp2_with fail
      go_meet
      case rel => exact ⟨by rw [Ht.out]; rfl, Lib.hid (Below.refl _ _)⟩
    | false =>
      go_wp2_with fail
      refine (Hnow.out _ _ ?_).mono ?_
      · exact HvW.out.below (Below.refl _ _) (Nat.le_refl _)
      rintro e w1 ⟨rfl, hb1⟩
      have Hb1 := Lib.hid hb1; clear hb1
      go_wp2_with fail
      go_meet
      case rel =>
        refine ⟨?_, Lib.hid Hb1.out⟩
        rw [Ht.out]
        simp only [Bool.not_false, Bool.true_and]
        exact congrArg _ (neNat _ _)
  case rest =>
    obtain ⟨rfl, HX⟩ := hcut
    obtain ⟨W2, hW2⟩ : ∃ W2, W2 = wc := ⟨_, rfl⟩
    rw [← hW2] at HX ⊢
    clear hW2
    have HB2 : Hid (Below w.heap.size w W2) := Lib.hid (Hb.out.trans (HX.out.mono Hb.out.size))
    have Hv2 : Hid (IsVers W2 (.slice a L.length cap) L) := Lib.hid (Hv.out.below HB2.out (Nat.le_refl _))
    have K0 : Hid (∀ j, W2.cell? ⟨w.heap.size, j, none⟩ = (#[Value.int .u64 cl, .slice a L.length cap])[j]?) := Lib.hid (fun j => (HX.out.cell (by show _ < _; rw [Hsz.out]; simp)).trans (N0.out j))
    have K1 : Hid (∀ j, W2.cell? ⟨w.heap.size + 1, j, none⟩ = (#[Value.int .u64 x.n, .int .u8 x.st, .string x.tx])[j]?) := Lib.hid (fun j => (HX.out.cell (by show _ < _; rw [Hsz.out]; simp)).trans (N1.out j))
    have K2 : Hid (∀ j, W2.cell? ⟨w.heap.size + 2, j, none⟩ = (#[Value.int .u64 0, .slice none 0 0])[j]?) := Lib.hid (fun j => (HX.out.cell (by show _ < _; rw [Hsz.out]; simp)).trans (N2.out j))
    have F1 : Hid (∀ j, W2.frozen? ⟨w.heap.size + 1, j, none⟩ = false) := Lib.hid (fun j => (HX.out.frozen (by show _ < _; rw [Hsz.out]; simp)).trans (Fr1.out j))
    have F2 : Hid (∀ j, W2.frozen? ⟨w.heap.size + 2, j, none⟩ = false) := Lib.hid (fun j => (HX.out.frozen (by show _ < _; rw [Hsz.out]; simp)).trans (Fr.out j))
    have HZ : Hid (w.heap.size + 2 < W2.heap.size) := Lib.hid (by have := HX.out.size; have := Hsz.out; omega)
    clear q0 q1 N0 N1 N2 Fr Fr1 HvW HX Hb
    have q0 : W2.cell? ⟨w.heap.size, 0, none⟩ = some (.int .u64 cl) := K0.out 0
    have q1 : W2.cell? ⟨w.heap.size, 1, none⟩ = some (.slice a L.length cap) := K0.out 1
    cases t with
    | true =>
      have z0 : W2.cell? ⟨w.heap.size + 1 + 1, 0, none⟩ = some (.int .u64 0) := K2.out 0
      have z1 : W2.cell? ⟨w.heap.size + 1 + 1, 1, none⟩ = some (.slice none 0 0) := K2.out 1
      have g0 : W2.frozen? ⟨w.heap.size + 1 + 1, 0, none⟩ = false := F2.out 0
      have g1 : W2.frozen? ⟨w.heap.size + 1 + 1, 1, none⟩ = false := F2.out 1
      obtain rfl : r = (⟨cl, L⟩, 170) := by rw [Hr.out]; rfl
      go_wp2_with fail
      refine (Hkept.out _ _ ?_).mono ?_
      · exact Hv2.out
      rintro e w1 ⟨v1, rfl, hown, hb1⟩
      obtain ⟨a1, c1, rfl⟩ := ownShape hown
      have HZ2 := HZ.out
      replace z0 := (hb1.cell (p := ⟨w.heap.size + 1 + 1, 0, none⟩) (by show _ < _; omega)).trans z0
      replace z1 := (hb1.cell (p := ⟨w.heap.size + 1 + 1, 1, none⟩) (by show _ < _; omega)).trans z1
      replace g0 := (hb1.frozen (p := ⟨w.heap.size + 1 + 1, 0, none⟩) (by show _ < _; omega)).trans g0
      replace g1 := (hb1.frozen (p := ⟨w.heap.size + 1 + 1, 1, none⟩) (by show _ < _; omega)).trans g1
      have Hown := Lib.hid hown; have Hb1 := Lib.hid hb1; clear hown hb1
      go_wp2_with fail
      refine bodyPost_ret (v := .tuple #[.agg #[.int .u64 cl, .slice a1 L.length c1], .int .i64 170]) ?_ rfl ⟨_, rfl, ?_, fun k hk => Nat.le_trans (by omega) (ownAbove Hown.out k hk), ?_⟩
      · simp [results, Tryz.results139, go_sem, z0, z1]
      · exact IsVers.own (B := w.heap.size) (ownBase (ownsRow_setCell_below (ownsRow_setCell_below Hown.out (by show _ < _; omega) _) (by show _ < _; omega) _) (by omega))
      · refine ((HB2.out.trans (Hb1.out.mono ?_)).setCell ?_ _).setCell ?_ _ <;> first | omega | (show w.heap.size ≤ w.heap.size + 1 + 1; omega)
    | false =>
      by_cases hfull : cl + 1 = 18446744073709551616
      · have hw1 : IntKind.u64.wrap ((cl : Int) + 1) = 0 := by rw [show ((cl : Int) + 1) = 18446744073709551616 by omega]; decide
        have z0 : W2.cell? ⟨w.heap.size + 1 + 1, 0, none⟩ = some (.int .u64 0) := K2.out 0
        have z1 : W2.cell? ⟨w.heap.size + 1 + 1, 1, none⟩ = some (.slice none 0 0) := K2.out 1
        have g0 : W2.frozen? ⟨w.heap.size + 1 + 1, 0, none⟩ = false := F2.out 0
        have g1 : W2.frozen? ⟨w.heap.size + 1 + 1, 1, none⟩ = false := F2.out 1
        obtain rfl : r = (⟨cl, L⟩, 4) := by rw [Hr.out, if_neg (by decide), if_pos hfull]
        go_wp2_with fail
        refine (Hkept.out _ _ ?_).mono ?_
        · exact Hv2.out
        rintro e w1 ⟨v1, rfl, hown, hb1⟩
        obtain ⟨a1, c1, rfl⟩ := ownShape hown
        have HZ2 := HZ.out
        replace z0 := (hb1.cell (p := ⟨w.heap.size + 1 + 1, 0, none⟩) (by show _ < _; omega)).trans z0
        replace z1 := (hb1.cell (p := ⟨w.heap.size + 1 + 1, 1, none⟩) (by show _ < _; omega)).trans z1
        replace g0 := (hb1.frozen (p := ⟨w.heap.size + 1 + 1, 0, none⟩) (by show _ < _; omega)).trans g0
        replace g1 := (hb1.frozen (p := ⟨w.heap.size + 1 + 1, 1, none⟩) (by show _ < _; omega)).trans g1
        have Hown := Lib.hid hown; have Hb1 := Lib.hid hb1; clear hown hb1
        go_wp2_with fail
        refine bodyPost_ret (v := .tuple #[.agg #[.int .u64 cl, .slice a1 L.length c1], .int .i64 4]) ?_ rfl ⟨_, rfl, ?_, fun k hk => Nat.le_trans (by omega) (ownAbove Hown.out k hk), ?_⟩
        · simp [results, Tryz.results139, go_sem, z0, z1]
        · exact IsVers.own (B := w.heap.size) (ownBase (ownsRow_setCell_below (ownsRow_setCell_below Hown.out (by show _ < _; omega) _) (by show _ < _; omega) _) (by omega))
        · refine ((HB2.out.trans (Hb1.out.mono ?_)).setCell ?_ _).setCell ?_ _ <;> first | omega | (show w.heap.size ≤ w.heap.size + 1 + 1; omega)
      · have hlast2 : cl + 1 < 18446744073709551616 := by omega
        have hne : (((cl : Int) + 1) == 0) = false := by rw [beq_eq_false_iff_ne]; omega
        have y0 : W2.cell? ⟨w.heap.size + 1, 0, none⟩ = some (.int .u64 x.n) := K1.out 0
        have y1 : W2.frozen? ⟨w.heap.size + 1, 0, none⟩ = false := F1.out 0
        go_upto_region 6 with fail
        refine wp_abs (F := fun W => W.heap.size = W2.heap.size ∧ W.cell? ⟨w.heap.size, 1, none⟩ = some (.slice a L.length cap) ∧ W.cell? ⟨w.heap.size + 1, 0, none⟩ = some (.int .u64 (cl + 1)) ∧ W.cell? ⟨w.heap.size + 1, 1, none⟩ = some (.int .u8 x.st) ∧ W.cell? ⟨w.heap.size + 1, 2, none⟩ = some (.string x.tx) ∧ (∀ j, W.cell? ⟨w.heap.size + 2, j, none⟩ = (#[Value.int .u64 0, .slice none 0 0])[j]?) ∧ (∀ j, W.frozen? ⟨w.heap.size + 2, j, none⟩ = false) ∧ Below w.heap.size w W) (oneSet HB2.out q1 K1.out K2.out F2.out) ?_
        rintro W3 ⟨hsz, q3, x0, x1, x2, n2, fr, hb⟩
        clear q0 q1 y0 y1
        have HZ3 : Hid (w.heap.size + 2 < W3.heap.size) := Lib.hid (by rw [hsz]; exact HZ.out)
        have N2 := Lib.hid n2; have Fr := Lib.hid fr; have Hb := Lib.hid hb; clear hsz n2 fr hb
        have HvW : Hid (IsVers W3 (.slice a L.length cap) L) := Lib.hid (Hv.out.below Hb.out (Nat.le_refl _))
        have keepS : Hid (∀ w', Below W3.heap.size W3 w' → w'.cell? ⟨w.heap.size, 1, none⟩ = some (.slice a L.length cap) ∧ w'.cell? ⟨w.heap.size + 1, 0, none⟩ = some (.int .u64 (cl + 1)) ∧ w'.cell? ⟨w.heap.size + 1, 1, none⟩ = some (.int .u8 x.st) ∧ w'.cell? ⟨w.heap.size + 1, 2, none⟩ = some (.string x.tx) ∧ Hid (Below W3.heap.size W3 w')) := Lib.hid (fun w' h => by
          have hz := HZ3.out
          refine ⟨(h.cell (p := ⟨w.heap.size, 1, none⟩) ?_).trans q3, (h.cell (p := ⟨w.heap.size + 1, 0, none⟩) ?_).trans x0, (h.cell (p := ⟨w.heap.size + 1, 1, none⟩) ?_).trans x1, (h.cell (p := ⟨w.heap.size + 1, 2, none⟩) ?_).trans x2, Lib.hid h⟩ <;> (dsimp only; omega))
        go_cut [10] (fun s10 wx => ∃ a1 c1, s10 = .slice a1 (L.length + 1) c1 ∧ Hid (wx.ownsRow W3.heap.size 50 3 s10 (L.length + 1) (flat L ++ verCells ⟨cl + 1, x.st, x.tx⟩) ∧ Below W3.heap.size W3 wx))
        case first =>
          have keepB : Hid (∀ w' : World, (w'.cell? ⟨w.heap.size, 1, none⟩ = some (.slice a L.length cap) ∧ w'.cell? ⟨w.heap.size + 1, 0, none⟩ = some (.int .u64 (cl + 1)) ∧ w'.cell? ⟨w.heap.size + 1, 1, none⟩ = some (.int .u8 x.st) ∧ w'.cell? ⟨w.heap.size + 1, 2, none⟩ = some (.string x.tx) ∧ Hid (Below W3.heap.size W3 w')) → Below W3.heap.size W3 w') := Lib.hid (fun w' h => h.2.2.2.2.out)
          obtain ⟨i0, hi, hz0, hz1, hz2⟩ := info_parts infoVer
          have Hi := Lib.hid hi; have Hz0 := Lib.hid hz0; have Hz1 := Lib.hid hz1; have Hz2 := Lib.hid hz2; clear hi hz0 hz1 hz2
          have HLT : Hid (∀ o, W3.heap.size < (W3.alloc o).heap.size) := Lib.hid (fun o => by simp)
          have HLE : Hid (∀ o, W3.heap.size ≤ (W3.alloc o).heap.size) := Lib.hid (fun o => by simp)
          go_region_held3 (fun w' => w'.cell? ⟨w.heap.size, 1, none⟩ = some (.slice a L.length cap) ∧ w'.cell? ⟨w.heap.size + 1, 0, none⟩ = some (.int .u64 (cl + 1)) ∧ w'.cell? ⟨w.heap.size + 1, 1, none⟩ = some (.int .u8 x.st) ∧ w'.cell? ⟨w.heap.size + 1, 2, none⟩ = some (.string x.tx) ∧ Hid (Below W3.heap.size W3 w'))
            (first
              | exact keepS.out _ HBd.out
              | exact keepS.out _ HBc.out
              | exact keepS.out _ (HBc.out.alloc HBc.out.size _)
              | exact keepS.out _ (((Below.refl _ _).drew).alloc (Nat.le_refl _) _)
              | exact keepS.out _ (Below.drew (Below.refl _ _)))
            (first
              | (go_at_call 78; refine (clone_vers L _ _ (HvW.out.below (keepB.out _ (by assumption)) (Nat.le_refl _)) (by omega)).mono ?_; rintro e w1 ⟨v1, rfl, hown, hb⟩; obtain ⟨a1, c1, rfl⟩ := ownShape hown; have HBc := Lib.hid ((keepB.out _ (by assumption)).trans (hb.mono (keepB.out _ (by assumption)).size)); have Hown := Lib.hid hown; have Hc := Lib.hid hb; clear hown hb)
              | (refine step_append_lies (hgd := rfl) (s := .tmp 35) (x := .tmp 37) (t := 44) (ho := rfl) (base := _) (e := 50) (i := i0) (z := .agg #[.int .u64 0, .int .u8 0, .string ByteArray.empty]) (size := 3) (bytes := 32) (ht := Tryz.underlying44) (hi := Hi.out) (hz := Hz0.out) (hsize := Hz1.out) (hby := Hz2.out) (hzs := rfl) (hsz := by decide) (v := _) (n := L.length) (xs := flat L) (hs := rfl) (hown := (ownBelow Hown.out ((Below.refl _ _).alloc (Nat.le_refl _) _))) (ad := _) (m := 1) (c := _) (news := verCells ⟨cl + 1, x.st, x.tx⟩) (hx := rfl) (hl := rfl) (hnews := World.news_of_block (MapKept.heap_alloc _ _).1) (h1 := flat_one [⟨cl + 1, x.st, x.tx⟩]) (hm := Nat.zero_lt_one) (h63 := ?h63) (hbytes := ?hby) (hbase := ?hbase) (H := _) (hH := rfl) (h := ?go); (case h63 => unfold maxLen; omega); (case hby => omega); (case hbase => exact Nat.le_trans Hc.out.size (Below.size ((Below.refl _ _).alloc (Nat.le_refl _) _))); intro g c2 w2 hown2 hgrow hat hlt; have HBd := Lib.hid ((HBc.out.alloc HBc.out.size _).grown hgrow (HBc.out.alloc HBc.out.size _).size (ownAbove Hown.out)); have Hown2 := Lib.hid hown2; clear hown2 hgrow hat hlt)
              | (refine step_append_lies (hgd := rfl) (s := .tmp 35) (x := .tmp 37) (t := 44) (ho := rfl) (base := _) (e := 50) (i := i0) (z := .agg #[.int .u64 0, .int .u8 0, .string ByteArray.empty]) (size := 3) (bytes := 32) (ht := Tryz.underlying44) (hi := Hi.out) (hz := Hz0.out) (hsize := Hz1.out) (hby := Hz2.out) (hzs := rfl) (hsz := by decide) (v := _) (n := L.length) (xs := flat L) (hs := rfl) (hown := Hown.out) (ad := _) (m := 1) (c := _) (news := verCells ⟨cl + 1, x.st, x.tx⟩) (hx := rfl) (hl := rfl) (hnews := World.news_of_block ((Hc.out.block W3.heap.size (HLT.out _)).trans (MapKept.heap_alloc W3 _).1)) (h1 := flat_one [⟨cl + 1, x.st, x.tx⟩]) (hm := Nat.zero_lt_one) (h63 := ?h63B) (hbytes := ?hbyB) (hbase := ?hbaseB) (H := _) (hH := rfl) (h := ?goB); (case h63B => unfold maxLen; omega); (case hbyB => omega); (case hbaseB => exact Hc.out.size); intro g c2 w2 hown2 hgrow hat hlt; have HBd := Lib.hid (HBc.out.grown hgrow HBc.out.size (fun k hk => Nat.le_trans (HLE.out _) (ownAbove Hown.out k hk))); have Hown2 := Lib.hid hown2; clear hown2 hgrow hat hlt))
          all_goals (
            go_wp2_with fail
            go_meet
            case rel => exact ⟨_, _, rfl, Lib.hid ⟨ownBase Hown2.out (by first | exact Nat.le_refl _ | exact HLE.out _), HBd.out⟩⟩)
        case rest =>
          obtain ⟨a1, c1, rfl, HX⟩ := hcut
          obtain ⟨g, cp, hform, hgB, hgl⟩ := HX.out.1.form (Nat.succ_pos _)
          obtain ⟨rfl, rfl⟩ : a1 = some ⟨g, 0, none⟩ ∧ c1 = cp := by simpa using hform
          have hcap := ownCap HX.out.1
          clear hform
          have hz := HZ3.out
          obtain ⟨y0, z0, z1, g0, g1⟩ : wc.cell? ⟨w.heap.size + 1, 0, none⟩ = some (.int .u64 (cl + 1)) ∧ wc.cell? ⟨w.heap.size + 1 + 1, 0, none⟩ = some (.int .u64 0) ∧ wc.cell? ⟨w.heap.size + 1 + 1, 1, none⟩ = some (.slice none 0 0) ∧ wc.frozen? ⟨w.heap.size + 1 + 1, 0, none⟩ = false ∧ wc.frozen? ⟨w.heap.size + 1 + 1, 1, none⟩ = false := by
            refine ⟨(HX.out.2.cell (by dsimp only; omega)).trans x0, (HX.out.2.cell (by dsimp only; omega)).trans (N2.out 0), (HX.out.2.cell (by dsimp only; omega)).trans (N2.out 1), (HX.out.2.frozen (by dsimp only; omega)).trans (Fr.out 0), (HX.out.2.frozen (by dsimp only; omega)).trans (Fr.out 1)⟩
          have HgB := Lib.hid hgB; have Hgl := Lib.hid hgl; clear hgB hgl
          obtain rfl : r = (pc, 0) := by rw [Hr.out, if_neg (by decide), if_neg hfull]
          have HX1 : Hid (wc.ownsRow W3.heap.size 50 3 (.slice (some ⟨g, 0, none⟩) (L ++ [(⟨cl + 1, x.st, x.tx⟩ : Ver)]).length c1) (L ++ [(⟨cl + 1, x.st, x.tx⟩ : Ver)]).length (flat (L ++ [(⟨cl + 1, x.st, x.tx⟩ : Ver)]))) := Lib.hid (by rw [flat_append, List.length_append]; exact HX.out.1)
          have HBf : Hid (Below w.heap.size w wc) := Lib.hid (Hb.out.trans (HX.out.2.mono (by omega)))
          by_cases h7 : L.length + 1 ≤ 8
          · have hm : max 0 ((L.length : Int) + 1 - 8) = 0 := by omega
            have h0 : L.length + 1 - 8 = 0 := by omega
            have H0 := Lib.hid h0; clear h0
            go_wp2_with fail
            go_region
            all_goals go_wp2_with fail
            refine bodyPost_ret (v := .tuple #[.agg #[.int .u64 (cl + 1), .slice (some ⟨g, 0, none⟩) (L.length + 1) c1], .int .i64 0]) ?_ rfl ⟨.slice (some ⟨g, 0, none⟩) (L.length + 1) c1, ?_, ?_, fun k hk => by cases hk; exact Nat.le_trans (by omega) HgB.out, ?_⟩
            · simp [results, Tryz.results139, go_sem, z0, z1]
            · rw [Hp.out]; rfl
            · rw [Hp.out]
              simp only
              rw [H0.out]
              simpa using ownDropSet HX1.out hz (.int .u64 (cl + 1)) (.slice (some ⟨g, 0, none⟩) (L.length + 1) c1) 0 c1
            · refine ((HBf.out.setCell ?_ _).setCell ?_ _).drew <;> dsimp only <;> omega
          · have h8 : L.length = 8 := by omega
            have hm : max 0 ((L.length : Int) + 1 - 8) = 1 := by omega
            have h0 : L.length + 1 - 8 = 1 := by omega
            have H0 := Lib.hid h0; clear h0
            have H8 := Lib.hid h8; clear h8
            go_wp2_with fail
            go_region
            all_goals go_wp2_with fail
            refine bodyPost_ret (v := .tuple #[.agg #[.int .u64 (cl + 1), .slice (some ⟨g, (L.length - 7) * 3, none⟩) (L.length + 1 - (L.length - 7)) (c1 - (L.length - 7))], .int .i64 0]) ?_ rfl ⟨.slice (some ⟨g, (L.length - 7) * 3, none⟩) (L.length + 1 - (L.length - 7)) (c1 - (L.length - 7)), ?_, ?_, fun k hk => by cases hk; exact Nat.le_trans (by omega) HgB.out, ?_⟩
            · simp [results, Tryz.results139, go_sem, z0, z1]
            · rw [Hp.out]; rfl
            · have e : L.length - 7 = 1 := by have := H8.out; omega
              rw [Hp.out, e]
              simp only
              rw [H0.out]
              simpa using ownDropSet HX1.out hz (.int .u64 (cl + 1)) (.slice (some ⟨g, 1 * 3, none⟩) (L.length + 1 - 1) (c1 - 1)) 1 (c1 - 1)
            · refine ((HBf.out.setCell ?_ _).setCell ?_ _).drew <;> dsimp only <;> omega
end Go.Proofs.YtfbgnpfhjbiikaaGreatDoor

namespace Go.Proofs.YtfbgnpfhjbiikaaGreatDoor
open Go Go.RowKit
structure Two (w : World) (C1 C2 : Array Value) (W : World) : Prop where
  sz : w.heap.size + 1 < W.heap.size
  c1 : ∀ j, W.cell? ⟨w.heap.size, j, none⟩ = C1[j]?
  c2 : ∀ j, W.cell? ⟨w.heap.size + 1, j, none⟩ = C2[j]?
  f1 : ∀ j, W.frozen? ⟨w.heap.size, j, none⟩ = false
  f2 : ∀ j, W.frozen? ⟨w.heap.size + 1, j, none⟩ = false
  b : Below w.heap.size w W
theorem Two.of (w : World) (C1 C2 : Array Value) (t1 t2 : TypeId) : Two w C1 C2 ((w.alloc (.cells C1 t1)).alloc (.cells C2 t2)) := by
  obtain ⟨a, b, c, d⟩ := twoNew (w := w) (w1 := (w.alloc (.cells C1 t1)).alloc (.cells C2 t2)) (n := w.heap.size + 2) (Below.refl _ _) (Nat.le_refl _)
  exact ⟨by simp, a, b, c, d, ((Below.refl _ _).alloc (Nat.le_refl _) _).alloc (by simp) _⟩
theorem Two.step {w W w1 : World} {C1 C2 : Array Value} (h : Two w C1 C2 W) (hb : Below W.heap.size W w1) : Two w C1 C2 w1 := by
  have h1 := h.sz
  have h2 := hb.size
  exact ⟨by omega, fun j => (hb.cell (by dsimp only; omega)).trans (h.c1 j), fun j => (hb.cell (by dsimp only; omega)).trans (h.c2 j), fun j => (hb.frozen (by dsimp only; omega)).trans (h.f1 j), fun j => (hb.frozen (by dsimp only; omega)).trans (h.f2 j), h.b.trans (hb.mono h.b.size)⟩
theorem Two.celEnd {w W w2 : World} {C1 C2 : Array Value} (h : Two w C1 C2 W) (hb : Below W.heap.size W w2) {v : Value} {l : List Ver} (hv : IsVers w2 v l) (hf : ∀ k, v.ownBlock = some k → W.heap.size ≤ k) (u1 u2 : Value) :
    IsVers ((w2.setCell ⟨w.heap.size + 1, 0, none⟩ u1).setCell ⟨w.heap.size + 1, 1, none⟩ u2) v l ∧ (∀ k, v.ownBlock = some k → w.heap.size ≤ k) ∧ Below w.heap.size w ((w2.setCell ⟨w.heap.size + 1, 0, none⟩ u1).setCell ⟨w.heap.size + 1, 1, none⟩ u2) := by
  have h1 := h.sz
  refine ⟨(hv.setFar ?_ _).setFar ?_ _, fun k hk => Nat.le_trans (by omega) (hf k hk), (((h.step hb).b.setCell ?_ _).setCell ?_ _)⟩
  · intro k hk; have := hf k hk; dsimp only; omega
  · intro k hk; have := hf k hk; dsimp only; omega
  · dsimp only; omega
  · dsimp only; omega

theorem may_len {c : Cel} (h : mayC c = true) : c.l.length ≤ 8 := by
  unfold mayC at h
  split at h
  · cases h
  · simp only [Bool.and_eq_true, decide_eq_true_eq] at h; exact h.1

def putE (c : Cel) (any : Bool) (want : Nat) (tx : ByteArray) : Cel × Nat :=
  if mayC c = false then (c, 2) else if 4096 < tx.size then (c, 5) else comesC c any want ⟨0, 1, tx⟩
def deleteE (c : Cel) (any : Bool) (want : Nat) : Cel × Nat :=
  if mayC c = false then (c, 2) else if nowC c = 0 then (c, 3) else comesC c any want ⟨0, 2, ByteArray.empty⟩

set_option maxRecDepth 100000 in
set_option maxHeartbeats 2000000 in
theorem cell_put (c : Cel) (v : Value) (any : Bool) (want : Nat) (tx : ByteArray) (w : World) (hv : IsVers w v c.l) (hl : c.l.length ≤ 65536) (hlast : c.last < 18446744073709551616) (htx : tx.size ≤ 9223372036854775807) :
    Calls Tryz.prog 110 #[.agg #[.int .u64 c.last, v], .bool any, .int .u64 want, .string tx] w (CelErr (putE c any want tx) w) := by
  have Hr : Hid (putE c any want tx = if mayC c = false then (c, 2) else if 4096 < tx.size then (c, 5) else comesC c any want ⟨0, 1, tx⟩) := Lib.hid rfl
  generalize putE c any want tx = r at Hr
  have Hmay := Lib.hid (fun (v : Value) (w : World) (h : IsVers w v c.l) => (cell_may c v w h (by omega)))
  have Hkept := Lib.hid (fun (v : Value) (w : World) (h : IsVers w v c.l) => (cell_kept c v w h (by omega)))
  have Hcomes := Lib.hid (fun (hm : mayC c = true) (v : Value) (w : World) (h : IsVers w v c.l) => (cell_comes c v ⟨0, 1, tx⟩ any want w h (may_len hm) hlast))
  generalize comesC c any want ⟨0, 1, tx⟩ = r2 at Hr Hcomes
  unfold verVal at Hcomes
  generalize mayC c = m at Hr Hmay Hcomes
  obtain ⟨cl, L⟩ := c
  simp only at hv hl hlast Hmay Hkept Hcomes ⊢
  have hv2 := hv
  obtain ⟨a, cap, rfl, hc⟩ := hv2
  clear hc
  have Hv := Lib.hid hv; clear hv
  go_enter Tryz.func110, Tryz.ntmps110
  go_upto_region 1 with fail
  refine wp_abs (F := Two w #[.int .u64 cl, .slice a L.length cap] #[.int .u64 0, .slice none 0 0]) (Two.of w _ _ _ _) ?_
  intro W T
  have q0 := T.c1 0
  have q1 := T.c1 1
  have T := Lib.hid T
  simp at q0 q1
  go_wp2_with fail
  refine (Hmay.out _ _ ?_).mono ?_
  · exact Hv.out.below T.out.b (Nat.le_refl _)
  rintro e w1 ⟨rfl, hb1⟩
  have T1 := Lib.hid (T.out.step hb1)
  clear q0 q1 hb1
  have q0 := T1.out.c1 0
  have q1 := T1.out.c1 1
  simp at q0 q1
  cases m with
  | false =>
    obtain rfl : r = (⟨cl, L⟩, 2) := by rw [Hr.out]; rfl
    go_wp2_with fail
    refine (Hkept.out _ _ ?_).mono ?_
    · exact Hv.out.below T1.out.b (Nat.le_refl _)
    rintro e w2 ⟨v1, rfl, hown, hb2⟩
    obtain ⟨a1, c1, rfl⟩ := ownShape hown
    have T2 := T1.out.step hb2
    have z0 := T2.c2 0; have z1 := T2.c2 1; have g0 := T2.f2 0; have g1 := T2.f2 1
    simp at z0 z1
    have T2 := Lib.hid T2; have Hown := Lib.hid hown; have Hb2 := Lib.hid hb2; clear hown hb2
    go_wp2_with fail
    refine bodyPost_ret (v := .tuple #[.agg #[.int .u64 cl, .slice a1 L.length c1], .int .i64 2]) ?_ rfl ⟨_, rfl, ?_⟩
    · simp [results, Tryz.results110, go_sem, z0, z1]
    · exact T1.out.celEnd Hb2.out (IsVers.own Hown.out) (ownAbove Hown.out) _ _
  | true =>
    by_cases htl : 4096 < tx.size
    · obtain rfl : r = (⟨cl, L⟩, 5) := by rw [Hr.out, if_neg (by decide), if_pos htl]
      go_wp2_with fail
      refine (Hkept.out _ _ ?_).mono ?_
      · exact Hv.out.below T1.out.b (Nat.le_refl _)
      rintro e w2 ⟨v1, rfl, hown, hb2⟩
      obtain ⟨a1, c1, rfl⟩ := ownShape hown
      have T2 := T1.out.step hb2
      have z0 := T2.c2 0; have z1 := T2.c2 1; have g0 := T2.f2 0; have g1 := T2.f2 1
      simp at z0 z1
      have T2 := Lib.hid T2; have Hown := Lib.hid hown; have Hb2 := Lib.hid hb2; clear hown hb2
      go_wp2_with fail
      refine bodyPost_ret (v := .tuple #[.agg #[.int .u64 cl, .slice a1 L.length c1], .int .i64 5]) ?_ rfl ⟨_, rfl, ?_⟩
      · simp [results, Tryz.results110, go_sem, z0, z1]
      · exact T1.out.celEnd Hb2.out (IsVers.own Hown.out) (ownAbove Hown.out) _ _
    · obtain rfl : r = r2 := by rw [Hr.out, if_neg (by decide), if_neg htl]
      go_wp2_with fail
      refine (Hcomes.out trivial _ _ ?_).mono ?_
      · exact Hv.out.below T1.out.b (Nat.le_refl _)
      rintro e w2 ⟨v1, rfl, hv1, hf1, hb2⟩
      have hv1' := hv1
      obtain ⟨a1, c1, rfl, hc1⟩ := hv1'
      clear hc1
      have T2 := T1.out.step hb2
      have z0 := T2.c2 0; have z1 := T2.c2 1; have g0 := T2.f2 0; have g1 := T2.f2 1
      simp at z0 z1
      have T2 := Lib.hid T2; have Hv1 := Lib.hid hv1; have Hf1 := Lib.hid hf1; have Hb2 := Lib.hid hb2; clear hv1 hf1 hb2
      go_wp2_with fail
      refine bodyPost_ret (v := .tuple #[.agg #[.int .u64 r.1.last, .slice a1 r.1.l.length c1], .int .i64 r.2]) ?_ rfl ⟨_, rfl, ?_⟩
      · simp [results, Tryz.results110, go_sem, z0, z1]
      · exact T1.out.celEnd Hb2.out Hv1.out Hf1.out _ _
set_option maxRecDepth 100000 in
set_option maxHeartbeats 2000000 in
theorem cell_delete (c : Cel) (v : Value) (any : Bool) (want : Nat) (w : World) (hv : IsVers w v c.l) (hl : c.l.length ≤ 65536) (hlast : c.last < 18446744073709551616) :
    Calls Tryz.prog 111 #[.agg #[.int .u64 c.last, v], .bool any, .int .u64 want] w (CelErr (deleteE c any want) w) := by
  have Hr : Hid (deleteE c any want = if mayC c = false then (c, 2) else if nowC c = 0 then (c, 3) else comesC c any want ⟨0, 2, ByteArray.empty⟩) := Lib.hid rfl
  generalize deleteE c any want = r at Hr
  have Hmay := Lib.hid (fun (v : Value) (w : World) (h : IsVers w v c.l) => (cell_may c v w h (by omega)))
  have Hkept := Lib.hid (fun (v : Value) (w : World) (h : IsVers w v c.l) => (cell_kept c v w h (by omega)))
  have Hcomes := Lib.hid (fun (hm : mayC c = true) (v : Value) (w : World) (h : IsVers w v c.l) => (cell_comes c v ⟨0, 2, ByteArray.empty⟩ any want w h (may_len hm) hlast))
  generalize comesC c any want ⟨0, 2, ByteArray.empty⟩ = r2 at Hr Hcomes
  unfold verVal at Hcomes
  have Hnow := Lib.hid (fun (v : Value) (w : World) (h : IsVers w v c.l) => (cell_now c v w h (by omega)))
  generalize nowC c = n at Hr Hnow
  generalize mayC c = m at Hr Hmay Hcomes
  obtain ⟨cl, L⟩ := c
  simp only at hv hl hlast Hmay Hkept Hcomes Hnow ⊢
  have hv2 := hv
  obtain ⟨a, cap, rfl, hc⟩ := hv2
  clear hc
  have Hv := Lib.hid hv; clear hv
  go_enter Tryz.func111, Tryz.ntmps111
  go_upto_region 1 with fail
  refine wp_abs (F := Two w #[.int .u64 cl, .slice a L.length cap] #[.int .u64 0, .slice none 0 0]) (Two.of w _ _ _ _) ?_
  intro W T
  have q0 := T.c1 0
  have q1 := T.c1 1
  have T := Lib.hid T
  simp at q0 q1
  go_wp2_with fail
  refine (Hmay.out _ _ ?_).mono ?_
  · exact Hv.out.below T.out.b (Nat.le_refl _)
  rintro e w1 ⟨rfl, hb1⟩
  have T1 := Lib.hid (T.out.step hb1)
  clear q0 q1 hb1
  have q0 := T1.out.c1 0
  have q1 := T1.out.c1 1
  simp at q0 q1
  cases m with
  | false =>
    obtain rfl : r = (⟨cl, L⟩, 2) := by rw [Hr.out]; rfl
    go_wp2_with fail
    refine (Hkept.out _ _ ?_).mono ?_
    · exact Hv.out.below T1.out.b (Nat.le_refl _)
    rintro e w2 ⟨v1, rfl, hown, hb2⟩
    obtain ⟨a1, c1, rfl⟩ := ownShape hown
    have T2 := T1.out.step hb2
    have z0 := T2.c2 0; have z1 := T2.c2 1; have g0 := T2.f2 0; have g1 := T2.f2 1
    simp at z0 z1
    have T2 := Lib.hid T2; have Hown := Lib.hid hown; have Hb2 := Lib.hid hb2; clear hown hb2
    go_wp2_with fail
    refine bodyPost_ret (v := .tuple #[.agg #[.int .u64 cl, .slice a1 L.length c1], .int .i64 2]) ?_ rfl ⟨_, rfl, ?_⟩
    · simp [results, Tryz.results111, go_sem, z0, z1]
    · exact T1.out.celEnd Hb2.out (IsVers.own Hown.out) (ownAbove Hown.out) _ _
  | true =>
    by_cases htl : n = 0
    · have hB : ((n : Int) == 0) = true := by simp [htl]
      obtain rfl : r = (⟨cl, L⟩, 3) := by rw [Hr.out, if_neg (by decide), if_pos htl]
      go_wp2_with fail
      refine (Hnow.out _ _ ?_).mono ?_
      · exact Hv.out.below T1.out.b (Nat.le_refl _)
      rintro e w3 ⟨rfl, hb3⟩
      have T3 := Lib.hid (T1.out.step hb3)
      clear q0 q1 hb3
      have q0 := T3.out.c1 0
      have q1 := T3.out.c1 1
      simp at q0 q1
      go_wp2_with fail
      refine (Hkept.out _ _ ?_).mono ?_
      · exact Hv.out.below T3.out.b (Nat.le_refl _)
      rintro e w2 ⟨v1, rfl, hown, hb2⟩
      obtain ⟨a1, c1, rfl⟩ := ownShape hown
      have T2 := T3.out.step hb2
      have z0 := T2.c2 0; have z1 := T2.c2 1; have g0 := T2.f2 0; have g1 := T2.f2 1
      simp at z0 z1
      have T2 := Lib.hid T2; have Hown := Lib.hid hown; have Hb2 := Lib.hid hb2; clear hown hb2
      go_wp2_with fail
      refine bodyPost_ret (v := .tuple #[.agg #[.int .u64 cl, .slice a1 L.length c1], .int .i64 3]) ?_ rfl ⟨_, rfl, ?_⟩
      · simp [results, Tryz.results111, go_sem, z0, z1]
      · exact T3.out.celEnd Hb2.out (IsVers.own Hown.out) (ownAbove Hown.out) _ _
    · have hB : ((n : Int) == 0) = false := by rw [beq_eq_false_iff_ne]; omega
      obtain rfl : r = r2 := by rw [Hr.out, if_neg (by decide), if_neg htl]
      go_wp2_with fail
      refine (Hnow.out _ _ ?_).mono ?_
      · exact Hv.out.below T1.out.b (Nat.le_refl _)
      rintro e w3 ⟨rfl, hb3⟩
      have T3 := Lib.hid (T1.out.step hb3)
      clear q0 q1 hb3
      have q0 := T3.out.c1 0
      have q1 := T3.out.c1 1
      simp at q0 q1
      go_wp2_with fail
      refine (Hcomes.out trivial _ _ ?_).mono ?_
      · exact Hv.out.below T3.out.b (Nat.le_refl _)
      rintro e w2 ⟨v1, rfl, hv1, hf1, hb2⟩
      have hv1' := hv1
      obtain ⟨a1, c1, rfl, hc1⟩ := hv1'
      clear hc1
      have T2 := T3.out.step hb2
      have z0 := T2.c2 0; have z1 := T2.c2 1; have g0 := T2.f2 0; have g1 := T2.f2 1
      simp at z0 z1
      have T2 := Lib.hid T2; have Hv1 := Lib.hid hv1; have Hf1 := Lib.hid hf1; have Hb2 := Lib.hid hb2; clear hv1 hf1 hb2
      go_wp2_with fail
      refine bodyPost_ret (v := .tuple #[.agg #[.int .u64 r.1.last, .slice a1 r.1.l.length c1], .int .i64 r.2]) ?_ rfl ⟨_, rfl, ?_⟩
      · simp [results, Tryz.results111, go_sem, z0, z1]
      · exact T3.out.celEnd Hb2.out Hv1.out Hf1.out _ _
end Go.Proofs.YtfbgnpfhjbiikaaGreatDoor

namespace Go.Proofs.YtfbgnpfhjbiikaaGreatDoor
open Go Go.RowKit
theorem eqNat (a b : Nat) : ((a : Int) == (b : Int)) = decide (a = b) := by
  by_cases h : a = b
  · subst h; simp
  · have : ¬ (a : Int) = b := by omega
    simp [h]; exact this

set_option maxRecDepth 100000 in
set_option maxHeartbeats 2000000 in
theorem cell_find1 (x : Ver) (n b : Nat) (w : World) (hb : w.cell? ⟨b, 0, none⟩ = some (.int .u64 n)) :
    Calls Tryz.prog 114 #[verVal x, .pointer (some ⟨b, 0, none⟩)] w fun e w' => e = .returned (.bool (decide (x.n = n))) ∧ Below w.heap.size w w' := by
  have hlt := cell_lt hb
  unfold verVal
  go_enter Tryz.func114, Tryz.ntmps114
  go_wp2
  go_ret
  refine ⟨ret_bool ?_, (Below.refl _ _).alloc (Nat.le_refl _) _⟩
  exact eqNat _ _

def idxV (l : List Ver) (n : Nat) : Int := if l.findIdx (fun v => decide (v.n = n)) < l.length then (l.findIdx (fun v => decide (v.n = n)) : Nat) else -1
theorem idxV_hit {l : List Ver} {n k : Nat} (hk : k < l.length) (hm : ∀ j, j < k → (l.getD j dV).n ≠ n) (hn : (l.getD k dV).n = n) : idxV l n = k := by
  have : l.findIdx (fun v => decide (v.n = n)) = k := by
    rw [List.findIdx_eq hk]
    refine ⟨?_, fun j hj => ?_⟩
    · rw [List.getD_eq_getElem?_getD, List.getElem?_eq_getElem hk] at hn
      simpa using hn
    · have := hm j hj
      rw [List.getD_eq_getElem?_getD, List.getElem?_eq_getElem (by omega)] at this
      simpa using this
  unfold idxV; rw [this, if_pos hk]
theorem idxV_miss {l : List Ver} {n : Nat} (hm : ∀ j, j < l.length → (l.getD j dV).n ≠ n) : idxV l n = -1 := by
  have : l.findIdx (fun v => decide (v.n = n)) = l.length := by
    rw [List.findIdx_eq_length]
    intro x hx
    obtain ⟨j, hj, rfl⟩ := List.getElem_of_mem hx
    have := hm j hj
    rw [List.getD_eq_getElem?_getD, List.getElem?_eq_getElem hj] at this
    simpa using this
  unfold idxV; rw [this, if_neg (Nat.lt_irrefl _)]

set_option maxRecDepth 100000 in
set_option maxHeartbeats 2000000 in
theorem indexFunc_find (L : List Ver) (v : Value) (n q : Nat) (w : World) (hv : IsVers w v L) (hl : L.length ≤ 9223372036854775807) (hb : w.cell? ⟨q, 0, none⟩ = some (.int .u64 n)) :
    Calls Tryz.prog 113 #[v, .func (.func 114) #[] #[.pointer (some ⟨q, 0, none⟩)]] w fun e w' => e = .returned (.int .i64 (idxV L n)) ∧ Below w.heap.size w w' := by
  obtain ⟨a, cap, rfl, hc⟩ := hv
  have HC := Lib.hid hc; clear hc
  have Hb := Lib.hid hb; clear hb
  go_enter Tryz.func113, Tryz.ntmps113
  go_wp2
  go_loopw [8] (fun i wr => ∃ k : Nat, k ≤ L.length ∧ i = .int .i64 k ∧ Hid (∀ j, j < k → (L.getD j dV).n ≠ n) ∧ Hid (Below w.heap.size w wr)) (fun i _ => L.length - (intOf i).toNat)
  case atStart => exact ⟨0, Nat.zero_le _, rfl, Lib.hid (fun j hj => absurd hj (Nat.not_lt_zero _)), Lib.hid (Below.refl _ _)⟩
  case round =>
    obtain ⟨k, hk, rfl, hm, hbw⟩ := hrel
    by_cases hlt : k < L.length
    · rcases HC.out with hn | ⟨b, off, rfl, hblt, hcc⟩
      · subst hn; simp at hlt
      obtain ⟨h1, h2, h3⟩ := hcc k hlt
      have g1 := (hbw.out.cell (p := ⟨b, off + k * 3, none⟩) hblt).trans h1
      have g2 := (hbw.out.cell (p := ⟨b, off + k * 3 + 1, none⟩) hblt).trans h2
      have g3 := (hbw.out.cell (p := ⟨b, off + k * 3 + 2, none⟩) hblt).trans h3
      clear h1 h2 h3 hcc
      obtain ⟨x, hx⟩ : ∃ x, x = L.getD k dV := ⟨_, rfl⟩
      rw [← hx] at g1 g2 g3
      have Hx := Lib.hid hx; clear hx
      have C := Lib.hid (fun wr hh => cell_find1 x n q wr hh)
      unfold verVal at C
      have hq : wr.cell? ⟨q, 0, none⟩ = some (.int .u64 n) := (hbw.out.cell (p := ⟨q, 0, none⟩) (cell_lt Hb.out)).trans Hb.out
      have Hq := Lib.hid hq; clear hq
      have Hcall := Lib.hid (C.out wr Hq.out)
      by_cases hn : x.n = n
      · have hd : Hid (decide (x.n = n) = true) := Lib.hid (by simp [hn])
        have Hn := Lib.hid hn; clear hn
        rw [hd.out] at Hcall
        go_wp2_with (go_at_call 114; refine (Hcall.out).mono ?_; rintro e w1 ⟨rfl, hb1⟩; have Hb1 := Lib.hid hb1; clear hb1)
        go_ret
        refine ⟨ret_int (idxV_hit hlt hm.out (by rw [← Hx.out]; exact Hn.out)).symm, hbw.out.trans (Hb1.out.mono hbw.out.size)⟩
      · have hd : Hid (decide (x.n = n) = false) := Lib.hid (by simp [hn])
        have Hn := Lib.hid hn; clear hn
        rw [hd.out] at Hcall
        go_wp2_with (go_at_call 114; refine (Hcall.out).mono ?_; rintro e w1 ⟨rfl, hb1⟩; have Hb1 := Lib.hid hb1; clear hb1)
        go_roundw
        case rel =>
          refine ⟨k + 1, by omega, by go_num, Lib.hid (fun j hj => ?_), Lib.hid (hbw.out.trans (Hb1.out.mono hbw.out.size))⟩
          by_cases e : j = k
          · subst e; rw [← Hx.out]; exact Hn.out
          · exact hm.out j (by omega)
        case measure => simp [intOf]; omega
    · have hge : (L.length : Int) ≤ (k : Int) := by omega
      have hm2 : Hid (∀ j, j < L.length → (L.getD j dV).n ≠ n) := Lib.hid (fun j hj => hm.out j (by omega))
      go_wp2
      go_ret
      exact ⟨ret_int (idxV_miss hm2.out).symm, hbw.out⟩
end Go.Proofs.YtfbgnpfhjbiikaaGreatDoor

namespace Go.Proofs.YtfbgnpfhjbiikaaGreatDoor
open Go Go.RowKit
def findE (c : Cel) (n : Nat) : Nat × Nat :=
  if mayC c = false then (0, 2) else if idxV c.l n < 0 then (0, 3) else if (c.l.getD (idxV c.l n).toNat dV).st ≠ 1 then (0, 171) else ((idxV c.l n).toNat, 0)
theorem idxV_cases (l : List Ver) (n : Nat) : idxV l n = -1 ∨ ∃ k : Nat, idxV l n = k ∧ k < l.length := by
  unfold idxV
  split
  · rename_i h; exact Or.inr ⟨_, rfl, h⟩
  · exact Or.inl rfl

set_option maxRecDepth 100000 in
set_option maxHeartbeats 2000000 in
theorem cell_find (c : Cel) (v : Value) (n : Nat) (w : World) (hv : IsVers w v c.l) (hl : c.l.length ≤ 65536) :
    Calls Tryz.prog 83 #[.agg #[.int .u64 c.last, v], .int .u64 n] w fun e w' => e = .returned (.tuple #[.int .i64 (findE c n).1, .int .i64 (findE c n).2]) ∧ Below w.heap.size w w' := by
  have Hr : Hid (findE c n = if mayC c = false then (0, 2) else if idxV c.l n < 0 then (0, 3) else if (c.l.getD (idxV c.l n).toNat dV).st ≠ 1 then (0, 171) else ((idxV c.l n).toNat, 0)) := Lib.hid rfl
  generalize findE c n = r at Hr
  have Hmay := Lib.hid (fun (v : Value) (w : World) (h : IsVers w v c.l) => (cell_may c v w h (by omega)))
  have Hidx := Lib.hid (fun (q : Nat) (v : Value) (w : World) (h : IsVers w v c.l) (hb : w.cell? ⟨q, 0, none⟩ = some (.int .u64 n)) => (indexFunc_find c.l v n q w h (by omega) hb))
  generalize mayC c = m at Hr Hmay
  obtain ⟨i, hi⟩ : ∃ i, i = idxV c.l n := ⟨_, rfl⟩
  have hcs := idxV_cases c.l n
  rw [← hi] at Hr Hidx hcs
  clear hi
  obtain ⟨cl, L⟩ := c
  simp only at hv hl Hmay Hidx Hr hcs ⊢
  have hv2 := hv
  obtain ⟨a, cap, rfl, hc⟩ := hv2
  have HC := Lib.hid hc; clear hc
  have Hv := Lib.hid hv; clear hv
  have Hcs := Lib.hid hcs; clear hcs
  go_enter Tryz.func83, Tryz.ntmps83
  go_upto_region 1 with fail
  refine wp_abs (F := Two w #[.int .u64 cl, .slice a L.length cap] #[.int .u64 n]) (Two.of w _ _ _ _) ?_
  intro W T
  have q0 := T.c1 0
  have q1 := T.c1 1
  have p0 := T.c2 0
  have T := Lib.hid T
  simp at q0 q1 p0
  go_wp2_with fail
  refine (Hidx.out _ _ _ ?_ ?_).mono ?_
  · exact Hv.out.below T.out.b (Nat.le_refl _)
  · exact p0
  rintro e w1 ⟨rfl, hb1⟩
  have T1 := Lib.hid (T.out.step hb1)
  clear q0 q1 p0 hb1
  have q0 := T1.out.c1 0
  have q1 := T1.out.c1 1
  simp at q0 q1
  go_wp2_with fail
  refine (Hmay.out _ _ ?_).mono ?_
  · exact Hv.out.below T1.out.b (Nat.le_refl _)
  rintro e w2 ⟨rfl, hb2⟩
  have T2 := Lib.hid (T1.out.step hb2)
  clear q0 q1 hb2
  have q0 := T2.out.c1 0
  have q1 := T2.out.c1 1
  simp at q0 q1
  cases m with
  | false =>
    obtain rfl : r = (0, 2) := by rw [Hr.out]; rfl
    go_wp2_with fail
    exact bodyPost_ret (v := .tuple #[.int .i64 0, .int .i64 2]) (by simp [results, Tryz.results83, go_sem]) rfl ⟨rfl, T2.out.b⟩
  | true =>
    rcases Hcs.out with rfl | ⟨k, rfl, hk⟩
    · obtain rfl : r = (0, 3) := by rw [Hr.out]; rfl
      go_wp2_with fail
      exact bodyPost_ret (v := .tuple #[.int .i64 0, .int .i64 3]) (by simp [results, Tryz.results83, go_sem]) rfl ⟨rfl, T2.out.b⟩
    · have hk0 : ¬ ((k : Int) < 0) := by omega
      rcases HC.out with hn | ⟨b, off, rfl, hblt, hcc⟩
      · subst hn; simp at hk
      obtain ⟨h1, h2, h3⟩ := hcc k hk
      have g2 := (T2.out.b.cell (p := ⟨b, off + k * 3 + 1, none⟩) hblt).trans h2
      clear h1 h2 h3 hcc
      have hr2 : Hid (r = if (L.getD k dV).st ≠ 1 then (0, 171) else (k, 0)) := Lib.hid (by rw [Hr.out, if_neg (by decide), if_neg hk0]; rfl)
      clear Hr
      generalize L.getD k dV = x at g2 hr2
      by_cases hs : x.st = 1
      · have hB : ((x.st : Int) == 1) = true := by simp [hs]
        have hs1 : 1 ≤ x.st ∧ x.st ≤ 1 := by omega
        obtain rfl : r = (k, 0) := by rw [hr2.out, if_neg (by simpa using hs)]
        clear hs
        go_wp2_with fail
        exact bodyPost_ret (v := .tuple #[.int .i64 (k : Int), .int .i64 0]) (by simp [results, Tryz.results83, go_sem]) rfl ⟨rfl, T2.out.b⟩
      · have hB : ((x.st : Int) == 1) = false := by rw [beq_eq_false_iff_ne]; omega
        have hN : ¬ (x.st : Int) = 1 := by omega
        obtain rfl : r = (0, 171) := by rw [hr2.out, if_pos hs]
        clear hs
        go_wp2_with fail
        exact bodyPost_ret (v := .tuple #[.int .i64 0, .int .i64 171]) (by simp [results, Tryz.results83, go_sem]) rfl ⟨rfl, T2.out.b⟩
end Go.Proofs.YtfbgnpfhjbiikaaGreatDoor
