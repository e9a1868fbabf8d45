/- What every law's end uses: a call that answers true and makes new memory alone meets a law's row, whatever its arguments are. Small facts that all walks of this seat use: lists of strings in memory, and how they stay as they are when only new memory is made. A slice of strings that came in, opened: it reads as a list of strings, each within the reach. What the ends of the laws of this seat share: the library's variable, the world of the witness. What stays as it was: all but some blocks; boxes of one's own; one operation of a quiet region; the row that a sort works on. Plain mathematics of paths: splitting at slashes, pieces, under, child. No program is named here. DERIVED: THE SHELF's CONTRACTS AT THIS DUMP, IN PLAIN WORDS (tools/lay-plain.mjs out of 'TryzShelf.lean', which tools/lay-shelf.mjs wrote): THE SAME DECLARATIONS UNDER THE SAME NAMES: 'import', 'namespace', 'open', 'def', 'theorem' AND NOTHING ELSE: no command of the shelf's: FOR A HAND-IN. Each laying: the table of numbers ('.._ren') and one theorem, a field a fact of the dump's own or the kernel's comparison; each contract: ONE APPLICATION. Contracts for package path: piece and its closure, the library's ContainsFunc at it, Pieces, May, Prefix, Under, Child. Contracts for package path: Pieces, May, Prefix, Under, Child. Plan: reads, edits, places and asks as they lie in memory. Contract: plan.May: its closures, and what goes over reads and edits with them. -/
import Derived.Test.YtggdkfijioeijaaGreatDoorCards
import Derived.Test.YtggdkfijioeijaaGreatDoorTie
import Derived.WalkKit
import Derived.ProofKit
import Derived.OpenShut
import Derived.Deep.DeepHandedRow
import Derived.Shelf.Vars
import Derived.Test.YtggdkfijioeijaaGreatDoorRows
import Derived.WalkSpells
import Derived.WalkLawsBesides
import Derived.Lib.Hide
import Derived.SliceStrings
import Derived.SizedLaws
import Derived.Deep.Quiet
import Derived.Deep.RegionHeld
import Derived.Deep.AppendLies
import Derived.Sort.Row
import Derived.Sort.AssemblyPlain
import Derived.Lib.Split
import Derived.Shelf.SlIter.Nil
import Derived.Shelf.SortM.Plain
import Derived.Shelf.SortM.SortNone
import Derived.Ground.GgzProg
import Derived.Ground.SlgmProg
import Derived.Shelf.Small.Bits
import Derived.Shelf.Utf8.RuneCount
import Derived.Shelf.Strconv.Itoa0
import Derived.Shelf.Strings.Search1
import Derived.Shelf.Strings.Search2
import Derived.Shelf.Strings.Search3
import Derived.Shelf.Strings.Count
import Derived.Shelf.LaysM
import Derived.Shelf.Strings.Shaped
import Derived.Shelf.Sort.Plain
import Derived.Shelf.GgClosure.StringsIndexFunc
import Derived.Ground.GgwProg
import Derived.Shelf.GgClosure.StringsIndexFuncTop
import Derived.Shelf.GgClosure.StringsRunes
import Derived.Shelf.Strings.Split
import Derived.Shelf.Unicode.Decode
import Derived.Shelf.Strings.RuneCount
import Derived.Shelf.Strings.Explode
import Derived.Shelf.Unicode.DecodeSlow
import Derived.Shelf.Unicode.DecodeAny
import Derived.Shelf.Strings.FuncGrows
import Derived.Shelf.Slices.In.SortNone
import Derived.Ground.SlgnProg
import Derived.Shelf.SlicesE.Compact
import Derived.Ground.SlgfProg
import Derived.Shelf.SlicesE.IndexFunc
import Derived.Test.YtggdkfijioeijaaGreatDoorProg
import Derived.Lib.DecodeN
namespace Go.Proofs.YtggdkfijioeijaaGreatDoor
open Go Go.ChangeShapes Go.WideShapes Go.ChangeAt Go.RowKit
section
variable {H : Type} {enc : TypeId × Value → H} {P : Program}
theorem trodAll_below (hl : laidOutB P = true) {W W' : World} (hb : Below W.heap.size W W') : ∀ (ts : List TypeId) (vs : List Value) (ds : List (DataW H)) (ps : List MemPlace),
  (∀ t ∈ ts, P.readableRec t = true ∧ t < P.types.size) → (∀ x ∈ ps, x.block < W.heap.size) → DataW.TrodAll enc P W 0 (fun _ => true) true ts vs ds ps → DataW.TrodAll enc P W' 0 (fun b => decide (b < W.heap.size)) true ts vs ds ps
 | [], [], [], _, _, _, h => h
 | [], [], _ :: _, _, _, _, h => h.elim
 | [], _ :: _, _, _, _, _, h => h.elim
 | _ :: _, [], _, _, _, _, h => h.elim
 | _ :: _, _ :: _, [], _, _, _, h => h.elim
 | t :: ts, v :: vs, d :: ds, ps, hr, hlt, h => by
  obtain ⟨p, q, h1, h2, rfl⟩ := h
  have ht := hr t (List.mem_cons_self)
  exact ⟨p, q, Below.trod hl ht.1 ht.2 h1 hb (fun x hx => hlt x (List.mem_append_left _ hx)), trodAll_below hl hb ts vs ds q (fun t' h' => hr t' (List.mem_cons_of_mem _ h')) (fun x hx => hlt x (List.mem_append_right _ hx)) h2, rfl⟩
theorem law_post {f : Func} {s : ChangeSpec} {tb : TypeId} (hl : laidOutB P = true) (hts : ∀ t ∈ f.params.toList, P.readableRec t = true ∧ t < P.types.size) (hrt : f.resultTypes.toList = [tb]) (htb : P.underlying tb = some .bool)
  (hv : s.vars = []) {W W' : World} {args : Array Value} {ds gs : List (DataW H)} {before : List MemPlace} (hW : DataW.Whole enc P f.params.toList s.vars false W args.toList ds gs before)
  (hfn : s.fn H ds = { results := [.lit (.bool true)], args := ds }) (hb : Below W.heap.size W W') : s.post enc P f false true false false W args (.bool true) W' := by
 have hW2 := hW
 obtain ⟨p, q, hA, hV, hpq, _, _⟩ := hW
 rw [hv] at hV
 have hg : gs = [] ∧ q = [] := by
  cases gs with
  | nil => exact ⟨rfl, hV⟩
  | cons a t => exact hV.elim
 obtain ⟨rfl, rfl⟩ := hg
 have hfn2 : s.fn H (ds ++ []) = { results := [.lit (.bool true)], args := ds } := by rw [List.append_nil]; exact hfn
 have hlt : ∀ x ∈ p, x.block < W.heap.size := fun x hx => hW2.lt x (by rw [hpq]; simpa using hx)
 refine ⟨ds, [], before, [], p, [], hW2, ?_, ?_, ?_, ?_, fun h => by cases h⟩
 ·have hsz : f.resultTypes.size = 1 := by have := congrArg List.length hrt; simpa using this
  rw [hrt, hsz, hfn2]
  exact ⟨[], [], shut_bool htb true, rfl, rfl⟩
 ·rw [hfn2]; exact trodAll_below hl hb _ _ _ _ hts hlt hA
 ·rw [hfn2, hv]; rfl
 ·exact hb.frame _
end
theorem ownNone : ownKnob Tryz.prog.godebug = none := by kernel_rfl
theorem laidOut : laidOutB Tryz.prog = true := by kernel_rfl
end Go.Proofs.YtggdkfijioeijaaGreatDoor
namespace Go.Proofs.YtggdkfijioeijaaGreatDoor
open Go Go.RowKit
theorem ret_bool {a b : Bool} (h : a = b) : Ending.returned (.bool a) = .returned (.bool b) := by rw [h]
theorem ret_val {a b : Value} (h : a = b) : Ending.returned a = .returned b := by rw [h]
def bs (l : List UInt8) : ByteArray := ⟨l.toArray⟩
theorem toList_bs (s : ByteArray) : bs s.data.toList = s := rfl
theorem ba_ext {a b : ByteArray} (h : a.data.toList = b.data.toList) : a = b := by rw [← toList_bs a, h]; rfl
def IsStrs (w : World) (v : Value) (l : List ByteArray) : Prop :=
 ∃ a cap, v = .slice a l.length cap ∧ (l = [] ∨ ∃ b off, a = some ⟨b, off, none⟩ ∧ b < w.heap.size ∧ ∀ i, i < l.length → w.cell? ⟨b, off + i, none⟩ = some (.string (l.getD i ByteArray.empty)))
theorem IsStrs.below {w w' : World} {v : Value} {l : List ByteArray} {B : Nat} (h : IsStrs w v l) (hb : Below B w w') (hB : w.heap.size ≤ B) : IsStrs w' v l := by
 obtain ⟨a, cap, hv, h⟩ := h
 refine ⟨a, cap, hv, ?_⟩
 rcases h with h | ⟨b, off, ha, hlt, hc⟩
 ·exact Or.inl h
 ·exact Or.inr ⟨b, off, ha, by have := hb.size; omega, fun i hi => (hb.cell (p := ⟨b, off + i, none⟩) (by show b < B; omega)).trans (hc i hi)⟩
theorem IsStrs.drewN {w : World} {v : Value} {l : List ByteArray} (h : IsStrs w v l) (n : Nat) : IsStrs (w.drewN n) v l := by
 obtain ⟨a, cap, hv, h⟩ := h
 refine ⟨a, cap, hv, ?_⟩
 rcases h with h | ⟨b, off, ha, hlt, hc⟩
 ·exact Or.inl h
 ·exact Or.inr ⟨b, off, ha, hlt, hc⟩
theorem IsStrs.nil (w : World) : IsStrs w (.slice none 0 0) [] := ⟨none, 0, rfl, Or.inl rfl⟩
theorem IsStrs.own {w : World} {B e : Nat} {v : Value} {l : List ByteArray} (h : w.ownsRow B e 1 v l.length (l.map Value.string)) : IsStrs w v l := by
 rcases h.2 with ⟨hv, hl⟩ | ⟨g, cap, cur, hv, hB, hg, hn, hcap, hsz, htake⟩
 ·have : l = [] := List.length_eq_zero_iff.1 hl
  subst this; exact ⟨none, 0, hv, Or.inl rfl⟩
 ·refine ⟨_, _, hv, Or.inr ⟨g, 0, rfl, lt_of_block hg, fun i hi => ?_⟩⟩
  subst hv
  have := World.ownsRow.cellAt h i (by omega)
  rw [Nat.zero_add, this, List.getElem?_map, List.getD_eq_getElem?_getD, List.getElem?_eq_getElem hi]; rfl
theorem IsStrs.new (w : World) (l : List ByteArray) (cap : Nat) (e : TypeId) (x : Nat × Nat) : IsStrs (w.alloc (.cells (l.map Value.string).toArray e x)) (.slice (some ⟨w.heap.size, 0, none⟩) l.length cap) l := by
 refine ⟨_, _, rfl, Or.inr ⟨w.heap.size, 0, rfl, by simp, fun i hi => ?_⟩⟩
 rw [Nat.zero_add, World.cell?_alloc_mark]
 simp [hi]
def MX (w : World) : Prop := ∃ m, w.cell? ⟨0, 0, none⟩ = some (.int .i64 m)
theorem cell_lt {w : World} {b o : Nat} {v : Value} (h : w.cell? ⟨b, o, none⟩ = some v) : b < w.heap.size := block_lt_of_cell h
theorem MX.below {w w' : World} {B : Nat} (h : MX w) (hb : Below B w w') (hB : w.heap.size ≤ B) : MX w' := by
 obtain ⟨m, hm⟩ := h
 exact ⟨m, (hb.cell (p := ⟨0, 0, none⟩) (by have := cell_lt hm; show 0 < B; omega)).trans hm⟩
theorem MX.drewN {w : World} (h : MX w) (n : Nat) : MX (w.drewN n) := h
end Go.Proofs.YtggdkfijioeijaaGreatDoor
namespace Go.Proofs.YtggdkfijioeijaaGreatDoor
open Go Go.ChangeShapes Go.WideShapes Go.ChangeAt Go.RowKit
theorem spot_none {w : World} {a : Addr} {v : Value} (h : w.cell? a = some v) : a = ⟨a.block, a.off, none⟩ := by
 obtain ⟨b, o, sp⟩ := a
 cases sp with
 | none => rfl
 | some x =>
  unfold World.cell? at h
  split at h
  ·simp at h
  ·cases h
theorem isStrs_of_cells {w : World} {a : Addr} {len cap : Nat} {ss : List ByteArray} (hl : len ≤ ss.length) (hc : ∀ i, i < ss.length → w.cell? (a.add i) = some (.string (ss.getD i ByteArray.empty))) : IsStrs w (.slice (some a) len cap) (ss.take len) := by
 have e1 : (ss.take len).length = len := by rw [List.length_take]; omega
 refine ⟨some a, cap, by rw [e1], ?_⟩
 by_cases h0 : len = 0
 ·left; subst h0; simp
 ·right
  have h00 := hc 0 (by omega)
  have ha : a.add 0 = a := by unfold Addr.add; simp
  rw [ha] at h00
  have hs := spot_none h00
  refine ⟨a.block, a.off, by rw [← hs], block_lt_of_cell h00, fun i hi => ?_⟩
  rw [e1] at hi
  have h2 := hc i (by omega)
  rw [hs] at h2
  have h3 : (⟨a.block, a.off, none⟩ : Addr).add i = ⟨a.block, a.off + i, none⟩ := by
   unfold Addr.add; split
   ·rename_i h; subst h; rfl
   ·rfl
  rw [h3] at h2
  rw [h2, List.getD_eq_getElem?_getD, List.getD_eq_getElem?_getD, List.getElem?_take_of_lt hi]
theorem open_isStrs {H : Type} {enc : TypeId × Value → H} {P : Program} {w : World} {t e : TypeId} {v : Value} {d : DataW H} {ps : List MemPlace} {base : Nat} {r : Reach} {sp : Nat → Bool} {b0 : Nat} {held : Bool} (ht : P.underlying t = some (.slice e)) (he : P.underlying e = some .string) (hc : P.cellsOf e = 1)
  (hval : Value.okWide P w r base t v) (h : DataW.Trod enc P w b0 sp held t v d ps) :
  ∃ (l : List ByteArray) (sr : List (DataW H)), IsStrs w v l ∧ (d = .nil ∧ l = [] ∨ d = .slice (strs l) sr) := by
 obtain ⟨a0, len0, cap0, rfl⟩ := okWide_slice ht hval
 obtain ⟨fuel, hf⟩ := h
 rcases open_strings ht he hc hf with ⟨hcs, hx⟩ | ⟨a, len, cap, ss, hcs, _, hl, _, hss, hx, hcell, _⟩
 ·have hv : Value.slice a0 len0 cap0 = .slice none 0 0 := by simpa [Value.cells] using hcs
  rw [hv]
  simp only [Prod.mk.injEq] at hx
  exact ⟨[], [], IsStrs.nil _, Or.inl ⟨hx.1, rfl⟩⟩
 ·have hv : Value.slice a0 len0 cap0 = .slice (some a) len cap := by simpa [Value.cells] using hcs
  rw [hv]
  simp only [Prod.mk.injEq] at hx
  have hle : len ≤ ss.length := by rw [hss]; split <;> omega
  exact ⟨ss.take len, _, isStrs_of_cells hle hcell, Or.inr hx.1⟩
theorem sized_strs {H : Type} {P : Program} {ts : List TypeId} {ds : List (DataW H)} (h : (DataW.weightsEach P ts ds).all (· ≤ reachBytes) = true) {j : Nat} {t e : TypeId} {l : List ByteArray} {sr : List (DataW H)} {d : DataW H}
  (hj : ts[j]? = some t) (hd : ds[j]? = some d) (hu : P.underlying t = some (.slice e)) (hb : P.bytesOf e = 16) (hd2 : d = .nil ∧ l = [] ∨ d = .slice (strs l) sr) :
  l.length * 16 ≤ 140737488351232 ∧ ∀ i, i < l.length → (l.getD i ByteArray.empty).size ≤ 140737488351232 := by
 rcases hd2 with ⟨_, rfl⟩ | rfl
 ·exact ⟨by simp, fun i hi => by simp at hi⟩
 ·have h1 := sized_slice h hj hd hu
  rw [hb] at h1
  refine ⟨?_, fun i hi => ?_⟩
  ·have : (strs l : List (DataW H)).length = l.length := by simp [strs]
   rw [this] at h1
   have h2 : l.length * 16 ≤ (l.length + sr.length) * 16 := Nat.mul_le_mul_right _ (Nat.le_add_right _ _)
   exact Nat.le_trans h2 h1
  ·have hmem : ∀ (m : List ByteArray) (x : ByteArray), x ∈ m → x.size ∈ DataW.weightsAll (H := H) P e (strs m) := by
    intro m x hx
    induction m with
    | nil => simp at hx
    | cons a r ih =>
     have e0 : (strs (a :: r) : List (DataW H)) = .lit (.string a.data.toList) :: strs r := rfl
     rw [e0, DataW.weightsAll, List.mem_append]
     rcases List.mem_cons.1 hx with rfl | hx
     ·left; simp [DataW.weights]
     ·right; exact ih hx
   have hx : (l.getD i ByteArray.empty) ∈ l := by
    rw [List.getD_eq_getElem?_getD, List.getElem?_eq_getElem hi]; exact List.getElem_mem hi
   have := List.all_eq_true.1 h _ (DataW.weights_mem_each hj hd _ (by
    simp only [DataW.weights, hu, List.mem_cons, List.mem_append]; exact Or.inr (Or.inl (hmem l _ hx))))
   simpa [reachBytes] using this
end Go.Proofs.YtggdkfijioeijaaGreatDoor
namespace Go.Proofs.YtggdkfijioeijaaGreatDoor
open Go Go.ChangeShapes Go.WideShapes Go.ChangeAt Go.RowKit
theorem facts {W : World} (h : W.ShapedOpen Tryz.prog) : MX W :=
 cell_of_shapedOpen_int (g := 0) (t := 3) (zero := #[.int .i64 0]) h (by decide +kernel) (by kernel_rfl) rfl (by kernel_rfl) (by kernel_rfl) Tryz.underlying3
theorem cellsStr : Tryz.prog.cellsOf 9 = 1 := by kernel_rfl
theorem bytesStr : Tryz.prog.bytesOf 9 = 16 := by kernel_rfl
def layCells (cs : Array Value) : Obj → Obj
 | .cells _ t frozen => .cells cs t frozen
 | o => o
noncomputable def laidWorld (os : Os) : World :=
 { World.holding Tryz.prog os ⟨#[], #[], []⟩ with heap := ((World.holding Tryz.prog os ⟨#[], #[], []⟩).heap.modify 1 (layCells (Go.Pinned.utf8FirstZ.map fun z => Value.int .u8 (z : Nat)).toArray)).modify 2 (layCells #[.int .u8 128, .int .u8 191, .int .u8 160, .int .u8 191, .int .u8 128, .int .u8 159, .int .u8 144, .int .u8 191, .int .u8 128, .int .u8 143, .int .u8 0, .int .u8 0, .int .u8 0, .int .u8 0, .int .u8 0, .int .u8 0, .int .u8 0, .int .u8 0, .int .u8 0, .int .u8 0, .int .u8 0, .int .u8 0, .int .u8 0, .int .u8 0, .int .u8 0, .int .u8 0, .int .u8 0, .int .u8 0, .int .u8 0, .int .u8 0, .int .u8 0, .int .u8 0]) }
end Go.Proofs.YtggdkfijioeijaaGreatDoor
namespace Go.Proofs.YtggdkfijioeijaaGreatDoor
open Go Go.RowKit
structure ButS (S : Nat → Prop) (w w' : World) : Prop where
 os : w'.os = w.os
 tape : w'.tape = w.tape
 output : w'.output = w.output
 size : w.heap.size ≤ w'.heap.size
 block : ∀ k, k < w.heap.size → ¬ S k → w'.heap[k]? = w.heap[k]?
theorem ButS.refl {S : Nat → Prop} (w : World) : ButS S w w := ⟨rfl, rfl, rfl, Nat.le_refl _, fun _ _ _ => rfl⟩
theorem ButS.of {S : Nat → Prop} {w w' : World} (h : Below w.heap.size w w') : ButS S w w' := ⟨h.os, h.tape, h.output, h.size, fun k hk _ => h.block k hk⟩
theorem ButS.trans {S : Nat → Prop} {a b c : World} (h : ButS S a b) (k : ButS S b c) : ButS S a c :=
 ⟨k.os.trans h.os, k.tape.trans h.tape, k.output.trans h.output, Nat.le_trans h.size k.size, fun i hi hS => (k.block i (Nat.lt_of_lt_of_le hi h.size) hS).trans (h.block i hi hS)⟩
theorem ButS.mono {S S' : Nat → Prop} {w w' : World} (h : ButS S w w') (hS : ∀ k, S k → S' k) : ButS S' w w' := ⟨h.os, h.tape, h.output, h.size, fun k hk hn => h.block k hk (fun hs => hn (hS k hs))⟩
theorem ButS.grown {S : Nat → Prop} {w w' : World} {b : Nat} (h : w.grownBy w' (some b)) (hS : S b) : ButS S w w' :=
 ⟨h.os, h.tape, h.output, h.size, fun k hk hn => h.block k hk (fun e => hn (by cases e; exact hS))⟩
theorem ButS.set {S : Nat → Prop} (w : World) {p : Addr} (hS : S p.block) (u : Value) : ButS S w (w.setCell p u) := by
 have h := (Below.refl 0 w).setCell (p := p) (Nat.zero_le _) u
 exact ⟨h.os, h.tape, h.output, h.size, fun k hk hn => Below.heap_setCell w p u k (fun e => hn (e ▸ hS))⟩
theorem ButS.below {S : Nat → Prop} {B : Nat} {w w' : World} (h : ButS S w w') (hS : ∀ k, S k → B ≤ k) (hB : B ≤ w.heap.size) : Below B w w' :=
 ⟨h.os, h.tape, h.output, h.size, fun k hk => h.block k (by omega) (fun hs => by have := hS k hs; omega)⟩
theorem ButS.cell {S : Nat → Prop} {w w' : World} (h : ButS S w w') {p : Addr} (hp : p.block < w.heap.size) (hn : ¬ S p.block) : w'.cell? p = w.cell? p := World.cell?_of_block (w := w) (h.block p.block hp hn)
theorem ButS.frozen {S : Nat → Prop} {w w' : World} (h : ButS S w w') {p : Addr} (hp : p.block < w.heap.size) (hn : ¬ S p.block) : w'.frozen? p = w.frozen? p := World.frozen?_of_block (w := w) (h.block p.block hp hn)
theorem ButS.drewN {S : Nat → Prop} {a b : World} (h : ButS S a b) (n : Nat) : ButS S a (b.drewN n) := ⟨h.os, h.tape, h.output, h.size, h.block⟩
structure One (n : Nat) (C : Array Value) (W : World) : Prop where
 lt : n < W.heap.size
 c : ∀ j, W.cell? ⟨n, j, none⟩ = C[j]?
 f : ∀ j, W.frozen? ⟨n, j, none⟩ = false
theorem One.step {n : Nat} {C : Array Value} {W W' : World} (h : One n C W) (hb : Below W.heap.size W W') : One n C W' :=
 ⟨by have := hb.size; have := h.lt; omega, fun j => (hb.cell h.lt).trans (h.c j), fun j => (hb.frozen h.lt).trans (h.f j)⟩
theorem One.but {S : Nat → Prop} {n : Nat} {C : Array Value} {W W' : World} (h : One n C W) (hb : ButS S W W') (hn : ¬ S n) : One n C W' :=
 ⟨by have := hb.size; have := h.lt; omega, fun j => (hb.cell h.lt hn).trans (h.c j), fun j => (hb.frozen h.lt hn).trans (h.f j)⟩
theorem One.drewN {n : Nat} {C : Array Value} {W : World} (h : One n C W) (k : Nat) : One n C (W.drewN k) := ⟨h.lt, h.c, h.f⟩
theorem One.of (w : World) (C : Array Value) (t : TypeId) : One w.heap.size C (w.alloc (.cells C t)) := by
 have hh := (MapKept.heap_alloc w (.cells C t)).1
 refine ⟨by simp, fun j => ?_, fun j => ?_⟩
 ·unfold World.cell?; rw [hh]; rfl
 ·unfold World.frozen?; rw [hh]; simp
theorem One.far {n : Nat} {C : Array Value} {W : World} (h : One n C W) {p : Addr} (hp : p.block ≠ n) (u : Value) : One n C (W.setCell p u) := by
 refine ⟨by simpa using h.lt, fun j => ?_, fun j => ?_⟩
 ·rw [World.cell?_setCell_far _ _ _ _ hp]; exact h.c j
 ·rw [World.frozen?_setCell]; exact h.f j
theorem One.set {n : Nat} {C : Array Value} {W : World} (h : One n C W) {i : Nat} (hi : i < C.size) (u : Value) : One n (C.set i u hi) (W.setCell ⟨n, i, none⟩ u) := by
 refine ⟨by simpa using h.lt, fun j => ?_, fun j => ?_⟩
 ·by_cases e : i = j
  ·subst e
   rw [World.cell?_setCell_same' _ _ _ (by rw [h.c i]; simp [hi])]; simp
  ·rw [World.cell?_setCell_other _ _ _ _ (by intro x; injection x with _ x; exact e x), h.c j]
   simp [e]
 ·rw [World.frozen?_setCell]; exact h.f j
theorem One.grown {n : Nat} {C : Array Value} {W W' : World} {b : Nat} (h : One n C W) (hg : W.grownBy W' (some b)) (hb : n ≠ b) : One n C W' :=
 ⟨by have := hg.size; have := h.lt; omega, fun j => (hg.cell_far ⟨n, j, none⟩ h.lt (by simpa using hb)).trans (h.c j), fun j => (hg.frozen_far ⟨n, j, none⟩ h.lt (by simpa using hb)).trans (h.f j)⟩
theorem wp_abs {P : Program} {c : Code} {Q : Exit → Act → World → Prop} {a : Act} {W : World} {F : World → Prop} (h : F W) (k : ∀ W', F W' → c.wp P Q a W') : c.wp P Q a W := k W h
theorem quiet_plain {P : Program} {ops : Array Oper} {C : World → Prop} {Q : Act → Prop} {a : Act} {o : Oper} {rest : List Oper} (hw : Region.wanted o (yielded ops a.tmps) = true) (v : Value)
  (h : ∀ w, C w → (execOp a.eval o).run P w = .ok (.value v) w) (k : wpQuiet P ops C Q rest (a.put o.dst v)) : wpQuiet P ops C Q (o :: rest) a := by
 refine wpQuiet_step (fun K hK => ?_)
 rw [if_pos hw]
 refine ⟨v, fun w hw => ?_, hK _ k⟩
 unfold Oper.quietAt
 rw [h w hw]
 exact ⟨rfl, rfl⟩
theorem quiet_call {P : Program} {ops : Array Oper} {C : World → Prop} {Q : Act → Prop} {a : Act} {o : Oper} {rest : List Oper} (hw : Region.wanted o (yielded ops a.tmps) = true) (v : Value) (f : FuncId) (args : Array Value)
  (h : ∀ w, C w → (execOp a.eval o).run P w = .ok (.enter f args) w ∧ Calls P f args w (fun e w'' => e = .returned v ∧ C w'')) (k : wpQuiet P ops C Q rest (a.put o.dst v)) : wpQuiet P ops C Q (o :: rest) a := by
 refine wpQuiet_step (fun K hK => ?_)
 rw [if_pos hw]
 refine ⟨v, fun w hw => ?_, hK _ k⟩
 unfold Oper.quietAt
 rw [(h w hw).1]
 exact ⟨rfl, (h w hw).2⟩
structure SR (K : IntKind) (S : Nat → Prop) (w0 : World) (blk off : Nat) (d : Array Int) (w : World) : Prop where
 holds : Sort.Holds (Value.int K) w blk off d
 but : ButS S w0 w
theorem SR.drewN {K : IntKind} {S : Nat → Prop} {w0 w : World} {blk off : Nat} {d : Array Int} (h : SR K S w0 blk off d w) (n : Nat) : SR K S w0 blk off d (w.drewN n) := ⟨h.holds, h.but.drewN n⟩
theorem SR.drew {K : IntKind} {S : Nat → Prop} {w0 w : World} {blk off : Nat} {d : Array Int} (h : SR K S w0 blk off d w) : SR K S w0 blk off d w.drew := h.drewN 1
theorem SR.swap {K : IntKind} {S : Nat → Prop} {w0 w : World} {blk off : Nat} {d : Array Int} (h : SR K S w0 blk off d w) (hS : S blk) {G : Nat → Int} (hG : ∀ t, G t = d[t]!) {i j : Nat} (hi : i < d.size) (hj : j < d.size) :
  SR K S w0 blk off (Sort.swp d i j) ((w.setCell ⟨blk, off + i, none⟩ (.int K (G j))).setCell ⟨blk, off + j, none⟩ (.int K (G i))) := by
 refine ⟨?_, h.but.trans ((ButS.set w (p := ⟨blk, off + i, none⟩) hS _).trans (ButS.set _ (p := ⟨blk, off + j, none⟩) hS _))⟩
 have e := Sort.putRow_swp (Value.int K) w blk off d i j hi hj
 rw [Sort.putRow_self _ _ _ _ _ h.holds] at e
 rw [hG i, hG j, e]
 exact Sort.holds_putRow _ _ _ _ d _ h.holds (Sort.size_swp d i j)
theorem SR.start {K : IntKind} {S : Nat → Prop} {w : World} {blk off : Nat} {d : Array Int} (h : Sort.Holds (Value.int K) w blk off d) : SR K S w blk off d w := ⟨h, ButS.refl w⟩
theorem SR.step {K : IntKind} {S : Nat → Prop} {w0 w w' : World} {blk off : Nat} {d d' : Array Int} (h : SR K S w0 blk off d w) (h' : SR K S w blk off d' w') : SR K S w0 blk off d' w' := ⟨h'.holds, h.but.trans h'.but⟩
theorem SR.alloc {K : IntKind} {S : Nat → Prop} {w0 w : World} {blk off : Nat} {d : Array Int} (h : SR K S w0 blk off d w) (hb : blk < w.heap.size) (o : Obj) : SR K (fun k => S k ∨ k = w.heap.size) w0 blk off d (w.alloc o) := by
 have hbl : Below w.heap.size w (w.alloc o) := (Below.refl _ _).alloc (Nat.le_refl _) _
 refine ⟨fun j hj => ?_, (h.but.mono (fun k hk => Or.inl hk)).trans (ButS.of hbl)⟩
 rw [hbl.cell (p := ⟨blk, off + j, none⟩) hb, hbl.frozen (p := ⟨blk, off + j, none⟩) hb]
 exact h.holds j hj
theorem SR.drop {K : IntKind} {S : Nat → Prop} {w0 w : World} {blk off n : Nat} {d : Array Int} (h : SR K (fun k => S k ∨ k = n) w0 blk off d w) (hn : w0.heap.size ≤ n) : SR K S w0 blk off d w :=
 ⟨h.holds, h.but.os, h.but.tape, h.but.output, h.but.size, fun k hk hS => h.but.block k hk (fun h' => by rcases h' with h' | h'; (· exact hS h'); (· omega))⟩
theorem SR.set {K : IntKind} {S : Nat → Prop} {w0 w : World} {blk off : Nat} {d : Array Int} (h : SR K S w0 blk off d w) {p : Addr} (hS : S p.block) (hne : p.block ≠ blk) (u : Value) : SR K S w0 blk off d (w.setCell p u) := by
 refine ⟨fun j hj => ?_, h.but.trans (ButS.set w hS u)⟩
 rw [World.cell?_setCell_far _ _ _ _ hne, World.frozen?_setCell]
 exact h.holds j hj
theorem SR.cells {K : IntKind} {S : Nat → Prop} {w0 w : World} {blk off : Nat} {d : Array Int} (h : SR K S w0 blk off d w) : ∃ G : Nat → Int, (∀ t, G t = d[t]!) ∧ (∀ t, t < d.size → w.cell? ⟨blk, off + t, none⟩ = some (.int K (G t))) ∧ (∀ t, t < d.size → w.frozen? ⟨blk, off + t, none⟩ = false) :=
 ⟨fun t => d[t]!, fun _ => rfl, fun t ht => (h.holds t ht).1, fun t ht => (h.holds t ht).2⟩
end Go.Proofs.YtggdkfijioeijaaGreatDoor
namespace Go.Proofs.YtggdkfijioeijaaGreatDoor.Pth
open Go
def okc (c : UInt8) : Bool :=
 decide (97 ≤ c.toNat ∧ c.toNat ≤ 122) || decide (48 ≤ c.toNat ∧ c.toNat ≤ 57) || decide (c.toNat = 46) || decide (c.toNat = 95) || decide (c.toNat = 45)
def okPiece (l : List UInt8) : Bool := decide (1 ≤ l.length) && decide (l.length ≤ 32) && l.all okc
def glue (x : List UInt8) : List (List UInt8) → List (List UInt8)
 | [] => [x]
 | h :: t => (x ++ h) :: t
def splitL : List UInt8 → List (List UInt8)
 | [] => [[]]
 | c :: r => if c = 47 then [] :: splitL r else glue [c] (splitL r)
theorem glue_ne (x : List UInt8) (l : List (List UInt8)) : glue x l ≠ [] := by cases l <;> simp [glue]
theorem splitL_ne (s : List UInt8) : splitL s ≠ [] := by
 cases s with
 | nil => simp [splitL]
 | cons c r => unfold splitL; split <;> simp [glue_ne]
theorem glue_glue (x y : List UInt8) (l : List (List UInt8)) (h : l ≠ []) : glue x (glue y l) = glue (x ++ y) l := by
 cases l with
 | nil => exact absurd rfl h
 | cons a t => simp [glue]
theorem glue_nil (l : List (List UInt8)) (h : l ≠ []) : glue [] l = l := by
 cases l with
 | nil => exact absurd rfl h
 | cons a t => simp [glue]
theorem splitL_app (x r : List UInt8) (h : ∀ c ∈ x, c ≠ 47) : splitL (x ++ r) = glue x (splitL r) := by
 induction x with
 | nil => exact (glue_nil _ (splitL_ne r)).symm
 | cons c t ih =>
  have hc := h c (by simp)
  rw [List.cons_append, splitL, if_neg hc, ih (fun d hd => h d (by simp [hd])), glue_glue _ _ _ (splitL_ne r)]; rfl
theorem splitL_slash (r : List UInt8) : splitL (47 :: r) = [] :: splitL r := by simp [splitL]
theorem splitL_cut (x r : List UInt8) (h : ∀ c ∈ x, c ≠ 47) : splitL (x ++ 47 :: r) = x :: splitL r := by
 rw [splitL_app x _ h, splitL_slash]; simp [glue]
theorem splitL_whole (x : List UInt8) (h : ∀ c ∈ x, c ≠ 47) : splitL x = [x] := by
 have := splitL_app x [] h; rw [List.append_nil] at this; rw [this]; simp [splitL, glue]
theorem occ_iff (s : List UInt8) (i : Nat) : Lib.occAt s [47] i = true ↔ s[i]? = some 47 := by
 unfold Lib.occAt
 rcases h : s.drop i with _ | ⟨a, t⟩
 ·have : s[i]? = none := by rw [List.getElem?_eq_none_iff]; simpa using h
  simp [this]
 ·have e : s[i]? = some a := by
   have := congrArg List.head? h; simpa [List.head?_drop] using this
  simp only [e, List.isPrefixOf, Bool.and_true, beq_iff_eq, Option.some.injEq]; exact eq_comm
theorem index_none (s : List UInt8) (h : Lib.index s [47] = -1) : ∀ c ∈ s, c ≠ 47 := by
 rcases Lib.index_spec s [47] with ⟨_, h2⟩ | ⟨i, h1, _⟩
 ·intro c hc e; subst e
  obtain ⟨i, hi, he⟩ := List.mem_iff_getElem.1 hc
  have := h2 i (by omega)
  have h3 := (occ_iff s i).2 (by rw [List.getElem?_eq_getElem hi, he])
  rw [h3] at this; cases this
 ·omega
theorem index_some (s : List UInt8) (i : Nat) (h : Lib.index s [47] = i) : i < s.length ∧ s = s.take i ++ 47 :: s.drop (i + 1) ∧ ∀ c ∈ s.take i, c ≠ 47 := by
 rcases Lib.index_spec s [47] with ⟨h1, _⟩ | ⟨j, h1, h2, h3, h4⟩
 ·omega
 ·have hj : j = i := by omega
  subst hj
  have hs := (occ_iff s j).1 h3
  obtain ⟨hlt, he⟩ := List.getElem?_eq_some_iff.1 hs
  refine ⟨hlt, ?_, ?_⟩
  ·have := List.take_append_drop j s
   rw [List.drop_eq_getElem_cons hlt, he] at this
   exact this.symm
  ·intro c hc e; subst e
   obtain ⟨k, hk, hke⟩ := List.mem_iff_getElem.1 hc
   have hk2 : k < j := by simp at hk; omega
   have := h4 k hk2
   have h5 := (occ_iff s k).2 (by rw [List.getElem_take] at hke; rw [List.getElem?_eq_getElem (by omega), hke])
   rw [h5] at this; cases this
theorem splitK_eq : ∀ (fuel : Nat) (s : List UInt8), s.length < fuel → Lib.splitK [47] 0 (Lib.countFrom [47] fuel s) s = splitL s
 | 0, _, h => absurd h (Nat.not_lt_zero _)
 | fuel + 1, s, h => by
  unfold Lib.countFrom
  by_cases h1 : Lib.index s [47] = -1
  ·rw [if_pos (by simp [h1])]
   rw [Lib.splitK, splitL_whole s (index_none s h1)]
  ·have hge := Lib.index_ge s [47]
   obtain ⟨i, hi⟩ : ∃ i : Nat, Lib.index s [47] = i := ⟨(Lib.index s [47]).toNat, by omega⟩
   obtain ⟨hlt, he, hno⟩ := index_some s i hi
   have hm : ¬ (Lib.index s [47] == -1) = true := by simpa using h1
   rw [if_neg hm, Nat.add_comm, Lib.splitK, if_neg hm, hi]
   have e1 : ([47] : List UInt8).length = 1 := rfl
   rw [Int.toNat_natCast, Nat.add_zero, e1]
   rw [splitK_eq fuel _ (by rw [List.length_drop]; omega)]
   conv => rhs; rw [he]
   rw [splitL_cut _ _ hno]
theorem split_eq (s : List UInt8) : Lib.split s [47] = splitL s := splitK_eq _ s (Nat.lt_succ_self _)
def piecesL (s : List UInt8) : List (List UInt8) :=
 if 128 < s.length then [] else if 8 < (splitL s).length then [] else if (splitL s).all okPiece then splitL s else []
def mayL (s : List UInt8) : Bool := !(piecesL s).isEmpty
def prefL (s : List UInt8) : Bool := s.isEmpty || mayL s
theorem may_iff (s : List UInt8) : mayL s = true ↔ s.length ≤ 128 ∧ (splitL s).length ≤ 8 ∧ (splitL s).all okPiece = true := by
 unfold mayL piecesL
 have hne := splitL_ne s
 split
 ·simp; omega
 ·split
  ·simp; omega
  ·split
   ·rename_i h; simp [h, hne]; constructor <;> omega
   ·rename_i h; simp only [List.isEmpty_nil, Bool.not_true, Bool.false_eq_true, false_iff]; intro hh; exact h hh.2.2
end Go.Proofs.YtggdkfijioeijaaGreatDoor.Pth
namespace Go.Proofs
open Go.Shelf
def Tryz.lays125_ren : Go.Shelf.Ren := ⟨fun | 125 => 77 | 128 => 113 | 129 => 114 | n => n, fun | 46 => 157 | 3 => 3 | 51 => 28 | 53 => 25 | 4 => 4 | 5 => 5 | 9 => 9 | n => n, fun | n => n⟩
theorem Tryz.lays125 : Go.Proofs.Lays.n125 Tryz.prog Tryz.lays125_ren := {
 mixed := by kernel_rfl
 f125 := Tryz.func77.trans (congrArg some (by kernel_rfl))
 f128 := Tryz.func113.trans (congrArg some (by kernel_rfl))
 f129 := Tryz.func114.trans (congrArg some (by kernel_rfl))
 t3 := Tryz.underlying3
 a3 := Tryz.isAgg3
 z3 := Tryz.sizeOf3
 v3 := Tryz.zeroValue3
 t4 := Tryz.underlying4
 a4 := Tryz.isAgg4
 z4 := Tryz.sizeOf4
 v4 := Tryz.zeroValue4
 t5 := Tryz.underlying5
 a5 := Tryz.isAgg5
 z5 := Tryz.sizeOf5
 v5 := Tryz.zeroValue5
 t9 := Tryz.underlying9
 a9 := Tryz.isAgg9
 z9 := Tryz.sizeOf9
 v9 := Tryz.zeroValue9
 t46 := Tryz.underlying157
 a46 := Tryz.isAgg157
 z46 := Tryz.sizeOf157
 v46 := Tryz.zeroValue157
 t51 := Tryz.underlying28
 a51 := Tryz.isAgg28
 z51 := Tryz.sizeOf28
 v51 := Tryz.zeroValue28
 t53 := Tryz.underlying25
 a53 := Tryz.isAgg25
 z53 := Tryz.sizeOf25
 v53 := Tryz.zeroValue25 }
theorem Tryz.bits_Len (x : Int) (w : World) (h0 : 0 ≤ x) (h1 : x ≤ 18446744073709551615) :
  Calls Tryz.prog 77 #[.int .u64 x] w fun e w' => e = .returned (.int .i64 (Lib.bitLen x.toNat)) ∧ w' = w := Any.bits_Len Tryz.lays125 x w h0 h1
def Tryz.lays190_ren : Go.Shelf.Ren := ⟨fun | 190 => 79 | 125 => 77 | 258 => 116 | 128 => 113 | 129 => 114 | 302 => 135 | 303 => 136 | 304 => 137 | 305 => 138 | 306 => 139 | 307 => 140 | 308 => 141 | 309 => 142 | 310 => 143 | 333 => 166 | 329 => 130 | 330 => 131 | 334 => 167 | 335 => 168 | 336 => 169 | 344 => 182 | n => n, fun | 31 => 49 | 9 => 9 | 3 => 3 | 46 => 157 | 0 => 0 | 51 => 28 | 53 => 25 | 4 => 4 | 183 => 178 | 182 => 177 | 131 => 183 | 5 => 5 | 218 => 206 | 222 => 210 | 228 => 232 | 229 => 233 | n => n, fun | n => n⟩
theorem Tryz.lays190 : Go.Proofs.Lays.n190 Tryz.prog Tryz.lays190_ren := {
 mixed := by kernel_rfl
 f125 := Tryz.func77.trans (congrArg some (by kernel_rfl))
 f128 := Tryz.func113.trans (congrArg some (by kernel_rfl))
 f129 := Tryz.func114.trans (congrArg some (by kernel_rfl))
 f190 := Tryz.func79.trans (congrArg some (by kernel_rfl))
 f258 := Tryz.func116.trans (congrArg some (by kernel_rfl))
 f302 := Tryz.func135.trans (congrArg some (by kernel_rfl))
 f303 := Tryz.func136.trans (congrArg some (by kernel_rfl))
 f304 := Tryz.func137.trans (congrArg some (by kernel_rfl))
 f305 := Tryz.func138.trans (congrArg some (by kernel_rfl))
 f306 := Tryz.func139.trans (congrArg some (by kernel_rfl))
 f307 := Tryz.func140.trans (congrArg some (by kernel_rfl))
 f308 := Tryz.func141.trans (congrArg some (by kernel_rfl))
 f309 := Tryz.func142.trans (congrArg some (by kernel_rfl))
 f310 := Tryz.func143.trans (congrArg some (by kernel_rfl))
 f329 := Tryz.func130.trans (congrArg some (by kernel_rfl))
 f330 := Tryz.func131.trans (congrArg some (by kernel_rfl))
 f333 := Tryz.func166.trans (congrArg some (by kernel_rfl))
 f334 := Tryz.func167.trans (congrArg some (by kernel_rfl))
 f335 := Tryz.func168.trans (congrArg some (by kernel_rfl))
 f336 := Tryz.func169.trans (congrArg some (by kernel_rfl))
 f344 := Tryz.func182.trans (congrArg some (by kernel_rfl))
 t0 := Tryz.underlying0
 a0 := Tryz.isAgg0
 z0 := Tryz.sizeOf0
 v0 := Tryz.zeroValue0
 t3 := Tryz.underlying3
 a3 := Tryz.isAgg3
 z3 := Tryz.sizeOf3
 v3 := Tryz.zeroValue3
 t4 := Tryz.underlying4
 a4 := Tryz.isAgg4
 z4 := Tryz.sizeOf4
 v4 := Tryz.zeroValue4
 t5 := Tryz.underlying5
 a5 := Tryz.isAgg5
 z5 := Tryz.sizeOf5
 v5 := Tryz.zeroValue5
 t9 := Tryz.underlying9
 a9 := Tryz.isAgg9
 z9 := Tryz.sizeOf9
 v9 := Tryz.zeroValue9
 t31 := Tryz.underlying49
 a31 := Tryz.isAgg49
 z31 := Tryz.sizeOf49
 v31 := Tryz.zeroValue49
 t46 := Tryz.underlying157
 a46 := Tryz.isAgg157
 z46 := Tryz.sizeOf157
 v46 := Tryz.zeroValue157
 t51 := Tryz.underlying28
 a51 := Tryz.isAgg28
 z51 := Tryz.sizeOf28
 v51 := Tryz.zeroValue28
 t53 := Tryz.underlying25
 a53 := Tryz.isAgg25
 z53 := Tryz.sizeOf25
 v53 := Tryz.zeroValue25
 t131 := Tryz.underlying183
 a131 := Tryz.isAgg183
 z131 := Tryz.sizeOf183
 v131 := Tryz.zeroValue183
 t182 := Tryz.underlying177
 a182 := Tryz.isAgg177
 z182 := Tryz.sizeOf177
 v182 := Tryz.zeroValue177
 t183 := Tryz.underlying178
 a183 := Tryz.isAgg178
 z183 := Tryz.sizeOf178
 v183 := Tryz.zeroValue178
 t218 := Tryz.underlying206
 a218 := Tryz.isAgg206
 z218 := Tryz.sizeOf206
 v218 := Tryz.zeroValue206
 t222 := Tryz.underlying210
 a222 := Tryz.isAgg210
 z222 := Tryz.sizeOf210
 v222 := Tryz.zeroValue210
 t228 := Tryz.underlying232
 a228 := Tryz.isAgg232
 z228 := Tryz.sizeOf232
 v228 := Tryz.zeroValue232
 t229 := Tryz.underlying233
 a229 := Tryz.isAgg233
 z229 := Tryz.sizeOf233
 v229 := Tryz.zeroValue233 }
open Go.Sort Go.RowKit in
theorem Tryz.slices_Sort_string (blk off cap : Nat) (ss : List (List UInt8)) (w : World) (hH : Holds encStr w blk off ss.toArray) (hblk : blk < w.heap.size) (hsz : ss.length < 4611686018427387904) :
  Calls Tryz.prog 79 #[.slice (some ⟨blk, off, none⟩) ss.length cap] w fun e w' =>
   e = .returned (.tuple #[]) ∧ ∃ n os, w' = grow (putRow encStr (Sort.ahead w n) blk off (ss.mergeSort fun x y => decide (x ≤ y)).toArray) os := Any.slices_Sort_string Tryz.lays190 blk off cap ss w hH hblk hsz
def Tryz.laysGw17_ren : Go.Shelf.Ren := ⟨fun | 17 => 126 | 15 => 160 | 20 => 179 | n => n, fun | 9 => 9 | 23 => 198 | 4 => 4 | 3 => 3 | 0 => 0 | 21 => 21 | n => n, fun | n => n⟩
theorem Tryz.laysGw17 : Go.Proofs.LaysGw.n17 Tryz.prog Tryz.laysGw17_ren := {
 mixed := by kernel_rfl
 f15 := Tryz.func160.trans (congrArg some (by kernel_rfl))
 f17 := Tryz.func126.trans (congrArg some (by kernel_rfl))
 f20 := Tryz.func179.trans (congrArg some (by kernel_rfl))
 t0 := Tryz.underlying0
 a0 := Tryz.isAgg0
 z0 := Tryz.sizeOf0
 v0 := Tryz.zeroValue0
 i0 := by kernel_rfl
 t3 := Tryz.underlying3
 a3 := Tryz.isAgg3
 z3 := Tryz.sizeOf3
 v3 := Tryz.zeroValue3
 i3 := by kernel_rfl
 t4 := Tryz.underlying4
 a4 := Tryz.isAgg4
 z4 := Tryz.sizeOf4
 v4 := Tryz.zeroValue4
 i4 := by kernel_rfl
 t9 := Tryz.underlying9
 a9 := Tryz.isAgg9
 z9 := Tryz.sizeOf9
 v9 := Tryz.zeroValue9
 i9 := by kernel_rfl
 t21 := Tryz.underlying21
 a21 := Tryz.isAgg21
 z21 := Tryz.sizeOf21
 v21 := Tryz.zeroValue21
 i21 := by kernel_rfl
 t23 := Tryz.underlying198
 a23 := Tryz.isAgg198
 z23 := Tryz.sizeOf198
 v23 := Tryz.zeroValue198
 i23 := by kernel_rfl }
open Go.RowKit Go.Lib in
theorem Tryz.strings_ContainsFunc (g : Nat) (lb : Array Value) (eg : ∀ args w, (callFunc g args).run Tryz.prog w = .ok (.enter g args) w) (p : Nat → Bool) (s : ByteArray) (w : World) (hp : PredAt Tryz.prog g lb encR p w) :
  Calls Tryz.prog 126 #[.string s, .func (.func g) #[] lb] w fun e w' => e = .returned (.bool (decide (0 ≤ Lib.idxFunc p true s))) ∧ Below w.heap.size w w' := Any.strings_ContainsFunc Tryz.laysGw17 g lb eg p s w hp
def Tryz.lays146_ren : Go.Shelf.Ren := ⟨fun | 146 => 95 | 221 => 123 | 268 => 157 | 138 => 158 | 143 => 159 | 195 => 175 | 197 => 176 | 218 => 177 | 219 => 178 | 260 => 184 | 217 => 185 | 225 => 186 | 224 => 187 | 267 => 188 | 266 => 190 | 314 => 191 | n => n, fun | 9 => 9 | 31 => 49 | 3 => 3 | 4 => 4 | 0 => 0 | 105 => 241 | 21 => 21 | 5 => 5 | 46 => 157 | 119 => 251 | 139 => 254 | 138 => 253 | 146 => 255 | 51 => 28 | n => n, fun | 1 => 0 | 3 => 1 | 4 => 2 | n => n⟩
theorem Tryz.lays146 : Go.Proofs.Lays.n146 Tryz.prog Tryz.lays146_ren := {
 mixed := by kernel_rfl
 f138 := Tryz.func158.trans (congrArg some (by kernel_rfl))
 f143 := Tryz.func159.trans (congrArg some (by kernel_rfl))
 f146 := Tryz.func95.trans (congrArg some (by kernel_rfl))
 f195 := Tryz.func175.trans (congrArg some (by kernel_rfl))
 f197 := Tryz.func176.trans (congrArg some (by kernel_rfl))
 f217 := Tryz.func185.trans (congrArg some (by kernel_rfl))
 f218 := Tryz.func177.trans (congrArg some (by kernel_rfl))
 f219 := Tryz.func178.trans (congrArg some (by kernel_rfl))
 f221 := Tryz.func123.trans (congrArg some (by kernel_rfl))
 f224 := Tryz.func187.trans (congrArg some (by kernel_rfl))
 f225 := Tryz.func186.trans (congrArg some (by kernel_rfl))
 f260 := Tryz.func184.trans (congrArg some (by kernel_rfl))
 f266 := Tryz.func190.trans (congrArg some (by kernel_rfl))
 f267 := Tryz.func188.trans (congrArg some (by kernel_rfl))
 f268 := Tryz.func157.trans (congrArg some (by kernel_rfl))
 f314 := Tryz.func191.trans (congrArg some (by kernel_rfl))
 t0 := Tryz.underlying0
 a0 := Tryz.isAgg0
 z0 := Tryz.sizeOf0
 v0 := Tryz.zeroValue0
 t3 := Tryz.underlying3
 a3 := Tryz.isAgg3
 z3 := Tryz.sizeOf3
 v3 := Tryz.zeroValue3
 t4 := Tryz.underlying4
 a4 := Tryz.isAgg4
 z4 := Tryz.sizeOf4
 v4 := Tryz.zeroValue4
 t5 := Tryz.underlying5
 a5 := Tryz.isAgg5
 z5 := Tryz.sizeOf5
 v5 := Tryz.zeroValue5
 t9 := Tryz.underlying9
 a9 := Tryz.isAgg9
 z9 := Tryz.sizeOf9
 v9 := Tryz.zeroValue9
 t21 := Tryz.underlying21
 a21 := Tryz.isAgg21
 z21 := Tryz.sizeOf21
 v21 := Tryz.zeroValue21
 t31 := Tryz.underlying49
 a31 := Tryz.isAgg49
 z31 := Tryz.sizeOf49
 v31 := Tryz.zeroValue49
 t46 := Tryz.underlying157
 a46 := Tryz.isAgg157
 z46 := Tryz.sizeOf157
 v46 := Tryz.zeroValue157
 t51 := Tryz.underlying28
 a51 := Tryz.isAgg28
 z51 := Tryz.sizeOf28
 v51 := Tryz.zeroValue28
 t105 := Tryz.underlying241
 a105 := Tryz.isAgg241
 z105 := Tryz.sizeOf241
 v105 := Tryz.zeroValue241
 t119 := Tryz.underlying251
 a119 := Tryz.isAgg251
 z119 := Tryz.sizeOf251
 t138 := Tryz.underlying253
 a138 := Tryz.isAgg253
 z138 := Tryz.sizeOf253
 v138 := Tryz.zeroValue253
 t139 := Tryz.underlying254
 a139 := Tryz.isAgg254
 z139 := Tryz.sizeOf254
 v139 := Tryz.zeroValue254
 t146 := Tryz.underlying255
 a146 := Tryz.isAgg255
 z146 := Tryz.sizeOf255
 v146 := Tryz.zeroValue255
 g1 := by kernel_rfl
 g3 := by kernel_rfl
 g4 := by kernel_rfl }
open Go.RowKit Go.Lib in
theorem Tryz.strings_Split (s sep : ByteArray) (m : Int) (w : World) (hs : s.size < 4294967281) (hm : w.cell? ⟨0, 0, none⟩ = some (.int .i64 m)) (h1 : 1 ≤ sep.size) :
  Calls Tryz.prog 95 #[.string s, .string sep] w fun e w' =>
   e = .returned (.slice (some ⟨w.heap.size, 0, none⟩) (Lib.countB s sep + 1) (Lib.countB s sep + 1)) ∧ w' = w.alloc (.cells ((Lib.splitB sep 0 (Lib.countB s sep) s).map Value.string).toArray 9) := Any.strings_Split Tryz.lays146 (by kernel_rfl) s sep m w hs hm h1
open Go.RowKit Go.Sort in
theorem Tryz.slices_Sort_string_none (p : Option Addr) (cap : Nat) (w : World) :
  Calls Tryz.prog 79 #[.slice p 0 cap] w fun e w' => e = .returned (.tuple #[]) ∧ w' = w := Any.slices_Sort_string_none Tryz.lays190 p cap w
def Tryz.laysSlE43_f45_ren : Go.Shelf.Ren := ⟨fun | 43 => 45 | n => n, fun | 22 => 64 | 23 => 28 | 3 => 3 | 4 => 4 | 0 => 0 | n => n, fun | n => n⟩
theorem Tryz.laysSlE43_f45 : Go.Proofs.SlLaysE.n43 Tryz.prog Tryz.laysSlE43_f45_ren := {
 mixed := by kernel_rfl
 f43 := ⟨Tryz.f45.name, by decide, Tryz.func45.trans (congrArg some (by kernel_rfl))⟩
 t0 := Tryz.underlying0
 a0 := Tryz.isAgg0
 z0 := Tryz.sizeOf0
 v0 := Tryz.zeroValue0
 t3 := Tryz.underlying3
 a3 := Tryz.isAgg3
 z3 := Tryz.sizeOf3
 v3 := Tryz.zeroValue3
 t4 := Tryz.underlying4
 a4 := Tryz.isAgg4
 z4 := Tryz.sizeOf4
 v4 := Tryz.zeroValue4
 t22 := Tryz.underlying64
 a22 := Tryz.isAgg64
 z22 := Tryz.sizeOf64
 v22 := Tryz.zeroValue64
 a23 := Tryz.isAgg28
 z23 := Tryz.sizeOf28 }
open Go.RowKit Go.Lib Go.Sort in
theorem Tryz.slices_Compact {α : Type} [Inhabited α] [DecidableEq α] (enc : α → Value) (hO : OneCell enc) (heq : EqlAt Tryz.prog 28 enc (fun x y => decide (x = y))) (hne : NeqAt Tryz.prog 28 enc (fun x y => decide (x = y))) (zr : α) (v23 : ∀ w, (zeroValue 28).run Tryz.prog w = .ok (enc zr) w) (blk off cap : Nat) (d : Array α) (w : World) (hH : Holds enc w blk off d) (hsz : d.size ≤ 9223372036854775807) (hcap : d.size ≤ cap) :
  Calls Tryz.prog 45 #[.slice (some ⟨blk, off, none⟩) d.size cap] w fun e w' => e = .returned (.slice (some ⟨blk, off, none⟩) (compactUpTo d d.size).length cap) ∧ ∃ q, w' = putRow enc (Sort.ahead w q) blk off (compactUpTo d d.size ++ List.replicate (d.size - (compactUpTo d d.size).length) zr).toArray := AnyE.slices_Compact Tryz.laysSlE43_f45 enc hO heq hne zr v23 blk off cap d w hH hsz hcap
def Tryz.keys48_ren : Go.Shelf.Ren := ⟨fun | 7 => 48 | 10 => 80 | n => n, fun | 23 => 115 | 26 => 9 | 3 => 3 | 28 => 119 | 0 => 0 | 27 => 118 | 33 => 101 | 4 => 4 | n => n, fun | n => n⟩
theorem Tryz.keys48 : Go.Proofs.SlLaysZ.n7 Tryz.prog Tryz.keys48_ren := {
 mixed := by kernel_rfl
 f7 := ⟨Tryz.f48.name, by decide, Tryz.func48.trans (congrArg some (by kernel_rfl))⟩
 f10 := ⟨Tryz.f80.name, by decide, Tryz.func80.trans (congrArg some (by kernel_rfl))⟩
 t0 := Tryz.underlying0
 a0 := Tryz.isAgg0
 z0 := Tryz.sizeOf0
 v0 := Tryz.zeroValue0
 t4 := Tryz.underlying4
 a4 := Tryz.isAgg4
 z4 := Tryz.sizeOf4
 v4 := Tryz.zeroValue4
 t23 := Tryz.underlying115
 a23 := Tryz.isAgg115
 z23 := Tryz.sizeOf115
 v23 := Tryz.zeroValue115
 t26 := Tryz.underlying9
 a26 := Tryz.isAgg9
 z26 := Tryz.sizeOf9
 v26 := Tryz.zeroValue9
 t27 := Tryz.underlying118
 a27 := Tryz.isAgg118
 z27 := Tryz.sizeOf118
 v27 := Tryz.zeroValue118
 t28 := Tryz.underlying119
 a28 := Tryz.isAgg119
 z28 := Tryz.sizeOf119
 v28 := Tryz.zeroValue119
 t33 := Tryz.underlying101
 a33 := Tryz.isAgg101
 z33 := Tryz.sizeOf101
 v33 := Tryz.zeroValue101 }
def Tryz.sorted47_ren : Go.Shelf.Ren := ⟨fun | 6 => 47 | 8 => 78 | 9 => 79 | 11 => 115 | 13 => 77 | 12 => 116 | 23 => 113 | 24 => 114 | 14 => 135 | 15 => 136 | 16 => 137 | 17 => 138 | 18 => 139 | 19 => 140 | 20 => 141 | 21 => 142 | 22 => 143 | 25 => 166 | 26 => 130 | 27 => 131 | 28 => 167 | 29 => 168 | 30 => 169 | 31 => 182 | n => n, fun | 26 => 9 | 28 => 119 | 24 => 49 | 0 => 0 | 3 => 3 | 37 => 157 | 48 => 28 | 50 => 25 | 4 => 4 | 40 => 178 | 39 => 177 | 45 => 183 | 5 => 5 | 9 => 9 | 51 => 206 | 55 => 210 | 57 => 232 | 58 => 233 | 33 => 101 | n => n, fun | n => n⟩
theorem Tryz.sorted47 : Go.Proofs.SlLaysZ.n6 Tryz.prog Tryz.sorted47_ren := {
 mixed := by kernel_rfl
 f6 := ⟨Tryz.f47.name, by decide, Tryz.func47.trans (congrArg some (by kernel_rfl))⟩
 f8 := ⟨Tryz.f78.name, by decide, Tryz.func78.trans (congrArg some (by kernel_rfl))⟩
 f11 := ⟨Tryz.f115.name, by decide, Tryz.func115.trans (congrArg some (by kernel_rfl))⟩
 t0 := Tryz.underlying0
 a0 := Tryz.isAgg0
 z0 := Tryz.sizeOf0
 v0 := Tryz.zeroValue0
 t24 := Tryz.underlying49
 a24 := Tryz.isAgg49
 z24 := Tryz.sizeOf49
 v24 := Tryz.zeroValue49
 t26 := Tryz.underlying9
 a26 := Tryz.isAgg9
 z26 := Tryz.sizeOf9
 v26 := Tryz.zeroValue9
 t28 := Tryz.underlying119
 a28 := Tryz.isAgg119
 z28 := Tryz.sizeOf119
 v28 := Tryz.zeroValue119
 i26 := by kernel_rfl }
def Tryz.sort79_ren : Go.Shelf.Ren := ⟨fun | 6 => 79 | 8 => 77 | 9 => 116 | 19 => 113 | 20 => 114 | 21 => 135 | 22 => 136 | 23 => 137 | 24 => 138 | 25 => 139 | 26 => 140 | 27 => 141 | 28 => 142 | 29 => 143 | 36 => 166 | 31 => 130 | 32 => 131 | 37 => 167 | 38 => 168 | 39 => 169 | 41 => 182 | n => n, fun | 27 => 49 | 29 => 9 | 3 => 3 | 32 => 157 | 26 => 49 | 0 => 0 | 44 => 28 | 46 => 25 | 4 => 4 | 36 => 178 | 35 => 177 | 41 => 183 | 5 => 5 | 9 => 9 | 53 => 206 | 57 => 210 | 63 => 232 | 64 => 233 | n => n, fun | n => n⟩
theorem Tryz.sort79 : Go.Proofs.SlLaysM.n6 Tryz.prog Tryz.sort79_ren := {
 mixed := by kernel_rfl
 f6 := ⟨Tryz.f79.name, by decide, Tryz.func79.trans (congrArg some (by kernel_rfl))⟩
 f8 := Tryz.func77.trans (congrArg some (by kernel_rfl))
 f9 := ⟨Tryz.f116.name, by decide, Tryz.func116.trans (congrArg some (by kernel_rfl))⟩
 f19 := Tryz.func113.trans (congrArg some (by kernel_rfl))
 f20 := Tryz.func114.trans (congrArg some (by kernel_rfl))
 f21 := ⟨Tryz.f135.name, by decide, Tryz.func135.trans (congrArg some (by kernel_rfl))⟩
 f22 := ⟨Tryz.f136.name, by decide, Tryz.func136.trans (congrArg some (by kernel_rfl))⟩
 f23 := ⟨Tryz.f137.name, by decide, Tryz.func137.trans (congrArg some (by kernel_rfl))⟩
 f24 := ⟨Tryz.f138.name, by decide, Tryz.func138.trans (congrArg some (by kernel_rfl))⟩
 f25 := ⟨Tryz.f139.name, by decide, Tryz.func139.trans (congrArg some (by kernel_rfl))⟩
 f26 := ⟨Tryz.f140.name, by decide, Tryz.func140.trans (congrArg some (by kernel_rfl))⟩
 f27 := ⟨Tryz.f141.name, by decide, Tryz.func141.trans (congrArg some (by kernel_rfl))⟩
 f28 := ⟨Tryz.f142.name, by decide, Tryz.func142.trans (congrArg some (by kernel_rfl))⟩
 f29 := ⟨Tryz.f143.name, by decide, Tryz.func143.trans (congrArg some (by kernel_rfl))⟩
 f31 := Tryz.func130.trans (congrArg some (by kernel_rfl))
 f32 := Tryz.func131.trans (congrArg some (by kernel_rfl))
 f36 := ⟨Tryz.f166.name, by decide, Tryz.func166.trans (congrArg some (by kernel_rfl))⟩
 f37 := ⟨Tryz.f167.name, by decide, Tryz.func167.trans (congrArg some (by kernel_rfl))⟩
 f38 := ⟨Tryz.f168.name, by decide, Tryz.func168.trans (congrArg some (by kernel_rfl))⟩
 f39 := ⟨Tryz.f169.name, by decide, Tryz.func169.trans (congrArg some (by kernel_rfl))⟩
 f41 := ⟨Tryz.f182.name, by decide, Tryz.func182.trans (congrArg some (by kernel_rfl))⟩
 t0 := Tryz.underlying0
 a0 := Tryz.isAgg0
 z0 := Tryz.sizeOf0
 v0 := Tryz.zeroValue0
 t3 := Tryz.underlying3
 a3 := Tryz.isAgg3
 z3 := Tryz.sizeOf3
 v3 := Tryz.zeroValue3
 t4 := Tryz.underlying4
 a4 := Tryz.isAgg4
 z4 := Tryz.sizeOf4
 v4 := Tryz.zeroValue4
 t5 := Tryz.underlying5
 a5 := Tryz.isAgg5
 z5 := Tryz.sizeOf5
 v5 := Tryz.zeroValue5
 t9 := Tryz.underlying9
 a9 := Tryz.isAgg9
 z9 := Tryz.sizeOf9
 v9 := Tryz.zeroValue9
 t26 := Tryz.underlying49
 a26 := Tryz.isAgg49
 z26 := Tryz.sizeOf49
 v26 := Tryz.zeroValue49
 t27 := Tryz.underlying49
 a27 := Tryz.isAgg49
 z27 := Tryz.sizeOf49
 v27 := Tryz.zeroValue49
 t29 := Tryz.underlying9
 a29 := Tryz.isAgg9
 z29 := Tryz.sizeOf9
 v29 := Tryz.zeroValue9
 t32 := Tryz.underlying157
 a32 := Tryz.isAgg157
 z32 := Tryz.sizeOf157
 v32 := Tryz.zeroValue157
 t35 := Tryz.underlying177
 a35 := Tryz.isAgg177
 z35 := Tryz.sizeOf177
 v35 := Tryz.zeroValue177
 t36 := Tryz.underlying178
 a36 := Tryz.isAgg178
 z36 := Tryz.sizeOf178
 v36 := Tryz.zeroValue178
 t41 := Tryz.underlying183
 a41 := Tryz.isAgg183
 z41 := Tryz.sizeOf183
 v41 := Tryz.zeroValue183
 t44 := Tryz.underlying28
 a44 := Tryz.isAgg28
 z44 := Tryz.sizeOf28
 v44 := Tryz.zeroValue28
 t46 := Tryz.underlying25
 a46 := Tryz.isAgg25
 z46 := Tryz.sizeOf25
 v46 := Tryz.zeroValue25
 t53 := Tryz.underlying206
 a53 := Tryz.isAgg206
 z53 := Tryz.sizeOf206
 v53 := Tryz.zeroValue206
 t57 := Tryz.underlying210
 a57 := Tryz.isAgg210
 z57 := Tryz.sizeOf210
 v57 := Tryz.zeroValue210
 t63 := Tryz.underlying232
 a63 := Tryz.isAgg232
 z63 := Tryz.sizeOf232
 v63 := Tryz.zeroValue232
 t64 := Tryz.underlying233
 a64 := Tryz.isAgg233
 z64 := Tryz.sizeOf233
 v64 := Tryz.zeroValue233 }
end Go.Proofs
namespace Go.Proofs.YtggdkfijioeijaaGreatDoor
open Go Go.RowKit Pth
def oddN (r : Nat) : Bool := !(decide (97 ≤ r ∧ r ≤ 122) || decide (48 ≤ r ∧ r ≤ 57) || decide (r = 46) || decide (r = 95) || decide (r = 45))
theorem odd_okc (c : UInt8) : oddN c.toNat = !okc c := rfl
theorem odd_big (r : Nat) (h : 128 ≤ r) : oddN r = true := by
 simp only [oddN, Bool.not_eq_true', Bool.or_eq_false_iff, decide_eq_false_iff_not]; omega
theorem okc_small (c : UInt8) (h : okc c = true) : c.toNat < 128 := by
 simp only [okc, Bool.or_eq_true, decide_eq_true_eq] at h; omega
theorem decode_small (s : ByteArray) (i : Nat) (h : (s.get! i).toNat < 128) : Utf8.decode s i = ((s.get! i).toNat, 1) := by
 rw [Lib.decode_at]; unfold Lib.decodeN; rw [if_pos h]
theorem decode_big (s : ByteArray) (i : Nat) (h : ¬ (s.get! i).toNat < 128) : 128 ≤ (Utf8.decode s i).1 := by
 rw [Lib.decode_at]; unfold Lib.decodeN; rw [if_neg h]
 repeat' split
 all_goals (simp; try omega)
theorem get_at (s : ByteArray) (i : Nat) (h : i < s.size) : s.get! i = s.data.toList[i]'h := by
 show s.data[i]! = _
 rw [getElem!_pos s.data i h]; simp
theorem odd_from (s : ByteArray) : ∀ (f pos : Nat), s.size - pos ≤ f → decide (0 ≤ Lib.idxFuncFrom oddN true s f pos) = !((s.data.toList.drop pos).all okc)
 | 0, pos, h => by
  have : s.data.toList.drop pos = [] := List.drop_eq_nil_of_le (by show s.size ≤ pos; omega)
  rw [this]; rfl
 | f + 1, pos, h => by
  unfold Lib.idxFuncFrom
  by_cases hp : pos < s.size
  ·have hd : s.data.toList.drop pos = s.data.toList[pos]'hp :: s.data.toList.drop (pos + 1) := List.drop_eq_getElem_cons hp
   rw [if_pos hp, hd, List.all_cons, ← get_at s pos hp]
   cases ho : okc (s.get! pos) with
   | true =>
    have h1 := okc_small _ ho
    rw [decode_small s pos h1]
    have h2 : oddN (s.get! pos).toNat = false := by rw [odd_okc, ho]; rfl
    simp only [h2, Bool.false_eq_true, if_false, Bool.true_and]
    exact odd_from s f (pos + 1) (by omega)
   | false =>
    have : oddN (Utf8.decode s pos).1 = true := by
     by_cases h1 : (s.get! pos).toNat < 128
     ·rw [decode_small s pos h1]; simp [odd_okc, ho]
     ·exact odd_big _ (decode_big s pos h1)
    simp [this]
  ·have : s.data.toList.drop pos = [] := List.drop_eq_nil_of_le (by show s.size ≤ pos; omega)
   rw [this, if_neg hp]; rfl
theorem odd_all (s : ByteArray) : decide (0 ≤ Lib.idxFunc oddN true s) = !(s.data.toList.all okc) := odd_from s s.size 0 (by omega)
theorem odd_cases (r : Nat) : (oddN r = false ∧ (97 ≤ (r : Int) ∧ (r : Int) ≤ 122)) ∨ (oddN r = false ∧ (r : Int) < 97 ∧ 48 ≤ (r : Int) ∧ (r : Int) ≤ 57) ∨ (oddN r = false ∧ r = 46) ∨ (oddN r = false ∧ r = 95) ∨ (oddN r = false ∧ r = 45) ∨
  (oddN r = true ∧ (r : Int) < 45) ∨ (oddN r = true ∧ 46 < (r : Int) ∧ (r : Int) < 48) ∨ (oddN r = true ∧ 57 < (r : Int) ∧ (r : Int) < 95) ∨ (oddN r = true ∧ 95 < (r : Int) ∧ (r : Int) < 97) ∨ (oddN r = true ∧ 122 < (r : Int)) := by
 simp only [oddN, Bool.not_eq_true', Bool.not_eq_false', Bool.or_eq_true, decide_eq_true_eq, Bool.or_eq_false_iff, decide_eq_false_iff_not]
 omega
set_option maxHeartbeats 1000000 in
theorem path_odd (r : Nat) (w : World) :
  Calls Tryz.prog 125 #[.int .i32 r] w fun e w' => e = .returned (.bool (oddN r)) ∧ w = w' := by
 rcases odd_cases r with ⟨ho, hx⟩ | ⟨ho, hx⟩ | ⟨ho, hx⟩ | ⟨ho, hx⟩ | ⟨ho, hx⟩ | ⟨ho, hx⟩ | ⟨ho, hx⟩ | ⟨ho, hx⟩ | ⟨ho, hx⟩ | ⟨ho, hx⟩
 all_goals
  have Ho := Lib.hid ho
  clear ho
  try (subst hx)
  go_enter Tryz.func125, Tryz.ntmps125
  go_wp2
  all_goals first
   | (exfalso; omega)
   | (go_ret; refine ⟨ret_bool ?_, rfl⟩; rw [Ho.out] <;> first | rfl | (simp; done) | (simp; omega))
theorem enters34 : ∀ args w, (callFunc 125 args).run Tryz.prog w = .ok (.enter 125 args) w := enters_of Tryz.func125 (by kernel_rfl) rfl
theorem odd_pred (w : World) : PredAt Tryz.prog 125 #[] encR oddN w := fun W x _ => (path_odd x W).mono fun _ _ ⟨he, hw⟩ => ⟨he, 0, hw.symm⟩
set_option maxHeartbeats 1000000 in
theorem path_piece (s : ByteArray) (hs : s.size ≤ maxLen) (w : World) :
  Calls Tryz.prog 98 #[.string s] w fun e w' => e = .returned (.bool (okPiece s.data.toList)) ∧ Below w.heap.size w w' := by
 unfold maxLen at hs
 have e0 : s.data.toList.length = s.size := rfl
 rcases (show s.size < 1 ∨ (1 ≤ s.size ∧ 32 < s.size) ∨ (1 ≤ s.size ∧ s.size ≤ 32) by omega) with h1 | ⟨h1, h2⟩ | ⟨h1, h2⟩
 ·have H : Hid (okPiece s.data.toList = false) := by
   have : okPiece s.data.toList = false := by simp only [okPiece, e0, Bool.and_eq_false_iff]; left; left; rw [decide_eq_false_iff_not]; omega
   exact Lib.hid this
  clear e0
  go_enter Tryz.func98, Tryz.ntmps98
  go_wp2
  go_ret
  refine ⟨ret_bool ?_, Below.refl _ _⟩
  rw [H.out]
 ·have H : Hid (okPiece s.data.toList = false) := by
   have : okPiece s.data.toList = false := by simp only [okPiece, e0, Bool.and_eq_false_iff]; left; right; rw [decide_eq_false_iff_not]; omega
   exact Lib.hid this
  clear e0
  go_enter Tryz.func98, Tryz.ntmps98
  go_wp2
  go_ret
  refine ⟨ret_bool ?_, Below.refl _ _⟩
  rw [H.out]
 ·have H : Hid (okPiece s.data.toList = s.data.toList.all okc) := by
   have : okPiece s.data.toList = s.data.toList.all okc := by simp [okPiece, e0, h1, h2]
   exact Lib.hid this
  clear e0
  go_enter Tryz.func98, Tryz.ntmps98
  go_wp2_with (go_at_call 126; refine (Tryz.strings_ContainsFunc 125 #[] enters34 oddN s _ (odd_pred _)).mono ?_; rintro e w' ⟨rfl, hb⟩; have Hb := Lib.hid hb; clear hb)
  go_ret
  refine ⟨ret_bool ?_, Hb.out⟩
  rw [H.out, odd_all]
  simp
set_option maxHeartbeats 1000000 in
theorem path_notpiece (s : ByteArray) (hs : s.size ≤ maxLen) (w : World) :
  Calls Tryz.prog 97 #[.string s] w fun e w' => e = .returned (.bool (!okPiece s.data.toList)) ∧ Below w.heap.size w w' := by
 go_enter Tryz.func97, Tryz.ntmps97
 go_wp2_with (go_at_call 98; refine (path_piece s hs _).mono ?_; rintro e w' ⟨rfl, hb⟩; have Hb := Lib.hid hb; clear hb)
 go_ret
 exact ⟨rfl, Hb.out⟩
def FoundIn (l : List ByteArray) (w : World) (e : Ending) (w' : World) : Prop :=
 ∃ i : Int, e = .returned (.int .i64 i) ∧ decide (0 ≤ i) = l.any (fun s => !okPiece s.data.toList) ∧ Below w.heap.size w w'
theorem any_take {l : List ByteArray} {k : Nat} {p : ByteArray → Bool} (hk : k < l.length) (h0 : (l.take k).any p = false) (h1 : p (l.getD k ByteArray.empty) = false) : (l.take (k + 1)).any p = false := by
 rw [List.take_succ_eq_append_getElem hk, List.any_append, h0]
 rw [List.getD_eq_getElem?_getD, List.getElem?_eq_getElem hk] at h1
 simpa using h1
theorem any_hit {l : List ByteArray} {k : Nat} {p : ByteArray → Bool} (hk : k < l.length) (h1 : p (l.getD k ByteArray.empty) = true) : l.any p = true := by
 rw [List.getD_eq_getElem?_getD, List.getElem?_eq_getElem hk] at h1
 exact List.any_eq_true.2 ⟨l[k], List.getElem_mem hk, h1⟩
set_option maxHeartbeats 1000000 in
theorem path_indexFunc (l : List ByteArray) (b off cap : Nat) (w : World) (hl : l.length ≤ 8) (hls : ∀ i, i < l.length → (l.getD i ByteArray.empty).size ≤ maxLen) (hlt : b < w.heap.size)
  (hc : ∀ i, i < l.length → w.cell? ⟨b, off + i, none⟩ = some (.string (l.getD i ByteArray.empty))) :
  Calls Tryz.prog 124 #[.slice (some ⟨b, off, none⟩) l.length cap, .func (.func 97) #[] #[]] w (FoundIn l w) := by
 go_enter Tryz.func124, Tryz.ntmps124
 go_wp2
 go_loopw [8] (fun i wr => ∃ k : Nat, k ≤ l.length ∧ i = .int .i64 k ∧ Hid ((l.take k).any (fun s => !okPiece s.data.toList) = false) ∧ Below w.heap.size w wr) (fun i _ => l.length - (intOf i).toNat)
 case atStart => exact ⟨0, Nat.zero_le _, rfl, Lib.hid rfl, Below.refl _ _⟩
 case round =>
  obtain ⟨k, hk, rfl, hno, hbw⟩ := hrel
  by_cases hlt2 : k < l.length
  ·have hcell : wr.cell? ⟨b, off + k, none⟩ = some (.string (l.getD k ByteArray.empty)) := (hbw.cell (p := ⟨b, off + k, none⟩) hlt).trans (hc k hlt2)
   have hsz := hls k hlt2
   obtain ⟨s, hs⟩ : ∃ s, s = l.getD k ByteArray.empty := ⟨_, rfl⟩
   rw [← hs] at hcell hsz
   have Hs := Lib.hid hs; clear hs hls hc
   cases ho : okPiece s.data.toList with
   | true =>
    have Ho := Lib.hid ho; clear ho
    go_wp2_with (go_at_call 97; refine (path_notpiece s hsz _).mono ?_; rw [Ho.out]; rintro e w' ⟨rfl, hb⟩; have Hb := Lib.hid (hbw.trans (hb.mono hbw.size)); clear hb)
    go_roundw
    case rel => exact ⟨k + 1, by omega, by go_num, Lib.hid (any_take hlt2 hno.out (by rw [← Hs.out]; simp [Ho.out])), Hb.out⟩
    case measure => simp [intOf]; omega
   | false =>
    have Ho := Lib.hid ho; clear ho
    go_wp2_with (go_at_call 97; refine (path_notpiece s hsz _).mono ?_; rw [Ho.out]; rintro e w' ⟨rfl, hb⟩; have Hb := Lib.hid (hbw.trans (hb.mono hbw.size)); clear hb)
    go_ret
    exact ⟨k, rfl, by rw [any_hit hlt2 (by rw [← Hs.out]; simp [Ho.out])]; simp, Hb.out⟩
  ·clear hls hc
   go_wp2
   go_ret
   refine ⟨-1, rfl, ?_, hbw⟩
   have := hno.out
   rw [List.take_of_length_le (by omega)] at this
   rw [this]; rfl
set_option maxHeartbeats 1000000 in
theorem path_containsFunc (l : List ByteArray) (b off cap : Nat) (w : World) (hl : l.length ≤ 8) (hls : ∀ i, i < l.length → (l.getD i ByteArray.empty).size ≤ maxLen) (hlt : b < w.heap.size)
  (hc : ∀ i, i < l.length → w.cell? ⟨b, off + i, none⟩ = some (.string (l.getD i ByteArray.empty))) :
  Calls Tryz.prog 96 #[.slice (some ⟨b, off, none⟩) l.length cap, .func (.func 97) #[] #[]] w
   fun e w' => e = .returned (.bool (l.any (fun s => !okPiece s.data.toList))) ∧ Below w.heap.size w w' := by
 have c := path_indexFunc l b off cap w hl hls hlt hc
 have C := Lib.hid c; clear c hc hls
 go_enter Tryz.func96, Tryz.ntmps96
 go_wp2_with (go_at_call 124; refine (C.out).mono ?_; rintro e w' ⟨i, rfl, hi, hb⟩; have Hi := Lib.hid hi; clear hi; have Hb := Lib.hid hb; clear hb)
 go_ret
 refine ⟨ret_bool ?_, Hb.out⟩
 rw [← Hi.out]
end Go.Proofs.YtggdkfijioeijaaGreatDoor
namespace Go.Proofs.YtggdkfijioeijaaGreatDoor
open Go Go.RowKit Pth
theorem splitB_splitL (s : ByteArray) : (Lib.splitB ⟨#[47]⟩ 0 (Lib.countB s ⟨#[47]⟩) s).map (·.data.toList) = splitL s.data.toList := by
 rw [Lib.splitB_data]; exact split_eq s.data.toList
set_option maxHeartbeats 400000 in
theorem path_split (s : ByteArray) (hs : s.size < 4294967281) (w : World) (hm : MX w) :
  Calls Tryz.prog 95 #[.string s, .string ⟨#[47]⟩] w fun e w' => ∃ L : List ByteArray, e = .returned (.slice (some ⟨w.heap.size, 0, none⟩) L.length L.length) ∧ Hid (L.map (·.data.toList) = splitL s.data.toList) ∧ w' = w.alloc (.cells (L.map Value.string).toArray 9) := by
 obtain ⟨m, hm⟩ := hm
 refine (Tryz.strings_Split s ⟨#[47]⟩ m w hs hm (Nat.le_refl _)).mono ?_
 rintro e w' ⟨rfl, rfl⟩
 have h1 := Lib.splitB_all ⟨#[47]⟩ (Nat.le_refl _) 0 _ s rfl
 exact ⟨_, by rw [h1], Lib.hid (splitB_splitL s), rfl⟩
theorem map_all {l : List ByteArray} {m : List (List UInt8)} (h : l.map (·.data.toList) = m) : l.any (fun s => !okPiece s.data.toList) = !(m.all okPiece) := by
 subst h; induction l with
 | nil => rfl
 | cons a t ih => simp [ih]
theorem piece_small {s : List UInt8} {m : List (List UInt8)} (h : splitL s = m) : ∀ p ∈ m, p.length ≤ s.length := by
 subst h
 induction s with
 | nil => intro p hp; simp [splitL] at hp; subst hp; simp
 | cons c r ih =>
  intro p hp
  unfold splitL at hp
  split at hp
  ·rcases List.mem_cons.1 hp with rfl | h
   ·simp
   ·have := ih p h; simp; omega
  ·rcases hr : splitL r with _ | ⟨a, b⟩
   ·exact absurd hr (splitL_ne r)
   ·rw [hr] at hp ih
    simp [glue] at hp
    rcases hp with rfl | h
    ·have := ih a (by simp); simp; omega
    ·have := ih p (by simp [h]); simp; omega
theorem el_small {l : List ByteArray} {s : List UInt8} (h : l.map (·.data.toList) = splitL s) (i : Nat) (hi : i < l.length) : (l.getD i ByteArray.empty).size ≤ s.length := by
 have : (l.getD i ByteArray.empty).data.toList ∈ splitL s := by
  rw [← h, List.getD_eq_getElem?_getD, List.getElem?_eq_getElem hi]
  exact List.mem_map.2 ⟨l[i], List.getElem_mem hi, rfl⟩
 exact piece_small rfl _ this
set_option maxHeartbeats 1000000 in
theorem path_pieces_no (s : ByteArray) (hs : s.size ≤ 140737488351232) (w : World) (hm : MX w) (hno : mayL s.data.toList = false) :
    Calls Tryz.prog 70 #[.string s] w fun e w' => e = .returned (.slice none 0 0) ∧ Below w.heap.size w w' := by
  by_cases h1 : 128 < s.size
  · clear hm hno
    go_enter Tryz.func70, Tryz.ntmps70
    go_wp2
    go_ret
    exact ⟨rfl, Below.refl _ _⟩
  · have Hno := Lib.hid hno; clear hno
    have Hm := Lib.hid hm; clear hm
    go_enter Tryz.func70, Tryz.ntmps70
    go_wp2_with fail
    refine (path_split s (by omega) _ Hm.out).mono ?_
    rintro e w' ⟨L, rfl, HL, rfl⟩
    by_cases h2 : 8 < L.length
    · go_wp2
      go_ret
      exact ⟨rfl, (Below.refl _ _).alloc (Nat.le_refl _) _⟩
    · have h3 : Hid (L.any (fun s => !okPiece s.data.toList) = true) := by
        refine Lib.hid ?_
        rw [map_all HL.out]
        cases h : (splitL s.data.toList).all okPiece with
        | false => rfl
        | true =>
          have h4 := (may_iff s.data.toList).2 ⟨by show s.size ≤ 128; omega, by rw [← HL.out, List.length_map]; omega, h⟩
          rw [Hno.out] at h4; cases h4
      have hc := path_containsFunc L w.heap.size 0 L.length (w.alloc (.cells (L.map Value.string).toArray 9)) (by omega) (fun i hi => by have := el_small HL.out i hi; unfold maxLen; have e : s.data.toList.length = s.size := rfl; omega) (by simp)
        (fun i hi => by
          obtain ⟨a, cap, hv, h⟩ := IsStrs.new w L L.length 9 (0, 0)
          rcases h with h | ⟨b, off, ha, _, hcc⟩
          · subst h; simp at hi
          · simp only [Value.slice.injEq] at hv
            obtain ⟨rfl, _⟩ := hv
            simp only [Option.some.injEq, Addr.mk.injEq, and_true] at ha
            obtain ⟨rfl, rfl⟩ := ha
            exact hcc i hi)
      rw [h3.out] at hc
      have Hc := Lib.hid hc; clear hc
      go_wp2_with (go_at_call 96; refine (Hc.out).mono ?_; rintro e w' ⟨rfl, hb⟩; have Hb := Lib.hid hb; clear hb)
      go_ret
      exact ⟨rfl, ((Below.refl _ _).alloc (Nat.le_refl _) _).trans (Hb.out.mono (by simp))⟩
def PiecesYes (s : ByteArray) (w : World) (e : Ending) (w' : World) : Prop :=
 ∃ l : List ByteArray, e = .returned (.slice (some ⟨w.heap.size, 0, none⟩) l.length l.length) ∧ l.map (·.data.toList) = splitL s.data.toList ∧ IsStrs w' (.slice (some ⟨w.heap.size, 0, none⟩) l.length l.length) l ∧ Below w.heap.size w w'
set_option maxHeartbeats 1000000 in
theorem path_pieces_yes (s : ByteArray) (w : World) (hm : MX w) (hyes : mayL s.data.toList = true) :
    Calls Tryz.prog 70 #[.string s] w (PiecesYes s w) := by
  obtain ⟨g1, g2, g3⟩ := (may_iff s.data.toList).1 hyes
  have h1 : s.size ≤ 128 := g1
  clear g1 hyes
  have G2 := Lib.hid g2; have G3 := Lib.hid g3; clear g2 g3
  have Hm := Lib.hid hm; clear hm
  go_enter Tryz.func70, Tryz.ntmps70
  go_wp2_with fail
  refine (path_split s (by omega) _ Hm.out).mono ?_
  rintro e w' ⟨L, rfl, HL, rfl⟩
  have h2 : L.length ≤ 8 := by have := G2.out; rw [← HL.out, List.length_map] at this; exact this
  have hc := path_containsFunc L w.heap.size 0 L.length (w.alloc (.cells (L.map Value.string).toArray 9)) (by omega) (fun i hi => by have := el_small HL.out i hi; unfold maxLen; have e : s.data.toList.length = s.size := rfl; omega) (by simp)
    (fun i hi => by
      obtain ⟨a, cap, hv, h⟩ := IsStrs.new w L L.length 9 (0, 0)
      rcases h with h | ⟨b, off, ha, _, hcc⟩
      · subst h; simp at hi
      · simp only [Value.slice.injEq] at hv
        obtain ⟨rfl, _⟩ := hv
        simp only [Option.some.injEq, Addr.mk.injEq, and_true] at ha
        obtain ⟨rfl, rfl⟩ := ha
        exact hcc i hi)
  rw [map_all HL.out, G3.out] at hc
  have Hc := Lib.hid hc; clear hc
  go_wp2_with (go_at_call 96; refine (Hc.out).mono ?_; rintro e w' ⟨rfl, hb⟩; have Hb := Lib.hid hb; clear hb)
  go_ret
  exact ⟨L, rfl, HL.out, (IsStrs.new w L L.length 9 (0, 0)).below Hb.out (Nat.le_refl _), ((Below.refl _ _).alloc (Nat.le_refl _) _).trans (Hb.out.mono (by simp))⟩
set_option maxHeartbeats 1000000 in
theorem path_may (s : ByteArray) (hs : s.size ≤ 140737488351232) (w : World) (hm : MX w) :
  Calls Tryz.prog 34 #[.string s] w fun e w' => e = .returned (.bool (mayL s.data.toList)) ∧ Below w.heap.size w w' := by
 cases h : mayL s.data.toList with
 | false =>
  have c := path_pieces_no s hs w hm h
  have C := Lib.hid c; clear c h hm
  have hne := fun w => run_neq_slice_nil_any (P := Tryz.prog) w 49 9 none 0 0 0 0 Tryz.underlying49
  go_enter Tryz.func34, Tryz.ntmps34
  go_wp2_with (go_at_call 70; refine (C.out).mono ?_; rintro e w' ⟨rfl, hb⟩; have Hb := Lib.hid hb; clear hb)
  go_ret
  exact ⟨rfl, Hb.out⟩
 | true =>
  have c := path_pieces_yes s w hm h
  have C := Lib.hid c; clear c h hm
  have hne := fun w n => run_neq_slice_nil_any (P := Tryz.prog) w 49 9 (some ⟨w.heap.size, 0, none⟩) n n 0 0 Tryz.underlying49
  go_enter Tryz.func34, Tryz.ntmps34
  go_wp2_with (go_at_call 70; refine (C.out).mono ?_; rintro e w' ⟨L, rfl, _, _, hb⟩; have Hb := Lib.hid hb; clear hb)
  go_ret
  exact ⟨rfl, Hb.out⟩
theorem emptyT {s : ByteArray} (h : s.data.toList = []) : s.toList = [] := by rw [ByteArray.toList_eq]; exact h
theorem emptyF {s : ByteArray} (h : ¬ s.data.toList = []) : s.toList.isEmpty = false := by rw [ByteArray.toList_eq]; simpa using h
theorem emptyG {s : ByteArray} (h : ¬ s.data.toList = []) : ¬ s.toList = [] := by rw [ByteArray.toList_eq]; exact h
set_option maxHeartbeats 1000000 in
theorem path_prefix (s : ByteArray) (hs : s.size ≤ 140737488351232) (w : World) (hm : MX w) :
  Calls Tryz.prog 38 #[.string s] w fun e w' => e = .returned (.bool (prefL s.data.toList)) ∧ Below w.heap.size w w' := by
 by_cases h : s.data.toList = []
 ·have H := Lib.hid h; have h1 := emptyT h; clear h hm
  go_enter Tryz.func38, Tryz.ntmps38
  go_wp2_with fail
  go_ret
  exact ⟨ret_bool (by rw [H.out]; rfl), Below.refl _ _⟩
 ·have c := path_may s hs w hm
  have C := Lib.hid c; clear c hm
  have H := Lib.hid h; have h1 := emptyF h; have h2 := emptyG h; clear h
  go_enter Tryz.func38, Tryz.ntmps38
  go_wp2_with (go_at_call 34; refine (C.out).mono ?_; rintro e w' ⟨rfl, hb⟩; have Hb := Lib.hid hb; clear hb)
  go_ret
  refine ⟨ret_bool ?_, Hb.out⟩
  have h3 : s.data.toList.isEmpty = false := by simpa using H.out
  simp only [prefL, h3, Bool.false_or]
end Go.Proofs.YtggdkfijioeijaaGreatDoor
namespace Go.Proofs.YtggdkfijioeijaaGreatDoor
open Go Go.RowKit
def IsL {α : Type} (k : Nat) (C : α → List Value) (z : α) (w : World) (v : Value) (l : List α) : Prop :=
 ∃ a cp, v = .slice a l.length cp ∧ (l = [] ∨ ∃ b off, a = some ⟨b, off, none⟩ ∧ b < w.heap.size ∧ ∀ i, i < l.length → ∀ j u, (C (l.getD i z))[j]? = some u → w.cell? ⟨b, off + i * k + j, none⟩ = some u)
theorem IsL.below {α : Type} {k : Nat} {C : α → List Value} {z : α} {w w' : World} {v : Value} {l : List α} {B : Nat} (h : IsL k C z w v l) (hb : Below B w w') (hB : w.heap.size ≤ B) : IsL k C z w' v l := by
 obtain ⟨a, cp, rfl, h⟩ := h
 refine ⟨a, cp, rfl, ?_⟩
 rcases h with h | ⟨b, off, rfl, hlt, hc⟩
 ·exact Or.inl h
 ·exact Or.inr ⟨b, off, rfl, by have := hb.size; omega, fun i hi j u hu => (hb.cell (p := ⟨b, off + i * k + j, none⟩) (by dsimp only; omega)).trans (hc i hi j u hu)⟩
theorem IsL.nil {α : Type} (k : Nat) (C : α → List Value) (z : α) (w : World) : IsL k C z w (.slice none 0 0) [] := ⟨none, 0, rfl, Or.inl rfl⟩
theorem IsL.len {α : Type} {k : Nat} {C : α → List Value} {z : α} {w : World} {a : Option Addr} {n cp : Nat} {l : List α} (h : IsL k C z w (.slice a n cp) l) : n = l.length := by
 obtain ⟨a', cp', h1, _⟩ := h
 cases h1; rfl
theorem flat_at {α : Type} {k : Nat} {C : α → List Value} (hC : ∀ x, (C x).length = k) (z : α) : ∀ (l : List α) (i : Nat), i < l.length → ∀ j u, (C (l.getD i z))[j]? = some u → (l.flatMap C)[i * k + j]? = some u
 | [], i, h, _, _, _ => by simp at h
 | x :: l, 0, _, j, u, hu => by
  have hj : j < (C x).length := (List.getElem?_eq_some_iff.1 hu).1
  rw [List.flatMap_cons, Nat.zero_mul, Nat.zero_add, List.getElem?_append_left hj]
  exact hu
 | x :: l, i + 1, h, j, u, hu => by
  rw [List.flatMap_cons, List.getElem?_append_right (by rw [hC]; rw [Nat.add_mul]; omega), hC, show (i + 1) * k + j - k = i * k + j by rw [Nat.add_mul]; omega]
  exact flat_at hC z l i (by simpa using h) j u hu
theorem flat_length {α : Type} {k : Nat} {C : α → List Value} (hC : ∀ x, (C x).length = k) (l : List α) : (l.flatMap C).length = l.length * k := by
 induction l with
 | nil => simp
 | cons x l ih => rw [List.flatMap_cons, List.length_append, ih, hC, List.length_cons, Nat.add_mul]; omega
theorem flat_snoc {α : Type} (C : α → List Value) (l : List α) (x : α) : (l ++ [x]).flatMap C = l.flatMap C ++ C x := by simp
theorem IsL.own {α : Type} {k : Nat} {C : α → List Value} (hC : ∀ x, (C x).length = k) (_hk : 0 < k) (z : α) {w : World} {B e : Nat} {v : Value} {l : List α} (h : w.ownsRow B e k v l.length (l.flatMap C)) : IsL k C z w v l := by
 rcases h.2 with ⟨hv, hl⟩ | ⟨g, cap, cur, hv, hB, hg, hn, hcap, hsz, htake⟩
 ·have : l = [] := List.length_eq_zero_iff.1 hl
  subst this; exact ⟨none, 0, hv, Or.inl rfl⟩
 ·subst hv
  refine ⟨_, cap, rfl, Or.inr ⟨g, 0, rfl, (Array.getElem?_eq_some_iff.1 hg).1, fun i hi j u hu => ?_⟩⟩
  have hj : j < k := by have := (List.getElem?_eq_some_iff.1 hu).1; rw [hC] at this; exact this
  have hlt : i * k + j < l.length * k := by
   have : (i + 1) * k ≤ l.length * k := Nat.mul_le_mul_right k hi
   rw [Nat.add_mul] at this; omega
  have c1 := World.ownsRow.cellAt h (i * k + j) hlt
  rw [Nat.zero_add, c1]
  exact flat_at hC z l i hi j u hu
structure Rd where
 path : ByteArray
 n : Nat
def dRd : Rd := ⟨ByteArray.empty, 0⟩
def rdC (r : Rd) : List Value := [.string r.path, .int .u64 (r.n : Int)]
theorem rdC_len (r : Rd) : (rdC r).length = 2 := rfl
structure Ed where
 kind : Nat
 path : ByteArray
 any : Bool
 want : Nat
 n : Nat
 text : ByteArray
def dEd : Ed := ⟨0, ByteArray.empty, false, 0, 0, ByteArray.empty⟩
def edC (x : Ed) : List Value := [.int .u8 (x.kind : Int), .string x.path, .bool x.any, .int .u64 (x.want : Int), .int .u64 (x.n : Int), .string x.text]
theorem edC_len (x : Ed) : (edC x).length = 6 := rfl
def ixC (n : Nat) : List Value := [.int .i64 (n : Int)]
theorem ixC_len (n : Nat) : (ixC n).length = 1 := rfl
abbrev IsRds (w : World) (v : Value) (l : List Rd) : Prop := IsL 2 rdC dRd w v l
abbrev IsEds (w : World) (v : Value) (l : List Ed) : Prop := IsL 6 edC dEd w v l
abbrev IsIxs (w : World) (v : Value) (l : List Nat) : Prop := IsL 1 ixC 0 w v l
theorem rdC_ones (l : List Rd) : ∀ u ∈ l.flatMap rdC, u.oneCell' = true := by
 intro u hu
 obtain ⟨x, _, hx⟩ := List.mem_flatMap.1 hu
 simp only [rdC, List.mem_cons, List.mem_nil_iff, or_false] at hx
 rcases hx with rfl | rfl <;> rfl
theorem edC_ones (l : List Ed) : ∀ u ∈ l.flatMap edC, u.oneCell' = true := by
 intro u hu
 obtain ⟨x, _, hx⟩ := List.mem_flatMap.1 hu
 simp only [edC, List.mem_cons, List.mem_nil_iff, or_false] at hx
 rcases hx with rfl | rfl | rfl | rfl | rfl | rfl <;> rfl
structure Ask where
 shard : Nat
 reads : List Rd
 readAt : List Nat
 edits : List Ed
 editAt : List Nat
 list : Bool
 pre : ByteArray
 give : Bool
 take : Bool
 f : Nat
 t : Nat
def Ask.new (s : Nat) : Ask := ⟨s, [], [], [], [], false, ByteArray.empty, false, false, 0, 0⟩
def dAsk : Ask := Ask.new 0
abbrev askV (A : Ask) (v1 v2 v3 v4 : Value) : Array Value := #[.int .u32 (A.shard : Int), v1, v2, v3, v4, .bool A.list, .string A.pre, .bool A.give, .bool A.take, .int .u64 (A.f : Int), .int .u64 (A.t : Int)]
end Go.Proofs.YtggdkfijioeijaaGreatDoor
namespace Go.Proofs.YtggdkfijioeijaaGreatDoor
open Go Go.RowKit Pth
def IdxG (b : Bool) (w : World) (e : Ending) (w' : World) : Prop := ∃ z : Int, e = .returned (.int .i64 z) ∧ (0 ≤ z ↔ b = true) ∧ Below w.heap.size w w'
structure SmallRd (r : Rd) : Prop where
 path : r.path.size ≤ 140737488351232
structure SmallEd (x : Ed) : Prop where
 path : x.path.size ≤ 140737488351232
 text : x.text.size ≤ 140737488351232
 kind : x.kind < 256
def badR (r : Rd) : Bool := !mayL r.path.data.toList
def badE (x : Ed) : Bool := decide (x.kind < 1) || decide (3 < x.kind) || !mayL x.path.data.toList
def longE (x : Ed) : Bool := decide (4047 < x.text.size)
set_option maxHeartbeats 1000000 in
theorem clo_r (r : Rd) (h : SmallRd r) (w : World) (hm : MX w) : Calls Tryz.prog 33 #[.agg (rdC r).toArray] w fun e w' => e = .returned (.bool (badR r)) ∧ Below w.heap.size w w' := by
 unfold rdC badR
 have HP := Lib.hid (fun (W : World) (hW : Below w.heap.size w W) => path_may r.path h.path W (hm.below hW (Nat.le_refl _)))
 obtain ⟨b, hb⟩ : ∃ b, mayL r.path.data.toList = b := ⟨_, rfl⟩
 rw [hb] at HP ⊢
 clear hb h hm
 go_enter Tryz.func33, Tryz.ntmps33
 go_wp2_with fail
 have hb0 : Below w.heap.size w (w.alloc (.cells #[.string r.path, .int .u64 (r.n : Int)] 56)) := (Below.refl _ _).alloc (Nat.le_refl _) _
 refine (HP.out _ hb0).mono ?_
 rintro e w1 ⟨rfl, hb1⟩
 have HB := Lib.hid (hb0.trans (hb1.mono hb0.size)); clear hb1 hb0
 go_wp2_with fail
 go_ret
 exact ⟨rfl, HB.out⟩
set_option maxRecDepth 100000 in
set_option maxHeartbeats 2000000 in
theorem clo_e (r : Ed) (h : SmallEd r) (w : World) (hm : MX w) : Calls Tryz.prog 36 #[.agg (edC r).toArray] w fun e w' => e = .returned (.bool (badE r)) ∧ Below w.heap.size w w' := by
 unfold edC badE
 have HP := Lib.hid (fun (W : World) (hW : Below w.heap.size w W) => path_may r.path h.path W (hm.below hW (Nat.le_refl _)))
 obtain ⟨b, hb⟩ : ∃ b, mayL r.path.data.toList = b := ⟨_, rfl⟩
 rw [hb] at HP ⊢
 clear hb h hm
 have hb0 : Below w.heap.size w (w.alloc (.cells #[.int .u8 (r.kind : Int), .string r.path, .bool r.any, .int .u64 (r.want : Int), .int .u64 (r.n : Int), .string r.text] 63)) := (Below.refl _ _).alloc (Nat.le_refl _) _
 have HB0 := Lib.hid hb0; clear hb0
 by_cases h1 : r.kind < 1
 ·have h1' : (r.kind : Int) < 1 := by omega
  rw [decide_eq_true h1]
  clear h1
  go_enter Tryz.func36, Tryz.ntmps36
  go_wp2_with fail
  go_ret
  exact ⟨rfl, HB0.out⟩
 ·have h1' : ¬ (r.kind : Int) < 1 := by omega
  rw [decide_eq_false h1]
  by_cases h2 : 3 < r.kind
  ·have h2' : (3 : Int) < (r.kind : Int) := by omega
   rw [decide_eq_true h2]
   clear h1 h2
   go_enter Tryz.func36, Tryz.ntmps36
   go_wp2_with fail
   go_ret
   exact ⟨rfl, HB0.out⟩
  ·have h2' : ¬ (3 : Int) < (r.kind : Int) := by omega
   rw [decide_eq_false h2]
   clear h1 h2
   go_enter Tryz.func36, Tryz.ntmps36
   go_wp2_with fail
   refine (HP.out _ HB0.out).mono ?_
   rintro e w1 ⟨rfl, hb1⟩
   have HB := Lib.hid (HB0.out.trans (hb1.mono HB0.out.size)); clear hb1
   go_wp2_with fail
   go_ret
   exact ⟨rfl, HB.out⟩
set_option maxHeartbeats 1000000 in
theorem clo_l (r : Ed) (_h : SmallEd r) (w : World) (_hm : MX w) : Calls Tryz.prog 37 #[.agg (edC r).toArray] w fun e w' => e = .returned (.bool (longE r)) ∧ Below w.heap.size w w' := by
 unfold edC longE
 clear _hm _h
 by_cases h1 : 4047 < r.text.size
 ·have h1' : (4047 : Int) < (r.text.size : Int) := by omega
  rw [decide_eq_true h1]
  clear h1
  go_enter Tryz.func37, Tryz.ntmps37
  go_wp2_with fail
  go_ret
  exact ⟨rfl, (Below.refl _ _).alloc (Nat.le_refl _) _⟩
 ·have h1' : ¬ (4047 : Int) < (r.text.size : Int) := by omega
  rw [decide_eq_false h1]
  clear h1
  go_enter Tryz.func37, Tryz.ntmps37
  go_wp2_with fail
  go_ret
  exact ⟨rfl, (Below.refl _ _).alloc (Nat.le_refl _) _⟩
set_option maxRecDepth 100000 in
set_option maxHeartbeats 2000000 in
theorem idx_r (l : List Rd) (v : Value) (w : World) (hv : IsL 2 rdC dRd w v l) (hl : l.length ≤ 9223372036854775807) (hok : ∀ r ∈ l, SmallRd r) (hm : MX w) :
  Calls Tryz.prog 69 #[v, .func (.func 33) #[] #[]] w (IdxG (l.any badR) w) := by
 obtain ⟨a, cap, rfl, hc⟩ := hv
 have HC := Lib.hid hc; have HM := Lib.hid hm; have HOK := Lib.hid hok
 have HF := Lib.hid (fun (r : Rd) (h : SmallRd r) (W : World) (hW : Below w.heap.size w W) => clo_r r h W (hm.below hW (Nat.le_refl _)))
 clear hc hm hok
 go_enter Tryz.func69, Tryz.ntmps69
 go_wp2
 go_loopw [8] (fun i wr => ∃ k : Nat, k ≤ l.length ∧ i = .int .i64 k ∧ Hid ((l.take k).any badR = false) ∧ Hid (Below w.heap.size w wr)) (fun i _ => l.length - (intOf i).toNat)
 case atStart => exact ⟨0, Nat.zero_le _, rfl, Lib.hid rfl, Lib.hid (Below.refl _ _)⟩
 case round =>
  obtain ⟨k, hk, rfl, hmm, hbw⟩ := hrel
  by_cases hlt : k < l.length
  ·rcases HC.out with hn | ⟨b, off, rfl, hblt, hcc⟩
   ·subst hn; simp at hlt
   have hr : l.getD k dRd ∈ l := by rw [List.getD_eq_getElem?_getD, List.getElem?_eq_getElem hlt]; exact List.getElem_mem _
   have hf := HF.out _ (HOK.out _ hr) wr hbw.out
   have htk : (l.take (k + 1)).any badR = ((l.take k).any badR || badR (l.getD k dRd)) := by
    rw [List.take_succ_eq_append_getElem hlt, List.any_append, List.getD_eq_getElem?_getD, List.getElem?_eq_getElem hlt]; simp
   have hin : badR (l.getD k dRd) = true → l.any badR = true := fun h => List.any_eq_true.2 ⟨_, hr, h⟩
   have hc0 := hcc k hlt
   obtain ⟨r, hre⟩ : ∃ r, l.getD k dRd = r := ⟨_, rfl⟩
   rw [hre] at hf htk hc0 hin
   have x0 : wr.cell? ⟨b, off + k * 2, none⟩ = some (.string r.path) := (hbw.out.cell (p := ⟨b, off + k * 2 + 0, none⟩) hblt).trans (hc0 0 _ rfl)
   have x1 : wr.cell? ⟨b, off + k * 2 + 1, none⟩ = some (.int .u64 (r.n : Int)) := (hbw.out.cell (p := ⟨b, off + k * 2 + 1, none⟩) hblt).trans (hc0 1 _ rfl)
   have HR := Lib.hid hf; have HTK := Lib.hid htk; have HIN := Lib.hid hin
   unfold rdC at HR
   clear hre hr hf htk hc0 hin hcc
   cases hb : badR r with
   | true =>
    rw [hb] at HR
    have HI := Lib.hid (HIN.out hb)
    clear hb
    go_wp2_with fail
    refine HR.out.mono ?_
    rintro e w1 ⟨rfl, hb1⟩
    have HB := Lib.hid (hbw.out.trans (hb1.mono hbw.out.size)); clear hb1
    go_wp2_with fail
    go_ret
    exact ⟨(k : Int), rfl, ⟨fun _ => HI.out, fun _ => by omega⟩, HB.out⟩
   | false =>
    rw [hb] at HR
    have HN := Lib.hid (show (l.take (k + 1)).any badR = false by rw [HTK.out, hmm.out, hb]; rfl)
    clear hb
    go_wp2_with fail
    refine HR.out.mono ?_
    rintro e w1 ⟨rfl, hb1⟩
    have HB := Lib.hid (hbw.out.trans (hb1.mono hbw.out.size)); clear hb1
    go_wp2_with fail
    go_roundw
    case rel => exact ⟨k + 1, by omega, by go_num, HN, HB⟩
    case measure => simp [intOf]; omega
  ·have hge : (l.length : Int) ≤ (k : Int) := by omega
   have HN := Lib.hid (show l.any badR = false by have := hmm.out; rw [List.take_of_length_le (by omega)] at this; exact this)
   go_wp2
   go_ret
   exact ⟨-1, rfl, ⟨fun h => absurd h (by decide), fun h => by rw [HN.out] at h; cases h⟩, hbw.out⟩
set_option maxRecDepth 100000 in
set_option maxHeartbeats 2000000 in
theorem has_r (l : List Rd) (v : Value) (w : World) (hv : IsL 2 rdC dRd w v l) (hl : l.length ≤ 9223372036854775807) (hok : ∀ r ∈ l, SmallRd r) (hm : MX w) :
  Calls Tryz.prog 32 #[v, .func (.func 33) #[] #[]] w fun e w' => e = .returned (.bool (l.any badR)) ∧ Below w.heap.size w w' := by
 have HI := Lib.hid (idx_r l v w hv hl hok hm)
 clear hv hl hok hm
 obtain ⟨b, hb⟩ : ∃ b, l.any badR = b := ⟨_, rfl⟩
 rw [hb] at HI ⊢
 clear hb
 go_enter Tryz.func32, Tryz.ntmps32
 go_wp2_with fail
 refine HI.out.mono ?_
 rintro e w1 ⟨z, rfl, hz, hb1⟩
 have HB := Lib.hid hb1; clear hb1
 cases b with
 | true =>
  have h0 : 0 ≤ z := hz.2 rfl
  clear hz
  go_wp2_with fail
  go_ret
  exact ⟨rfl, HB.out⟩
 | false =>
  have h0 : ¬ 0 ≤ z := fun h => by have := hz.1 h; cases this
  have hd : decide (0 ≤ z) = false := decide_eq_false h0
  clear hz
  go_wp2_with fail
  go_ret
  exact ⟨rfl, HB.out⟩
set_option maxRecDepth 100000 in
set_option maxHeartbeats 2000000 in
theorem idx_e (l : List Ed) (v : Value) (w : World) (hv : IsL 6 edC dEd w v l) (hl : l.length ≤ 9223372036854775807) (hok : ∀ r ∈ l, SmallEd r) (hm : MX w) :
  Calls Tryz.prog 71 #[v, .func (.func 36) #[] #[]] w (IdxG (l.any badE) w) := by
 obtain ⟨a, cap, rfl, hc⟩ := hv
 have HC := Lib.hid hc; have HM := Lib.hid hm; have HOK := Lib.hid hok
 have HF := Lib.hid (fun (r : Ed) (h : SmallEd r) (W : World) (hW : Below w.heap.size w W) => clo_e r h W (hm.below hW (Nat.le_refl _)))
 clear hc hm hok
 go_enter Tryz.func71, Tryz.ntmps71
 go_wp2
 go_loopw [8] (fun i wr => ∃ k : Nat, k ≤ l.length ∧ i = .int .i64 k ∧ Hid ((l.take k).any badE = false) ∧ Hid (Below w.heap.size w wr)) (fun i _ => l.length - (intOf i).toNat)
 case atStart => exact ⟨0, Nat.zero_le _, rfl, Lib.hid rfl, Lib.hid (Below.refl _ _)⟩
 case round =>
  obtain ⟨k, hk, rfl, hmm, hbw⟩ := hrel
  by_cases hlt : k < l.length
  ·rcases HC.out with hn | ⟨b, off, rfl, hblt, hcc⟩
   ·subst hn; simp at hlt
   have hr : l.getD k dEd ∈ l := by rw [List.getD_eq_getElem?_getD, List.getElem?_eq_getElem hlt]; exact List.getElem_mem _
   have hf := HF.out _ (HOK.out _ hr) wr hbw.out
   have htk : (l.take (k + 1)).any badE = ((l.take k).any badE || badE (l.getD k dEd)) := by
    rw [List.take_succ_eq_append_getElem hlt, List.any_append, List.getD_eq_getElem?_getD, List.getElem?_eq_getElem hlt]; simp
   have hin : badE (l.getD k dEd) = true → l.any badE = true := fun h => List.any_eq_true.2 ⟨_, hr, h⟩
   have hc0 := hcc k hlt
   obtain ⟨r, hre⟩ : ∃ r, l.getD k dEd = r := ⟨_, rfl⟩
   rw [hre] at hf htk hc0 hin
   have x0 : wr.cell? ⟨b, off + k * 6, none⟩ = some (.int .u8 (r.kind : Int)) := (hbw.out.cell (p := ⟨b, off + k * 6 + 0, none⟩) hblt).trans (hc0 0 _ rfl)
   have x1 : wr.cell? ⟨b, off + k * 6 + 1, none⟩ = some (.string r.path) := (hbw.out.cell (p := ⟨b, off + k * 6 + 1, none⟩) hblt).trans (hc0 1 _ rfl)
   have x2 : wr.cell? ⟨b, off + k * 6 + 2, none⟩ = some (.bool r.any) := (hbw.out.cell (p := ⟨b, off + k * 6 + 2, none⟩) hblt).trans (hc0 2 _ rfl)
   have x3 : wr.cell? ⟨b, off + k * 6 + 3, none⟩ = some (.int .u64 (r.want : Int)) := (hbw.out.cell (p := ⟨b, off + k * 6 + 3, none⟩) hblt).trans (hc0 3 _ rfl)
   have x4 : wr.cell? ⟨b, off + k * 6 + 4, none⟩ = some (.int .u64 (r.n : Int)) := (hbw.out.cell (p := ⟨b, off + k * 6 + 4, none⟩) hblt).trans (hc0 4 _ rfl)
   have x5 : wr.cell? ⟨b, off + k * 6 + 5, none⟩ = some (.string r.text) := (hbw.out.cell (p := ⟨b, off + k * 6 + 5, none⟩) hblt).trans (hc0 5 _ rfl)
   have HR := Lib.hid hf; have HTK := Lib.hid htk; have HIN := Lib.hid hin
   unfold edC at HR
   clear hre hr hf htk hc0 hin hcc
   cases hb : badE r with
   | true =>
    rw [hb] at HR
    have HI := Lib.hid (HIN.out hb)
    clear hb
    go_wp2_with fail
    refine HR.out.mono ?_
    rintro e w1 ⟨rfl, hb1⟩
    have HB := Lib.hid (hbw.out.trans (hb1.mono hbw.out.size)); clear hb1
    go_wp2_with fail
    go_ret
    exact ⟨(k : Int), rfl, ⟨fun _ => HI.out, fun _ => by omega⟩, HB.out⟩
   | false =>
    rw [hb] at HR
    have HN := Lib.hid (show (l.take (k + 1)).any badE = false by rw [HTK.out, hmm.out, hb]; rfl)
    clear hb
    go_wp2_with fail
    refine HR.out.mono ?_
    rintro e w1 ⟨rfl, hb1⟩
    have HB := Lib.hid (hbw.out.trans (hb1.mono hbw.out.size)); clear hb1
    go_wp2_with fail
    go_roundw
    case rel => exact ⟨k + 1, by omega, by go_num, HN, HB⟩
    case measure => simp [intOf]; omega
  ·have hge : (l.length : Int) ≤ (k : Int) := by omega
   have HN := Lib.hid (show l.any badE = false by have := hmm.out; rw [List.take_of_length_le (by omega)] at this; exact this)
   go_wp2
   go_ret
   exact ⟨-1, rfl, ⟨fun h => absurd h (by decide), fun h => by rw [HN.out] at h; cases h⟩, hbw.out⟩
set_option maxRecDepth 100000 in
set_option maxHeartbeats 2000000 in
theorem has_e (l : List Ed) (v : Value) (w : World) (hv : IsL 6 edC dEd w v l) (hl : l.length ≤ 9223372036854775807) (hok : ∀ r ∈ l, SmallEd r) (hm : MX w) :
  Calls Tryz.prog 35 #[v, .func (.func 36) #[] #[]] w fun e w' => e = .returned (.bool (l.any badE)) ∧ Below w.heap.size w w' := by
 have HI := Lib.hid (idx_e l v w hv hl hok hm)
 clear hv hl hok hm
 obtain ⟨b, hb⟩ : ∃ b, l.any badE = b := ⟨_, rfl⟩
 rw [hb] at HI ⊢
 clear hb
 go_enter Tryz.func35, Tryz.ntmps35
 go_wp2_with fail
 refine HI.out.mono ?_
 rintro e w1 ⟨z, rfl, hz, hb1⟩
 have HB := Lib.hid hb1; clear hb1
 cases b with
 | true =>
  have h0 : 0 ≤ z := hz.2 rfl
  clear hz
  go_wp2_with fail
  go_ret
  exact ⟨rfl, HB.out⟩
 | false =>
  have h0 : ¬ 0 ≤ z := fun h => by have := hz.1 h; cases this
  have hd : decide (0 ≤ z) = false := decide_eq_false h0
  clear hz
  go_wp2_with fail
  go_ret
  exact ⟨rfl, HB.out⟩
set_option maxRecDepth 100000 in
set_option maxHeartbeats 2000000 in
theorem idx_l (l : List Ed) (v : Value) (w : World) (hv : IsL 6 edC dEd w v l) (hl : l.length ≤ 9223372036854775807) (hok : ∀ r ∈ l, SmallEd r) (hm : MX w) :
  Calls Tryz.prog 71 #[v, .func (.func 37) #[] #[]] w (IdxG (l.any longE) w) := by
 obtain ⟨a, cap, rfl, hc⟩ := hv
 have HC := Lib.hid hc; have HM := Lib.hid hm; have HOK := Lib.hid hok
 have HF := Lib.hid (fun (r : Ed) (h : SmallEd r) (W : World) (hW : Below w.heap.size w W) => clo_l r h W (hm.below hW (Nat.le_refl _)))
 clear hc hm hok
 go_enter Tryz.func71, Tryz.ntmps71
 go_wp2
 go_loopw [8] (fun i wr => ∃ k : Nat, k ≤ l.length ∧ i = .int .i64 k ∧ Hid ((l.take k).any longE = false) ∧ Hid (Below w.heap.size w wr)) (fun i _ => l.length - (intOf i).toNat)
 case atStart => exact ⟨0, Nat.zero_le _, rfl, Lib.hid rfl, Lib.hid (Below.refl _ _)⟩
 case round =>
  obtain ⟨k, hk, rfl, hmm, hbw⟩ := hrel
  by_cases hlt : k < l.length
  ·rcases HC.out with hn | ⟨b, off, rfl, hblt, hcc⟩
   ·subst hn; simp at hlt
   have hr : l.getD k dEd ∈ l := by rw [List.getD_eq_getElem?_getD, List.getElem?_eq_getElem hlt]; exact List.getElem_mem _
   have hf := HF.out _ (HOK.out _ hr) wr hbw.out
   have htk : (l.take (k + 1)).any longE = ((l.take k).any longE || longE (l.getD k dEd)) := by
    rw [List.take_succ_eq_append_getElem hlt, List.any_append, List.getD_eq_getElem?_getD, List.getElem?_eq_getElem hlt]; simp
   have hin : longE (l.getD k dEd) = true → l.any longE = true := fun h => List.any_eq_true.2 ⟨_, hr, h⟩
   have hc0 := hcc k hlt
   obtain ⟨r, hre⟩ : ∃ r, l.getD k dEd = r := ⟨_, rfl⟩
   rw [hre] at hf htk hc0 hin
   have x0 : wr.cell? ⟨b, off + k * 6, none⟩ = some (.int .u8 (r.kind : Int)) := (hbw.out.cell (p := ⟨b, off + k * 6 + 0, none⟩) hblt).trans (hc0 0 _ rfl)
   have x1 : wr.cell? ⟨b, off + k * 6 + 1, none⟩ = some (.string r.path) := (hbw.out.cell (p := ⟨b, off + k * 6 + 1, none⟩) hblt).trans (hc0 1 _ rfl)
   have x2 : wr.cell? ⟨b, off + k * 6 + 2, none⟩ = some (.bool r.any) := (hbw.out.cell (p := ⟨b, off + k * 6 + 2, none⟩) hblt).trans (hc0 2 _ rfl)
   have x3 : wr.cell? ⟨b, off + k * 6 + 3, none⟩ = some (.int .u64 (r.want : Int)) := (hbw.out.cell (p := ⟨b, off + k * 6 + 3, none⟩) hblt).trans (hc0 3 _ rfl)
   have x4 : wr.cell? ⟨b, off + k * 6 + 4, none⟩ = some (.int .u64 (r.n : Int)) := (hbw.out.cell (p := ⟨b, off + k * 6 + 4, none⟩) hblt).trans (hc0 4 _ rfl)
   have x5 : wr.cell? ⟨b, off + k * 6 + 5, none⟩ = some (.string r.text) := (hbw.out.cell (p := ⟨b, off + k * 6 + 5, none⟩) hblt).trans (hc0 5 _ rfl)
   have HR := Lib.hid hf; have HTK := Lib.hid htk; have HIN := Lib.hid hin
   unfold edC at HR
   clear hre hr hf htk hc0 hin hcc
   cases hb : longE r with
   | true =>
    rw [hb] at HR
    have HI := Lib.hid (HIN.out hb)
    clear hb
    go_wp2_with fail
    refine HR.out.mono ?_
    rintro e w1 ⟨rfl, hb1⟩
    have HB := Lib.hid (hbw.out.trans (hb1.mono hbw.out.size)); clear hb1
    go_wp2_with fail
    go_ret
    exact ⟨(k : Int), rfl, ⟨fun _ => HI.out, fun _ => by omega⟩, HB.out⟩
   | false =>
    rw [hb] at HR
    have HN := Lib.hid (show (l.take (k + 1)).any longE = false by rw [HTK.out, hmm.out, hb]; rfl)
    clear hb
    go_wp2_with fail
    refine HR.out.mono ?_
    rintro e w1 ⟨rfl, hb1⟩
    have HB := Lib.hid (hbw.out.trans (hb1.mono hbw.out.size)); clear hb1
    go_wp2_with fail
    go_roundw
    case rel => exact ⟨k + 1, by omega, by go_num, HN, HB⟩
    case measure => simp [intOf]; omega
  ·have hge : (l.length : Int) ≤ (k : Int) := by omega
   have HN := Lib.hid (show l.any longE = false by have := hmm.out; rw [List.take_of_length_le (by omega)] at this; exact this)
   go_wp2
   go_ret
   exact ⟨-1, rfl, ⟨fun h => absurd h (by decide), fun h => by rw [HN.out] at h; cases h⟩, hbw.out⟩
set_option maxRecDepth 100000 in
set_option maxHeartbeats 2000000 in
theorem has_l (l : List Ed) (v : Value) (w : World) (hv : IsL 6 edC dEd w v l) (hl : l.length ≤ 9223372036854775807) (hok : ∀ r ∈ l, SmallEd r) (hm : MX w) :
  Calls Tryz.prog 35 #[v, .func (.func 37) #[] #[]] w fun e w' => e = .returned (.bool (l.any longE)) ∧ Below w.heap.size w w' := by
 have HI := Lib.hid (idx_l l v w hv hl hok hm)
 clear hv hl hok hm
 obtain ⟨b, hb⟩ : ∃ b, l.any longE = b := ⟨_, rfl⟩
 rw [hb] at HI ⊢
 clear hb
 go_enter Tryz.func35, Tryz.ntmps35
 go_wp2_with fail
 refine HI.out.mono ?_
 rintro e w1 ⟨z, rfl, hz, hb1⟩
 have HB := Lib.hid hb1; clear hb1
 cases b with
 | true =>
  have h0 : 0 ≤ z := hz.2 rfl
  clear hz
  go_wp2_with fail
  go_ret
  exact ⟨rfl, HB.out⟩
 | false =>
  have h0 : ¬ 0 ≤ z := fun h => by have := hz.1 h; cases this
  have hd : decide (0 ≤ z) = false := decide_eq_false h0
  clear hz
  go_wp2_with fail
  go_ret
  exact ⟨rfl, HB.out⟩
end Go.Proofs.YtggdkfijioeijaaGreatDoor
