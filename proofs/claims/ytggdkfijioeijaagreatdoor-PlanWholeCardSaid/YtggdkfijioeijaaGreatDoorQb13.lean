/- plan.Asks: the asks that it makes, shard by shard; its inner function. plan.asked: the map's keys, rising. Contract: plan.asked: the asks, by rising shards. Contract: plan.May, where a call may be, and of a list. plan.Asks: one element more for two rows of an ask: what holds behind any part of the region that does it. plan.Asks: an ask with more reads, or edits: what the asks are then; owners of paths. DERIVED. MADE BY PROGRAM (lay-iter.mjs) off ytggdkfijioeijaagreatdoor.cut.gsa: THE SHELF's CONTRACTS ON 'slices.Sorted(maps.Keys(m))' LAID AT THIS DUMP: 1 map type. NO WALK OF THE LIBRARY's TEXT: each is one application of a contract over any P and ρ (Derived/Shelf/SlIter/, Derived/Shelf/SortM/). -/
import Derived.Test.YtggdkfijioeijaaGreatDoorQb00
import Derived.Test.YtggdkfijioeijaaGreatDoorQb03
import Derived.Test.YtggdkfijioeijaaGreatDoorQb04
import Derived.Test.YtggdkfijioeijaaGreatDoorQb08
import Derived.Test.YtggdkfijioeijaaGreatDoorQb12
import Derived.Maps.OwnSet
import Derived.Maps.Ext
import Derived.Maps.RangeWalk
import Derived.Lib.SlMapEqual
import Derived.Lib.SlMapMerge
import Derived.Lib.Hide
import Derived.Shelf.SlIter.Nil
import Derived.Shelf.SortM.Plain
import Derived.Shelf.SortM.SortNone
import Derived.Ground.GgzProg
import Derived.Ground.SlgmProg
namespace Go.Proofs.YtggdkfijioeijaaGreatDoor
open Go Go.RowKit Go.Maps
abbrev kU (z : Int) : Lit := .int .u32 z
def heldR : Value → Option (DataW Value × List MemPlace) := fun v => some (.held v, [])
def ByU (N bm : Nat) (w : World) (S : Nat → Prop) (P : Nat → Nat) : Prop :=
 ∃ (D : DataW Value) (nn : Nat), w.ownsMap Tryz.prog 28 heldR bm nn D ∧ nn ≤ N ∧ (∀ z : Int, has D (kU z) = true ↔ ∃ s : Nat, S s ∧ z = (s : Int)) ∧ ∀ s : Nat, S s → D.atKey (kU (s : Int)) .nil = .held (.pointer (some ⟨P s, 0, none⟩))
structure RowsU (B : Nat) (w : World) (V : Nat → Value) (A : Ask) : Prop where
 r0 : w.ownsRow B 56 2 (V 0) A.reads.length (A.reads.flatMap rdC)
 r1 : w.ownsRow B 3 1 (V 1) A.readAt.length (A.readAt.flatMap ixC)
 r2 : w.ownsRow B 63 6 (V 2) A.edits.length (A.edits.flatMap edC)
 r3 : w.ownsRow B 3 1 (V 3) A.editAt.length (A.editAt.flatMap ixC)
structure AsksAt (N B bm : Nat) (w : World) (S : Nat → Prop) (P : Nat → Nat) (V : Nat → Nat → Value) (A : Nat → Ask) : Prop where
 map : ByU N bm w S P
 blk : ∀ s, S s → B ≤ P s ∧ w.heap[P s]? = some (.cells (askV (A s) (V s 0) (V s 1) (V s 2) (V s 3)) 47 (0, 0))
 rows : ∀ s, S s → RowsU B w (V s) (A s)
 inj : ∀ s s', S s → S s' → s ≠ s' → P s ≠ P s'
 off : ∀ s s', S s → S s' → ∀ i j, i < 4 → j < 4 → (s ≠ s' ∨ i ≠ j) → ∀ g, (V s i).ownBlock = some g → (V s' j).ownBlock ≠ some g
theorem row_below {w w' : World} {B e n k : Nat} {v : Value} {xs : List Value} (h : w.ownsRow B e k v n xs) (hb : Below w.heap.size w w') : w'.ownsRow B e k v n xs := ownBelow h hb
theorem row_but {w w' : World} {B e n k : Nat} {v : Value} {xs : List Value} {X : Nat → Prop} (h : w.ownsRow B e k v n xs) (hb : ButS X w w') (hX : ∀ g, v.ownBlock = some g → ¬ X g) : w'.ownsRow B e k v n xs := by
 refine ⟨h.1, ?_⟩
 rcases h.2 with h2 | ⟨g, cap, cur, hv, hB, hg, rest⟩
 ·exact Or.inl h2
 ·exact Or.inr ⟨g, cap, cur, hv, hB, (hb.block g (Array.getElem?_eq_some_iff.1 hg).1 (hX g (by rw [hv]; rfl))).trans hg, rest⟩
theorem own_block {w : World} {B e n k : Nat} {v : Value} {xs : List Value} (h : w.ownsRow B e k v n xs) {g : Nat} (hg : v.ownBlock = some g) : B ≤ g ∧ ∃ C, w.heap[g]? = some (.cells C e (0, 0)) := by
 rcases h.2 with ⟨hv, _⟩ | ⟨g', cap, cur, hv, hB, hg', _⟩
 ·rw [hv] at hg; cases hg
 ·rw [hv] at hg
  have : g' = g := by simpa [Value.ownBlock] using hg
  subst this
  exact ⟨hB, cur, hg'⟩
theorem ByU.but {N bm : Nat} {w w' : World} {S : Nat → Prop} {P : Nat → Nat} {X : Nat → Prop} (h : ByU N bm w S P) (hb : ButS X w w') (hX : ¬ X bm) : ByU N bm w' S P := by
 obtain ⟨D, nn, ⟨es, clock, h1, F, hs, hD⟩, hr⟩ := h
 exact ⟨D, nn, ⟨es, clock, (hb.block bm (Array.getElem?_eq_some_iff.1 h1).1 hX).trans h1, F, hs, hD⟩, hr⟩
theorem AsksAt.map_block {N B bm : Nat} {w : World} {S : Nat → Prop} {P : Nat → Nat} {V : Nat → Nat → Value} {A : Nat → Ask} (h : AsksAt N B bm w S P V A) : ∃ es c, w.heap[bm]? = some (.map es c) := by
 obtain ⟨D, nn, ⟨es, clock, h1, _⟩, _⟩ := h.map
 exact ⟨_, _, h1⟩
theorem RowsU.but {B : Nat} {w w' : World} {V : Nat → Value} {A : Ask} {X : Nat → Prop} (h : RowsU B w V A) (hb : ButS X w w') (hX : ∀ i, i < 4 → ∀ g, (V i).ownBlock = some g → ¬ X g) : RowsU B w' V A :=
 ⟨row_but h.r0 hb (hX 0 (by decide)), row_but h.r1 hb (hX 1 (by decide)), row_but h.r2 hb (hX 2 (by decide)), row_but h.r3 hb (hX 3 (by decide))⟩
theorem RowsU.block {B : Nat} {w : World} {V : Nat → Value} {A : Ask} (h : RowsU B w V A) {i g : Nat} (hi : i < 4) (hg : (V i).ownBlock = some g) : B ≤ g ∧ ∃ C e, w.heap[g]? = some (.cells C e (0, 0)) ∧ e ≠ 47 := by
 rcases i with _ | _ | _ | _ | i
 ·obtain ⟨h1, C, h2⟩ := own_block h.r0 hg; exact ⟨h1, C, _, h2, by decide⟩
 ·obtain ⟨h1, C, h2⟩ := own_block h.r1 hg; exact ⟨h1, C, _, h2, by decide⟩
 ·obtain ⟨h1, C, h2⟩ := own_block h.r2 hg; exact ⟨h1, C, _, h2, by decide⟩
 ·obtain ⟨h1, C, h2⟩ := own_block h.r3 hg; exact ⟨h1, C, _, h2, by decide⟩
 ·omega
theorem AsksAt.below {N B bm : Nat} {w w' : World} {S : Nat → Prop} {P : Nat → Nat} {V : Nat → Nat → Value} {A : Nat → Ask} (h : AsksAt N B bm w S P V A) (hb : Below w.heap.size w w') : AsksAt N B bm w' S P V A := by
 have hB : ButS (fun _ => False) w w' := ButS.of hb
 exact ⟨h.map.but hB id, fun s hs => ⟨(h.blk s hs).1, (hb.block _ (Array.getElem?_eq_some_iff.1 (h.blk s hs).2).1).trans (h.blk s hs).2⟩, fun s hs => (h.rows s hs).but hB (fun _ _ _ _ => id), h.inj, h.off⟩
theorem AsksAt.grow {N N' B bm : Nat} {w : World} {S : Nat → Prop} {P : Nat → Nat} {V : Nat → Nat → Value} {A : Nat → Ask} (h : AsksAt N B bm w S P V A) (hN : N ≤ N') : AsksAt N' B bm w S P V A := by
 obtain ⟨D, nn, h1, h2, h3⟩ := h.map
 exact ⟨⟨D, nn, h1, by omega, h3⟩, h.blk, h.rows, h.inj, h.off⟩
theorem AsksAt.same {N B bm : Nat} {w : World} {S S' : Nat → Prop} {P : Nat → Nat} {V : Nat → Nat → Value} {A : Nat → Ask} (h : AsksAt N B bm w S P V A) (hS : ∀ s, S' s ↔ S s) : AsksAt N B bm w S' P V A := by
 have : S' = S := funext fun s => propext (hS s)
 subst this; exact h
def OfR (N B bm : Nat) (S : Nat → Prop) (V : Nat → Nat → Value) (A : Nat → Ask) (s : Nat) (w : World) (e : Ending) (w' : World) : Prop :=
 ∃ P' V', e = .returned (.pointer (some ⟨P' s, 0, none⟩)) ∧ AsksAt (N + 1) B bm w' (fun x => S x ∨ x = s) P' V' A ∧ ButS (fun k => k = bm) w w' ∧ ∀ i, i < 4 → ∀ g, (V' s i).ownBlock = some g → S s ∧ (V s i).ownBlock = some g
theorem look_U {w : World} {bm nn : Nat} {D : DataW Value} (h : w.ownsMap Tryz.prog 28 heldR bm nn D) (s : Nat) (hs : s < 4294967296) :
  ∃ v, (Instr.lookup 93 (.map (some bm)) (.int .u32 (s : Int)) false).run Tryz.prog w = .ok v w ∧ DataW.held v = D.atKey (kU (s : Int)) (.held (.pointer none)) := by
 obtain ⟨v, p, hr, hv⟩ := h.lookup (int_keyed Tryz.underlying28) Tryz.underlying93 (z := .pointer none) (by kernel_rfl) (zd := .held (.pointer none)) (zp := []) rfl (keyOf_int_mk Tryz.underlying28 (u32wf hs))
 exact ⟨v, hr, by simpa [heldR] using (congrArg (fun o => o.map Prod.fst) hv)⟩
set_option maxRecDepth 10000 in
theorem ByU.hit {N bm : Nat} {w : World} {S : Nat → Prop} {P : Nat → Nat} (h : ByU N bm w S P) (s : Nat) (hs : s < 4294967296) (hS : S s) :
  (Instr.lookup 93 (.map (some bm)) (.int .u32 (s : Int)) false).run Tryz.prog w = .ok (.pointer (some ⟨P s, 0, none⟩)) w := by
 obtain ⟨D, nn, ho, _, hh, ha⟩ := h
 obtain ⟨v, hr, hv⟩ := look_U ho s hs
 rw [Maps.atKey_indep ((hh _).2 ⟨s, hS, rfl⟩) (.held (.pointer none)) .nil, ha s hS] at hv
 injection hv with hv
 rw [hr, hv]
set_option maxRecDepth 10000 in
theorem ByU.miss {N bm : Nat} {w : World} {S : Nat → Prop} {P : Nat → Nat} (h : ByU N bm w S P) (s : Nat) (hs : s < 4294967296) (hS : ¬ S s) :
    (Instr.lookup 93 (.map (some bm)) (.int .u32 (s : Int)) false).run Tryz.prog w = .ok (.pointer none) w := by
  obtain ⟨D, nn, ho, _, hh, ha⟩ := h
  obtain ⟨v, hr, hv⟩ := look_U ho s hs
  have hno : has D (kU (s : Int)) = false := by
    cases hc : has D (kU (s : Int)) with
    | false => rfl
    | true => obtain ⟨t, ht, e⟩ := (hh _).1 hc; have : t = s := by omega
              subst this; exact absurd ht hS
  rw [Maps.atKey_of_not_has hno] at hv
  injection hv with hv
  rw [hr, hv]
theorem ByU.put {N bm : Nat} {w : World} {S : Nat → Prop} {P : Nat → Nat} (h : ByU N bm w S P) (hN : N < 1000000) (s : Nat) (hs : s < 4294967296) (q : Nat) :
  ∃ w2, (Instr.mapUpdate 93 (.map (some bm)) (.int .u32 (s : Int)) (.pointer (some ⟨q, 0, none⟩))).run Tryz.prog w = .ok () w2 ∧ ByU (N + 1) bm w2 (fun x => S x ∨ x = s) (fun x => if x = s then q else P x) ∧ w.grownBy w2 (some bm) := by
 obtain ⟨D, nn, ho, hn, hh, ha⟩ := h
 obtain ⟨w2, hrun, ho2, hg2⟩ := ho.update (int_keyed Tryz.underlying28) Tryz.underlying93 (by unfold maxLen; omega) (keyOf_int_mk Tryz.underlying28 (u32wf hs)) (show heldR (.pointer (some ⟨q, 0, none⟩)) = some (.held (.pointer (some ⟨q, 0, none⟩)), []) from rfl)
 have hk : WideAt.IsKeyLit (kU (s : Int)) := by simp [WideAt.IsKeyLit]
 refine ⟨w2, hrun, ⟨_, _, ho2, by omega, fun z => ?_, fun x hx => ?_⟩, hg2⟩
 ·by_cases e : z = (s : Int)
  ·subst e
   rw [Maps.has_put_same ho.isMap hk]
   exact ⟨fun _ => ⟨s, Or.inr rfl, rfl⟩, fun _ => rfl⟩
  ·rw [Maps.has_put_other (by simpa using e), hh z]
   constructor
   ·rintro ⟨t, ht, e2⟩; exact ⟨t, Or.inl ht, e2⟩
   ·rintro ⟨t, ht | ht, e2⟩
    ·exact ⟨t, ht, e2⟩
    ·subst ht; exact absurd e2 e
 ·by_cases e : x = s
  ·subst e
   rw [Maps.atKey_put_same ho.isMap hk]
   simp only [if_pos]
  ·rw [Maps.atKey_put_other (by simpa using (fun h : (x : Int) = (s : Int) => e (by omega)))]
   simp only [if_neg e]
   exact ha x (hx.resolve_right e)
set_option maxRecDepth 100000 in
set_option maxHeartbeats 2000000 in
theorem asks_of (N B bm by_ s : Nat) (hs : s < 4294967296) (S : Nat → Prop) (P : Nat → Nat) (V : Nat → Nat → Value) (A : Nat → Ask) (w : World) (hby : w.cell? ⟨by_, 0, none⟩ = some (.map (some bm))) (h : AsksAt N B bm w S P V A) (hN : N < 1000000) (hA : ¬ S s → A s = Ask.new s) (hB : B ≤ w.heap.size) :
  Calls Tryz.prog 29 #[.int .u32 (s : Int), .pointer (some ⟨by_, 0, none⟩)] w (OfR N B bm S V A s w) := by
 obtain ⟨es0, c0, hmb⟩ := h.map_block
 have hbl : bm < w.heap.size := (Array.getElem?_eq_some_iff.1 hmb).1
 by_cases hS : S s
 ·have hl := h.map.hit s hs hS
  have HH := Lib.hid h; have HS := Lib.hid hS
  clear h hmb hA
  go_enter Tryz.func29, Tryz.ntmps29
  go_wp2_with fail
  go_ret
  exact ⟨P, V, rfl, (HH.out.grow (Nat.le_succ N)).same (fun x => ⟨fun h => h.elim id (fun e => e ▸ HS.out), Or.inl⟩), ButS.refl _, fun i _ g hg => ⟨HS.out, hg⟩⟩
 ·have hl := h.map.miss s hs hS
  obtain ⟨W, hW⟩ : ∃ W, w.alloc (.cells (askV (Ask.new s) (.slice none 0 0) (.slice none 0 0) (.slice none 0 0) (.slice none 0 0)) 47) = W := ⟨_, rfl⟩
  obtain ⟨hz, hg, hbW⟩ := alloc_keep hW
  have hWr : AsksAt N B bm W S P V A := h.below hbW
  obtain ⟨w2, hrun, hby2, hg2⟩ := hWr.map.put hN s hs w.heap.size
  have hbl2 : by_ < w.heap.size := block_lt_of_cell hby
  have hbyW : W.cell? ⟨by_, 0, none⟩ = some (.map (some bm)) := (hbW.cell (p := ⟨by_, 0, none⟩) hbl2).trans hby
  have hne : by_ ≠ bm := fun e => by
   rw [e] at hby; unfold World.cell? at hby; rw [hmb] at hby; simp at hby
  have hby3 : w2.cell? ⟨by_, 0, none⟩ = some (.map (some bm)) := (hg2.cell_far ⟨by_, 0, none⟩ (by show by_ < _; omega) (by simpa using hne)).trans hbyW
  have hl2 := hby2.hit s hs (Or.inr rfl)
  have hbut : ButS (fun k => k = bm) w w2 := (ButS.of hbW).trans (ButS.grown hg2 rfl)
  have hbutW : ButS (fun k => k = bm) W w2 := ButS.grown hg2 rfl
  have hold : ∀ x, S x → x ≠ s := fun x hx e => hS (e ▸ hx)
  have hPlt : ∀ x, S x → P x < w.heap.size := fun x hx => (Array.getElem?_eq_some_iff.1 (h.blk x hx).2).1
  have hfin : AsksAt (N + 1) B bm w2 (fun x => S x ∨ x = s) (fun x => if x = s then w.heap.size else P x) (fun x => if x = s then fun _ => .slice none 0 0 else V x) A := by
   refine ⟨hby2, fun x hx => ?_, fun x hx => ?_, fun x y hx hy hxy => ?_, fun x y hx hy i j hi hj hxy g hg' => ?_⟩
   ·by_cases e : x = s
    ·subst e
     simp only
     rw [hA hS]
     exact ⟨hB, (hg2.block w.heap.size (by omega) (by simp; omega)).trans hg⟩
    ·simp only [if_neg e]
     have hx' := hx.resolve_right e
     have hb1 := (hWr.blk x hx').2
     refine ⟨(hWr.blk x hx').1, (hg2.block _ (Array.getElem?_eq_some_iff.1 hb1).1 (fun e2 => ?_)).trans hb1⟩
     cases e2
     have h3 := (h.blk x hx').2
     rw [hmb] at h3; cases h3
   ·by_cases e : x = s
    ·subst e
     simp only
     rw [hA hS]
     exact ⟨World.ownsRow_nil _ _ _ _, World.ownsRow_nil _ _ _ _, World.ownsRow_nil _ _ _ _, World.ownsRow_nil _ _ _ _⟩
    ·simp only [if_neg e]
     have hx' := hx.resolve_right e
     refine (hWr.rows x hx').but hbutW (fun i hi g hg' e2 => ?_)
     obtain ⟨_, C, T, h3, _⟩ := (h.rows x hx').block hi hg'
     rw [e2, hmb] at h3; cases h3
   ·by_cases e : x = s
    ·subst e
     have hy' := hy.resolve_right (Ne.symm hxy)
     rw [if_pos rfl, if_neg (Ne.symm hxy)]
     have := hPlt y hy'; omega
    ·rw [if_neg e]
     have hx' := hx.resolve_right e
     by_cases e2 : y = s
     ·rw [if_pos e2]; have := hPlt x hx'; omega
     ·rw [if_neg e2]; exact h.inj x y hx' (hy.resolve_right e2) hxy
   ·by_cases e : x = s
    ·simp only [if_pos e] at hg'; cases hg'
    ·simp only [if_neg e] at hg'
     by_cases e2 : y = s
     ·simp only [if_pos e2]; intro h3; cases h3
     ·simp only [if_neg e2]; exact h.off x y (hx.resolve_right e) (hy.resolve_right e2) i j hi hj hxy g hg'
  have HF := Lib.hid hfin; have HBU := Lib.hid hbut
  have HRUN : Hid ((Instr.mapUpdate 93 (.map (some bm)) (.int .u32 (s : Int)) (.pointer (some ⟨w.heap.size, 0, none⟩))).run Tryz.prog (w.alloc (.cells #[.int .u32 (s : Int), .slice none 0 0, .slice none 0 0, .slice none 0 0, .slice none 0 0, .bool false, .string ⟨#[]⟩, .bool false, .bool false, .int .u64 0, .int .u64 0] 47)) = .ok () w2) := Lib.hid (by rw [← hW] at hrun; exact hrun)
  simp only [if_pos] at hl2
  have HL2 := Lib.hid hl2
  have HB3 := Lib.hid hby3
  clear h hmb hA hWr hby2 hg2 hbl2 hne hbut hbutW hold hPlt hfin hz hg hbW hl2 hrun hW hbyW hby3
  have hrun := HRUN.out; have hby3 := HB3.out; have hl2 := HL2.out
  go_enter Tryz.func29, Tryz.ntmps29
  go_wp2_with fail
  go_ret
  exact ⟨fun x => if x = s then w.heap.size else P x, _, show Ending.returned (.pointer (some ⟨w.heap.size, 0, none⟩)) = .returned (.pointer (some ⟨if s = s then w.heap.size else P s, 0, none⟩)) by rw [if_pos rfl], HF.out, HBU.out, fun i _ g hg => by simp only [if_pos] at hg; cases hg⟩
end Go.Proofs.YtggdkfijioeijaaGreatDoor
namespace Go.Proofs.YtggdkfijioeijaaGreatDoor
open Go Go.RowKit Go.Maps
def CollA {H : Type} (D0 : DataW H) (left : Lit → Bool) (ss : List Int) : Prop := ss.Nodup ∧ ∀ x, x ∈ ss ↔ (has D0 (kU x) = true ∧ left (kU x) = false)
theorem CollA.start {H : Type} (D0 : DataW H) : CollA D0 (has D0) [] := ⟨List.nodup_nil, fun x => by cases has D0 (kU x) <;> simp⟩
theorem CollA.step {H : Type} {D0 : DataW H} {left : Lit → Bool} {ss : List Int} (h : CollA D0 left ss) {x : Int} {y : DataW H} (hlk : left (kU x) = true) (hat : ∀ zd, D0.atKey (kU x) zd = y) : CollA D0 (fun z => left z && !z.sameKey (kU x)) (ss ++ [x]) := by
 refine ⟨List.nodup_append.2 ⟨h.1, by simp, fun a ha c hc e => ?_⟩, fun y' => ?_⟩
 ·have : c = x := by simpa using hc
  subst e; subst this
  have := ((h.2 a).1 ha).2
  rw [hlk] at this; cases this
 ·rw [List.mem_append, h.2 y']
  by_cases e : y' = x
  ·subst e
   simp [Lit.sameKey, Maps.has_true_of_atKey hat]
  ·have : (kU y').sameKey (kU x) = false := by simp [Lit.sameKey, e]
   simp [this, e]
set_option maxRecDepth 100000 in
set_option maxHeartbeats 1000000 in
theorem akeys1 {H : Type} (n : Nat) (hn : 1 ≤ n) (l Bm b nn : Nat) (D0 : DataW H) {R : Value → Option (DataW H × List MemPlace)} (J Jx : List Int → World → Prop)
    (hY : ∀ pre x W, J pre W → pre.length < Maps.size D0 → YieldAt Fence.wide (n - 1) Tryz.prog l #[.int .u32 x] W fun e W' =>
      (e = .returned (.bool true) ∧ J (pre ++ [x]) W' ∧ KeepsWalks W W') ∨ (e = .returned (.bool false) ∧ Jx (pre ++ [x]) W'))
    (W : World) (hJ : AbidesFrom W.heap.size J) (hm : W.cell? ⟨Bm, 0, none⟩ = some (.map (some b))) (hown : W.ownsMap Tryz.prog 28 R b nn D0) (h0 : J [] W) :
    CallsIn Fence.wide n Tryz.prog 94 #[.func (.yield l) #[] #[], .pointer (some ⟨Bm, 0, none⟩)] W fun e W' => (∃ v, e = .returned v) ∧
      ((∃ ss : List Int, (ss.Nodup ∧ (∀ x, x ∈ ss ↔ has D0 (kU x) = true) ∧ ss.length ≤ Maps.size D0) ∧ J ss W') ∨ (∃ pre : List Int, True ∧ Jx pre W')) := by
  refine callsIn_of_wp Tryz.func94 rfl trivial ?_ rfl
  simp only [Tryz.ntmps94, List.size_toArray, List.length_cons, List.length_nil, Nat.reduceAdd, Nat.reduceSub, Array.replicate_succ, Array.replicate_zero, List.push_toArray, List.append_toArray, List.nil_append, List.cons_append]
  gi_wp2_with (first
    | (gi_at_range; refine wpListIn_range_own _ rfl _ 93 rfl 28 94 (int_keyed Tryz.underlying28) Tryz.underlying93 _ b nn _ rfl hown ?_; intro w0 hrg0 hg0 hs0)
    | gi_in)
  go_frame
  gi_loopw [3] (fun _ wr => ∃ (left : Lit → Bool) (cnt : Nat) (ss : List Int), wr.ranges Tryz.prog 28 R b W.heap.size nn D0 left cnt ∧ ss.length + cnt ≤ Maps.size D0 ∧ CollA D0 left ss ∧ J ss wr)
    (fun _ wr => wr.rangeLeft b W.heap.size)
  case atStart =>
    exact ⟨_, _, [], hrg0, by simp, CollA.start D0, hJ [] W w0 none h0 hg0 (fun r e => by cases e)⟩
  case round =>
    obtain ⟨left, cnt, ss, hrg, hcs, hC, hJs⟩ := hrel
    gi_wp2_with (first
      | (gi_at_next; refine wpListIn_next_ranges _ rfl _ rfl 28 (int_keyed Tryz.underlying28) R (Value.int .u32) id (fun key kl hk => by obtain ⟨x, hx, _⟩ := Maps.keyOf_int_inv Tryz.underlying28 hk; exact ⟨x, hx⟩) (fun v _ _ => ⟨v, rfl⟩) b W.heap.size nn _ _ _ rfl hrg ?_ ?_)
      | gi_in)
    · intro hc0 hl0
      gi_wp2
      go_end0
      exact ⟨⟨_, rfl⟩, .inl ⟨ss, ⟨hC.1, fun x => by rw [hC.2 x, hl0]; simp, by omega⟩, hJs⟩⟩
    · intro x c kl yd yp w2 cnt2 hkey hlk hv hat hrg2 hlt hg2 hs2 hen
      obtain ⟨x', ex, rfl, _⟩ := Maps.keyOf_int_inv Tryz.underlying28 hkey
      obtain rfl : x = x' := by simpa using ex
      have hJ2 : J ss w2 := hJ ss wr w2 (some W.heap.size) hJs hg2 (fun r e => by cases e; exact ⟨Nat.le_refl _, hrg.iter_walk⟩)
      obtain ⟨fn, tmps, assign, body, hy, hR⟩ := hY ss x w2 hJ2 (by omega)
      clear hs2
      gi_wp2
      refine hR.mono ?_
      have hC2 := hC.step hlk hat
      rintro e W3 (⟨rfl, hJ3, hk3⟩ | ⟨rfl, hJx3⟩)
      · gi_wp2
        have hrg3 := hrg2.of_walks hk3
        go_roundw
        case rel => exact ⟨_, cnt2, ss ++ [x], hrg3, by simp; omega, hC2, hJ3⟩
        case measure => rw [hrg3.left_eq, hrg.left_eq]; exact hlt
      · gi_wp2
        refine bodyPost_ret (results_none rfl _ _ _) rfl ?_
        exact ⟨⟨_, rfl⟩, .inr ⟨ss ++ [x], trivial, hJx3⟩⟩
theorem akeys_stops {H : Type} (n : Nat) (hn : 1 ≤ n) (Bm b nn : Nat) (D0 : DataW H) {R : Value → Option (DataW H × List MemPlace)} (w : World) (hBm : Bm < w.heap.size)
  (hm : w.cell? ⟨Bm, 0, none⟩ = some (.map (some b))) (hown : w.ownsMap Tryz.prog 28 R b nn D0) :
  SeqStopsK Fence.wide n Tryz.prog 94 #[.pointer (some ⟨Bm, 0, none⟩)] (fun x : Int => #[Value.int .u32 x]) KeepsWalks (fun ss => ss.Nodup ∧ (∀ x, x ∈ ss ↔ has D0 (kU x) = true) ∧ ss.length ≤ Maps.size D0) (fun _ => True) (Maps.size D0) w := fun l J Jx W hW hJ _ hY h0 => by
 have hown' : W.ownsMap Tryz.prog 28 R b nn D0 := by
  have hbl := hown.lt
  obtain ⟨es, clock, hb, Ft, hs, hD⟩ := hown
  exact ⟨es, clock, (hW.block b hbl).trans hb, Ft, hs, hD⟩
 exact akeys1 n hn l Bm b nn D0 J Jx hY W hJ ((hW.cell (p := ⟨Bm, 0, none⟩) hBm).trans hm) hown' h0
set_option maxHeartbeats 1000000 in
theorem akeys_call (b : Option Nat) (w : World) :
  Calls Tryz.prog 68 #[.map b] w fun e w' => e = .returned (.func (.func 94) #[] #[.pointer (some ⟨w.heap.size, 0, none⟩)]) ∧ w' = w.alloc (.cells #[.map b] 93) := by
 go_enter Tryz.func68, Tryz.ntmps68
 go_wp2
 go_ret
 exact ⟨rfl, rfl⟩
set_option maxHeartbeats 1000000 in
theorem asks_sorted (W1 : World) (b Bm nn : Nat) (D : DataW Value) (hown : W1.ownsMap Tryz.prog 28 heldR b nn D) (hn : nn ≤ 1000000) (hne : ∃ x, has D (kU x) = true) (hBm : Bm < W1.heap.size) (hc : W1.cell? ⟨Bm, 0, none⟩ = some (.map (some b))) :
  Calls Tryz.prog 56 #[.func (.func 94) #[] #[.pointer (some ⟨Bm, 0, none⟩)]] W1 fun e W' => ∃ (bp cp : Nat) (ys : List Int), e = .returned (.slice (some ⟨bp, 0, none⟩) ys.length cp) ∧ ys.Nodup ∧ (∀ x, x ∈ ys ↔ has D (kU x) = true) ∧ ys.Pairwise (· ≤ ·) ∧ W1.heap.size ≤ bp ∧ IsInts .u32 W' (.slice (some ⟨bp, 0, none⟩) ys.length cp) ys ∧ ys.length ≤ Maps.size D ∧ Below W1.heap.size W1 W' := by
 have hk := akeys_stops 9 (by decide) Bm b nn D W1 hBm hc hown
 refine (uint32_sorted (enters_of Tryz.func94 (by kernel_rfl) rfl) hk walksK_t (fun W l o o' hl h h1 h2 => walksK_b (w := W1) W l o o' hl h h1 h2) (fun _ _ h _ => h.walks) (by have := hown.size_le; omega) (fun xs hx => ?_)).mono ?_
 ·obtain ⟨x, hx'⟩ := hne
  have := hown.size_le
  exact ⟨fun e => (by have := (hx.2.1 x).2 hx'; rw [e] at this; cases this), by have := hx.2.2; omega⟩
 ·rintro e W' ⟨bp, cp, xs, ys, rfl, ⟨h1, h2, h3⟩, hp, hs, hb, hi, hbel⟩
  exact ⟨bp, cp, ys, rfl, hp.nodup_iff.2 h1, fun x => (hp.mem_iff).trans (h2 x), hs, hb, hi, by rw [hp.length_eq]; exact h3, hbel⟩
end Go.Proofs.YtggdkfijioeijaaGreatDoor
namespace Go.Proofs.YtggdkfijioeijaaGreatDoor
open Go Go.RowKit
open Go.Maps (has size Keyed)
def IsAsks (w : World) (v : Value) (l : List Ask) : Prop :=
 ∃ a cp, v = .slice a l.length cp ∧ (l = [] ∨ ∃ b off, a = some ⟨b, off, none⟩ ∧ b < w.heap.size ∧ ∀ i, i < l.length → ∃ v1 v2 v3 v4, (∀ j u, (askV (l.getD i dAsk) v1 v2 v3 v4)[j]? = some u → w.cell? ⟨b, off + i * 11 + j, none⟩ = some u) ∧
  IsRds w v1 (l.getD i dAsk).reads ∧ IsIxs w v2 (l.getD i dAsk).readAt ∧ IsEds w v3 (l.getD i dAsk).edits ∧ IsIxs w v4 (l.getD i dAsk).editAt)
theorem IsAsks.below {w w' : World} {v : Value} {l : List Ask} {B : Nat} (h : IsAsks w v l) (hb : Below B w w') (hB : w.heap.size ≤ B) : IsAsks w' v l := by
 obtain ⟨a, cp, rfl, h⟩ := h
 refine ⟨a, cp, rfl, ?_⟩
 rcases h with h | ⟨b, off, rfl, hlt, hc⟩
 ·exact Or.inl h
 ·refine Or.inr ⟨b, off, rfl, by have := hb.size; omega, fun i hi => ?_⟩
  obtain ⟨v1, v2, v3, v4, h0, h1, h2, h3, h4⟩ := hc i hi
  exact ⟨v1, v2, v3, v4, fun j u hu => (hb.cell (p := ⟨b, off + i * 11 + j, none⟩) (by dsimp only; omega)).trans (h0 j u hu), h1.below hb hB, h2.below hb hB, h3.below hb hB, h4.below hb hB⟩
theorem RowsU.reads {B : Nat} {w : World} {V : Nat → Value} {A : Ask} (h : RowsU B w V A) : IsRds w (V 0) A.reads ∧ IsIxs w (V 1) A.readAt ∧ IsEds w (V 2) A.edits ∧ IsIxs w (V 3) A.editAt :=
 ⟨IsL.own rdC_len (by decide) _ h.r0, IsL.own ixC_len (by decide) _ h.r1, IsL.own edC_len (by decide) _ h.r2, IsL.own ixC_len (by decide) _ h.r3⟩
theorem infoAsk : (Tryz.prog.info? 47).map (fun i => (i.zero, i.size, i.bytes)) = some (some (.agg #[.int .u32 0, .slice none 0 0, .slice none 0 0, .slice none 0 0, .slice none 0 0, .bool false, .string ByteArray.empty, .bool false, .bool false, .int .u64 0, .int .u64 0]), 11, 152) := by kernel_rfl
def askCs (V : Nat → Nat → Value) (A : Nat → Ask) (s : Nat) : List Value := (askV (A s) (V s 0) (V s 1) (V s 2) (V s 3)).toList
theorem askCs_len (V : Nat → Nat → Value) (A : Nat → Ask) (s : Nat) : (askCs V A s).length = 11 := rfl
def AskedG (S : Nat → Prop) (A : Nat → Ask) (w : World) (e : Ending) (w' : World) : Prop :=
 ∃ (v : Value) (ss : List Nat), e = .returned v ∧ ss.Pairwise (· < ·) ∧ (∀ s, s ∈ ss ↔ S s) ∧ IsAsks w' v (ss.map A) ∧ Below w.heap.size w w'
theorem own_ones {w : World} {B e n k : Nat} {v : Value} {xs : List Value} (h : w.ownsRow B e k v n xs) : v.oneCell' = true := by
 obtain ⟨a, c, rfl⟩ : ∃ a c, v = .slice a n c := by
  rcases h.2 with ⟨hv, h0⟩ | ⟨g, cap, cur, hv, _⟩
  ·exact ⟨none, 0, by rw [hv, h0]⟩
  ·exact ⟨_, _, hv⟩
 rfl
theorem asked_end {B0 : Nat} {S : Nat → Prop} {P : Nat → Nat} {V : Nat → Nat → Value} {A : Nat → Ask} {N B bm : Nat} {W : World} {v : Value} {ss : List Nat} (h : AsksAt N B bm W S P V A) (hm : ∀ s ∈ ss, S s)
  (hr : W.ownsRow B0 47 11 v ss.length (ss.flatMap (askCs V A))) : IsAsks W v (ss.map A) := by
 have h1 := IsL.own (askCs_len V A) (by decide) 0 hr
 obtain ⟨a, cp, rfl, h2⟩ := h1
 refine ⟨a, cp, by rw [List.length_map], ?_⟩
 rcases h2 with h2 | ⟨b, off, rfl, hlt, hc⟩
 ·left; rw [h2]; rfl
 ·refine Or.inr ⟨b, off, rfl, hlt, fun i hi => ?_⟩
  rw [List.length_map] at hi
  have hg : (ss.map A).getD i dAsk = A (ss.getD i 0) := by
   rw [List.getD_eq_getElem?_getD, List.getD_eq_getElem?_getD, List.getElem?_map, List.getElem?_eq_getElem hi]; rfl
  have hms : ss.getD i 0 ∈ ss := by rw [List.getD_eq_getElem?_getD, List.getElem?_eq_getElem hi]; exact List.getElem_mem _
  rw [hg]
  obtain ⟨r1, r2, r3, r4⟩ := (h.rows _ (hm _ hms)).reads
  exact ⟨_, _, _, _, fun j u hu => hc i hi j u (by rw [askCs, Array.getElem?_toList]; exact hu), r1, r2, r3, r4⟩
set_option maxRecDepth 100000 in
set_option maxHeartbeats 4000000 in
theorem plan_asked (N B bm : Nat) (w : World) (S : Nat → Prop) (P : Nat → Nat) (V : Nat → Nat → Value) (A : Nat → Ask) (h : AsksAt N B bm w S P V A) (hN : N ≤ 100000) (hS : ∃ s, S s) (h32 : ∀ s, S s → s < 4294967296) :
  Calls Tryz.prog 30 #[.map (some bm)] w (AskedG S A w) := by
 obtain ⟨i0, hi, hz0, hz1, hz2⟩ := info_parts infoAsk
 obtain ⟨D, nn, ho, hnn, hh, _⟩ := h.map
 obtain ⟨W1, hW1⟩ : ∃ W1, w.alloc (.cells #[.map (some bm)] 93) = W1 := ⟨_, rfl⟩
 obtain ⟨hz1', hg1, hb1⟩ := alloc_keep hW1
 have HSO := Lib.hid (asks_sorted W1 bm w.heap.size nn D (ownsMap_below ho hb1) (by omega) (by obtain ⟨s, hs⟩ := hS; exact ⟨s, (hh _).2 ⟨s, hs, rfl⟩⟩) (by omega) (cell_of hg1 0))
 have HK := Lib.hid (akeys_call (some bm) w)
 rw [hW1] at HK
 have HH := Lib.hid h; have HHH := Lib.hid hh; have H32 := Lib.hid h32; have HB1 := Lib.hid hb1; have HI := Lib.hid hi; have HZ0 := Lib.hid hz0; have HZ1 := Lib.hid hz1; have HZ2 := Lib.hid hz2
 have hnn' : nn ≤ 100000 := by omega
 have HSZ := Lib.hid (ho.size_le)
 clear h ho hh hS h32 hW1 hz1' hg1 hb1 hi hz0 hz1 hz2 hnn
 go_enter Tryz.func30, Tryz.ntmps30
 go_wp2_with fail
 refine HK.out.mono ?_
 rintro e w1 ⟨rfl, rfl⟩
 go_wp2_with fail
 refine HSO.out.mono ?_
 rintro e w2 ⟨bp, cp, ys, rfl, hnd, hmem, hpw, hbp, hints, hyl0, hb2⟩
 have hb12 : Below w.heap.size w w2 := HB1.out.trans (hb2.mono HB1.out.size)
 have hA2 := HH.out.below hb12
 have hlen : ys.length ≤ 100000 := by have := HSZ.out; omega
 obtain ⟨ss, hys⟩ : ∃ ss : List Nat, ys = ss.map (fun s : Nat => (s : Int)) := ⟨ys.map Int.toNat, by
  rw [List.map_map]
  conv => lhs; rw [← List.map_id ys]
  refine List.map_congr_left fun x hx => ?_
  obtain ⟨s, _, rfl⟩ := (HHH.out x).1 ((hmem x).1 hx)
  simp⟩
 have hmS : ∀ s, s ∈ ss ↔ S s := fun s => by
  have h1 := hmem (s : Int)
  rw [HHH.out, hys, List.mem_map] at h1
  constructor
  ·intro hs
   obtain ⟨t, ht, e⟩ := h1.1 ⟨s, hs, rfl⟩
   have : s = t := by omega
   exact this ▸ ht
  ·intro hs
   obtain ⟨t, ht, e⟩ := h1.2 ⟨s, hs, rfl⟩
   have : t = s := by omega
   exact this ▸ ht
 have hrise : ss.Pairwise (· < ·) := by
  rw [hys] at hnd hpw
  rw [List.pairwise_map] at hpw
  rw [List.Nodup, List.pairwise_map] at hnd
  exact (hpw.and hnd).imp (fun h => by omega)
 obtain ⟨hpl, hcl⟩ : bp < w2.heap.size ∧ ∀ i, i < ss.length → w2.cell? ⟨bp, i, none⟩ = some (.int .u32 ((ss.getD i 0 : Nat) : Int)) := by
  rcases hints with ⟨h, _⟩ | ⟨b', o', c', h, h1, h2⟩
  ·cases h
  ·simp only [Value.slice.injEq, Option.some.injEq, Addr.mk.injEq, and_true] at h
   obtain ⟨⟨rfl, rfl⟩, _⟩ := h
   refine ⟨h1, fun i hi => ?_⟩
   have h3 := h2 i (by rw [hys, List.length_map]; exact hi)
   rw [Nat.zero_add] at h3
   rw [h3, hys]
   simp [List.getD_eq_getElem?_getD, hi]
 have hyl : ys.length = ss.length := by rw [hys, List.length_map]
 rw [hyl] at hlen
 rw [hyl]
 have HA2 := Lib.hid hA2; have HB12 := Lib.hid hb12; have HMS := Lib.hid hmS; have HR := Lib.hid hrise; have HPL := Lib.hid hpl; have HCL := Lib.hid hcl
 obtain ⟨n, hn⟩ : ∃ n, ss.length = n := ⟨_, rfl⟩
 rw [hn] at hlen HCL
 rw [hn]
 have HNN := Lib.hid hn
 clear hnd hmem hpw hbp hints hb2 hb12 hA2 hys hmS hrise hpl hcl hyl hn HSO HK
 go_wp2_with fail
 go_loopw [2, 9] (fun vl vi wr => ∃ k : Nat, k ≤ n ∧ vi = .int .i64 k ∧ (∃ a c, vl = .slice a k c) ∧ Hid (wr.ownsRow w2.heap.size 47 11 vl k ((ss.take k).flatMap (askCs V A))) ∧ Hid (Below w2.heap.size w2 wr)) (fun _ vi _ => n - (intOf vi).toNat)
 case atStart => exact ⟨0, Nat.zero_le _, rfl, ⟨none, 0, rfl⟩, Lib.hid (World.ownsRow_nil _ _ _ _), Lib.hid (Below.refl _ _)⟩
 case round =>
  obtain ⟨k, hk, rfl, ⟨al, cl, rfl⟩, HROW, HBW⟩ := hrel
  by_cases hlt : k < n
  ·obtain ⟨s, hs⟩ : ∃ s, ss.getD k 0 = s := ⟨_, rfl⟩
   have x0 : wr.cell? ⟨bp, k, none⟩ = some (.int .u32 (s : Int)) := by rw [← hs]; exact (HBW.out.cell (p := ⟨bp, k, none⟩) HPL.out).trans (HCL.out k hlt)
   have hsS : S s := (HMS.out s).1 (by rw [← hs, List.getD_eq_getElem?_getD, List.getElem?_eq_getElem (by rw [HNN.out]; exact hlt)]; exact List.getElem_mem _)
   have hAr := HA2.out.below HBW.out
   have hhit := hAr.map.hit s (H32.out s hsS) hsS
   have hblk := (hAr.blk s hsS).2
   have HTK := Lib.hid (show (ss.take (k + 1)).flatMap (askCs V A) = (ss.take k).flatMap (askCs V A) ++ askCs V A s by
    rw [List.take_succ_eq_append_getElem (by rw [HNN.out]; exact hlt), List.flatMap_append, ← hs, List.getD_eq_getElem?_getD, List.getElem?_eq_getElem (by rw [HNN.out]; exact hlt)]; simp)
   have HON := Lib.hid (And.intro (own_ones (hAr.rows s hsS).r0) (And.intro (own_ones (hAr.rows s hsS).r1) (And.intro (own_ones (hAr.rows s hsS).r2) (own_ones (hAr.rows s hsS).r3))))
   rw [show askCs V A s = (askV (A s) (V s 0) (V s 1) (V s 2) (V s 3)).toList from rfl] at HTK
   obtain ⟨As, hAs⟩ : ∃ As, A s = As := ⟨_, rfl⟩
   obtain ⟨v0, hv0⟩ : ∃ v, V s 0 = v := ⟨_, rfl⟩
   obtain ⟨v1, hv1⟩ : ∃ v, V s 1 = v := ⟨_, rfl⟩
   obtain ⟨v2, hv2⟩ : ∃ v, V s 2 = v := ⟨_, rfl⟩
   obtain ⟨v3, hv3⟩ : ∃ v, V s 3 = v := ⟨_, rfl⟩
   rw [hAs, hv0, hv1, hv2, hv3] at hblk HTK
   rw [hv0, hv1, hv2, hv3] at HON
   have c0 := cell_of hblk 0; have c1 := cell_of hblk 1; have c2 := cell_of hblk 2; have c3 := cell_of hblk 3; have c4 := cell_of hblk 4; have c5 := cell_of hblk 5; have c6 := cell_of hblk 6; have c7 := cell_of hblk 7; have c8 := cell_of hblk 8; have c9 := cell_of hblk 9; have c10 := cell_of hblk 10
   simp only [List.getElem?_toArray, List.getElem?_cons_succ, List.getElem?_cons_zero] at c0 c1 c2 c3 c4 c5 c6 c7 c8 c9 c10
   obtain ⟨p, hp⟩ : ∃ p, P s = p := ⟨_, rfl⟩
   rw [hp] at hhit c0 c1 c2 c3 c4 c5 c6 c7 c8 c9 c10
   have hki : (k : Int) < (n : Int) := by omega
   clear hs hsS hAr hblk hAs hv0 hv1 hv2 hv3 hp
   go_wp2_with (at_builtin; refine wpList_append_lies _ rfl (.tmp 13) (.tmp 19) 37 rfl w2.heap.size 47 i0 (.agg #[.int .u32 0, .slice none 0 0, .slice none 0 0, .slice none 0 0, .slice none 0 0, .bool false, .string ByteArray.empty, .bool false, .bool false, .int .u64 0, .int .u64 0]) 11 152 Tryz.underlying37 HI.out HZ0.out HZ1.out HZ2.out rfl (by decide) _ k ((ss.take k).flatMap (askCs V A)) rfl (ownBelow HROW.out ((Below.refl _ _).alloc (Nat.le_refl _) _)) ⟨wr.heap.size, 0, none⟩ 1 1 (askV As v0 v1 v2 v3).toList rfl rfl (World.news_of_block (MapKept.heap_alloc _ _).1) (by intro u hu; simp only [List.mem_cons, List.mem_nil_iff, or_false] at hu; rcases hu with rfl | rfl | rfl | rfl | rfl | rfl | rfl | rfl | rfl | rfl | rfl <;> first | rfl | exact HON.out.1 | exact HON.out.2.1 | exact HON.out.2.2.1 | exact HON.out.2.2.2) (by decide) (by unfold maxLen; omega) (by omega) ?hbase (wr.heap.size + 1) (by simp) ?go; (case hbase => have h1 := HBW.out.size; simp; omega); intro g8 cp8 w8 hown8 hg8 hat8 hlt8; have HO8 := Lib.hid hown8; have HB8 : Hid (Below w2.heap.size w2 w8) := Lib.hid ((HBW.out.alloc HBW.out.size _).grown hg8 (HBW.out.alloc HBW.out.size _).size (fun k hk => own_above2 HROW.out k hk)); clear hown8 hg8 hat8 hlt8)
   go_roundw
   case rel => exact ⟨k + 1, by omega, by go_num, ⟨_, _, rfl⟩, Lib.hid (by rw [HTK.out]; exact HO8.out), HB8⟩
   case measure => simp [intOf]; omega
  ·have hki : ¬ (k : Int) < (n : Int) := by omega
   have hkn : k = n := by omega
   have HAr := Lib.hid (HA2.out.below HBW.out)
   have HBF := Lib.hid (HB12.out.trans (HBW.out.mono HB12.out.size))
   have HRW : Hid (wr.ownsRow w2.heap.size 47 11 (.slice al k cl) ss.length (ss.flatMap (askCs V A))) := Lib.hid (by
    have h1 := HROW.out
    rw [List.take_of_length_le (by rw [HNN.out, hkn]; exact Nat.le_refl _)] at h1
    rw [HNN.out, ← hkn]; exact h1)
   clear hkn
   go_wp2_with fail
   go_ret
   exact ⟨_, ss, rfl, HR.out, HMS.out, asked_end HAr.out (fun s hs => (HMS.out s).1 hs) HRW.out, HBF.out⟩
end Go.Proofs.YtggdkfijioeijaaGreatDoor
namespace Go.Proofs.YtggdkfijioeijaaGreatDoor
open Go Go.RowKit Pth
abbrev callC (kind : Nat) (vR vE : Value) (pre : ByteArray) (f t tw : Nat) : Array Value := #[.int .u8 (kind : Int), vR, vE, .string pre, .int .u64 (f : Int), .int .u64 (t : Int), .int .u32 (tw : Int)]
theorem isl_shape {α : Type} {k : Nat} {C : α → List Value} {z : α} {w : World} {v : Value} {l : List α} (h : IsL k C z w v l) : ∃ a c, v = .slice a l.length c := by
 obtain ⟨a, c, rfl, _⟩ := h; exact ⟨a, c, rfl⟩
set_option maxRecDepth 100000 in
set_option maxHeartbeats 2000000 in
theorem may_ops (rds : List Rd) (eds : List Ed) (vR vE : Value) (pre : ByteArray) (f t tw : Nat) (w : World) (hR : IsRds w vR rds) (hE : IsEds w vE eds) (hm : MX w) (hsr : ∀ r ∈ rds, SmallRd r) (hse : ∀ x ∈ eds, SmallEd x)
  (h1 : 1 ≤ rds.length + eds.length) (h2 : rds.length + eds.length ≤ 16) (hb1 : rds.any badR = false) (hb2 : eds.any badE = false) (hb3 : eds.any longE = false) :
  Calls Tryz.prog 13 #[.agg (callC 1 vR vE pre f t tw)] w fun e w' => e = .returned (.int .i64 0) ∧ Below w.heap.size w w' := by
 obtain ⟨aR, cR, rfl⟩ := isl_shape hR
 obtain ⟨aE, cE, rfl⟩ := isl_shape hE
 have K1 := Lib.hid (fun (W : World) (hW : Below w.heap.size w W) => has_r rds _ W (hR.below hW (Nat.le_refl _)) (by omega) hsr (hm.below hW (Nat.le_refl _)))
 have K2 := Lib.hid (fun (W : World) (hW : Below w.heap.size w W) => has_e eds _ W (hE.below hW (Nat.le_refl _)) (by omega) hse (hm.below hW (Nat.le_refl _)))
 have K3 := Lib.hid (fun (W : World) (hW : Below w.heap.size w W) => has_l eds _ W (hE.below hW (Nat.le_refl _)) (by omega) hse (hm.below hW (Nat.le_refl _)))
 rw [hb1] at K1
 rw [hb2] at K2
 rw [hb3] at K3
 obtain ⟨nr, hnr⟩ : ∃ nr, rds.length = nr := ⟨_, rfl⟩
 obtain ⟨ne, hne⟩ : ∃ ne, eds.length = ne := ⟨_, rfl⟩
 rw [hnr] at K1 h1 h2 ⊢
 rw [hne] at K2 K3 h1 h2 ⊢
 have g1 : (1 : Int) ≤ (nr : Int) + (ne : Int) := by omega
 have g2 : (nr : Int) + (ne : Int) ≤ 16 := by omega
 clear hR hE hm hsr hse h1 h2 hb1 hb2 hb3 hnr hne
 obtain ⟨W0, hW0⟩ : ∃ W0, w.alloc (.cells (callC 1 (.slice aR nr cR) (.slice aE ne cE) pre f t tw) 30) = W0 := ⟨_, rfl⟩
 have hB0 : Below w.heap.size w W0 := by rw [← hW0]; exact (Below.refl _ _).alloc (Nat.le_refl _) _
 have hblk : W0.heap[w.heap.size]? = some (.cells (callC 1 (.slice aR nr cR) (.slice aE ne cE) pre f t tw) 30 (0, 0)) := by rw [← hW0]; exact (MapKept.heap_alloc _ _).1
 have hlt0 : w.heap.size < W0.heap.size := (Array.getElem?_eq_some_iff.1 hblk).1
 have KP := Lib.hid (fun (W : World) (h : Below W0.heap.size W0 W) => show W.cell? ⟨w.heap.size, 0, none⟩ = some (.int .u8 ((1 : Nat) : Int)) ∧ W.cell? ⟨w.heap.size, 1, none⟩ = some (.slice aR nr cR) ∧ W.cell? ⟨w.heap.size, 2, none⟩ = some (.slice aE ne cE) by
  have hb := (h.block _ hlt0).trans hblk
  exact ⟨cell_of hb 0, cell_of hb 1, cell_of hb 2⟩)
 obtain ⟨x0, x1, x2⟩ := KP.out W0 (Below.refl _ _)
 have HB0 := Lib.hid hB0
 clear hB0 hblk hlt0
 go_enter Tryz.func13, Tryz.ntmps13
 go_upto_region 1 with fail
 clear hW0
 go_wp2_with fail
 refine (K1.out W0 HB0.out).mono ?_
 rintro e w1 ⟨rfl, hb1⟩
 have HB1 := Lib.hid hb1
 obtain ⟨y0, y1, y2⟩ := KP.out w1 hb1
 clear hb1 x0 x1 x2 K1
 go_wp2_with fail
 have HB2 := Lib.hid (HB0.out.trans (HB1.out.mono HB0.out.size))
 refine (K2.out w1 HB2.out).mono ?_
 rintro e w2 ⟨rfl, hb2⟩
 have HB3 := Lib.hid (HB1.out.trans (hb2.mono HB1.out.size))
 obtain ⟨z0, z1, z2⟩ := KP.out w2 HB3.out
 clear hb2 y0 y1 y2 K2 HB2 HB1
 go_wp2_with fail
 have HB4 := Lib.hid (HB0.out.trans (HB3.out.mono HB0.out.size))
 refine (K3.out w2 HB4.out).mono ?_
 rintro e w3 ⟨rfl, hb3⟩
 have HB5 := Lib.hid (HB4.out.trans (hb3.mono HB4.out.size))
 clear hb3 z0 z1 z2
 go_wp2_with fail
 go_ret
 exact ⟨rfl, HB5.out⟩
set_option maxRecDepth 100000 in
set_option maxHeartbeats 2000000 in
theorem may_list (vR vE : Value) (pre : ByteArray) (f t tw : Nat) (w : World) (hm : MX w) (hs : pre.size ≤ 140737488351232) (_hR : vR.oneCell' = true) (_hE : vE.oneCell' = true) :
  Calls Tryz.prog 13 #[.agg (callC 2 vR vE pre f t tw)] w fun e w' => e = .returned (.int .i64 (if prefL pre.data.toList = true then 0 else 2)) ∧ Below w.heap.size w w' := by
 have K1 := Lib.hid (fun (W : World) (hW : Below w.heap.size w W) => path_prefix pre hs W (hm.below hW (Nat.le_refl _)))
 obtain ⟨b, hb⟩ : ∃ b, prefL pre.data.toList = b := ⟨_, rfl⟩
 rw [hb] at K1 ⊢
 clear hb hm hs
 obtain ⟨W0, hW0⟩ : ∃ W0, w.alloc (.cells (callC 2 vR vE pre f t tw) 30) = W0 := ⟨_, rfl⟩
 have hB0 : Below w.heap.size w W0 := by rw [← hW0]; exact (Below.refl _ _).alloc (Nat.le_refl _) _
 have hblk : W0.heap[w.heap.size]? = some (.cells (callC 2 vR vE pre f t tw) 30 (0, 0)) := by rw [← hW0]; exact (MapKept.heap_alloc _ _).1
 have x0 : W0.cell? ⟨w.heap.size, 0, none⟩ = some (.int .u8 ((2 : Nat) : Int)) := cell_of hblk 0
 have x3 : W0.cell? ⟨w.heap.size, 3, none⟩ = some (.string pre) := cell_of hblk 3
 have HB0 := Lib.hid hB0
 clear hB0 hblk
 go_enter Tryz.func13, Tryz.ntmps13
 go_upto_region 1 with fail
 clear hW0
 go_wp2_with fail
 refine (K1.out W0 HB0.out).mono ?_
 rintro e w1 ⟨rfl, hb1⟩
 have HB1 := Lib.hid (HB0.out.trans (hb1.mono HB0.out.size))
 clear hb1 x0 x3 K1
 cases b with
 | true =>
  go_wp2_with fail
  go_ret
  exact ⟨rfl, HB1.out⟩
 | false =>
  go_wp2_with fail
  go_ret
  exact ⟨rfl, HB1.out⟩
end Go.Proofs.YtggdkfijioeijaaGreatDoor
namespace Go.Proofs.YtggdkfijioeijaaGreatDoor
open Go Go.RowKit
def kP : List (Nat × Nat) := [(0, 0), (1, 1), (2, 2), (3, 3), (4, 4), (5, 5), (6, 6), (9, 9), (10, 10), (11, 11), (12, 12), (13, 13), (16, 16), (17, 17), (19, 18), (20, 19)]
theorem kP_apart : ∀ x ∈ kP, ∀ y ∈ kP, (x.1 = y.1 ↔ x.2 = y.2) := by decide
theorem kP_off : ∀ x ∈ kP, (x.1 ≠ 7 ∧ x.1 ≠ 8 ∧ x.1 ≠ 14 ∧ x.1 ≠ 15 ∧ x.1 ≠ 18 ∧ x.1 ≠ 21) ∧ x.2 ≠ 7 ∧ x.2 ≠ 8 ∧ x.2 ≠ 14 ∧ x.2 ≠ 15 := by decide
structure PD where
 p : Nat
 F1 : Nat
 F2 : Nat
 ix : Nat
 n : Nat
 n2 : Nat
 B : Nat
 k : Nat
 EL : TypeId
 C : Array Value
 v1 : Value
 v2 : Value
 xs : List Value
 ys : List Value
 news : List Value
 W : World
def PD.val (d : PD) (i : Nat) : Value :=
 if i = 4 ∨ i = 17 then .pointer (some ⟨d.p, d.F1, none⟩) else if i = 11 ∨ i = 20 then .pointer (some ⟨d.p, d.F2, none⟩) else if i = 5 then d.v1 else if i = 12 then d.v2 else if i = 6 then .agg d.news.toArray else if i = 13 then .int .i64 (d.ix : Int) else .pointer (some ⟨d.p, 0, none⟩)
structure PD.Ok (d : PD) : Prop where
 p : d.p < d.W.heap.size
 o1 : ∀ g, d.v1.ownBlock = some g → g < d.W.heap.size ∧ g ≠ d.p
 o2 : ∀ g, d.v2.ownBlock = some g → g < d.W.heap.size ∧ g ≠ d.p
 o12 : ∀ g, d.v1.ownBlock = some g → d.v2.ownBlock ≠ some g
 hB : d.B ≤ d.W.heap.size
def PD.but (d : PD) (j : Nat) : Prop := j = d.p ∨ d.v1.ownBlock = some j ∨ d.v2.ownBlock = some j
def RowP (W0 : Nat) (v : Value) (B : Nat) (EL : TypeId) (k n : Nat) (xs : List Value) (u : Value) (W' : World) : Prop := ∃ g c, u = .slice (some ⟨g, 0, none⟩) (n + 1) c ∧ W'.ownsRow B EL k u (n + 1) xs ∧ (v.ownBlock = some g ∨ W0 ≤ g) ∧ g < W'.heap.size
structure InvP (d : PD) (l : Nat → Bool) (f : Nat → Value) (W' : World) : Prop where
 but : ButS d.but d.W W'
 vals : ∀ i o, (i, o) ∈ kP → l i = true → f o = d.val i
 b1 : l 7 = true → ∃ q, f 7 = .slice (some ⟨q, 0, none⟩) 1 1 ∧ d.W.heap.size ≤ q ∧ q < W'.heap.size ∧ (l 8 = false → W'.heap[q]? = some (.cells d.news.toArray d.EL (0, 0)))
 b2 : l 14 = true → ∃ q, f 14 = .slice (some ⟨q, 0, none⟩) 1 1 ∧ d.W.heap.size ≤ q ∧ q < W'.heap.size ∧ (l 15 = false → W'.heap[q]? = some (.cells #[.int .i64 (d.ix : Int)] 3 (0, 0)))
 a1 : if l 8 = true then RowP d.W.heap.size d.v1 d.B d.EL d.k d.n (d.xs ++ d.news) (f 8) W' else W'.ownsRow d.B d.EL d.k d.v1 d.n d.xs
 a2 : if l 15 = true then RowP d.W.heap.size d.v2 d.B 3 1 d.n2 (d.ys ++ [.int .i64 (d.ix : Int)]) (f 15) W' else W'.ownsRow d.B 3 1 d.v2 d.n2 d.ys
 blk : W'.heap[d.p]? = some (.cells (if l 21 = true then (d.C.setIfInBounds d.F1 (f 8)).setIfInBounds d.F2 (f 15) else if l 18 = true then d.C.setIfInBounds d.F1 (f 8) else d.C) 47 (0, 0))
abbrev lPut (l : Nat → Bool) (i : Nat) : Nat → Bool := fun j => if j = i then true else l j
abbrev fPut (f : Nat → Value) (o : Nat) (v : Value) : Nat → Value := fun j => if j = o then v else f j
theorem lPut_ne {l : Nat → Bool} {i j : Nat} (h : j ≠ i) : lPut l i j = l j := if_neg h
theorem lPut_eq {l : Nat → Bool} {i : Nat} : lPut l i i = true := if_pos rfl
theorem fPut_ne {f : Nat → Value} {o j : Nat} {v : Value} (h : j ≠ o) : fPut f o v j = f j := if_neg h
theorem fPut_eq {f : Nat → Value} {o : Nat} {v : Value} : fPut f o v o = v := if_pos rfl
theorem InvP.put {d : PD} {l : Nat → Bool} {f : Nat → Value} {W' : World} (h : InvP d l f W') (i o : Nat) (hm : (i, o) ∈ kP) : InvP d (lPut l i) (fPut f o (d.val i)) W' := by
 obtain ⟨⟨n7, n8, n14, n15, n18, n21⟩, m7, m8, m14, m15⟩ := kP_off _ hm
 simp only at n7 n8 n14 n15 n18 n21 m7 m8 m14 m15
 refine ⟨h.but, fun i' o' hm' hl => ?_, ?_, ?_, ?_, ?_, ?_⟩
 ·by_cases e : i' = i
  ·subst e
   have : o' = o := (kP_apart _ hm' _ hm).1 rfl
   rw [this, fPut_eq]
  ·rw [lPut_ne e] at hl
   rw [fPut_ne (fun e2 => e ((kP_apart _ hm' _ hm).2 e2))]
   exact h.vals i' o' hm' hl
 ·rw [lPut_ne (Ne.symm n7), lPut_ne (Ne.symm n8), fPut_ne (Ne.symm m7)]; exact h.b1
 ·rw [lPut_ne (Ne.symm n14), lPut_ne (Ne.symm n15), fPut_ne (Ne.symm m14)]; exact h.b2
 ·rw [lPut_ne (Ne.symm n8), fPut_ne (Ne.symm m8)]; exact h.a1
 ·rw [lPut_ne (Ne.symm n15), fPut_ne (Ne.symm m15)]; exact h.a2
 ·rw [lPut_ne (Ne.symm n21), lPut_ne (Ne.symm n18), fPut_ne (Ne.symm m8), fPut_ne (Ne.symm m15)]; exact h.blk
theorem vals_off {d : PD} {l : Nat → Bool} {f : Nat → Value} (h : ∀ i o, (i, o) ∈ kP → l i = true → f o = d.val i) {i s : Nat} {v : Value} (hi : i = 7 ∨ i = 8 ∨ i = 14 ∨ i = 15 ∨ i = 18 ∨ i = 21) (hs : s = 7 ∨ s = 8 ∨ s = 14 ∨ s = 15) : ∀ i' o', (i', o') ∈ kP → lPut l i i' = true → fPut f s v o' = d.val i' := by
 intro i' o' hm hl
 obtain ⟨⟨n7, n8, n14, n15, n18, n21⟩, m7, m8, m14, m15⟩ := kP_off _ hm
 simp only at n7 n8 n14 n15 n18 n21 m7 m8 m14 m15
 rw [lPut_ne (fun e => by rcases hi with h | h | h | h | h | h <;> omega)] at hl
 rw [fPut_ne (fun e => by rcases hs with h | h | h | h <;> omega)]
 exact h i' o' hm hl
theorem vals_off' {d : PD} {l : Nat → Bool} {f : Nat → Value} (h : ∀ i o, (i, o) ∈ kP → l i = true → f o = d.val i) {i : Nat} (hi : i = 18 ∨ i = 21) : ∀ i' o', (i', o') ∈ kP → lPut l i i' = true → f o' = d.val i' := by
 intro i' o' hm hl
 obtain ⟨⟨n7, n8, n14, n15, n18, n21⟩, _⟩ := kP_off _ hm
 simp only at n7 n8 n14 n15 n18 n21
 rw [lPut_ne (fun e => by rcases hi with h | h <;> omega)] at hl
 exact h i' o' hm hl
theorem RowP.but {W0 : Nat} {v : Value} {B : Nat} {EL : TypeId} {k n : Nat} {xs : List Value} {u : Value} {W' W2 : World} {X : Nat → Prop} (h : RowP W0 v B EL k n xs u W') (hb : ButS X W' W2) (hX : ∀ g, (v.ownBlock = some g ∨ W0 ≤ g) → ¬ X g) : RowP W0 v B EL k n xs u W2 := by
 obtain ⟨g, c, rfl, h1, h2, h3⟩ := h
 exact ⟨g, c, rfl, row_but h1 hb (fun g' hg' => by
  have : g = g' := by simpa [Value.ownBlock] using hg'
  subst this; exact hX g h2), h2, Nat.lt_of_lt_of_le h3 hb.size⟩
section
variable {d : PD} {l : Nat → Bool} {f : Nat → Value} {W' : World}
theorem InvP.lt (h : InvP d l f W') (hd : d.Ok) : d.p < W'.heap.size := Nat.lt_of_lt_of_le hd.p h.but.size
theorem InvP.build1 (h : InvP d l f W') (hd : d.Ok) (h8 : l 8 = false) : InvP d (lPut l 7) (fPut f 7 (.slice (some ⟨W'.heap.size, 0, none⟩) 1 1)) (W'.alloc (.cells d.news.toArray d.EL)) := by
 have hb : ButS (fun _ => False) W' (W'.alloc (.cells d.news.toArray d.EL)) := ButS.of ((Below.refl _ _).alloc (Nat.le_refl _) _)
 have hs := h.but.size
 refine ⟨h.but.trans (hb.mono (fun _ h => h.elim)), vals_off h.vals (Or.inl rfl) (Or.inl rfl), fun _ => ⟨_, fPut_eq, hs, by simp, fun _ => (MapKept.heap_alloc _ _).1⟩, fun h14 => ?_, ?_, ?_, ?_⟩
 ·rw [lPut_ne (by decide)] at h14
  obtain ⟨q, e1, e2, e3, e4⟩ := h.b2 h14
  refine ⟨q, by rw [fPut_ne (by decide)]; exact e1, e2, by simp; omega, fun h15 => ?_⟩
  rw [lPut_ne (by decide)] at h15
  exact (hb.block q e3 id).trans (e4 h15)
 ·have h1 := h.a1
  rw [lPut_ne (by decide), h8]
  rw [h8] at h1
  exact row_but h1 hb (fun _ _ => id)
 ·have h1 := h.a2
  rw [lPut_ne (by decide), fPut_ne (by decide)]
  cases hl : l 15 with
  | true => rw [hl, if_pos rfl] at h1; rw [if_pos rfl]; exact h1.but hb (fun _ _ => id)
  | false => rw [hl] at h1; exact row_but h1 hb (fun _ _ => id)
 ·rw [lPut_ne (by decide), lPut_ne (by decide), fPut_ne (by decide), fPut_ne (by decide)]
  exact (hb.block d.p (h.lt hd) id).trans h.blk
theorem InvP.build2 (h : InvP d l f W') (hd : d.Ok) (h15 : l 15 = false) : InvP d (lPut l 14) (fPut f 14 (.slice (some ⟨W'.heap.size, 0, none⟩) 1 1)) (W'.alloc (.cells #[.int .i64 (d.ix : Int)] 3)) := by
 have hb : ButS (fun _ => False) W' (W'.alloc (.cells #[.int .i64 (d.ix : Int)] 3)) := ButS.of ((Below.refl _ _).alloc (Nat.le_refl _) _)
 have hs := h.but.size
 refine ⟨h.but.trans (hb.mono (fun _ h => h.elim)), vals_off h.vals (Or.inr (Or.inr (Or.inl rfl))) (Or.inr (Or.inr (Or.inl rfl))), fun h7 => ?_, fun _ => ⟨_, fPut_eq, hs, by simp, fun _ => (MapKept.heap_alloc _ _).1⟩, ?_, ?_, ?_⟩
 ·rw [lPut_ne (by decide)] at h7
  obtain ⟨q, e1, e2, e3, e4⟩ := h.b1 h7
  refine ⟨q, by rw [fPut_ne (by decide)]; exact e1, e2, by simp; omega, fun h8 => ?_⟩
  rw [lPut_ne (by decide)] at h8
  exact (hb.block q e3 id).trans (e4 h8)
 ·have h1 := h.a1
  rw [lPut_ne (by decide), fPut_ne (by decide)]
  cases hl : l 8 with
  | true => rw [hl, if_pos rfl] at h1; rw [if_pos rfl]; exact h1.but hb (fun _ _ => id)
  | false => rw [hl] at h1; exact row_but h1 hb (fun _ _ => id)
 ·have h1 := h.a2
  rw [lPut_ne (by decide), h15]
  rw [h15] at h1
  exact row_but h1 hb (fun _ _ => id)
 ·rw [lPut_ne (by decide), lPut_ne (by decide), fPut_ne (by decide), fPut_ne (by decide)]
  exact (hb.block d.p (h.lt hd) id).trans h.blk
theorem grown_but {W W2 : World} {o : Option Nat} (h : W.grownBy W2 o) : ButS (fun j => o = some j) W W2 := ⟨h.os, h.tape, h.output, h.size, fun k hk hn => h.block k hk (fun e => hn e.symm)⟩
theorem InvP.app1 (h : InvP d l f W') (hd : d.Ok) (h15 : l 15 = false) (h18 : l 18 = false) (h21 : l 21 = false) {g c : Nat} {W2 : World} (hown : W2.ownsRow d.B d.EL d.k (.slice (some ⟨g, 0, none⟩) (d.n + 1) c) (d.n + 1) (d.xs ++ d.news)) (hg : W'.grownBy W2 d.v1.ownBlock) (hat : d.v1.ownBlock = some g ∨ g = W'.heap.size) (hlt : g < W2.heap.size) :
  InvP d (lPut l 8) (fPut f 8 (.slice (some ⟨g, 0, none⟩) (d.n + 1) c)) W2 := by
 have hb := grown_but hg
 have hs := h.but.size
 refine ⟨h.but.trans (hb.mono (fun j hj => Or.inr (Or.inl hj))), vals_off h.vals (Or.inr (Or.inl rfl)) (Or.inr (Or.inl rfl)), fun h7 => ?_, fun h14 => ?_, ?_, ?_, ?_⟩
 ·rw [lPut_ne (by decide)] at h7
  obtain ⟨q, e1, e2, e3, e4⟩ := h.b1 h7
  exact ⟨q, by rw [fPut_ne (by decide)]; exact e1, e2, Nat.lt_of_lt_of_le e3 hb.size, fun h8 => by rw [lPut_eq] at h8; cases h8⟩
 ·rw [lPut_ne (by decide)] at h14
  obtain ⟨q, e1, e2, e3, e4⟩ := h.b2 h14
  refine ⟨q, by rw [fPut_ne (by decide)]; exact e1, e2, Nat.lt_of_lt_of_le e3 hb.size, fun _ => (hb.block q e3 (fun e => ?_)).trans (e4 h15)⟩
  have := (hd.o1 q e).1; omega
 ·rw [lPut_eq, if_pos rfl, fPut_eq]
  exact ⟨g, c, rfl, hown, hat.imp id (fun e => by omega), hlt⟩
 ·have h1 := h.a2
  rw [lPut_ne (by decide), h15]
  rw [h15] at h1
  exact row_but h1 hb (fun g' hg' e => hd.o12 g' e hg')
 ·rw [lPut_ne (by decide), lPut_ne (by decide), h18, h21]
  have h1 := h.blk
  rw [h18, h21] at h1
  exact (hb.block d.p (h.lt hd) (fun e => (hd.o1 _ e).2 rfl)).trans h1
theorem InvP.app2 (h : InvP d l f W') (hd : d.Ok) (h8 : l 8 = true) (h18 : l 18 = false) (h21 : l 21 = false) {g c : Nat} {W2 : World} (hown : W2.ownsRow d.B 3 1 (.slice (some ⟨g, 0, none⟩) (d.n2 + 1) c) (d.n2 + 1) (d.ys ++ [.int .i64 (d.ix : Int)])) (hg : W'.grownBy W2 d.v2.ownBlock) (hat : d.v2.ownBlock = some g ∨ g = W'.heap.size) (hlt : g < W2.heap.size) :
  InvP d (lPut l 15) (fPut f 15 (.slice (some ⟨g, 0, none⟩) (d.n2 + 1) c)) W2 := by
 have hb := grown_but hg
 have hs := h.but.size
 refine ⟨h.but.trans (hb.mono (fun j hj => Or.inr (Or.inr hj))), vals_off h.vals (Or.inr (Or.inr (Or.inr (Or.inl rfl)))) (Or.inr (Or.inr (Or.inr rfl))), fun h7 => ?_, fun h14 => ?_, ?_, ?_, ?_⟩
 ·rw [lPut_ne (by decide)] at h7
  obtain ⟨q, e1, e2, e3, e4⟩ := h.b1 h7
  exact ⟨q, by rw [fPut_ne (by decide)]; exact e1, e2, Nat.lt_of_lt_of_le e3 hb.size, fun h => by rw [lPut_ne (by decide), h8] at h; cases h⟩
 ·rw [lPut_ne (by decide)] at h14
  obtain ⟨q, e1, e2, e3, e4⟩ := h.b2 h14
  exact ⟨q, by rw [fPut_ne (by decide)]; exact e1, e2, Nat.lt_of_lt_of_le e3 hb.size, fun h => by rw [lPut_eq] at h; cases h⟩
 ·have h1 := h.a1
  rw [lPut_ne (by decide), h8, if_pos rfl, fPut_ne (by decide)]
  rw [h8, if_pos rfl] at h1
  refine h1.but hb (fun g' hg' e => ?_)
  rcases hg' with h2 | h2
  ·exact hd.o12 g' h2 e
  ·have := (hd.o2 g' e).1; omega
 ·rw [lPut_eq, if_pos rfl, fPut_eq]
  exact ⟨g, c, rfl, hown, hat.imp id (fun e => by omega), hlt⟩
 ·rw [lPut_ne (by decide), lPut_ne (by decide), h18, h21]
  have h1 := h.blk
  rw [h18, h21] at h1
  exact (hb.block d.p (h.lt hd) (fun e => (hd.o2 _ e).2 rfl)).trans h1
theorem InvP.rows_set (h : InvP d l f W') (hd : d.Ok) (h8 : l 8 = true) (h15 : l 15 = true) (F : Nat) (u : Value) : RowP d.W.heap.size d.v1 d.B d.EL d.k d.n (d.xs ++ d.news) (f 8) (W'.setCell ⟨d.p, F, none⟩ u) ∧ RowP d.W.heap.size d.v2 d.B 3 1 d.n2 (d.ys ++ [.int .i64 (d.ix : Int)]) (f 15) (W'.setCell ⟨d.p, F, none⟩ u) := by
 have hb : ButS (fun j => j = d.p) W' (W'.setCell ⟨d.p, F, none⟩ u) := ButS.set (S := fun j => j = d.p) W' (p := ⟨d.p, F, none⟩) rfl u
 have h1 := h.a1; have h2 := h.a2
 rw [h8, if_pos rfl] at h1
 rw [h15, if_pos rfl] at h2
 have hp := hd.p
 exact ⟨h1.but hb (fun g hg e => by rcases hg with h | h; exact (hd.o1 g h).2 e; omega), h2.but hb (fun g hg e => by rcases hg with h | h; exact (hd.o2 g h).2 e; omega)⟩
theorem InvP.set1 (h : InvP d l f W') (hd : d.Ok) (h8 : l 8 = true) (h15 : l 15 = true) (h18 : l 18 = false) (h21 : l 21 = false) : InvP d (lPut l 18) f (W'.setCell ⟨d.p, d.F1, none⟩ (f 8)) := by
 have hb : ButS (fun j => j = d.p) W' (W'.setCell ⟨d.p, d.F1, none⟩ (f 8)) := ButS.set (S := fun j => j = d.p) W' (p := ⟨d.p, d.F1, none⟩) rfl _
 obtain ⟨r1, r2⟩ := h.rows_set hd h8 h15 d.F1 (f 8)
 refine ⟨h.but.trans (hb.mono (fun j hj => Or.inl hj)), vals_off' h.vals (Or.inl rfl), fun h7 => ?_, fun h14 => ?_, ?_, ?_, ?_⟩
 ·rw [lPut_ne (by decide)] at h7
  obtain ⟨q, e1, e2, e3, e4⟩ := h.b1 h7
  exact ⟨q, e1, e2, Nat.lt_of_lt_of_le e3 hb.size, fun h => by rw [lPut_ne (by decide), h8] at h; cases h⟩
 ·rw [lPut_ne (by decide)] at h14
  obtain ⟨q, e1, e2, e3, e4⟩ := h.b2 h14
  exact ⟨q, e1, e2, Nat.lt_of_lt_of_le e3 hb.size, fun h => by rw [lPut_ne (by decide), h15] at h; cases h⟩
 ·rw [lPut_ne (by decide), h8, if_pos rfl]; exact r1
 ·rw [lPut_ne (by decide), h15, if_pos rfl]; exact r2
 ·rw [lPut_ne (by decide), lPut_eq, h21]
  have h1 := h.blk
  rw [h18, h21] at h1
  exact setCell_block h1 _
theorem InvP.set2 (h : InvP d l f W') (hd : d.Ok) (h8 : l 8 = true) (h15 : l 15 = true) (h18 : l 18 = true) (h21 : l 21 = false) : InvP d (lPut l 21) f (W'.setCell ⟨d.p, d.F2, none⟩ (f 15)) := by
 have hb : ButS (fun j => j = d.p) W' (W'.setCell ⟨d.p, d.F2, none⟩ (f 15)) := ButS.set (S := fun j => j = d.p) W' (p := ⟨d.p, d.F2, none⟩) rfl _
 obtain ⟨r1, r2⟩ := h.rows_set hd h8 h15 d.F2 (f 15)
 refine ⟨h.but.trans (hb.mono (fun j hj => Or.inl hj)), vals_off' h.vals (Or.inr rfl), fun h7 => ?_, fun h14 => ?_, ?_, ?_, ?_⟩
 ·rw [lPut_ne (by decide)] at h7
  obtain ⟨q, e1, e2, e3, e4⟩ := h.b1 h7
  exact ⟨q, e1, e2, Nat.lt_of_lt_of_le e3 hb.size, fun h => by rw [lPut_ne (by decide), h8] at h; cases h⟩
 ·rw [lPut_ne (by decide)] at h14
  obtain ⟨q, e1, e2, e3, e4⟩ := h.b2 h14
  exact ⟨q, e1, e2, Nat.lt_of_lt_of_le e3 hb.size, fun h => by rw [lPut_ne (by decide), h15] at h; cases h⟩
 ·rw [lPut_ne (by decide), h8, if_pos rfl]; exact r1
 ·rw [lPut_ne (by decide), h15, if_pos rfl]; exact r2
 ·rw [lPut_eq, if_pos rfl]
  have h1 := h.blk
  rw [h18, h21] at h1
  exact setCell_block h1 _
end
theorem InvP.put' {d : PD} {l : Nat → Bool} {f : Nat → Value} {W' : World} (h : InvP d l f W') (i o : Nat) (v : Value) (hv : v = d.val i) (hm : (i, o) ∈ kP) : InvP d (lPut l i) (fPut f o v) W' := by
 subst hv; exact h.put i o hm
def FsO (base : Array Value) (lo n : Nat) (f : Nat → Value) : Array Value := base.mapIdx fun i v => if lo ≤ i ∧ i < lo + n then f (i - lo) else v
theorem FsO_self (base : Array Value) (lo n : Nat) : base = FsO base lo n (fun o => base.getD (lo + o) undef) := by
 refine Array.ext_getElem? fun k => ?_
 simp only [FsO, Array.getElem?_mapIdx]
 cases h : base[k]? with
 | none => rfl
 | some v =>
  simp only [Option.map_some, Array.getD_eq_getD_getElem?]
  split
  ·rename_i h2
   rw [show lo + (k - lo) = k by omega, h]; rfl
  ·rfl
theorem FsO_in {base : Array Value} {lo n : Nat} {f : Nat → Value} (o : Nat) (h : lo + n ≤ base.size) (h1 : o < n) {v : Value} (hv : f o = v) : (FsO base lo n f).getD (lo + o) undef = v := by
 subst hv
 simp [FsO, Array.getD_eq_getD_getElem?, show lo + o < base.size by omega, h1]
theorem FsO_out {base : Array Value} {lo n : Nat} {f : Nat → Value} (k : Nat) (h : k < lo) {v : Value} (hv : base.getD k undef = v) : (FsO base lo n f).getD k undef = v := by
 subst hv
 simp only [FsO, Array.getD_eq_getD_getElem?, Array.getElem?_mapIdx, if_neg (show ¬ (lo ≤ k ∧ k < lo + n) by omega)]
 cases base[k]? <;> rfl
theorem FsO_set {base : Array Value} {lo n o : Nat} {f : Nat → Value} {v : Value} (h : o < n) : (FsO base lo n f).setIfInBounds (lo + o) v = FsO base lo n (fPut f o v) := by
 refine Array.ext_getElem? fun i => ?_
 simp only [FsO, Array.getElem?_mapIdx, Array.getElem?_setIfInBounds, Array.size_mapIdx]
 by_cases e : lo + o = i
 ·subst e
  by_cases hk : lo + o < base.size
  ·simp [hk, h]
  ·simp [hk]
 ·rw [if_neg e]
  cases base[i]? with
  | none => rfl
  | some x =>
   simp only [Option.map_some]
   by_cases h2 : lo ≤ i ∧ i < lo + n
   ·rw [if_pos h2, if_pos h2, fPut_ne (by omega)]
   ·rw [if_neg h2, if_neg h2]
theorem FsO_nil (base : Array Value) (lo : Nat) (f : Nat → Value) : FsO base lo 0 f = base := by
 refine Array.ext_getElem? fun i => ?_
 simp only [FsO, Array.getElem?_mapIdx]
 cases base[i]? with
 | none => rfl
 | some x => simp only [Option.map_some]; rw [if_neg (by omega)]
theorem FsO_succ (base : Array Value) (lo n : Nat) (f : Nat → Value) : FsO base lo (n + 1) f = (FsO base lo n f).setIfInBounds (lo + n) (f n) := by
 refine Array.ext_getElem? fun i => ?_
 simp only [FsO, Array.getElem?_mapIdx, Array.getElem?_setIfInBounds, Array.size_mapIdx]
 by_cases e : lo + n = i
 ·subst e
  by_cases hk : lo + n < base.size
  ·simp [hk]
  ·simp [hk]
 ·rw [if_neg e]
  cases base[i]? with
  | none => rfl
  | some x =>
   simp only [Option.map_some]
   by_cases h2 : lo ≤ i ∧ i < lo + n
   ·rw [if_pos h2, if_pos ⟨h2.1, by omega⟩]
   ·rw [if_neg h2, if_neg (by omega)]
theorem clsd_put {ops : Array Oper} {l : Nat → Bool} {i : Nat} {o : Oper} (h : Clsd ops l) (ho : ops[i]? = some o) (hdep : ∀ e ∈ o.after, Region.binds .any e = true → l e.on = true) : Clsd ops (fun j => if j = i then true else l j) := by
 intro j o' ho' hl e he hb
 by_cases e1 : j = i
 ·subst e1
  rw [ho] at ho'
  cases ho'
  have := hdep e he hb
  by_cases e2 : e.on = j
  ·exact if_pos e2
  ·exact (if_neg e2).trans this
 ·have hl2 : l j = true := (if_neg e1).symm.trans hl
  have := h j o' ho' hl2 e he hb
  by_cases e2 : e.on = i
  ·exact if_pos e2
  ·exact (if_neg e2).trans this
theorem ready_nil' {md : Region.Mode} {ops : Array Oper} {l : Array Bool} (hsz : l.size = ops.size) (hlex : ∀ (i : Nat) (o : Oper), ops[i]? = some o → ∀ e ∈ o.after, Region.binds md e = true → e.on < i) (h : Region.ready md ops l = []) : ∀ i, i < ops.size → l.getD i false = true := by
 intro i
 induction i using Nat.strongRecOn with
 | ind i ih =>
  intro hi
  cases hl : l.getD i false with
  | true => rfl
  | false =>
   exfalso
   have : i ∈ Region.ready md ops l := by
    unfold Region.ready
    refine List.mem_filter.2 ⟨by simpa using hi, ?_⟩
    rw [getD_in (by omega) true false, hl, Array.getElem?_eq_getElem hi]
    simp only [Bool.not_false, Bool.true_and, Option.map_some, Option.getD_some, Array.all_eq_true_iff_forall_mem, Bool.or_eq_true, Bool.not_eq_true']
    intro e he
    cases hb : Region.binds md e with
    | false => exact Or.inl rfl
    | true =>
     right
     have hlt := hlex i ops[i] (Array.getElem?_eq_getElem hi) e he hb
     exact ih e.on hlt (by omega)
   rw [h] at this; cases this
theorem wpAny_each' {P : Program} {md : Region.Mode} {ops : Array Oper} {Q : Exit → Act → World → Prop} (Inv : Array Bool → Act → World → Prop)
  (hsz : ∀ l a w, Inv l a w → l.size = ops.size) (hlex : ∀ (i : Nat) (o : Oper), ops[i]? = some o → ∀ e ∈ o.after, Region.binds md e = true → e.on < i)
  (hstep : ∀ l a w i, Inv l a w → i ∈ Region.ready md ops l → ∀ K : Act → World → Prop, (∀ a' w', Inv (l.setIfInBounds i true) a' w' → K a' w') → wpOp P ops Q i K a w)
  (hfin : ∀ l a w, (∀ i, i < ops.size → l.getD i false = true) → Inv l a w → Q .normal a w) : ∀ (fuel : Nat) (l : Array Bool) (a : Act) (w : World), unl l ≤ fuel → Inv l a w → wpAny P md ops Q fuel l a w
 | 0, l, a, w, hf, hI => by
  have hr : Region.ready md ops l = [] := by
   cases hc : Region.ready md ops l with
   | nil => rfl
   | cons i r =>
    exfalso
    obtain ⟨o, _, h1, _⟩ := ready_mem (md := md) (ops := ops) (l := l) (i := i) (by rw [hc]; simp)
    rw [unl_zero (by omega)] at h1; cases h1
  exact ⟨hr, hfin l a w (ready_nil' (hsz l a w hI) hlex hr) hI⟩
 | fuel + 1, l, a, w, hf, hI => by
  refine ⟨fun hr => hfin l a w (ready_nil' (hsz l a w hI) hlex hr) hI, fun i hi => ?_⟩
  obtain ⟨o, _, h1, _⟩ := ready_mem hi
  exact hstep l a w i hI hi _ (fun a' w' hI' => wpAny_each' Inv hsz hlex hstep hfin fuel _ a' w' (by have := unl_set h1; omega) hI')
theorem wp_region_each' {P : Program} {id : Nat} {ops : Array Oper} {Q : Exit → Act → World → Prop} {a : Act} {w : World} (hm : P.follows .mixedOrders = true)
    (Inv : Array Value → (Nat → Bool) → Array Value → World → Prop) (hlex : ∀ (i : Nat) (o : Oper), ops[i]? = some o → ∀ e ∈ o.after, Region.binds .any e = true → e.on < i)
    (h0 : Inv a.tmps (fun _ => false) a.tmps { w with drawn := w.drawn + 1 })
    (hstep : ∀ (l : Nat → Bool) (t : Array Value) (w : World) (i : Nat) (o : Oper), Inv a.tmps l t w → ops[i]? = some o → l i = false → (∀ e ∈ o.after, Region.binds .any e = true → l e.on = true) →
      ∀ (K : Act → World → Prop) (Q : Exit → Act → World → Prop), (∀ t' w', Inv a.tmps (fun j => if j = i then true else l j) t' w' → K { tmps := t', defers := a.defers } w') → Region.wanted o (yielded ops t) = true ∧ Oper.wp P o { tmps := t, defers := a.defers } w K Q)
    (hfin : ∀ l t w, (∀ i, i < ops.size → l i = true) → Inv a.tmps l t w → Q .normal { tmps := t, defers := a.defers } w) : (Code.region id ops true).wp P Q a w := by
  refine wp_region_any hm (wpAny_each' (fun l a' w' => l.size = ops.size ∧ a'.defers = a.defers ∧ Inv a.tmps (fun i => l.getD i false) a'.tmps w') (fun l a w h => h.1) hlex ?_ ?_ _ _ _ _ ?_ ⟨by simp, rfl, ?_⟩)
  · rintro l ⟨t, d⟩ w' i ⟨hs, hd, hI⟩ hi K hK
    simp only at hd hI
    subst hd
    obtain ⟨o, ho, h1, h2⟩ := ready_mem hi
    have hil : i < ops.size := (Array.getElem?_eq_some_iff.1 ho).1
    obtain ⟨g1, g2⟩ := hstep (fun i => l.getD i false) t w' i o hI ho (by rw [getD_in (by omega) false true]; exact h1) h2 K Q (fun t' w'' hI' => hK _ _ ⟨by simpa using hs, rfl, by
      have : (fun j => (l.setIfInBounds i true).getD j false) = (fun j => if j = i then true else l.getD j false) := by
        funext j
        by_cases e : j = i
        · subst e; simp [hs, hil]
        · simp only [if_neg e, Array.getD_eq_getD_getElem?, Array.getElem?_setIfInBounds, if_neg (Ne.symm e)]
      rw [this]; exact hI'⟩)
    unfold wpOp
    rw [ho]
    show if Region.wanted o (yielded ops t) = true then _ else _
    rw [if_pos g1]
    exact Or.inl g2
  · rintro l ⟨t, d⟩ w' hall ⟨hs, hd, hI⟩
    simp only at hd hI
    subst hd
    exact hfin _ t w' hall hI
  · unfold unl
    refine Nat.le_trans (List.length_filter_le _ _) ?_
    simp
  · have : (fun i => (Array.replicate ops.size false).getD i false) = fun _ => false := by
      funext i
      simp only [Array.getD_eq_getD_getElem?, Array.getElem?_replicate]
      split <;> rfl
    rw [this]; exact h0
theorem wp_region_eachC {P : Program} {id : Nat} {ops : Array Oper} {Q : Exit → Act → World → Prop} {a : Act} {w : World} (hm : P.follows .mixedOrders = true)
    (Inv : Array Value → (Nat → Bool) → Array Value → World → Prop) (hlex : ∀ (i : Nat) (o : Oper), ops[i]? = some o → ∀ e ∈ o.after, Region.binds .any e = true → e.on < i)
    (h0 : Inv a.tmps (fun _ => false) a.tmps { w with drawn := w.drawn + 1 })
    (hstep : ∀ (l : Nat → Bool) (t : Array Value) (w : World) (i : Nat) (o : Oper), Inv a.tmps l t w → ops[i]? = some o → l i = false → (∀ e ∈ o.after, Region.binds .any e = true → l e.on = true) → Clsd ops l →
      ∀ (K : Act → World → Prop) (Q : Exit → Act → World → Prop), (∀ t' w', Inv a.tmps (lPut l i) t' w' → K { tmps := t', defers := a.defers } w') → Region.wanted o (yielded ops t) = true ∧ Oper.wp P o { tmps := t, defers := a.defers } w K Q)
    (hfin : ∀ l t w, (∀ i, i < ops.size → l i = true) → Inv a.tmps l t w → Q .normal { tmps := t, defers := a.defers } w) : (Code.region id ops true).wp P Q a w :=
  wp_region_each' hm (fun b l t w => Clsd ops l ∧ Inv b l t w) hlex ⟨fun _ _ _ h => (by cases h), h0⟩
    (fun l t w i o ⟨hc, hI⟩ ho hli hdep K Q hK => hstep l t w i o hI ho hli hdep hc K Q (fun t' w' h => hK t' w' ⟨clsd_put hc ho hdep, h⟩))
    (fun l t w hall ⟨_, h⟩ => hfin l t w hall h)
theorem no_of {a b : Bool} (h : a = true → b = true) (hb : b = false) : a = false := by
 cases a with
 | false => rfl
 | true => rw [h rfl] at hb; cases hb
end Go.Proofs.YtggdkfijioeijaaGreatDoor
namespace Go.Proofs.YtggdkfijioeijaaGreatDoor
open Go Go.RowKit Pth
def Vn (V : Nat → Value) (i1 i2 : Nat) (u1 u2 : Value) : Nat → Value := fun i => if i = i1 then u1 else if i = i2 then u2 else V i
section
variable {N B bm : Nat} {W W' : World} {S : Nat → Prop} {P : Nat → Nat} {V : Nat → Nat → Value} {A : Nat → Ask}
theorem AsksAt.own_ne (h : AsksAt N B bm W S P V A) {x : Nat} (hx : S x) {i : Nat} (hi : i < 4) {g : Nat} (hg : (V x i).ownBlock = some g) : g ≠ bm ∧ ∀ y, S y → g ≠ P y := by
 obtain ⟨_, C, e, hb, he⟩ := (h.rows x hx).block hi hg
 obtain ⟨es, c, hm⟩ := h.map_block
 refine ⟨fun e2 => ?_, fun y hy e2 => ?_⟩
 ·rw [e2, hm] at hb; cases hb
 ·rw [e2, (h.blk y hy).2] at hb
  injection hb with hb
  injection hb with _ hb
  exact he hb.symm
theorem AsksAt.own_lt (h : AsksAt N B bm W S P V A) {x : Nat} (hx : S x) {i : Nat} (hi : i < 4) {g : Nat} (hg : (V x i).ownBlock = some g) : g < W.heap.size := by
 obtain ⟨_, C, e, hb, _⟩ := (h.rows x hx).block hi hg
 exact (Array.getElem?_eq_some_iff.1 hb).1
theorem AsksAt.P_ne (h : AsksAt N B bm W S P V A) {x : Nat} (hx : S x) : P x ≠ bm := fun e => by
 obtain ⟨es, c, hm⟩ := h.map_block
 have := (h.blk x hx).2
 rw [e, hm] at this; cases this
theorem AsksAt.more (h : AsksAt N B bm W S P V A) {s : Nat} (hs : S s) {i1 i2 : Nat} (hi1 : i1 < 4) (hi2 : i2 < 4) {u1 u2 : Value} {A1 : Ask}
  (hb : ButS (fun j => j = P s ∨ (V s i1).ownBlock = some j ∨ (V s i2).ownBlock = some j) W W')
  (hblk : W'.heap[P s]? = some (.cells (askV A1 (Vn (V s) i1 i2 u1 u2 0) (Vn (V s) i1 i2 u1 u2 1) (Vn (V s) i1 i2 u1 u2 2) (Vn (V s) i1 i2 u1 u2 3)) 47 (0, 0)))
  (hrows : RowsU B W' (Vn (V s) i1 i2 u1 u2) A1)
  (h1 : ∀ g, u1.ownBlock = some g → (V s i1).ownBlock = some g ∨ W.heap.size ≤ g) (h2 : ∀ g, u2.ownBlock = some g → (V s i2).ownBlock = some g ∨ W.heap.size ≤ g) (hne : ∀ g, u1.ownBlock = some g → u2.ownBlock ≠ some g) :
  AsksAt N B bm W' S P (fun x => if x = s then Vn (V s) i1 i2 u1 u2 else V x) (fun x => if x = s then A1 else A x) := by
 have hX : ∀ j, (∀ y, S y → j ≠ P y) → (∀ i, i < 4 → (V s i).ownBlock ≠ some j) → ¬ (j = P s ∨ (V s i1).ownBlock = some j ∨ (V s i2).ownBlock = some j) := fun j ha hb2 hc => by
  rcases hc with hc | hc | hc
  ·exact ha s hs hc
  ·exact hb2 i1 hi1 hc
  ·exact hb2 i2 hi2 hc
 have hown : ∀ i, i < 4 → ∀ g, (Vn (V s) i1 i2 u1 u2 i).ownBlock = some g → (∃ j, j < 4 ∧ (V s j).ownBlock = some g ∧ j = i) ∨ (W.heap.size ≤ g ∧ (i = i1 ∨ i = i2)) := fun i hi g hg => by
  unfold Vn at hg
  by_cases e1 : i = i1
  ·rw [if_pos e1] at hg
   rcases h1 g hg with h | h
   ·exact Or.inl ⟨i1, hi1, h, e1.symm⟩
   ·exact Or.inr ⟨h, Or.inl e1⟩
  ·rw [if_neg e1] at hg
   by_cases e2 : i = i2
   ·rw [if_pos e2] at hg
    rcases h2 g hg with h | h
    ·exact Or.inl ⟨i2, hi2, h, e2.symm⟩
    ·exact Or.inr ⟨h, Or.inr e2⟩
   ·rw [if_neg e2] at hg
    exact Or.inl ⟨i, hi, hg, rfl⟩
 refine ⟨?_, fun x hx => ?_, fun x hx => ?_, h.inj, fun x y hx hy i j hi hj hxy g hg => ?_⟩
 ·refine h.map.but hb (fun hc => ?_)
  rcases hc with hc | hc | hc
  ·exact h.P_ne hs hc.symm
  ·exact (h.own_ne hs hi1 hc).1 rfl
  ·exact (h.own_ne hs hi2 hc).1 rfl
 ·by_cases e : x = s
  ·subst e; simp only [if_pos]; exact ⟨(h.blk x hx).1, hblk⟩
  ·simp only [if_neg e]
   refine ⟨(h.blk x hx).1, (hb.block _ (Array.getElem?_eq_some_iff.1 (h.blk x hx).2).1 (fun hc => ?_)).trans (h.blk x hx).2⟩
   rcases hc with hc | hc | hc
   ·exact h.inj x s hx hs e hc
   ·exact (h.own_ne hs hi1 hc).2 x hx rfl
   ·exact (h.own_ne hs hi2 hc).2 x hx rfl
 ·by_cases e : x = s
  ·subst e; simp only [if_pos]; exact hrows
  ·simp only [if_neg e]
   refine (h.rows x hx).but hb (fun i hi g hg hc => ?_)
   rcases hc with hc | hc | hc
   ·exact (h.own_ne hx hi hg).2 s hs hc
   ·exact h.off x s hx hs i i1 hi hi1 (Or.inl e) g hg hc
   ·exact h.off x s hx hs i i2 hi hi2 (Or.inl e) g hg hc
 ·by_cases e : x = s
  ·simp only [if_pos e] at hg
   by_cases e2 : y = s
   ·simp only [if_pos e2]
    have hij : i ≠ j := by rcases hxy with h | h; exact absurd (e.trans e2.symm) h; exact h
    intro hg2
    rcases hown i hi g hg with ⟨a, ha, hga, rfl⟩ | ⟨hga, hia⟩
    ·rcases hown j hj g hg2 with ⟨b, hb2, hgb, rfl⟩ | ⟨hgb, _⟩
     ·exact h.off s s hs hs a b ha hb2 (Or.inr hij) g hga hgb
     ·have := h.own_lt hs ha hga; omega
    ·rcases hown j hj g hg2 with ⟨b, hb2, hgb, rfl⟩ | ⟨hgb, hjb⟩
     ·have := h.own_lt hs hb2 hgb; omega
     ·unfold Vn at hg hg2
      rcases hia with rfl | rfl
      ·rcases hjb with rfl | rfl
       ·exact hij rfl
       ·rw [if_pos rfl] at hg
        rw [if_neg (Ne.symm hij), if_pos rfl] at hg2
        exact hne g hg hg2
      ·rcases hjb with rfl | rfl
       ·rw [if_pos rfl] at hg2
        rw [if_neg hij, if_pos rfl] at hg
        exact hne g hg2 hg
       ·exact hij rfl
   ·simp only [if_neg e2]
    intro hg2
    rcases hown i hi g hg with ⟨a, ha, hga, rfl⟩ | ⟨hga, _⟩
    ·exact h.off s y hs hy a j ha hj (Or.inl (Ne.symm e2)) g hga hg2
    ·have := h.own_lt hy hj hg2; omega
  ·simp only [if_neg e] at hg
   by_cases e2 : y = s
   ·simp only [if_pos e2]
    intro hg2
    rcases hown j hj g hg2 with ⟨b, hb2, hgb, rfl⟩ | ⟨hgb, _⟩
    ·exact h.off x s hx hs i b hi hb2 (Or.inl e) g hg hgb
    ·have := h.own_lt hx hi hg; omega
   ·simp only [if_neg e2]
    exact h.off x y hx hy i j hi hj hxy g hg
end
theorem rowP_own {W0 : Nat} {v : Value} {B : Nat} {EL : TypeId} {k n : Nat} {xs : List Value} {u : Value} {W' : World} (h : RowP W0 v B EL k n xs u W') : W'.ownsRow B EL k u (n + 1) xs ∧ ∀ g, u.ownBlock = some g → v.ownBlock = some g ∨ W0 ≤ g := by
 obtain ⟨g, c, rfl, h1, h2, _⟩ := h
 exact ⟨h1, fun g' hg' => by
  have : g = g' := by simpa [Value.ownBlock] using hg'
  subst this; exact h2⟩
theorem AsksAt.read {N B bm : Nat} {W W' : World} {S : Nat → Prop} {P : Nat → Nat} {V : Nat → Nat → Value} {A : Nat → Ask} (h : AsksAt N B bm W S P V A) {s ix : Nat} (hs : S s) (r : Rd) {l : Nat → Bool} {f : Nat → Value} {d : PD}
  (hd : d = ⟨P s, 1, 2, ix, (A s).reads.length, (A s).readAt.length, B, 2, 56, askV (A s) (V s 0) (V s 1) (V s 2) (V s 3), V s 0, V s 1, (A s).reads.flatMap rdC, (A s).readAt.flatMap ixC, rdC r, W⟩) (hI : InvP d l f W') (h8 : l 8 = true) (h15 : l 15 = true) (h21 : l 21 = true) :
  ∃ V', AsksAt N B bm W' S P V' (fun x => if x = s then { A s with reads := (A s).reads ++ [r], readAt := (A s).readAt ++ [ix] } else A x) := by
 subst hd
 have a1 := hI.a1; have a2 := hI.a2; have hblk := hI.blk
 rw [h8, if_pos rfl] at a1
 rw [h15, if_pos rfl] at a2
 rw [h21, if_pos rfl] at hblk
 obtain ⟨r1, o1⟩ := rowP_own a1
 obtain ⟨r2, o2⟩ := rowP_own a2
 have hrs := h.rows s hs
 have hX : ∀ i, i = 2 ∨ i = 3 → ∀ g, (V s i).ownBlock = some g → ¬ PD.but ⟨P s, 1, 2, ix, (A s).reads.length, (A s).readAt.length, B, 2, 56, askV (A s) (V s 0) (V s 1) (V s 2) (V s 3), V s 0, V s 1, (A s).reads.flatMap rdC, (A s).readAt.flatMap ixC, rdC r, W⟩ g := fun i hi g hg hc => by
  have hi4 : i < 4 := by omega
  rcases hc with hc | hc | hc
  ·exact (h.own_ne hs hi4 hg).2 s hs hc
  ·exact h.off s s hs hs i 0 hi4 (by decide) (Or.inr (by omega)) g hg hc
  ·exact h.off s s hs hs i 1 hi4 (by decide) (Or.inr (by omega)) g hg hc
 refine ⟨_, h.more hs (i1 := 0) (i2 := 1) (by decide) (by decide) (u1 := f 8) (u2 := f 15) hI.but hblk ?_ o1 o2 (fun g hg hg2 => ?_)⟩
 ·refine ⟨?_, ?_, row_but hrs.r2 hI.but (hX 2 (Or.inl rfl)), row_but hrs.r3 hI.but (hX 3 (Or.inr rfl))⟩
  ·show W'.ownsRow B 56 2 (f 8) ((A s).reads ++ [r]).length (((A s).reads ++ [r]).flatMap rdC)
   rw [List.length_append, flat_snoc]; exact r1
  ·show W'.ownsRow B 3 1 (f 15) ((A s).readAt ++ [ix]).length (((A s).readAt ++ [ix]).flatMap ixC)
   rw [List.length_append, flat_snoc]; exact r2
 ·obtain ⟨_, C1, e1⟩ := own_block r1 hg
  obtain ⟨_, C2, e2⟩ := own_block r2 hg2
  rw [e1] at e2
  injection e2 with e2
  injection e2 with _ e2
  exact absurd e2 (show ¬ ((56 : TypeId) = 3) by decide)
theorem AsksAt.edit {N B bm : Nat} {W W' : World} {S : Nat → Prop} {P : Nat → Nat} {V : Nat → Nat → Value} {A : Nat → Ask} (h : AsksAt N B bm W S P V A) {s ix : Nat} (hs : S s) (r : Ed) {l : Nat → Bool} {f : Nat → Value} {d : PD}
  (hd : d = ⟨P s, 3, 4, ix, (A s).edits.length, (A s).editAt.length, B, 6, 63, askV (A s) (V s 0) (V s 1) (V s 2) (V s 3), V s 2, V s 3, (A s).edits.flatMap edC, (A s).editAt.flatMap ixC, edC r, W⟩) (hI : InvP d l f W') (h8 : l 8 = true) (h15 : l 15 = true) (h21 : l 21 = true) :
  ∃ V', AsksAt N B bm W' S P V' (fun x => if x = s then { A s with edits := (A s).edits ++ [r], editAt := (A s).editAt ++ [ix] } else A x) := by
 subst hd
 have a1 := hI.a1; have a2 := hI.a2; have hblk := hI.blk
 rw [h8, if_pos rfl] at a1
 rw [h15, if_pos rfl] at a2
 rw [h21, if_pos rfl] at hblk
 obtain ⟨r1, o1⟩ := rowP_own a1
 obtain ⟨r2, o2⟩ := rowP_own a2
 have hrs := h.rows s hs
 have hX : ∀ i, i = 0 ∨ i = 1 → ∀ g, (V s i).ownBlock = some g → ¬ PD.but ⟨P s, 3, 4, ix, (A s).edits.length, (A s).editAt.length, B, 6, 63, askV (A s) (V s 0) (V s 1) (V s 2) (V s 3), V s 2, V s 3, (A s).edits.flatMap edC, (A s).editAt.flatMap ixC, edC r, W⟩ g := fun i hi g hg hc => by
  have hi4 : i < 4 := by omega
  rcases hc with hc | hc | hc
  ·exact (h.own_ne hs hi4 hg).2 s hs hc
  ·exact h.off s s hs hs i 2 hi4 (by decide) (Or.inr (by omega)) g hg hc
  ·exact h.off s s hs hs i 3 hi4 (by decide) (Or.inr (by omega)) g hg hc
 refine ⟨_, h.more hs (i1 := 2) (i2 := 3) (by decide) (by decide) (u1 := f 8) (u2 := f 15) hI.but hblk ?_ o1 o2 (fun g hg hg2 => ?_)⟩
 ·refine ⟨row_but hrs.r0 hI.but (hX 0 (Or.inl rfl)), row_but hrs.r1 hI.but (hX 1 (Or.inr rfl)), ?_, ?_⟩
  ·show W'.ownsRow B 63 6 (f 8) ((A s).edits ++ [r]).length (((A s).edits ++ [r]).flatMap edC)
   rw [List.length_append, flat_snoc]; exact r1
  ·show W'.ownsRow B 3 1 (f 15) ((A s).editAt ++ [ix]).length (((A s).editAt ++ [ix]).flatMap ixC)
   rw [List.length_append, flat_snoc]; exact r2
 ·obtain ⟨_, C1, e1⟩ := own_block r1 hg
  obtain ⟨_, C2, e2⟩ := own_block r2 hg2
  rw [e1] at e2
  injection e2 with e2
  injection e2 with _ e2
  exact absurd e2 (show ¬ ((63 : TypeId) = 3) by decide)
theorem AsksAt.okR {N B bm : Nat} {W : World} {S : Nat → Prop} {P : Nat → Nat} {V : Nat → Nat → Value} {A : Nat → Ask} (h : AsksAt N B bm W S P V A) {s : Nat} (hs : S s) (hB : B ≤ W.heap.size) {i1 i2 : Nat} (hi1 : i1 < 4) (hi2 : i2 < 4) (hne : i1 ≠ i2) {d : PD} (hp : d.p = P s) (h1 : d.v1 = V s i1) (h2 : d.v2 = V s i2) (hdB : d.B = B) (hW : d.W = W) : d.Ok := by
 refine ⟨?_, fun g hg => ?_, fun g hg => ?_, fun g hg => ?_, ?_⟩
 ·rw [hp, hW]; exact (Array.getElem?_eq_some_iff.1 (h.blk s hs).2).1
 ·rw [h1] at hg; rw [hp, hW]; exact ⟨h.own_lt hs hi1 hg, (h.own_ne hs hi1 hg).2 s hs⟩
 ·rw [h2] at hg; rw [hp, hW]; exact ⟨h.own_lt hs hi2 hg, (h.own_ne hs hi2 hg).2 s hs⟩
 ·rw [h1] at hg; rw [h2]; exact h.off s s hs hs i1 i2 hi1 hi2 (Or.inr hne) g hg
 ·rw [hdB, hW]; exact hB
def ownP (O : Nat → Nat) (p : ByteArray) : Nat := O (Sh.hash (nb p))
set_option maxHeartbeats 1000000 in
theorem map_Of (m e : Nat) (sp : List (Nat × Nat)) (s : ByteArray) (hs : s.size ≤ 100000) (w : World) (hM : MapAt w m e sp) (hl : sp.length ≤ 100000) (O : Nat → Nat) (hS : SpI O sp M64) :
  Calls Tryz.prog 16 #[.pointer (some ⟨m, 0, none⟩), .string s] w fun en w' => en = .returned (.int .u32 (ownP O s : Nat)) ∧ Below w.heap.size w w' := by
 have HH := Lib.hid (ring_Hash s hs w)
 have HO := Lib.hid (fun (w' : World) (h : Below w.heap.size w w') => map_Owner m e (Sh.hash (nb s)) sp w' (hM.below h) hl O hS (hash_lt _))
 unfold ownP
 clear hs hM hl hS
 go_enter Tryz.func16, Tryz.ntmps16
 go_wp2_with fail
 refine HH.out.mono ?_
 rintro en w1 ⟨rfl, hb1⟩
 have HB1 := Lib.hid hb1; clear hb1
 go_wp2_with fail
 refine (HO.out w1 HB1.out).mono ?_
 rintro en w2 ⟨rfl, hb2⟩
 have HB2 := Lib.hid (HB1.out.trans (hb2.mono HB1.out.size)); clear hb2
 go_wp2_with fail
 go_ret
 exact ⟨rfl, HB2.out⟩
end Go.Proofs.YtggdkfijioeijaaGreatDoor
namespace Go.Proofs
open Go.RowKit Go.Maps Go.Sort Go.Shelf
-- maps.Keys[map[string]int,string,int] (function 48; its iterator 80) · slices.Sorted[string] (47) · slices.Sort[[]string,string] (79) · the map's type 115, the keys' 9
theorem Tryz.sorts47 (m : Nat) : AnyZ.SortsIn Tryz.prog Tryz.sorted47_ren Fence.wide m :=
  ⟨fun blk off cap ss W hH hblk hsz => callsIn_wide.2 (AnyM.slices_Sort_string Tryz.sort79 blk off cap ss W hH hblk hsz),
   fun p cap W => callsIn_wide.2 (AnyM.slices_Sort_string_none Tryz.sort79 p cap W)⟩
theorem Tryz.maps_Keys_48 (mb : Option Nat) (W : World) : CallsIn Fence.wide 5 Tryz.prog 48 #[.map mb] W fun e w' => e = .returned (.func (.func 80) #[] #[.pointer (some ⟨W.heap.size, 0, none⟩)]) ∧ w' = W.alloc (.cells #[.map mb] 115) :=
 AnyZ.keys_in Tryz.keys48 Fence.wide 5 trivial rfl mb W
set_option maxHeartbeats 1000000 in
theorem Tryz.slices_Sorted_keys_47_48 {H : Type} (b nn : Nat) (D0 : DataW H) (R : Value → Option (DataW H × List MemPlace)) (w : World) (hown : w.ownsMap Tryz.prog 9 R b nn D0) (hmax : Maps.size D0 ≤ maxLen) (hbytes : Maps.size D0 * 16 ≤ 140737488355328) :
  CallsIn Fence.wide 5 Tryz.prog 47 #[.func (.func 80) #[] #[.pointer (some ⟨w.heap.size, 0, none⟩)]] (w.alloc (.cells #[.map (some b)] 115)) fun e w' => ∃ (v : Value) (ss : List (List UInt8)), e = .returned v ∧ ss.Perm (strKeys D0) ∧
   w'.ownsRow (w.alloc (.cells #[.map (some b)] 115)).heap.size 9 1 v ss.length ((ss.mergeSort (fun x y => decide (x ≤ y))).map encStr) ∧ (v = .slice none 0 0 ↔ ss = []) ∧ Below (w.alloc (.cells #[.map (some b)] 115)).heap.size (w.alloc (.cells #[.map (some b)] 115)) w' := by
 have hbl := hown.lt
 have hseq : SeqGives Fence.wide 2 Tryz.prog 80 #[.pointer (some ⟨w.heap.size, 0, none⟩)] encStr (fun ss => ss.Perm (strKeys D0)) (Maps.size D0) (w.alloc (.cells #[.map (some b)] 115)) :=
  AnyZ.keys_gives (ρ := Tryz.keys48_ren) { Tryz.keys48 with } Fence.wide _ trivial rfl (by omega) w.heap.size b nn D0 _ (by simp) (by simp) (by
   obtain ⟨es, clock, hb, Ft, hs, hD⟩ := hown
   exact ⟨es, clock, (Below.heap_alloc _ _ b hbl).trans hb, Ft, hs, hD⟩)
 exact AnyZ.sorted_in Tryz.sorted47 Fence.wide 5 trivial trivial trivial trivial rfl (by omega) (Tryz.sorts47 _) (enters_of Tryz.func79 (by kernel_rfl) rfl) 80 #[.pointer (some ⟨w.heap.size, 0, none⟩)] trivial (enters_of Tryz.func80 (by kernel_rfl) rfl) _ _ hmax hbytes _ hseq
end Go.Proofs
