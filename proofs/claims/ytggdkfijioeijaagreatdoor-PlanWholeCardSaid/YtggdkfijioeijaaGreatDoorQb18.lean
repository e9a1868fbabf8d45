/- Contract: plan.Asks of a split. -/
import Derived.Test.YtggdkfijioeijaaGreatDoorQb14
import Derived.Test.YtggdkfijioeijaaGreatDoorQb16
import Derived.Test.YtggdkfijioeijaaGreatDoorQb17
import Derived.Deep.RegionHeld3
import Derived.Deep.CutBlock
namespace Go.Proofs.YtggdkfijioeijaaGreatDoor
open Go Go.RowKit Pth
def SpSt (bm : Nat) (w1 w : World) (l : List (Nat × Nat)) : Prop :=
 ∃ P V, AsksAt l.length (bm + 2) bm w (fun x => ∃ y ∈ l, y.1 = x) P V Ask.new ∧ (∀ y ∈ l, P y.1 = y.2) ∧ Below bm w1 w ∧ bm + 2 ≤ w.heap.size ∧ w.heap[bm + 1]? = some (.cells #[.map (some bm)] 93 (0, 0))
theorem SpSt.below {bm : Nat} {w1 w w' : World} {l : List (Nat × Nat)} (h : SpSt bm w1 w l) (hb : Below w.heap.size w w') : SpSt bm w1 w' l := by
 obtain ⟨P, V, h1, h2, h3, h4, h5⟩ := h
 exact ⟨P, V, h1.below hb, h2, h3.trans (hb.mono (by omega)), Nat.le_trans h4 hb.size, (hb.block _ (Array.getElem?_eq_some_iff.1 h5).1).trans h5⟩
theorem spl_call {bm : Nat} {w1 w : World} {l : List (Nat × Nat)} (h : SpSt bm w1 w l) (s : Nat) (hs : s < 4294967296) (hl : l.length < 10) :
  Calls Tryz.prog 29 #[.int .u32 (s : Int), .pointer (some ⟨bm + 1, 0, none⟩)] w (fun e w' => ∃ p, e = .returned (.pointer (some ⟨p, 0, none⟩)) ∧ SpSt bm w1 w' (l ++ [(s, p)])) := by
 obtain ⟨P, V, h1, h2, h3, h4, h5⟩ := h
 refine (asks_of2 l.length (bm + 2) bm (bm + 1) s hs _ P V _ w (cell_of h5 0) h1 (by omega) (fun _ => rfl) (by omega)).mono ?_
 rintro e w' ⟨P', V', rfl, hA, hbut, hP⟩
 have hbm : bm < w.heap.size := by omega
 refine ⟨P' s, rfl, P', V', ?_, fun y hy => ?_, h3.trans (hbut.below (fun k hk => by have h : k = bm := hk; omega) (by omega)), Nat.le_trans h4 hbut.size, (hbut.block _ (Array.getElem?_eq_some_iff.1 h5).1 (by show ¬ bm + 1 = bm; omega)).trans h5⟩
 ·rw [List.length_append]
  refine hA.same (fun x => ?_)
  constructor
  ·rintro ⟨y, hy, e⟩
   rcases List.mem_append.1 hy with hy | hy
   ·exact Or.inl ⟨y, hy, e⟩
   ·rw [List.mem_singleton.1 hy] at e; exact Or.inr e.symm
  ·rintro (⟨y, hy, e⟩ | e)
   ·exact ⟨y, List.mem_append_left _ hy, e⟩
   ·exact ⟨(s, P' s), by simp, e.symm⟩
 ·rcases List.mem_append.1 hy with hy | hy
  ·rw [hP y.1 ⟨y, hy, rfl⟩]; exact h2 y hy
  ·rw [List.mem_singleton.1 hy]
theorem SpSt.b {bm : Nat} {w1 w : World} {l : List (Nat × Nat)} (h : SpSt bm w1 w l) : Below bm w1 w := by
 obtain ⟨_, _, _, _, h, _⟩ := h; exact h
theorem AsksAt.congrA {N B bm : Nat} {w : World} {S : Nat → Prop} {P : Nat → Nat} {V : Nat → Nat → Value} {A A' : Nat → Ask} (h : AsksAt N B bm w S P V A) (hA : ∀ s, S s → A s = A' s) : AsksAt N B bm w S P V A' :=
 ⟨h.map, fun s hs => hA s hs ▸ h.blk s hs, fun s hs => hA s hs ▸ h.rows s hs, h.inj, h.off⟩
theorem AsksAt.congrP {N B bm : Nat} {w : World} {S : Nat → Prop} {P P' : Nat → Nat} {V : Nat → Nat → Value} {A : Nat → Ask} (h : AsksAt N B bm w S P V A) (hP : ∀ s, S s → P s = P' s) : AsksAt N B bm w S P' V A := by
 obtain ⟨D, nn, h1, h2, h3, h4⟩ := h.map
 exact ⟨⟨D, nn, h1, h2, h3, fun s hs => hP s hs ▸ h4 s hs⟩, fun s hs => hP s hs ▸ h.blk s hs, h.rows, fun s s' hs hs' hn => by rw [← hP s hs, ← hP s' hs']; exact h.inj s s' hs hs' hn, h.off⟩
def SpA (N bm : Nat) (w1 w : World) (was tw p1 p2 : Nat) (A : Nat → Ask) : Prop :=
 ∃ P V, AsksAt N (bm + 2) bm w (fun x => x = was ∨ x = tw) P V A ∧ P was = p1 ∧ P tw = p2 ∧ Below bm w1 w ∧ bm + 2 ≤ w.heap.size ∧ w.heap[bm + 1]? = some (.cells #[.map (some bm)] 93 (0, 0))
theorem SpA.b {N bm : Nat} {w1 w : World} {was tw p1 p2 : Nat} {A : Nat → Ask} (h : SpA N bm w1 w was tw p1 p2 A) : Below bm w1 w := by
 obtain ⟨_, _, _, _, _, h, _⟩ := h; exact h
theorem SpA.below {N bm : Nat} {w1 w w' : World} {was tw p1 p2 : Nat} {A : Nat → Ask} (h : SpA N bm w1 w was tw p1 p2 A) (hb : Below w.heap.size w w') : SpA N bm w1 w' was tw p1 p2 A := by
 obtain ⟨P, V, h1, e1, e2, h3, h4, h5⟩ := h
 exact ⟨P, V, h1.below hb, e1, e2, h3.trans (hb.mono (by omega)), Nat.le_trans h4 hb.size, (hb.block _ (Array.getElem?_eq_some_iff.1 h5).1).trans h5⟩
theorem SpSt.two {bm : Nat} {w1 w : World} {was tw p1 p2 : Nat} (h : SpSt bm w1 w ([] ++ [(was, p1)] ++ [(tw, p2)])) : SpA 2 bm w1 w was tw p1 p2 Ask.new := by
 obtain ⟨P, V, h1, h2, h3, h4, h5⟩ := h
 refine ⟨P, V, h1.same (fun x => ?_), h2 (was, p1) (by simp), h2 (tw, p2) (by simp), h3, h4, h5⟩
 constructor
 ·rintro (e | e)
  ·exact ⟨(was, p1), by simp, e.symm⟩
  ·exact ⟨(tw, p2), by simp, e.symm⟩
 ·rintro ⟨y, hy, e⟩
  simp only [List.nil_append, List.cons_append, List.mem_cons, List.mem_nil_iff, or_false] at hy
  rcases hy with rfl | rfl
  ·exact Or.inl e.symm
  ·exact Or.inr e.symm
theorem spa_call {N bm : Nat} {w1 w : World} {was tw p1 p2 : Nat} {A : Nat → Ask} (h : SpA N bm w1 w was tw p1 p2 A) (s p : Nat) (hs : s < 4294967296) (hN : N < 100) (hsp : (s = was ∧ p = p1) ∨ (s = tw ∧ p = p2)) :
  Calls Tryz.prog 29 #[.int .u32 (s : Int), .pointer (some ⟨bm + 1, 0, none⟩)] w (fun e w' => e = .returned (.pointer (some ⟨p, 0, none⟩)) ∧ SpA (N + 1) bm w1 w' was tw p1 p2 A) := by
 obtain ⟨P, V, h1, e1, e2, h3, h4, h5⟩ := h
 have hS : s = was ∨ s = tw := hsp.elim (fun h => Or.inl h.1) (fun h => Or.inr h.1)
 have hPs : P s = p := by
  rcases hsp with ⟨rfl, rfl⟩ | ⟨rfl, rfl⟩
  ·exact e1
  ·exact e2
 refine (asks_of2 N (bm + 2) bm (bm + 1) s hs _ P V _ w (cell_of h5 0) h1 (by omega) (fun hn => absurd hS hn) (by omega)).mono ?_
 rintro e w' ⟨P', V', rfl, hA, hbut, hP⟩
 have hA2 := (hA.same (S' := fun x => x = was ∨ x = tw) (fun x => ⟨Or.inl, fun h => h.elim id (fun e => by rw [e]; exact hS)⟩)).congrP (P' := P) (fun x hx => hP x hx)
 exact ⟨by rw [hP s hS, hPs], P, V', hA2, e1, e2, h3.trans (hbut.below (fun k hk => by have h : k = bm := hk; omega) (by omega)), Nat.le_trans h4 hbut.size, (hbut.block _ (Array.getElem?_eq_some_iff.1 h5).1 (by show ¬ bm + 1 = bm; omega)).trans h5⟩
theorem SpA.turn {N bm : Nat} {w1 w w' : World} {was tw p1 p2 : Nat} {A : Nat → Ask} (h : SpA N bm w1 w was tw p1 p2 A) (s p : Nat) (hsp : (s = was ∧ p = p1) ∨ (s = tw ∧ p = p2)) (A1 : Ask) (e1 : A1.reads = (A s).reads) (e2 : A1.readAt = (A s).readAt) (e3 : A1.edits = (A s).edits) (e4 : A1.editAt = (A s).editAt)
  (hb : ButS (fun j => j = p) w w') (hblk : ∀ v0 v1 v2 v3, w.heap[p]? = some (.cells (askV (A s) v0 v1 v2 v3) 47 (0, 0)) → w'.heap[p]? = some (.cells (askV A1 v0 v1 v2 v3) 47 (0, 0))) :
  SpA N bm w1 w' was tw p1 p2 (fun x => if x = s then A1 else A x) := by
 obtain ⟨P, V, h1, q1, q2, h3, h4, h5⟩ := h
 have hS : s = was ∨ s = tw := hsp.elim (fun h => Or.inl h.1) (fun h => Or.inr h.1)
 have hPs : P s = p := by
  rcases hsp with ⟨rfl, rfl⟩ | ⟨rfl, rfl⟩
  ·exact q1
  ·exact q2
 have hbk := h1.blk s hS
 rw [hPs] at hbk
 refine ⟨P, V, h1.turn hS A1 e1 e2 e3 e4 (by rw [hPs]; exact hb) (by rw [hPs]; exact hblk _ _ _ _ hbk.2), q1, q2, h3.trans (hb.below (fun k hk => by have h : k = p := hk; omega) (by omega)), Nat.le_trans h4 hb.size, (hb.block _ (Array.getElem?_eq_some_iff.1 h5).1 (fun e => by have h : bm + 1 = p := e; omega)).trans h5⟩
theorem SpA.at_ {N bm : Nat} {w1 w : World} {was tw p1 p2 : Nat} {A : Nat → Ask} (h : SpA N bm w1 w was tw p1 p2 A) (s p : Nat) (hsp : (s = was ∧ p = p1) ∨ (s = tw ∧ p = p2)) : ∃ v0 v1 v2 v3, w.heap[p]? = some (.cells (askV (A s) v0 v1 v2 v3) 47 (0, 0)) := by
 obtain ⟨P, V, h1, q1, q2, _⟩ := h
 rcases hsp with ⟨rfl, rfl⟩ | ⟨rfl, rfl⟩
 ·exact ⟨_, _, _, _, q1 ▸ (h1.blk _ (Or.inl rfl)).2⟩
 ·exact ⟨_, _, _, _, q2 ▸ (h1.blk _ (Or.inr rfl)).2⟩
def giveA (was x : Nat) : Ask := { Ask.new x with give := decide (x = was) }
def flagA (was tw x : Nat) : Ask := { Ask.new x with give := decide (x = was), take := decide (x = tw) }
theorem SpA.congrA {N bm : Nat} {w1 w : World} {was tw p1 p2 : Nat} {A A' : Nat → Ask} (h : SpA N bm w1 w was tw p1 p2 A) (hA : ∀ s, s = was ∨ s = tw → A s = A' s) : SpA N bm w1 w was tw p1 p2 A' := by
 obtain ⟨P, V, k1, k2⟩ := h
 exact ⟨P, V, AsksAt.congrA k1 hA, k2⟩
theorem give_tw {was tw : Nat} (hne : was ≠ tw) : giveA was tw = Ask.new tw := by unfold giveA; rw [decide_eq_false (Ne.symm hne)]; rfl
theorem give_was (was : Nat) : giveA was was = { Ask.new was with give := true } := by unfold giveA; rw [decide_eq_true rfl]
theorem spa_flags {N bm : Nat} {w1 w : World} {was tw p1 p2 : Nat} (hne : was ≠ tw) (h : SpA N bm w1 w was tw p1 p2 Ask.new) :
  (w.cell? ⟨p1, 7, none⟩ = some (.bool false) ∧ w.frozen? ⟨p1, 7, none⟩ = false) ∧ ∃ X1, w.setCell ⟨p1, 7, none⟩ (.bool true) = X1 ∧ Below bm w1 X1 ∧ (X1.cell? ⟨p2, 8, none⟩ = some (.bool false) ∧ X1.frozen? ⟨p2, 8, none⟩ = false) ∧ ∃ X2, X1.setCell ⟨p2, 8, none⟩ (.bool true) = X2 ∧ SpA N bm w1 X2 was tw p1 p2 (flagA was tw) := by
 obtain ⟨a0, a1, a2, a3, ha⟩ := h.at_ was p1 (Or.inl ⟨rfl, rfl⟩)
 have h0 := h.turn (w' := w.setCell ⟨p1, 7, none⟩ (.bool true)) was p1 (Or.inl ⟨rfl, rfl⟩) { Ask.new was with give := true } rfl rfl rfl rfl (ButS.set (S := fun j => j = p1) _ rfl _) (fun v0 v1 v2 v3 hb => setCell_block hb _)
 have h1 : SpA N bm w1 (w.setCell ⟨p1, 7, none⟩ (.bool true)) was tw p1 p2 (giveA was) := h0.congrA (fun s hs => by
  rcases hs with rfl | rfl
  ·rw [if_pos rfl, give_was]
  ·rw [if_neg (Ne.symm hne), give_tw hne])
 obtain ⟨b0, b1, b2, b3, hb⟩ := h1.at_ tw p2 (Or.inr ⟨rfl, rfl⟩)
 rw [give_tw hne] at hb
 have h2 := h1.turn (w' := (w.setCell ⟨p1, 7, none⟩ (.bool true)).setCell ⟨p2, 8, none⟩ (.bool true)) tw p2 (Or.inr ⟨rfl, rfl⟩) { Ask.new tw with take := true } rfl rfl rfl rfl (ButS.set (S := fun j => j = p2) _ rfl _) (fun v0 v1 v2 v3 hb => by rw [give_tw hne] at hb; exact setCell_block hb _)
 refine ⟨⟨cell_of ha 7, frozen_of ha 7⟩, _, rfl, h1.b, ⟨cell_of hb 8, frozen_of hb 8⟩, _, rfl, h2.congrA (fun s hs => ?_)⟩
 rcases hs with rfl | rfl
 ·rw [if_neg hne]; unfold giveA flagA
  rw [decide_eq_false hne]; rfl
 ·rw [if_pos rfl]; unfold flagA
  rw [decide_eq_true rfl, decide_eq_false (Ne.symm hne)]; rfl
def splA (was tw f t s : Nat) : Ask := { Ask.new s with give := decide (s = was), take := decide (s = tw), f := f, t := t }
theorem SpA.ge {N bm : Nat} {w1 w : World} {was tw p1 p2 : Nat} {A : Nat → Ask} (h : SpA N bm w1 w was tw p1 p2 A) : bm + 2 ≤ p1 ∧ bm + 2 ≤ p2 := by
 obtain ⟨P, V, h1, q1, q2, _⟩ := h
 exact ⟨q1 ▸ (h1.blk _ (Or.inl rfl)).1, q2 ▸ (h1.blk _ (Or.inr rfl)).1⟩
def rngA (was tw f t x s : Nat) : Ask := if s = x then { flagA was tw s with f := f, t := t } else flagA was tw s
theorem spa_ranges {N bm f t : Nat} {w1 w : World} {was tw p1 p2 : Nat} (hne : was ≠ tw) (h : SpA N bm w1 w was tw p1 p2 (flagA was tw)) :
  (w.cell? ⟨p1, 9, none⟩ = some (.int .u64 0) ∧ w.frozen? ⟨p1, 9, none⟩ = false ∧ w.cell? ⟨p1, 10, none⟩ = some (.int .u64 0) ∧ w.frozen? ⟨p1, 10, none⟩ = false) ∧
  ∃ Y1, w.setCell ⟨p1, 9, none⟩ (.int .u64 (f : Int)) = Y1 ∧ Below bm w1 Y1 ∧ (Y1.cell? ⟨p1, 10, none⟩ = some (.int .u64 0) ∧ Y1.frozen? ⟨p1, 10, none⟩ = false) ∧
  ∃ Y2, Y1.setCell ⟨p1, 10, none⟩ (.int .u64 (t : Int)) = Y2 ∧ Below bm w1 Y2 ∧ (Y2.cell? ⟨p2, 9, none⟩ = some (.int .u64 0) ∧ Y2.frozen? ⟨p2, 9, none⟩ = false ∧ Y2.cell? ⟨p2, 10, none⟩ = some (.int .u64 0) ∧ Y2.frozen? ⟨p2, 10, none⟩ = false) ∧
  ∃ Y3, Y2.setCell ⟨p2, 9, none⟩ (.int .u64 (f : Int)) = Y3 ∧ Below bm w1 Y3 ∧ (Y3.cell? ⟨p2, 10, none⟩ = some (.int .u64 0) ∧ Y3.frozen? ⟨p2, 10, none⟩ = false) ∧
  ∃ Y4, Y3.setCell ⟨p2, 10, none⟩ (.int .u64 (t : Int)) = Y4 ∧ SpA N bm w1 Y4 was tw p1 p2 (splA was tw f t) := by
 obtain ⟨g1, g2⟩ := h.ge
 obtain ⟨a0, a1, a2, a3, ha⟩ := h.at_ was p1 (Or.inl ⟨rfl, rfl⟩)
 have ha1 := setCell_block ha (i := 9) (.int .u64 (f : Int))
 have h0 := h.turn (w' := (w.setCell ⟨p1, 9, none⟩ (.int .u64 (f : Int))).setCell ⟨p1, 10, none⟩ (.int .u64 (t : Int))) was p1 (Or.inl ⟨rfl, rfl⟩) { flagA was tw was with f := f, t := t } rfl rfl rfl rfl ((ButS.set (S := fun j => j = p1) _ rfl _).trans (ButS.set (S := fun j => j = p1) _ rfl _)) (fun v0 v1 v2 v3 hb => setCell_block (setCell_block hb _) _)
 have h1 : SpA N bm w1 ((w.setCell ⟨p1, 9, none⟩ (.int .u64 (f : Int))).setCell ⟨p1, 10, none⟩ (.int .u64 (t : Int))) was tw p1 p2 (rngA was tw f t was) := h0.congrA (fun s hs => by
  unfold rngA
  by_cases e : s = was
  ·subst e; first | rw [if_pos rfl, if_pos rfl] | rw [if_pos rfl]
  ·rw [if_neg e, if_neg e])
 have er : rngA was tw f t was tw = flagA was tw tw := if_neg (Ne.symm hne)
 obtain ⟨b0, b1, b2, b3, hb⟩ := h1.at_ tw p2 (Or.inr ⟨rfl, rfl⟩)
 rw [er] at hb
 have hb1 := setCell_block hb (i := 9) (.int .u64 (f : Int))
 have h2 := h1.turn (w' := (((w.setCell ⟨p1, 9, none⟩ (.int .u64 (f : Int))).setCell ⟨p1, 10, none⟩ (.int .u64 (t : Int))).setCell ⟨p2, 9, none⟩ (.int .u64 (f : Int))).setCell ⟨p2, 10, none⟩ (.int .u64 (t : Int))) tw p2 (Or.inr ⟨rfl, rfl⟩) { flagA was tw tw with f := f, t := t } (by rw [er]) (by rw [er]) (by rw [er]) (by rw [er]) ((ButS.set (S := fun j => j = p2) _ rfl _).trans (ButS.set (S := fun j => j = p2) _ rfl _)) (fun v0 v1 v2 v3 hb => by rw [er] at hb; exact setCell_block (setCell_block hb _) _)
 refine ⟨⟨cell_of ha 9, frozen_of ha 9, cell_of ha 10, frozen_of ha 10⟩, _, rfl, h.b.setCell (by show bm ≤ p1; omega) _, ⟨cell_of ha1 10, frozen_of ha1 10⟩, _, rfl, h1.b, ⟨cell_of hb 9, frozen_of hb 9, cell_of hb 10, frozen_of hb 10⟩, _, rfl, h1.b.setCell (by show bm ≤ p2; omega) _, ⟨cell_of hb1 10, frozen_of hb1 10⟩, _, rfl, h2.congrA (fun s hs => ?_)⟩
 rcases hs with rfl | rfl
 ·rw [if_neg hne]; unfold rngA; rw [if_pos rfl]; rfl
 ·rw [if_pos rfl]; rfl
def AsksSG (O : Nat → Nat) (f t tw e1 : Nat) (sp : List (Nat × Nat)) (w : World) (e : Ending) (w' : World) : Prop :=
 ∃ c : Int, SplitC O f t tw e1 (splitL sp f t tw).length c ∧ Below w.heap.size w w' ∧
  ((c ≠ 0 ∧ e = .returned (.tuple #[.slice none 0 0, .int .i64 c])) ∨ (c = 0 ∧ ∃ (v : Value) (ss : List Nat), e = .returned (.tuple #[v, .int .i64 0]) ∧ ss.Pairwise (· < ·) ∧ (∀ s, s ∈ ss ↔ s = O f ∨ s = tw) ∧ IsAsks w' v (ss.map (splA (O f) tw f t))))
set_option maxRecDepth 100000 in
set_option maxHeartbeats 4000000 in
theorem asks_split (m e : Nat) (sp : List (Nat × Nat)) (O : Nat → Nat) (aR : Option Addr) (nr cR : Nat) (aE : Option Addr) (ne cE : Nat) (pre : ByteArray) (f t tw : Nat) (w : World) (hM : MapAt w m e sp) (hl : sp.length ≤ 10000) (hS : SpI O sp M64) (hO : ∀ u, 1 ≤ O u ∧ O u < 4294967296)
    (ht : t < M64) (htw : tw < 4294967296) (hft : f ≤ t) (htw0 : 0 < tw) :
    Calls Tryz.prog 10 #[.pointer (some ⟨m, 0, none⟩), .agg (callC 3 (.slice aR nr cR) (.slice aE ne cE) pre f t tw)] w (AsksSG O f t tw ((e + 1) % M64) sp w) := by
  have HMAY := Lib.hid (fun (W : World) => may_rest 3 (by decide) (by decide) (by decide) (.slice aR nr cR) (.slice aE ne cE) pre f t tw 0 (if_pos ⟨rfl, hft, htw0⟩).symm rfl rfl W)
  have HSM := Lib.hid (fun (W : World) (hW : Below w.heap.size w W) => map_Split m e f t tw sp W (hM.below hW) hl O hS ht)
  have HO := Lib.hid hO
  clear hM hS hO
  obtain ⟨W0, hW0⟩ : ∃ W0, w.alloc (.cells (callC 3 (.slice aR nr cR) (.slice aE ne cE) pre f t tw) 30) = W0 := ⟨_, rfl⟩
  obtain ⟨hz0, hblk, hB0⟩ := alloc_keep hW0
  have hlt0 : w.heap.size < W0.heap.size := by omega
  have KP := Lib.hid (fun (W : World) (h : Below W0.heap.size W0 W) => show W.cell? ⟨w.heap.size, 0, none⟩ = some (.int .u8 ((3 : Nat) : Int)) ∧ W.cell? ⟨w.heap.size, 4, none⟩ = some (.int .u64 (f : Int)) ∧ W.cell? ⟨w.heap.size, 5, none⟩ = some (.int .u64 (t : Int)) ∧ W.cell? ⟨w.heap.size, 6, none⟩ = some (.int .u32 (tw : Int)) by
    have hb := (h.block _ hlt0).trans hblk
    exact ⟨cell_of hb 0, cell_of hb 4, cell_of hb 5, cell_of hb 6⟩)
  have c0 : W0.cell? ⟨w.heap.size, 0, none⟩ = some (.int .u8 ((3 : Nat) : Int)) := cell_of hblk 0
  have c1 : W0.cell? ⟨w.heap.size, 1, none⟩ = some (.slice aR nr cR) := cell_of hblk 1
  have c2 : W0.cell? ⟨w.heap.size, 2, none⟩ = some (.slice aE ne cE) := cell_of hblk 2
  have c3 : W0.cell? ⟨w.heap.size, 3, none⟩ = some (.string pre) := cell_of hblk 3
  have c4 : W0.cell? ⟨w.heap.size, 4, none⟩ = some (.int .u64 (f : Int)) := cell_of hblk 4
  have c5 : W0.cell? ⟨w.heap.size, 5, none⟩ = some (.int .u64 (t : Int)) := cell_of hblk 5
  have c6 : W0.cell? ⟨w.heap.size, 6, none⟩ = some (.int .u32 (tw : Int)) := cell_of hblk 6
  have HB0 := Lib.hid hB0
  clear hz0 hblk hB0 hlt0
  go_enter Tryz.func10, Tryz.ntmps10
  go_upto_region 3 with fail
  clear hW0
  go_wp2_with fail
  refine (HMAY.out W0).mono ?_
  rintro en w1 ⟨rfl, hb1⟩
  obtain ⟨x0, x4, x5, x6⟩ := KP.out w1 hb1
  have HB1 := Lib.hid hb1
  clear hb1 c0 c1 c2 c3 c4 c5 c6 HMAY
  have hmm := @run_makeMap Tryz.prog
  go_upto_region 8 with fail
  obtain ⟨W2, hW2⟩ : ∃ W2, (w1.alloc (.map #[] 0)).alloc (.cells #[.map (some w1.heap.size)] 93) = W2 := ⟨_, rfl⟩
  obtain ⟨bm, hbm⟩ : ∃ bm, w1.heap.size = bm := ⟨_, rfl⟩
  have hb2 : Below bm w1 W2 := by rw [← hW2, ← hbm]; exact ((Below.refl _ _).alloc (Nat.le_refl _) _).alloc (by simp) _
  have hz2 : W2.heap.size = bm + 2 := by rw [← hW2, ← hbm]; simp
  have hby : W2.heap[bm + 1]? = some (.cells #[.map (some bm)] 93 (0, 0)) := by
    rw [← hW2, ← hbm]
    have h := (MapKept.heap_alloc (w1.alloc (.map #[] 0)) (.cells #[.map (some w1.heap.size)] 93)).1
    simpa using h
  have hst : SpSt bm w1 W2 [] := by
    have hno : ∀ x : Nat, ¬ ∃ y ∈ ([] : List (Nat × Nat)), y.1 = x := fun x h => by obtain ⟨y, hy, _⟩ := h; simp at hy
    refine ⟨fun _ => 0, fun _ _ => undef, ⟨⟨.map [], 0, ?_, Nat.le_refl _, fun z => ?_, fun s hs => absurd hs (hno s)⟩, fun s hs => absurd hs (hno s), fun s hs => absurd hs (hno s), fun s _ hs => absurd hs (hno s), fun s _ hs => absurd hs (hno s)⟩, fun y hy => by simp at hy, hb2, by omega, hby⟩
    · rw [← hW2, ← hbm]
      exact ownsMap_below (World.ownsMap_made w1 _ _ _) ((Below.refl _ _).alloc (Nat.le_refl _) _)
    · constructor
      · intro h; simp [Maps.has] at h
      · rintro ⟨s, hs, _⟩; exact absurd hs (hno s)
  rw [hW2, hbm]
  have HST2 := Lib.hid hst; have HB2 := Lib.hid hb2
  obtain ⟨y0, y4, y5, y6⟩ := KP.out W2 (HB1.out.trans (hb2.mono (by rw [← hbm]; exact HB1.out.size)))
  have HB1m : Hid (Below w.heap.size w w1) := Lib.hid (HB0.out.trans (HB1.out.mono HB0.out.size))
  have HWM : Hid (W0.heap.size ≤ bm ∧ w.heap.size ≤ bm) := Lib.hid ⟨by rw [← hbm]; exact HB1.out.size, by rw [← hbm]; exact HB1m.out.size⟩
  have HBW2 := Lib.hid (HB1m.out.trans (hb2.mono (by rw [← hbm]; exact HB1m.out.size)))
  clear hst hb2 hby hz2 hW2 hbm x0 x4 x5 x6 hmm
  go_wp2_with fail
  refine (HSM.out _ HBW2.out).mono ?_
  rintro en w3 ⟨hb3, c, hc, ⟨hn, rfl⟩ | ⟨rfl, n, rfl, _, _⟩⟩
  · have hcb : (c != 0) = true := by simpa using hn
    have HB3 := Lib.hid (HBW2.out.trans (hb3.mono HBW2.out.size))
    have HC := Lib.hid hc; have HNE := Lib.hid hn
    clear hb3 hc hn y0 y4 y5 y6
    go_wp2_with fail
    go_ret2
    exact ⟨c, HC.out, HB3.out, Or.inl ⟨HNE.out, rfl⟩⟩
  have HC := Lib.hid hc
  have HST3 := Lib.hid (HST2.out.below hb3)
  obtain ⟨was, hwas⟩ : ∃ x, O f = x := ⟨_, rfl⟩
  have hw32 : was < 4294967296 := hwas ▸ (HO.out f).2
  have hne : was ≠ tw := by have := hc.zero.2.1.2; rwa [hwas] at this
  have HB3 := Lib.hid (HB2.out.trans (hb3.mono (by have := HST2.out; obtain ⟨_, _, _, _, _, h, _⟩ := this; omega)))
  have HBW3 := Lib.hid (HBW2.out.trans (hb3.mono HBW2.out.size))
  rw [hwas]
  have HWAS := Lib.hid hwas
  clear hb3 hc hwas y0 y4 y5 y6 HSM HST2
  obtain ⟨y0, y4, y5, y6⟩ := KP.out w3 (HB1.out.trans (HB3.out.mono HWM.out.1))
  go_upto_region 32 with fail
  have keepS : Hid (∀ w', Below bm w1 w' → w'.cell? ⟨w.heap.size, 6, none⟩ = some (.int .u32 (tw : Int)) ∧ Hid (Below bm w1 w')) := Lib.hid (fun w' h => ⟨(KP.out w' (HB1.out.trans (h.mono HWM.out.1))).2.2.2, Lib.hid h⟩)
  have HSTD : Hid (SpSt bm w1 w3.drew []) := Lib.hid (HST3.out.below (Below.refl _ _).drew)
  go_cut [140] (fun v1 wx => ∃ p1 p2, v1 = .pointer (some ⟨p1, 0, none⟩) ∧ Hid (SpA 2 bm w1 wx was tw p1 p2 (flagA was tw)))
  case first =>
    go_region_held3 (fun w' => w'.cell? ⟨w.heap.size, 6, none⟩ = some (.int .u32 (tw : Int)) ∧ Hid (Below bm w1 w'))
      (first
        | exact keepS.out _ HF.out.b
        | exact keepS.out _ HBX1.out
        | exact keepS.out _ HST7.out.b
        | exact keepS.out _ HST6.out.b
        | exact keepS.out _ HSTD.out.b)
      (first
        | (go_at_call 29; refine (spl_call HST6.out tw htw (by simp)).mono ?_; rintro en w7 ⟨p2, rfl, h7⟩; have HST7 := Lib.hid h7; obtain ⟨⟨s7, f7⟩, X1, hX1, hbx1, ⟨s8, f8⟩, X2, hX2, hF⟩ := spa_flags hne h7.two; have HF := Lib.hid hF; have HBX1 := Lib.hid hbx1; clear h7 hF hbx1)
        | (go_at_call 29; refine (spl_call HSTD.out was hw32 (by decide)).mono ?_; rintro en w6 ⟨p1, rfl, h6⟩; have HST6 := Lib.hid h6; clear h6))
    all_goals (
      go_wp2_with fail
      go_meet
      case rel => exact ⟨_, _, rfl, HF⟩)
  case rest =>
  obtain ⟨p1, p2, rfl, HF⟩ := hcut
  obtain ⟨W4, hW4⟩ : ∃ U, wc = U := ⟨_, rfl⟩
  subst wc
  clear keepS HSTD y0 y4 y5 y6
  obtain ⟨y0, y4, y5, y6⟩ := KP.out W4 (HB1.out.trans (HF.out.b.mono HWM.out.1))
  have keepS : Hid (∀ w', Below bm w1 w' → w'.cell? ⟨w.heap.size, 4, none⟩ = some (.int .u64 (f : Int)) ∧ w'.cell? ⟨w.heap.size, 5, none⟩ = some (.int .u64 (t : Int)) ∧ w'.cell? ⟨w.heap.size, 6, none⟩ = some (.int .u32 (tw : Int)) ∧ Hid (Below bm w1 w')) := Lib.hid (fun w' h => by
    obtain ⟨_, k4, k5, k6⟩ := KP.out w' (HB1.out.trans (h.mono HWM.out.1))
    exact ⟨k4, k5, k6, Lib.hid h⟩)
  have HFD : Hid (SpA 2 bm w1 W4.drew was tw p1 p2 (flagA was tw)) := Lib.hid (HF.out.below (Below.refl _ _).drew)
  go_upto_region 33 with fail
  go_region_held3 (fun w' => w'.cell? ⟨w.heap.size, 4, none⟩ = some (.int .u64 (f : Int)) ∧ w'.cell? ⟨w.heap.size, 5, none⟩ = some (.int .u64 (t : Int)) ∧ w'.cell? ⟨w.heap.size, 6, none⟩ = some (.int .u32 (tw : Int)) ∧ Hid (Below bm w1 w'))
      (first
        | exact keepS.out _ HZ.out.b
        | exact keepS.out _ HBY1.out
        | exact keepS.out _ HBY2.out
        | exact keepS.out _ HBY3.out
        | exact keepS.out _ HST9.out.b
        | exact keepS.out _ HST8.out.b
        | exact keepS.out _ HFD.out.b)
      (first
        | (go_at_call 29; refine (spa_call HST8.out tw p2 htw (by decide) (Or.inr ⟨rfl, rfl⟩)).mono ?_; rintro en w9 ⟨rfl, h9⟩; have HST9 := Lib.hid h9; obtain ⟨⟨s9, f9, s10, f10⟩, Y1, hY1, hby1, ⟨r10, g10⟩, Y2, hY2, hby2, ⟨t9, k9, t10, k10⟩, Y3, hY3, hby3, ⟨u10, l10⟩, Y4, hY4, hZ⟩ := spa_ranges (f := f) (t := t) hne h9; have HZ := Lib.hid hZ; have HBY1 := Lib.hid hby1; have HBY2 := Lib.hid hby2; have HBY3 := Lib.hid hby3; clear h9 hZ hby1 hby2 hby3)
        | (go_at_call 29; refine (spa_call HFD.out was p1 hw32 (by decide) (Or.inl ⟨rfl, rfl⟩)).mono ?_; rintro en w8 ⟨rfl, h8⟩; have HST8 := Lib.hid h8; clear h8))
  all_goals (
    obtain ⟨P, V, hA, _, _, hbZ, _, hbyZ⟩ := id HZ.out
    have HASKED := Lib.hid (plan_asked 4 (bm + 2) bm  Y4 _ P V _ hA (by decide) ⟨was, Or.inl rfl⟩ (fun s hs => by rcases hs with rfl | rfl; exact hw32; exact htw))
    have z0 := cell_of hbyZ 0
    have HBw : Hid (Below w.heap.size w Y4) := Lib.hid (HB1m.out.trans (hbZ.mono HWM.out.2))
    clear hA hbZ hbyZ y0 y4 y5 y6
    go_wp2_with fail
    refine HASKED.out.mono ?_
    rintro en w6 ⟨v6, ss, rfl, h1, h2, h3, hb6⟩
    have H1 := Lib.hid h1; have H2 := Lib.hid h2; have H3 := Lib.hid h3; have HB6 := Lib.hid (HBw.out.trans (hb6.mono HBw.out.size))
    clear h1 h2 h3 hb6 HASKED z0
    go_wp2_with fail
    go_ret2
    refine ⟨0, HC.out, HB6.out, Or.inr ⟨rfl, v6, ss, rfl, H1.out, fun s => ?_, ?_⟩⟩
    · rw [HWAS.out]; exact H2.out s
    · rw [HWAS.out]; exact H3.out)
end Go.Proofs.YtggdkfijioeijaaGreatDoor
