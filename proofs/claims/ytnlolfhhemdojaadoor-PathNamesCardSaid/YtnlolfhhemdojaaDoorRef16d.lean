/- Contract for scriniumref16.Names: insertion into a sorted list. -/
import Derived.Test.YtnlolfhhemdojaaDoorRef16c
import Derived.Laws.AppendOwnNone
import Derived.Sort.Walk0
namespace Go.Proofs.YtnlolfhhemdojaaDoor
open Go Go.RowKit Pth Go.Sort

def kidsR (p : List UInt8) (l : List (List UInt8)) : List (List UInt8) := (l.map (childR p)).filter (fun c => !c.isEmpty)
theorem kidsR_snoc (p s : List UInt8) (l : List (List UInt8)) : kidsR p (l ++ [s]) = if childR p s = [] then kidsR p l else kidsR p l ++ [childR p s] := by
  unfold kidsR
  rw [List.map_append, List.filter_append]
  by_cases h : childR p s = []
  · simp [h]
  · simp [h]
/-- Z: the children of the first k texts, each once, rising. -/
structure InsRel (p : List UInt8) (l : List ByteArray) (k : Nat) (Z : List ByteArray) : Prop where
  sorted : (Z.map (·.data.toList)).Pairwise (· < ·)
  mem : ∀ x, x ∈ Z.map (·.data.toList) ↔ x ∈ kidsR p ((l.take k).map (·.data.toList))
  len : Z.length ≤ k
theorem InsRel.start (p : List UInt8) (l : List ByteArray) : InsRel p l 0 [] := ⟨List.Pairwise.nil, fun x => by simp [kidsR], Nat.le_refl _⟩
theorem rtake_map_snoc (l : List ByteArray) (k : Nat) (hk : k < l.length) : (l.take (k + 1)).map (·.data.toList) = (l.take k).map (·.data.toList) ++ [(l.getD k ByteArray.empty).data.toList] := by
  rw [List.take_succ_eq_append_getElem hk, List.map_append, List.getD_eq_getElem?_getD, List.getElem?_eq_getElem hk]; rfl
theorem InsRel.skip {p : List UInt8} {l : List ByteArray} {k : Nat} {Z : List ByteArray} (h : InsRel p l k Z) (hk : k < l.length) {s : ByteArray} (hs : s = l.getD k ByteArray.empty) (hc : childR p s.data.toList = []) : InsRel p l (k + 1) Z := by
  refine ⟨h.sorted, fun x => ?_, Nat.le_succ_of_le h.len⟩
  rw [rtake_map_snoc l k hk, kidsR_snoc, ← hs, if_pos hc]; exact h.mem x
theorem InsRel.have {p : List UInt8} {l : List ByteArray} {k : Nat} {Z : List ByteArray} (h : InsRel p l k Z) (hk : k < l.length) {s : ByteArray} (hs : s = l.getD k ByteArray.empty) (hc : ¬ childR p s.data.toList = []) {j : Nat} (hj : j < Z.length) (he : (Z.getD j ByteArray.empty).data.toList = childR p s.data.toList) : InsRel p l (k + 1) Z := by
  refine ⟨h.sorted, fun x => ?_, Nat.le_succ_of_le h.len⟩
  rw [rtake_map_snoc l k hk, kidsR_snoc, ← hs, if_neg hc, List.mem_append, List.mem_singleton, h.mem x]
  constructor
  · exact Or.inl
  · rintro (h2 | rfl)
    · exact h2
    · rw [← h.mem, ← he, List.getD_eq_getElem?_getD, List.getElem?_eq_getElem hj]
      exact List.mem_map.2 ⟨Z[j], List.getElem_mem hj, rfl⟩
theorem InsRel.ins {p : List UInt8} {l : List ByteArray} {k : Nat} {Z : List ByteArray} (h : InsRel p l k Z) (hk : k < l.length) {s : ByteArray} (hs : s = l.getD k ByteArray.empty) {c : ByteArray} (hcc : c.data.toList = childR p s.data.toList) (hc : ¬ childR p s.data.toList = []) {j : Nat} (hj : j ≤ Z.length)
    (hlo : ∀ i, i < j → (Z.getD i ByteArray.empty).data.toList < c.data.toList) (hhi : j < Z.length → c.data.toList < (Z.getD j ByteArray.empty).data.toList) : InsRel p l (k + 1) (Z.take j ++ [c] ++ Z.drop j) := by
  refine ⟨?_, fun x => ?_, by have := h.len; simp; omega⟩
  · have h1 := h.sorted
    rw [← List.take_append_drop j Z, List.map_append] at h1
    rw [List.pairwise_append] at h1
    obtain ⟨ha, hb, hab⟩ := h1
    rw [List.map_append, List.map_append, List.append_assoc, List.pairwise_append]
    have hlo' : ∀ x ∈ (Z.take j).map (·.data.toList), x < c.data.toList := by
      intro x hx
      obtain ⟨y, hy, rfl⟩ := List.mem_map.1 hx
      obtain ⟨i, hi, rfl⟩ := List.mem_iff_getElem.1 hy
      have hi2 : i < j := by rw [List.length_take] at hi; omega
      have := hlo i hi2
      rw [List.getD_eq_getElem?_getD, List.getElem?_eq_getElem (show i < Z.length by omega)] at this
      rw [List.getElem_take]; exact this
    have hhi' : ∀ x ∈ (Z.drop j).map (·.data.toList), c.data.toList < x := by
      rcases hd : Z.drop j with _ | ⟨z, t⟩
      · intro x hx; simp at hx
      · have hjl : j < Z.length := by
          have := congrArg List.length hd; rw [List.length_drop, List.length_cons] at this; omega
        have hz : Z.getD j ByteArray.empty = z := by
          have := List.drop_eq_getElem_cons hjl
          rw [hd] at this
          rw [List.getD_eq_getElem?_getD, List.getElem?_eq_getElem hjl]
          exact (List.cons.inj this).1.symm
        have h0 := hhi hjl
        rw [hz] at h0
        intro x hx
        rw [List.map_cons, List.mem_cons] at hx
        rcases hx with rfl | hx
        · exact h0
        · rw [hd, List.map_cons, List.pairwise_cons] at hb
          exact List.lt_trans h0 (hb.1 x hx)
    refine ⟨ha, ?_, ?_⟩
    · rw [List.map_cons, List.map_nil, List.singleton_append, List.pairwise_cons]
      exact ⟨hhi', hb⟩
    · intro x hx y hy
      rw [List.map_cons, List.map_nil, List.singleton_append, List.mem_cons] at hy
      rcases hy with rfl | hy
      · exact hlo' x hx
      · exact hab x hx y hy
  · rw [rtake_map_snoc l k hk, kidsR_snoc, ← hs, if_neg hc, List.mem_append, List.mem_singleton, ← h.mem x, ← hcc]
    conv => rhs; rw [← List.take_append_drop j Z]
    simp only [List.map_append, List.mem_append, List.map_cons, List.map_nil, List.mem_singleton]
    constructor
    · rintro ((a | b) | c)
      · exact Or.inl (Or.inl a)
      · exact Or.inr b
      · exact Or.inl (Or.inr c)
    · rintro ((a | b) | c)
      · exact Or.inl (Or.inl a)
      · exact Or.inr b
      · exact Or.inl (Or.inr c)
theorem InsRel.notin {x c : ByteArray} (h1 : ¬ x.data.toList < c.data.toList) (h2 : ¬ x.data.toList = c.data.toList) : c.data.toList < x.data.toList := by
  rcases List.le_iff_lt_or_eq.1 (List.not_lt.1 h1) with h | h
  · exact h
  · exact absurd h.symm h2
theorem lt_bytes {a b : ByteArray} (h : a.data.toList < b.data.toList) : Op.bytesLess a.toList b.toList = true := by
  rw [bytesLess_eq, ByteArray.toList_eq, ByteArray.toList_eq]; simpa using h
theorem nlt_bytes {a b : ByteArray} (h : ¬ a.data.toList < b.data.toList) : Op.bytesLess a.toList b.toList = false := by
  rw [bytesLess_eq, ByteArray.toList_eq, ByteArray.toList_eq]; simpa using h
theorem less_nil (l : List UInt8) : Op.bytesLess l [] = false := by cases l <;> rfl
theorem eq_bytes {a b : ByteArray} (h : a.data.toList = b.data.toList) : (a.toList == b.toList) = true := by rw [ba_ext h]; simp
theorem ne_bytes {a b : ByteArray} (h : ¬ a.data.toList = b.data.toList) : (a.toList == b.toList) = false := by
  rw [beq_eq_false_iff_ne, ByteArray.toList_eq, ByteArray.toList_eq]; exact h

theorem oneStr (x : ByteArray) : ∀ u ∈ [Value.string x], u.oneCell' = true := by intro u hu; simp at hu; subst hu; rfl
theorem manyStr (l : List ByteArray) : ∀ u ∈ l.map Value.string, u.oneCell' = true := by
  intro u hu; obtain ⟨_, _, rfl⟩ := List.mem_map.1 hu; rfl
theorem rchild_le (p s : List UInt8) : (childR p s).length ≤ s.length := by
  rw [child_eq]; unfold childL headL restL; repeat' split
  all_goals (simp; try omega)

theorem own_below {w w' : World} {B e n : Nat} {v : Value} {xs : List Value} (h : w.ownsRow B e 1 v n xs) (hb : Below w.heap.size w w') : w'.ownsRow B e 1 v n xs := by
  refine ⟨h.1, ?_⟩
  rcases h.2 with hn | ⟨g, cap, cur, hv, hBg, hg, rest⟩
  · exact Or.inl hn
  · exact Or.inr ⟨g, cap, cur, hv, hBg, (hb.block g (lt_of_block hg)).trans hg, rest⟩

theorem addr_add (g o i : Nat) : (⟨g, o, none⟩ : Addr).add i = ⟨g, o + i, none⟩ := by
  unfold Addr.add
  split
  · rename_i h; subst h; rfl
  · rfl
theorem news_none {w : World} {ad : Addr} {l : List ByteArray} (h : l = []) : ∀ i u, (l.map Value.string)[i]? = some u → w.cell? (ad.add i) = some u := by
  subst h; intro i u hu; simp at hu
theorem news_from {w : World} {B e g n cap : Nat} {Z : List ByteArray} (h : w.ownsRow B e 1 (.slice (some ⟨g, 0, none⟩) n cap) n (Z.map Value.string)) {j : Nat} (_hj : j ≤ n) : ∀ i u, ((Z.take j).map Value.string)[i]? = some u → w.cell? ((⟨g, 0, none⟩ : Addr).add i) = some u := by
  intro i u hu
  obtain ⟨hi, _⟩ := List.getElem?_eq_some_iff.1 hu
  rw [List.length_map, List.length_take] at hi
  rw [List.map_take, List.getElem?_take_of_lt (by omega)] at hu
  have := World.ownsRow.cellAt h i (by omega)
  rw [hu] at this
  rw [addr_add, Nat.zero_add]; exact this
theorem news_drop {w w' : World} {B e g n cap : Nat} {Z : List ByteArray} (h : w.ownsRow B e 1 (.slice (some ⟨g, 0, none⟩) n cap) n (Z.map Value.string)) (hb : Below w.heap.size w w') {j : Nat} (_hj : j ≤ n) : ∀ i u, ((Z.drop j).map Value.string)[i]? = some u → w'.cell? ((⟨g, j, none⟩ : Addr).add i) = some u := by
  intro i u hu
  obtain ⟨hi, _⟩ := List.getElem?_eq_some_iff.1 hu
  rw [List.length_map, List.length_drop] at hi
  have hl : n = Z.length := by have := h.1; simpa using this.symm
  rw [List.map_drop, List.getElem?_drop] at hu
  have := World.ownsRow.cellAt (own_below h hb) (j + i) (by omega)
  rw [hu] at this
  rw [addr_add]; exact this
theorem ins_own {w : World} {B B' e : Nat} {v : Value} {Z : List ByteArray} {c : ByteArray} {j : Nat} (h : w.ownsRow B e 1 v (j + 1 + (Z.length - j)) ((Z.take j).map Value.string ++ [.string c] ++ (Z.drop j).map Value.string)) (hB : B' ≤ B) (hj : j ≤ Z.length) :
    w.ownsRow B' e 1 v (Z.take j ++ [c] ++ Z.drop j).length ((Z.take j ++ [c] ++ Z.drop j).map Value.string) := by
  have e1 : (Z.take j ++ [c] ++ Z.drop j).length = j + 1 + (Z.length - j) := by simp; omega
  have e2 : (Z.take j ++ [c] ++ Z.drop j).map Value.string = (Z.take j).map Value.string ++ [.string c] ++ (Z.drop j).map Value.string := by simp
  rw [e1, e2]
  refine ⟨h.1, ?_⟩
  rcases h.2 with hn | ⟨g, cap, cur, hv, hBg, rest⟩
  · exact Or.inl hn
  · exact Or.inr ⟨g, cap, cur, hv, by omega, rest⟩

theorem ins_own0 {w : World} {B B' e : Nat} {v : Value} {Z : List ByteArray} {c : ByteArray} {j : Nat} (h : w.ownsRow B e 1 v (j + 1 + 0) ((Z.take j).map Value.string ++ [.string c] ++ [])) (hB : B' ≤ B) (hj : j = Z.length) :
    w.ownsRow B' e 1 v (Z.take j ++ [c] ++ Z.drop j).length ((Z.take j ++ [c] ++ Z.drop j).map Value.string) := by
  subst hj
  refine ins_own ?_ hB (Nat.le_refl _)
  rw [Nat.sub_self, List.drop_length]; exact h

def RNamesGives (p : List UInt8) (l : List ByteArray) (w : World) (e : Ending) (w' : World) : Prop :=
  ∃ (v : Value) (Z : List ByteArray), e = .returned v ∧ IsStrs w' v Z ∧ InsRel p l l.length Z ∧ Below w.heap.size w w'

set_option maxHeartbeats 4000000 in
theorem ref16_names (p : ByteArray) (l : List ByteArray) (v : Value) (w : World) (hp : p.size ≤ 140737488351232) (hl : l.length ≤ 100) (hls : ∀ i, i < l.length → (l.getD i ByteArray.empty).size ≤ 140737488351232)
    (hv : IsStrs w v l) :
    Calls Tryd.prog 20 #[.string p, v] w (RNamesGives p.data.toList l w) := by
  obtain ⟨a, cap, rfl, hcells⟩ := hv
  have hcells := Lib.hid hcells
  have hls := Lib.hid hls
  obtain ⟨i0, hi, hz0, hz1, hz2⟩ := info_parts info9
  have I := Lib.hid (And.intro hi (And.intro hz0 (And.intro hz1 hz2))); clear hi hz0 hz1 hz2
  go_enter Tryd.func20, Tryd.ntmps20
  go_wp2
  go_loopw [5, 6, 8, 9] (fun v i _ _ wr => ∃ (k : Nat) (Z : List ByteArray), k ≤ l.length ∧ i = .int .i64 k ∧ Hid (wr.ownsRow w.heap.size 9 1 v Z.length (Z.map Value.string)) ∧ Hid (InsRel p.data.toList l k Z) ∧ Hid (Below w.heap.size w wr)) (fun _ i _ _ _ => l.length - (intOf i).toNat)
  case atStart => exact ⟨0, [], Nat.zero_le _, rfl, Lib.hid (World.ownsRow_nil _ _ _ _), Lib.hid (InsRel.start _ _), Lib.hid (Below.refl _ _)⟩
  case round =>
    obtain ⟨k, Z, hk, rfl, hown, hrl, hbw⟩ := hrel
    by_cases hlt : k < l.length
    · rcases hcells.out with hn | ⟨b, off, rfl, hblt, hc⟩
      · subst hn; simp at hlt
      have hcell : wr.cell? ⟨b, off + k, none⟩ = some (.string (l.getD k ByteArray.empty)) := (hbw.out.cell (p := ⟨b, off + k, none⟩) hblt).trans (hc k hlt)
      have hsz := hls.out k hlt
      obtain ⟨s, hs⟩ : ∃ s, s = l.getD k ByteArray.empty := ⟨_, rfl⟩
      rw [← hs] at hcell hsz
      have Hs := Lib.hid hs; clear hs hc
      have HC := Lib.hid (ref16_child p s hp hsz wr)
      obtain ⟨c, hcc⟩ : ∃ c, c = bs (childR p.data.toList s.data.toList) := ⟨_, rfl⟩
      rw [← hcc] at HC
      have hcl : c.data.toList = childR p.data.toList s.data.toList := by rw [hcc]; rfl
      have Hcc := Lib.hid hcl; clear hcc hcl
      have hZl := hrl.out.len
      rcases hown.out.2 with ⟨hv, hZ0⟩ | ⟨g, cap2, cur, hv, hBg, hgr, hnc, hcm, hcs, htk⟩
      · have hZ : Z = [] := List.length_eq_zero_iff.1 hZ0
        subst hZ; subst hv
        clear hZ0 hZl
        go_wp2_with fail
        refine (HC.out).mono ?_
        rintro e w1 ⟨rfl, hb1⟩
        have Hb1 := Lib.hid hb1; clear hb1
        have HB1 := Lib.hid (hbw.out.trans (Hb1.out.mono hbw.out.size))
        go_wp2
        go_loop [8] (fun at' => at' = .int .i64 ((0 : Nat) : Int)) (fun _ => 0)
        case atStart => rfl
        case round =>
          subst hrel
          by_cases hce : c.data.toList = []
          · have hce1 := remptyT hce
            have Hce := Lib.hid hce; clear hce
            go_wp2
            go_roundw
            case rel => exact ⟨k + 1, [], by omega, by go_num, Lib.hid (World.ownsRow_nil _ _ _ _), Lib.hid (hrl.out.skip hlt Hs.out (by rw [← Hcc.out]; exact Hce.out)), HB1⟩
            case measure => simp [intOf]; omega
          · have hce1 := remptyF hce; have hce2 := remptyG hce
            have Hce := Lib.hid hce; clear hce
            obtain ⟨hi, hz0, hz1, hz2⟩ := I.out
            go_wp2_with (first | (at_builtin; refine wpList_append_own_none rfl (.tmp 52) (.tmp 55) 23 rfl w1.heap.size 9 i0 1 Tryd.underlying23 hi _ _ _ rfl (World.ownsRow_nil _ _ _ _) rfl ?_) | (at_builtin; refine wpList_append_own _ rfl (.tmp 57) (.tmp 59) 23 rfl w1.heap.size 9 i0 (.string ByteArray.empty) 1 16 Tryd.underlying23 hi hz0 hz1 hz2 rfl (by decide) _ _ _ rfl (World.ownsRow_nil _ _ _ _) ⟨w1.heap.size, 0, none⟩ 1 1 [.string c] rfl rfl (cell_one_new _ _ _) (oneStr _) (by unfold maxLen; omega) (by omega) (by simp) ?_; intro v3 w3 hown3 hgrow3 _hn3; have Hg3 := Lib.hid (Below.grown ((Below.refl w1.heap.size w1).alloc (Nat.le_refl _) _) hgrow3 (by simp) (fun k h => by cases h)); simp only [Nat.zero_add, List.nil_append] at hown3; clear hgrow3 _hn3) | (at_builtin; refine wpList_append_own_none rfl (.tmp 61) (.tmp 64) 23 rfl w1.heap.size 9 i0 1 Tryd.underlying23 hi _ _ _ rfl hown3 rfl ?_))
            have Hown3 := Lib.hid hown3; clear hown3
            go_wp2
            go_roundw
            case rel => exact ⟨k + 1, [] ++ [c] ++ [], by omega, by go_num, Lib.hid (ins_own (Z := []) (j := 0) Hown3.out HB1.out.size (Nat.le_refl _)), Lib.hid (hrl.out.ins (Z := []) (j := 0) hlt Hs.out Hcc.out (by rw [← Hcc.out]; exact Hce.out) (Nat.le_refl _) (fun i h => by omega) (fun h => by simp at h)), Lib.hid (HB1.out.trans (Hg3.out.mono HB1.out.size))⟩
            case measure => simp [intOf]; omega
      · subst hv
        clear hBg hgr hcs htk
        have hcap : cap2 ≤ 9223372036854775807 := by unfold maxLen at hcm; exact hcm
        clear hcm
        go_wp2_with fail
        refine (HC.out).mono ?_
        rintro e w1 ⟨rfl, hb1⟩
        have Hb1 := Lib.hid hb1; clear hb1
        have Hown1 := Lib.hid (own_below hown.out Hb1.out)
        go_wp2
        go_loop [8] (fun at' => ∃ j : Nat, j ≤ Z.length ∧ at' = .int .i64 j ∧ Hid (∀ i, i < j → (Z.getD i ByteArray.empty).data.toList < c.data.toList)) (fun at' => Z.length - (intOf at').toNat)
        case atStart => exact ⟨0, Nat.zero_le _, rfl, Lib.hid (fun i hi => by omega)⟩
        case round =>
          obtain ⟨j, hj, rfl, hlo⟩ := hrel
          by_cases hjl : j < Z.length
          · have hcj : w1.cell? ⟨g, j, none⟩ = some (.string (Z.getD j ByteArray.empty)) := by
              rw [World.ownsRow.cellAt Hown1.out j (by omega), List.getElem?_map, List.getD_eq_getElem?_getD, List.getElem?_eq_getElem hjl]; rfl
            obtain ⟨x, hx⟩ : ∃ x, x = Z.getD j ByteArray.empty := ⟨_, rfl⟩
            rw [← hx] at hcj
            have Hx := Lib.hid hx; clear hx
            by_cases hlt1 : x.data.toList < c.data.toList
            · have hB := lt_bytes hlt1
              have Hlt1 := Lib.hid hlt1; clear hlt1
              go_wp2
              go_round
              case rel => exact ⟨j + 1, by omega, by go_num, Lib.hid (fun i hi => by
                by_cases e : i = j
                · subst e; rw [← Hx.out]; exact Hlt1.out
                · exact hlo.out i (by omega))⟩
              case measure => simp [intOf]; omega
            · have hB := nlt_bytes hlt1
              have Hlt1 := Lib.hid hlt1; clear hlt1
              by_cases hce : c.data.toList = []
              · have hce1 := remptyT hce
                have hB0 := less_nil x.toList
                have Hce := Lib.hid hce; clear hce
                go_wp2
                go_roundw
                case rel => exact ⟨k + 1, Z, by omega, by go_num, Lib.hid (own_below hown.out Hb1.out), Lib.hid (hrl.out.skip hlt Hs.out (by rw [← Hcc.out]; exact Hce.out)), Lib.hid (hbw.out.trans (Hb1.out.mono hbw.out.size))⟩
                case measure => simp [intOf]; omega
              · by_cases heq : x.data.toList = c.data.toList
                · have hce1 := remptyF hce; have hce2 := remptyG hce
                  have Hce := Lib.hid hce; clear hce
                  have hE := eq_bytes heq
                  have Heq := Lib.hid heq; clear heq
                  go_wp2
                  go_roundw
                  case rel => exact ⟨k + 1, Z, by omega, by go_num, Lib.hid (own_below hown.out Hb1.out), Lib.hid (hrl.out.have hlt Hs.out (by rw [← Hcc.out]; exact Hce.out) hjl (by rw [← Hx.out, ← Hcc.out]; exact Heq.out)), Lib.hid (hbw.out.trans (Hb1.out.mono hbw.out.size))⟩
                  case measure => simp [intOf]; omega
                · have hE := ne_bytes heq
                  have Heq := Lib.hid heq; clear heq
                  have hce1 := remptyF hce; have hce2 := remptyG hce
                  obtain ⟨hi, hz0, hz1, hz2⟩ := I.out
                  go_wp2_with (first | (at_builtin; refine wpList_append_own _ rfl (.tmp 52) (.tmp 55) 23 rfl w1.heap.size 9 i0 (.string ByteArray.empty) 1 16 Tryd.underlying23 hi hz0 hz1 hz2 rfl (by decide) _ _ _ rfl (World.ownsRow_nil _ _ _ _) ⟨g, 0, none⟩ j cap2 ((Z.take j).map Value.string) rfl (by rw [List.length_map, List.length_take]; omega) (news_from Hown1.out (j := j) (by omega)) (manyStr _) (by unfold maxLen; omega) (by omega) (Nat.le_refl _) ?_; intro v2 w2 hown2 hgrow2 _hn2; have Hg2 := Lib.hid (Below.grown (Below.refl w1.heap.size w1) hgrow2 (Nat.le_refl _) (fun k h => by cases h)); simp only [Nat.zero_add, List.nil_append] at hown2; clear hgrow2 _hn2) | (at_builtin; refine wpList_append_own _ rfl (.tmp 57) (.tmp 59) 23 rfl w1.heap.size 9 i0 (.string ByteArray.empty) 1 16 Tryd.underlying23 hi hz0 hz1 hz2 rfl (by decide) _ _ _ rfl (hown2.alloc _) ⟨w2.heap.size, 0, none⟩ 1 1 [.string c] rfl rfl (cell_one_new _ _ _) (oneStr _) (by unfold maxLen; omega) (by omega) (by have := Hg2.out.size; simp; omega) ?_; intro v3 w3 hown3 hgrow3 _hn3; have Hg3 := Lib.hid ((Hg2.out.alloc Hg2.out.size _).grown hgrow3 (by have := Hg2.out.size; simp; omega) (own_above hown2)); clear hgrow3 _hn3) | (at_builtin; refine wpList_append_own _ rfl (.tmp 61) (.tmp 64) 23 rfl w1.heap.size 9 i0 (.string ByteArray.empty) 1 16 Tryd.underlying23 hi hz0 hz1 hz2 rfl (by decide) _ _ _ rfl hown3 ⟨g, j, none⟩ (Z.length - j) (cap2 - j) ((Z.drop j).map Value.string) rfl (by rw [List.length_map, List.length_drop]; omega) (news_drop Hown1.out Hg3.out (j := j) (by omega)) (manyStr _) (by unfold maxLen; omega) (by omega) Hg3.out.size ?_; intro v4 w4 hown4 hgrow4 _hn4; have Hg4 := Lib.hid (Hg3.out.grown hgrow4 Hg3.out.size (own_above hown3)); clear hgrow4 _hn4))
                  have HB4 := Lib.hid ((hbw.out.trans (Hb1.out.mono hbw.out.size)).trans (Hg4.out.mono (Nat.le_trans hbw.out.size Hb1.out.size)))
                  have Hown4 := Lib.hid hown4; clear hown2 hown3 hown4
                  go_wp2
                  go_roundw
                  case rel => exact ⟨k + 1, Z.take j ++ [c] ++ Z.drop j, by omega, by go_num, Lib.hid (ins_own Hown4.out (Nat.le_trans hbw.out.size Hb1.out.size) hj), Lib.hid (hrl.out.ins hlt Hs.out Hcc.out (by rw [← Hcc.out]; exact hce) hj hlo.out (fun _ => by rw [← Hx.out]; exact InsRel.notin Hlt1.out Heq.out)), HB4⟩
                  case measure => simp [intOf]; omega
          · by_cases hce : c.data.toList = []
            · have hce1 := remptyT hce
              have Hce := Lib.hid hce; clear hce
              go_wp2
              go_roundw
              case rel => exact ⟨k + 1, Z, by omega, by go_num, Lib.hid (own_below hown.out Hb1.out), Lib.hid (hrl.out.skip hlt Hs.out (by rw [← Hcc.out]; exact Hce.out)), Lib.hid (hbw.out.trans (Hb1.out.mono hbw.out.size))⟩
              case measure => simp [intOf]; omega
            · rcases (show j < cap2 ∨ (cap2 ≤ j ∧ j ≤ cap2) by omega) with hjc | hjc
              all_goals
                have hce1 := remptyF hce; have hce2 := remptyG hce
                obtain ⟨hi, hz0, hz1, hz2⟩ := I.out
                go_wp2_with (first | (at_builtin; refine wpList_append_own _ rfl (.tmp 52) (.tmp 55) 23 rfl w1.heap.size 9 i0 (.string ByteArray.empty) 1 16 Tryd.underlying23 hi hz0 hz1 hz2 rfl (by decide) _ _ _ rfl (World.ownsRow_nil _ _ _ _) ⟨g, 0, none⟩ j cap2 ((Z.take j).map Value.string) rfl (by rw [List.length_map, List.length_take]; omega) (news_from Hown1.out (j := j) (by omega)) (manyStr _) (by unfold maxLen; omega) (by omega) (Nat.le_refl _) ?_; intro v2 w2 hown2 hgrow2 _hn2; have Hg2 := Lib.hid (Below.grown (Below.refl w1.heap.size w1) hgrow2 (Nat.le_refl _) (fun k h => by cases h)); simp only [Nat.zero_add, List.nil_append] at hown2; clear hgrow2 _hn2) | (at_builtin; refine wpList_append_own _ rfl (.tmp 57) (.tmp 59) 23 rfl w1.heap.size 9 i0 (.string ByteArray.empty) 1 16 Tryd.underlying23 hi hz0 hz1 hz2 rfl (by decide) _ _ _ rfl (hown2.alloc _) ⟨w2.heap.size, 0, none⟩ 1 1 [.string c] rfl rfl (cell_one_new _ _ _) (oneStr _) (by unfold maxLen; omega) (by omega) (by have := Hg2.out.size; simp; omega) ?_; intro v3 w3 hown3 hgrow3 _hn3; have Hg3 := Lib.hid ((Hg2.out.alloc Hg2.out.size _).grown hgrow3 (by have := Hg2.out.size; simp; omega) (own_above hown2)); clear hgrow3 _hn3) | (at_builtin; refine wpList_append_own _ rfl (.tmp 61) (.tmp 64) 23 rfl w1.heap.size 9 i0 (.string ByteArray.empty) 1 16 Tryd.underlying23 hi hz0 hz1 hz2 rfl (by decide) _ _ _ rfl hown3 _ (Z.length - j) _ ((Z.drop j).map Value.string) rfl (by rw [List.length_map, List.length_drop]; omega) (news_none (List.drop_eq_nil_of_le (by omega))) (manyStr _) (by unfold maxLen; omega) (by omega) Hg3.out.size ?_; intro v4 w4 hown4 hgrow4 _hn4; have Hg4 := Lib.hid (Hg3.out.grown hgrow4 Hg3.out.size (own_above hown3)); clear hgrow4 _hn4))
                have HB4 := Lib.hid ((hbw.out.trans (Hb1.out.mono hbw.out.size)).trans (Hg4.out.mono (Nat.le_trans hbw.out.size Hb1.out.size)))
                have Hown4 := Lib.hid hown4; clear hown2 hown3 hown4
                go_wp2
                go_roundw
                case rel => exact ⟨k + 1, Z.take j ++ [c] ++ Z.drop j, by omega, by go_num, Lib.hid (ins_own Hown4.out (Nat.le_trans hbw.out.size Hb1.out.size) hj), Lib.hid (hrl.out.ins hlt Hs.out Hcc.out (by rw [← Hcc.out]; exact hce) hj hlo.out (fun h => absurd h hjl)), HB4⟩
                case measure => simp [intOf]; omega
    · have Hk : Hid (k = l.length) := Lib.hid (by omega)
      have hge : (l.length : Int) ≤ (k : Int) := by omega
      go_wp2
      go_ret
      exact ⟨_, Z, rfl, IsStrs.own hown.out, by rw [← Hk.out]; exact hrl.out, hbw.out⟩
end Go.Proofs.YtnlolfhhemdojaaDoor
