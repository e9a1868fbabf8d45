/- Contract for scriniumref16.Names: insertion into a sorted list. Contracts: scriniumref18 at, Bytes, with. Contract: scriniumref18.with. Contract: scriniumref18.one. -/
import Derived.Test.YtfbgnpfhjbiikaaGreatDoorQr04
import Derived.Test.YtfbgnpfhjbiikaaGreatDoorQr05
import Derived.Test.YtfbgnpfhjbiikaaGreatDoorQr06
import Derived.Laws.AppendOwnNone
import Derived.Sort.Walk0
namespace Go.Proofs.YtfbgnpfhjbiikaaGreatDoor
open Go Go.RowKit Pth Go.Sort
def kidsR (p : List UInt8) (l : List (List UInt8)) : List (List UInt8) := (l.map (childR p)).filter (fun c => !c.isEmpty)
theorem kidsR_snoc (p s : List UInt8) (l : List (List UInt8)) : kidsR p (l ++ [s]) = if childR p s = [] then kidsR p l else kidsR p l ++ [childR p s] := by
  unfold kidsR
  rw [List.map_append, List.filter_append]
  by_cases h : childR p s = []
  · simp [h]
  · simp [h]
structure InsRel (p : List UInt8) (l : List ByteArray) (k : Nat) (Z : List ByteArray) : Prop where
  sorted : (Z.map (·.data.toList)).Pairwise (· < ·)
  mem : ∀ x, x ∈ Z.map (·.data.toList) ↔ x ∈ kidsR p ((l.take k).map (·.data.toList))
  len : Z.length ≤ k
theorem InsRel.start (p : List UInt8) (l : List ByteArray) : InsRel p l 0 [] := ⟨List.Pairwise.nil, fun x => by simp [kidsR], Nat.le_refl _⟩
theorem rtake_map_snoc (l : List ByteArray) (k : Nat) (hk : k < l.length) : (l.take (k + 1)).map (·.data.toList) = (l.take k).map (·.data.toList) ++ [(l.getD k ByteArray.empty).data.toList] := by
  rw [List.take_succ_eq_append_getElem hk, List.map_append, List.getD_eq_getElem?_getD, List.getElem?_eq_getElem hk]; rfl
theorem InsRel.skip {p : List UInt8} {l : List ByteArray} {k : Nat} {Z : List ByteArray} (h : InsRel p l k Z) (hk : k < l.length) {s : ByteArray} (hs : s = l.getD k ByteArray.empty) (hc : childR p s.data.toList = []) : InsRel p l (k + 1) Z := by
  refine ⟨h.sorted, fun x => ?_, Nat.le_succ_of_le h.len⟩
  rw [rtake_map_snoc l k hk, kidsR_snoc, ← hs, if_pos hc]; exact h.mem x
theorem InsRel.have {p : List UInt8} {l : List ByteArray} {k : Nat} {Z : List ByteArray} (h : InsRel p l k Z) (hk : k < l.length) {s : ByteArray} (hs : s = l.getD k ByteArray.empty) (hc : ¬ childR p s.data.toList = []) {j : Nat} (hj : j < Z.length) (he : (Z.getD j ByteArray.empty).data.toList = childR p s.data.toList) : InsRel p l (k + 1) Z := by
  refine ⟨h.sorted, fun x => ?_, Nat.le_succ_of_le h.len⟩
  rw [rtake_map_snoc l k hk, kidsR_snoc, ← hs, if_neg hc, List.mem_append, List.mem_singleton, h.mem x]
  constructor
  · exact Or.inl
  · rintro (h2 | rfl)
    · exact h2
    · rw [← h.mem, ← he, List.getD_eq_getElem?_getD, List.getElem?_eq_getElem hj]
      exact List.mem_map.2 ⟨Z[j], List.getElem_mem hj, rfl⟩
theorem InsRel.ins {p : List UInt8} {l : List ByteArray} {k : Nat} {Z : List ByteArray} (h : InsRel p l k Z) (hk : k < l.length) {s : ByteArray} (hs : s = l.getD k ByteArray.empty) {c : ByteArray} (hcc : c.data.toList = childR p s.data.toList) (hc : ¬ childR p s.data.toList = []) {j : Nat} (hj : j ≤ Z.length)
    (hlo : ∀ i, i < j → (Z.getD i ByteArray.empty).data.toList < c.data.toList) (hhi : j < Z.length → c.data.toList < (Z.getD j ByteArray.empty).data.toList) : InsRel p l (k + 1) (Z.take j ++ [c] ++ Z.drop j) := by
  refine ⟨?_, fun x => ?_, by have := h.len; simp; omega⟩
  · have h1 := h.sorted
    rw [← List.take_append_drop j Z, List.map_append] at h1
    rw [List.pairwise_append] at h1
    obtain ⟨ha, hb, hab⟩ := h1
    rw [List.map_append, List.map_append, List.append_assoc, List.pairwise_append]
    have hlo' : ∀ x ∈ (Z.take j).map (·.data.toList), x < c.data.toList := by
      intro x hx
      obtain ⟨y, hy, rfl⟩ := List.mem_map.1 hx
      obtain ⟨i, hi, rfl⟩ := List.mem_iff_getElem.1 hy
      have hi2 : i < j := by rw [List.length_take] at hi; omega
      have := hlo i hi2
      rw [List.getD_eq_getElem?_getD, List.getElem?_eq_getElem (show i < Z.length by omega)] at this
      rw [List.getElem_take]; exact this
    have hhi' : ∀ x ∈ (Z.drop j).map (·.data.toList), c.data.toList < x := by
      rcases hd : Z.drop j with _ | ⟨z, t⟩
      · intro x hx; simp at hx
      · have hjl : j < Z.length := by
          have := congrArg List.length hd; rw [List.length_drop, List.length_cons] at this; omega
        have hz : Z.getD j ByteArray.empty = z := by
          have := List.drop_eq_getElem_cons hjl
          rw [hd] at this
          rw [List.getD_eq_getElem?_getD, List.getElem?_eq_getElem hjl]
          exact (List.cons.inj this).1.symm
        have h0 := hhi hjl
        rw [hz] at h0
        intro x hx
        rw [List.map_cons, List.mem_cons] at hx
        rcases hx with rfl | hx
        · exact h0
        · rw [hd, List.map_cons, List.pairwise_cons] at hb
          exact List.lt_trans h0 (hb.1 x hx)
    refine ⟨ha, ?_, ?_⟩
    · rw [List.map_cons, List.map_nil, List.singleton_append, List.pairwise_cons]
      exact ⟨hhi', hb⟩
    · intro x hx y hy
      rw [List.map_cons, List.map_nil, List.singleton_append, List.mem_cons] at hy
      rcases hy with rfl | hy
      · exact hlo' x hx
      · exact hab x hx y hy
  · rw [rtake_map_snoc l k hk, kidsR_snoc, ← hs, if_neg hc, List.mem_append, List.mem_singleton, ← h.mem x, ← hcc]
    conv => rhs; rw [← List.take_append_drop j Z]
    simp only [List.map_append, List.mem_append, List.map_cons, List.map_nil, List.mem_singleton]
    constructor
    · rintro ((a | b) | c)
      · exact Or.inl (Or.inl a)
      · exact Or.inr b
      · exact Or.inl (Or.inr c)
    · rintro ((a | b) | c)
      · exact Or.inl (Or.inl a)
      · exact Or.inr b
      · exact Or.inl (Or.inr c)
theorem InsRel.notin {x c : ByteArray} (h1 : ¬ x.data.toList < c.data.toList) (h2 : ¬ x.data.toList = c.data.toList) : c.data.toList < x.data.toList := by
  rcases List.le_iff_lt_or_eq.1 (List.not_lt.1 h1) with h | h
  · exact h
  · exact absurd h.symm h2
theorem lt_bytes {a b : ByteArray} (h : a.data.toList < b.data.toList) : Op.bytesLess a.toList b.toList = true := by
  rw [bytesLess_eq, ByteArray.toList_eq, ByteArray.toList_eq]; simpa using h
theorem nlt_bytes {a b : ByteArray} (h : ¬ a.data.toList < b.data.toList) : Op.bytesLess a.toList b.toList = false := by
  rw [bytesLess_eq, ByteArray.toList_eq, ByteArray.toList_eq]; simpa using h
theorem less_nil (l : List UInt8) : Op.bytesLess l [] = false := by cases l <;> rfl
theorem eq_bytes {a b : ByteArray} (h : a.data.toList = b.data.toList) : (a.toList == b.toList) = true := by rw [ba_ext h]; simp
theorem ne_bytes {a b : ByteArray} (h : ¬ a.data.toList = b.data.toList) : (a.toList == b.toList) = false := by
  rw [beq_eq_false_iff_ne, ByteArray.toList_eq, ByteArray.toList_eq]; exact h

theorem oneStr (x : ByteArray) : ∀ u ∈ [Value.string x], u.oneCell' = true := by intro u hu; simp at hu; subst hu; rfl
theorem manyStr (l : List ByteArray) : ∀ u ∈ l.map Value.string, u.oneCell' = true := by
  intro u hu; obtain ⟨_, _, rfl⟩ := List.mem_map.1 hu; rfl
theorem own_below {w w' : World} {B e n : Nat} {v : Value} {xs : List Value} (h : w.ownsRow B e 1 v n xs) (hb : Below w.heap.size w w') : w'.ownsRow B e 1 v n xs := by
  refine ⟨h.1, ?_⟩
  rcases h.2 with hn | ⟨g, cap, cur, hv, hBg, hg, rest⟩
  · exact Or.inl hn
  · exact Or.inr ⟨g, cap, cur, hv, hBg, (hb.block g (lt_of_block hg)).trans hg, rest⟩

theorem addr_add (g o i : Nat) : (⟨g, o, none⟩ : Addr).add i = ⟨g, o + i, none⟩ := by
  unfold Addr.add
  split
  · rename_i h; subst h; rfl
  · rfl
theorem news_none {w : World} {ad : Addr} {l : List ByteArray} (h : l = []) : ∀ i u, (l.map Value.string)[i]? = some u → w.cell? (ad.add i) = some u := by
  subst h; intro i u hu; simp at hu
theorem news_from {w : World} {B e g n cap : Nat} {Z : List ByteArray} (h : w.ownsRow B e 1 (.slice (some ⟨g, 0, none⟩) n cap) n (Z.map Value.string)) {j : Nat} (_hj : j ≤ n) : ∀ i u, ((Z.take j).map Value.string)[i]? = some u → w.cell? ((⟨g, 0, none⟩ : Addr).add i) = some u := by
  intro i u hu
  obtain ⟨hi, _⟩ := List.getElem?_eq_some_iff.1 hu
  rw [List.length_map, List.length_take] at hi
  rw [List.map_take, List.getElem?_take_of_lt (by omega)] at hu
  have := World.ownsRow.cellAt h i (by omega)
  rw [hu] at this
  rw [addr_add, Nat.zero_add]; exact this
theorem news_drop {w w' : World} {B e g n cap : Nat} {Z : List ByteArray} (h : w.ownsRow B e 1 (.slice (some ⟨g, 0, none⟩) n cap) n (Z.map Value.string)) (hb : Below w.heap.size w w') {j : Nat} (_hj : j ≤ n) : ∀ i u, ((Z.drop j).map Value.string)[i]? = some u → w'.cell? ((⟨g, j, none⟩ : Addr).add i) = some u := by
  intro i u hu
  obtain ⟨hi, _⟩ := List.getElem?_eq_some_iff.1 hu
  rw [List.length_map, List.length_drop] at hi
  have hl : n = Z.length := by have := h.1; simpa using this.symm
  rw [List.map_drop, List.getElem?_drop] at hu
  have := World.ownsRow.cellAt (own_below h hb) (j + i) (by omega)
  rw [hu] at this
  rw [addr_add]; exact this
theorem ins_own {w : World} {B B' e : Nat} {v : Value} {Z : List ByteArray} {c : ByteArray} {j : Nat} (h : w.ownsRow B e 1 v (j + 1 + (Z.length - j)) ((Z.take j).map Value.string ++ [.string c] ++ (Z.drop j).map Value.string)) (hB : B' ≤ B) (hj : j ≤ Z.length) :
    w.ownsRow B' e 1 v (Z.take j ++ [c] ++ Z.drop j).length ((Z.take j ++ [c] ++ Z.drop j).map Value.string) := by
  have e1 : (Z.take j ++ [c] ++ Z.drop j).length = j + 1 + (Z.length - j) := by simp; omega
  have e2 : (Z.take j ++ [c] ++ Z.drop j).map Value.string = (Z.take j).map Value.string ++ [.string c] ++ (Z.drop j).map Value.string := by simp
  rw [e1, e2]
  refine ⟨h.1, ?_⟩
  rcases h.2 with hn | ⟨g, cap, cur, hv, hBg, rest⟩
  · exact Or.inl hn
  · exact Or.inr ⟨g, cap, cur, hv, by omega, rest⟩

theorem ownAbove16 {w : World} {B e n k : Nat} {v : Value} {xs : List Value} (h : w.ownsRow B e k v n xs) : ∀ k, v.ownBlock = some k → B ≤ k := by
  intro k hk
  rcases h.2 with ⟨hv, _⟩ | ⟨g, cap, cur, hv, hB, _⟩
  · subst hv; cases hk
  · subst hv; cases hk; exact hB
def RNamesF (p : List UInt8) (l : List ByteArray) (w : World) (e : Ending) (w' : World) : Prop :=
  ∃ (v : Value) (Z : List ByteArray), e = .returned v ∧ IsStrs w' v Z ∧ InsRel p l l.length Z ∧ Below w.heap.size w w' ∧ ∀ k, v.ownBlock = some k → w.heap.size ≤ k
set_option maxRecDepth 100000 in
set_option maxHeartbeats 4000000 in
theorem ref16_namesF (p : ByteArray) (l : List ByteArray) (v : Value) (w : World) (hp : p.size ≤ 140737488351232) (hl : l.length ≤ 1000000) (hls : ∀ i, i < l.length → (l.getD i ByteArray.empty).size ≤ 140737488351232)
    (hv : IsStrs w v l) :
    Calls Tryz.prog 61 #[.string p, v] w (RNamesF p.data.toList l w) := by
  obtain ⟨a, cap, rfl, hcells⟩ := hv
  have hcells := Lib.hid hcells
  have hls := Lib.hid hls
  obtain ⟨i0, hi, hz0, hz1, hz2⟩ := info_parts info9
  have I := Lib.hid (And.intro hi (And.intro hz0 (And.intro hz1 hz2))); clear hi hz0 hz1 hz2
  go_enter Tryz.func61, Tryz.ntmps61
  go_wp2
  go_loopw [5, 6, 8, 9] (fun v i _ _ wr => ∃ (k : Nat) (Z : List ByteArray), k ≤ l.length ∧ i = .int .i64 k ∧ Hid (wr.ownsRow w.heap.size 9 1 v Z.length (Z.map Value.string)) ∧ Hid (InsRel p.data.toList l k Z) ∧ Hid (Below w.heap.size w wr)) (fun _ i _ _ _ => l.length - (intOf i).toNat)
  case atStart => exact ⟨0, [], Nat.zero_le _, rfl, Lib.hid (World.ownsRow_nil _ _ _ _), Lib.hid (InsRel.start _ _), Lib.hid (Below.refl _ _)⟩
  case round =>
    obtain ⟨k, Z, hk, rfl, hown, hrl, hbw⟩ := hrel
    by_cases hlt : k < l.length
    · rcases hcells.out with hn | ⟨b, off, rfl, hblt, hc⟩
      · subst hn; simp at hlt
      have hcell : wr.cell? ⟨b, off + k, none⟩ = some (.string (l.getD k ByteArray.empty)) := (hbw.out.cell (p := ⟨b, off + k, none⟩) hblt).trans (hc k hlt)
      have hsz := hls.out k hlt
      obtain ⟨s, hs⟩ : ∃ s, s = l.getD k ByteArray.empty := ⟨_, rfl⟩
      rw [← hs] at hcell hsz
      have Hs := Lib.hid hs; clear hs hc
      have HC := Lib.hid (ref16_child p s hp hsz wr)
      obtain ⟨c, hcc⟩ : ∃ c, c = bs (childR p.data.toList s.data.toList) := ⟨_, rfl⟩
      rw [← hcc] at HC
      have hcl : c.data.toList = childR p.data.toList s.data.toList := by rw [hcc]; rfl
      have Hcc := Lib.hid hcl; clear hcc hcl
      have hZl := hrl.out.len
      rcases hown.out.2 with ⟨hv, hZ0⟩ | ⟨g, cap2, cur, hv, hBg, hgr, hnc, hcm, hcs, htk⟩
      · have hZ : Z = [] := List.length_eq_zero_iff.1 hZ0
        subst hZ; subst hv
        clear hZ0 hZl
        go_wp2_with fail
        refine (HC.out).mono ?_
        rintro e w1 ⟨rfl, hb1⟩
        have Hb1 := Lib.hid hb1; clear hb1
        have HB1 := Lib.hid (hbw.out.trans (Hb1.out.mono hbw.out.size))
        go_wp2
        go_loop [8] (fun at' => at' = .int .i64 ((0 : Nat) : Int)) (fun _ => 0)
        case atStart => rfl
        case round =>
          subst hrel
          by_cases hce : c.data.toList = []
          · have hce1 := remptyT hce
            have Hce := Lib.hid hce; clear hce
            go_wp2
            go_roundw
            case rel => exact ⟨k + 1, [], by omega, by go_num, Lib.hid (World.ownsRow_nil _ _ _ _), Lib.hid (hrl.out.skip hlt Hs.out (by rw [← Hcc.out]; exact Hce.out)), HB1⟩
            case measure => simp [intOf]; omega
          · have hce1 := remptyF hce; have hce2 := remptyG hce
            have Hce := Lib.hid hce; clear hce
            obtain ⟨hi, hz0, hz1, hz2⟩ := I.out
            go_wp2_with (first | (at_builtin; refine wpList_append_own_none rfl (.tmp 52) (.tmp 55) 24 rfl w1.heap.size 9 i0 1 Tryz.underlying24 hi _ _ _ rfl (World.ownsRow_nil _ _ _ _) rfl ?_) | (at_builtin; refine wpList_append_own _ rfl (.tmp 57) (.tmp 59) 24 rfl w1.heap.size 9 i0 (.string ByteArray.empty) 1 16 Tryz.underlying24 hi hz0 hz1 hz2 rfl (by decide) _ _ _ rfl (World.ownsRow_nil _ _ _ _) ⟨w1.heap.size, 0, none⟩ 1 1 [.string c] rfl rfl (cell_one_new _ _ _) (oneStr _) (by unfold maxLen; omega) (by omega) (by simp) ?_; intro v3 w3 hown3 hgrow3 _hn3; have Hg3 := Lib.hid (Below.grown ((Below.refl w1.heap.size w1).alloc (Nat.le_refl _) _) hgrow3 (by simp) (fun k h => by cases h)); simp only [Nat.zero_add, List.nil_append] at hown3; clear hgrow3 _hn3) | (at_builtin; refine wpList_append_own_none rfl (.tmp 61) (.tmp 64) 24 rfl w1.heap.size 9 i0 1 Tryz.underlying24 hi _ _ _ rfl hown3 rfl ?_))
            have Hown3 := Lib.hid hown3; clear hown3
            go_wp2
            go_roundw
            case rel => exact ⟨k + 1, [] ++ [c] ++ [], by omega, by go_num, Lib.hid (ins_own (Z := []) (j := 0) Hown3.out HB1.out.size (Nat.le_refl _)), Lib.hid (hrl.out.ins (Z := []) (j := 0) hlt Hs.out Hcc.out (by rw [← Hcc.out]; exact Hce.out) (Nat.le_refl _) (fun i h => by omega) (fun h => by simp at h)), Lib.hid (HB1.out.trans (Hg3.out.mono HB1.out.size))⟩
            case measure => simp [intOf]; omega
      · subst hv
        clear hBg hgr hcs htk
        have hcap : cap2 ≤ 9223372036854775807 := by unfold maxLen at hcm; exact hcm
        clear hcm
        go_wp2_with fail
        refine (HC.out).mono ?_
        rintro e w1 ⟨rfl, hb1⟩
        have Hb1 := Lib.hid hb1; clear hb1
        have Hown1 := Lib.hid (own_below hown.out Hb1.out)
        go_wp2
        go_loop [8] (fun at' => ∃ j : Nat, j ≤ Z.length ∧ at' = .int .i64 j ∧ Hid (∀ i, i < j → (Z.getD i ByteArray.empty).data.toList < c.data.toList)) (fun at' => Z.length - (intOf at').toNat)
        case atStart => exact ⟨0, Nat.zero_le _, rfl, Lib.hid (fun i hi => by omega)⟩
        case round =>
          obtain ⟨j, hj, rfl, hlo⟩ := hrel
          by_cases hjl : j < Z.length
          · have hcj : w1.cell? ⟨g, j, none⟩ = some (.string (Z.getD j ByteArray.empty)) := by
              rw [World.ownsRow.cellAt Hown1.out j (by omega), List.getElem?_map, List.getD_eq_getElem?_getD, List.getElem?_eq_getElem hjl]; rfl
            obtain ⟨x, hx⟩ : ∃ x, x = Z.getD j ByteArray.empty := ⟨_, rfl⟩
            rw [← hx] at hcj
            have Hx := Lib.hid hx; clear hx
            by_cases hlt1 : x.data.toList < c.data.toList
            · have hB := lt_bytes hlt1
              have Hlt1 := Lib.hid hlt1; clear hlt1
              go_wp2
              go_round
              case rel => exact ⟨j + 1, by omega, by go_num, Lib.hid (fun i hi => by
                by_cases e : i = j
                · subst e; rw [← Hx.out]; exact Hlt1.out
                · exact hlo.out i (by omega))⟩
              case measure => simp [intOf]; omega
            · have hB := nlt_bytes hlt1
              have Hlt1 := Lib.hid hlt1; clear hlt1
              by_cases hce : c.data.toList = []
              · have hce1 := remptyT hce
                have hB0 := less_nil x.toList
                have Hce := Lib.hid hce; clear hce
                go_wp2
                go_roundw
                case rel => exact ⟨k + 1, Z, by omega, by go_num, Lib.hid (own_below hown.out Hb1.out), Lib.hid (hrl.out.skip hlt Hs.out (by rw [← Hcc.out]; exact Hce.out)), Lib.hid (hbw.out.trans (Hb1.out.mono hbw.out.size))⟩
                case measure => simp [intOf]; omega
              · by_cases heq : x.data.toList = c.data.toList
                · have hce1 := remptyF hce; have hce2 := remptyG hce
                  have Hce := Lib.hid hce; clear hce
                  have hE := eq_bytes heq
                  have Heq := Lib.hid heq; clear heq
                  go_wp2
                  go_roundw
                  case rel => exact ⟨k + 1, Z, by omega, by go_num, Lib.hid (own_below hown.out Hb1.out), Lib.hid (hrl.out.have hlt Hs.out (by rw [← Hcc.out]; exact Hce.out) hjl (by rw [← Hx.out, ← Hcc.out]; exact Heq.out)), Lib.hid (hbw.out.trans (Hb1.out.mono hbw.out.size))⟩
                  case measure => simp [intOf]; omega
                · have hE := ne_bytes heq
                  have Heq := Lib.hid heq; clear heq
                  have hce1 := remptyF hce; have hce2 := remptyG hce
                  obtain ⟨hi, hz0, hz1, hz2⟩ := I.out
                  go_wp2_with (first | (at_builtin; refine wpList_append_own _ rfl (.tmp 52) (.tmp 55) 24 rfl w1.heap.size 9 i0 (.string ByteArray.empty) 1 16 Tryz.underlying24 hi hz0 hz1 hz2 rfl (by decide) _ _ _ rfl (World.ownsRow_nil _ _ _ _) ⟨g, 0, none⟩ j cap2 ((Z.take j).map Value.string) rfl (by rw [List.length_map, List.length_take]; omega) (news_from Hown1.out (j := j) (by omega)) (manyStr _) (by unfold maxLen; omega) (by omega) (Nat.le_refl _) ?_; intro v2 w2 hown2 hgrow2 _hn2; have Hg2 := Lib.hid (Below.grown (Below.refl w1.heap.size w1) hgrow2 (Nat.le_refl _) (fun k h => by cases h)); simp only [Nat.zero_add, List.nil_append] at hown2; clear hgrow2 _hn2) | (at_builtin; refine wpList_append_own _ rfl (.tmp 57) (.tmp 59) 24 rfl w1.heap.size 9 i0 (.string ByteArray.empty) 1 16 Tryz.underlying24 hi hz0 hz1 hz2 rfl (by decide) _ _ _ rfl (hown2.alloc _) ⟨w2.heap.size, 0, none⟩ 1 1 [.string c] rfl rfl (cell_one_new _ _ _) (oneStr _) (by unfold maxLen; omega) (by omega) (by have := Hg2.out.size; simp; omega) ?_; intro v3 w3 hown3 hgrow3 _hn3; have Hg3 := Lib.hid ((Hg2.out.alloc Hg2.out.size _).grown hgrow3 (by have := Hg2.out.size; simp; omega) (own_above hown2)); clear hgrow3 _hn3) | (at_builtin; refine wpList_append_own _ rfl (.tmp 61) (.tmp 64) 24 rfl w1.heap.size 9 i0 (.string ByteArray.empty) 1 16 Tryz.underlying24 hi hz0 hz1 hz2 rfl (by decide) _ _ _ rfl hown3 ⟨g, j, none⟩ (Z.length - j) (cap2 - j) ((Z.drop j).map Value.string) rfl (by rw [List.length_map, List.length_drop]; omega) (news_drop Hown1.out Hg3.out (j := j) (by omega)) (manyStr _) (by unfold maxLen; omega) (by omega) Hg3.out.size ?_; intro v4 w4 hown4 hgrow4 _hn4; have Hg4 := Lib.hid (Hg3.out.grown hgrow4 Hg3.out.size (own_above hown3)); clear hgrow4 _hn4))
                  have HB4 := Lib.hid ((hbw.out.trans (Hb1.out.mono hbw.out.size)).trans (Hg4.out.mono (Nat.le_trans hbw.out.size Hb1.out.size)))
                  have Hown4 := Lib.hid hown4; clear hown2 hown3 hown4
                  go_wp2
                  go_roundw
                  case rel => exact ⟨k + 1, Z.take j ++ [c] ++ Z.drop j, by omega, by go_num, Lib.hid (ins_own Hown4.out (Nat.le_trans hbw.out.size Hb1.out.size) hj), Lib.hid (hrl.out.ins hlt Hs.out Hcc.out (by rw [← Hcc.out]; exact hce) hj hlo.out (fun _ => by rw [← Hx.out]; exact InsRel.notin Hlt1.out Heq.out)), HB4⟩
                  case measure => simp [intOf]; omega
          · by_cases hce : c.data.toList = []
            · have hce1 := remptyT hce
              have Hce := Lib.hid hce; clear hce
              go_wp2
              go_roundw
              case rel => exact ⟨k + 1, Z, by omega, by go_num, Lib.hid (own_below hown.out Hb1.out), Lib.hid (hrl.out.skip hlt Hs.out (by rw [← Hcc.out]; exact Hce.out)), Lib.hid (hbw.out.trans (Hb1.out.mono hbw.out.size))⟩
              case measure => simp [intOf]; omega
            · rcases (show j < cap2 ∨ (cap2 ≤ j ∧ j ≤ cap2) by omega) with hjc | hjc
              all_goals
                have hce1 := remptyF hce; have hce2 := remptyG hce
                obtain ⟨hi, hz0, hz1, hz2⟩ := I.out
                go_wp2_with (first | (at_builtin; refine wpList_append_own _ rfl (.tmp 52) (.tmp 55) 24 rfl w1.heap.size 9 i0 (.string ByteArray.empty) 1 16 Tryz.underlying24 hi hz0 hz1 hz2 rfl (by decide) _ _ _ rfl (World.ownsRow_nil _ _ _ _) ⟨g, 0, none⟩ j cap2 ((Z.take j).map Value.string) rfl (by rw [List.length_map, List.length_take]; omega) (news_from Hown1.out (j := j) (by omega)) (manyStr _) (by unfold maxLen; omega) (by omega) (Nat.le_refl _) ?_; intro v2 w2 hown2 hgrow2 _hn2; have Hg2 := Lib.hid (Below.grown (Below.refl w1.heap.size w1) hgrow2 (Nat.le_refl _) (fun k h => by cases h)); simp only [Nat.zero_add, List.nil_append] at hown2; clear hgrow2 _hn2) | (at_builtin; refine wpList_append_own _ rfl (.tmp 57) (.tmp 59) 24 rfl w1.heap.size 9 i0 (.string ByteArray.empty) 1 16 Tryz.underlying24 hi hz0 hz1 hz2 rfl (by decide) _ _ _ rfl (hown2.alloc _) ⟨w2.heap.size, 0, none⟩ 1 1 [.string c] rfl rfl (cell_one_new _ _ _) (oneStr _) (by unfold maxLen; omega) (by omega) (by have := Hg2.out.size; simp; omega) ?_; intro v3 w3 hown3 hgrow3 _hn3; have Hg3 := Lib.hid ((Hg2.out.alloc Hg2.out.size _).grown hgrow3 (by have := Hg2.out.size; simp; omega) (own_above hown2)); clear hgrow3 _hn3) | (at_builtin; refine wpList_append_own _ rfl (.tmp 61) (.tmp 64) 24 rfl w1.heap.size 9 i0 (.string ByteArray.empty) 1 16 Tryz.underlying24 hi hz0 hz1 hz2 rfl (by decide) _ _ _ rfl hown3 _ (Z.length - j) _ ((Z.drop j).map Value.string) rfl (by rw [List.length_map, List.length_drop]; omega) (news_none (List.drop_eq_nil_of_le (by omega))) (manyStr _) (by unfold maxLen; omega) (by omega) Hg3.out.size ?_; intro v4 w4 hown4 hgrow4 _hn4; have Hg4 := Lib.hid (Hg3.out.grown hgrow4 Hg3.out.size (own_above hown3)); clear hgrow4 _hn4))
                have HB4 := Lib.hid ((hbw.out.trans (Hb1.out.mono hbw.out.size)).trans (Hg4.out.mono (Nat.le_trans hbw.out.size Hb1.out.size)))
                have Hown4 := Lib.hid hown4; clear hown2 hown3 hown4
                go_wp2
                go_roundw
                case rel => exact ⟨k + 1, Z.take j ++ [c] ++ Z.drop j, by omega, by go_num, Lib.hid (ins_own Hown4.out (Nat.le_trans hbw.out.size Hb1.out.size) hj), Lib.hid (hrl.out.ins hlt Hs.out Hcc.out (by rw [← Hcc.out]; exact hce) hj hlo.out (fun h => absurd h hjl)), HB4⟩
                case measure => simp [intOf]; omega
    · have Hk : Hid (k = l.length) := Lib.hid (by omega)
      have hge : (l.length : Int) ≤ (k : Int) := by omega
      go_wp2
      go_ret
      exact ⟨_, Z, rfl, IsStrs.own hown.out, by rw [← Hk.out]; exact hrl.out, hbw.out, fun k hk => ownAbove16 hown.out k hk⟩
end Go.Proofs.YtfbgnpfhjbiikaaGreatDoor

namespace Go.Proofs.YtfbgnpfhjbiikaaGreatDoor
open Go Go.RowKit
theorem strEq {x y : ByteArray} (h : x = y) : (x.toList == y.toList) = true := by rw [h]; simp
theorem strNe {x y : ByteArray} (h : ¬ x = y) : (x.toList == y.toList) = false := by
  rw [beq_eq_false_iff_ne, ByteArray.toList_eq, ByteArray.toList_eq]; exact fun h' => h (ba_ext h')
theorem atG_hit {l : List Rw} {p : ByteArray} {k : Nat} (hk : k < l.length) (h : (l.getD k dR).1 = p) (hm : ∀ j, j < k → (l.getD j dR).1 ≠ p) : AtG l p k := Or.inl ⟨k, hk, rfl, h, hm⟩
theorem atG_miss {l : List Rw} {p : ByteArray} (h : ∀ j, j < l.length → (l.getD j dR).1 ≠ p) : AtG l p (-1) := by
  refine Or.inr ⟨rfl, fun x hx => ?_⟩
  obtain ⟨j, hj, rfl⟩ := List.getElem_of_mem hx
  have := h j hj
  rwa [List.getD_eq_getElem?_getD, List.getElem?_eq_getElem hj] at this

set_option maxRecDepth 100000 in
set_option maxHeartbeats 1000000 in
theorem ref18_at (l : List Rw) (v : Value) (p : ByteArray) (w : World) (hv : IsRows w v l) (hl : l.length ≤ 9223372036854775807) :
    Calls Tryz.prog 56 #[v, .string p] w fun e w' => ∃ z : Int, e = .returned (.int .i64 z) ∧ AtG l p z ∧ w' = w := by
  obtain ⟨a, cap, rfl, hc⟩ := hv
  have HC := Lib.hid hc; clear hc
  go_enter Tryz.func56, Tryz.ntmps56
  go_wp2_with fail
  go_loopw [5] (fun i wr => ∃ k : Nat, k ≤ l.length ∧ i = .int .i64 k ∧ Hid (∀ j, j < k → (l.getD j dR).1 ≠ p) ∧ wr = w) (fun i _ => l.length - (intOf i).toNat)
  case atStart => exact ⟨0, Nat.zero_le _, rfl, Lib.hid (fun j hj => absurd hj (Nat.not_lt_zero _)), rfl⟩
  case round =>
    obtain ⟨k, hk, rfl, hm, hwr⟩ := hrel
    subst wr
    by_cases hlt : k < l.length
    · rcases HC.out with hn | ⟨b, off, rfl, hbl, hcc⟩
      · subst hn; simp at hlt
      obtain ⟨g0, _, _, _, _⟩ := hcc k hlt
      obtain ⟨x, hx⟩ : ∃ x, x = l.getD k dR := ⟨_, rfl⟩
      rw [← hx] at g0
      have Hx := Lib.hid hx
      have hltI : (k : Int) < (l.length : Int) := by omega
      clear hx hcc
      by_cases he : x.1 = p
      · have hB := strEq he
        have H : Hid (AtG l p k) := Lib.hid (atG_hit hlt (by rw [← Hx.out]; exact he) hm.out)
        clear he
        go_wp2_with fail
        go_ret
        exact ⟨_, rfl, H.out, rfl⟩
      · have hB := strNe he
        have He := Lib.hid he; clear he
        go_wp2_with fail
        go_roundw
        case rel => exact ⟨k + 1, by omega, by go_num, Lib.hid (fun j hj => by
          rcases Nat.lt_or_ge j k with h | h
          · exact hm.out j h
          · obtain rfl : j = k := by omega
            rw [← Hx.out]; exact He.out), trivial⟩
        case measure => simp [intOf]; omega
    · have hge : (l.length : Int) ≤ (k : Int) := by omega
      have H := Lib.hid (atG_miss (l := l) (p := p) (fun j hj => hm.out j (by omega)))
      go_wp2_with fail
      go_ret
      exact ⟨_, rfl, H.out, rfl⟩

set_option maxRecDepth 100000 in
set_option maxHeartbeats 1000000 in
theorem ref18_bytes (l : List Rw) (v : Value) (w : World) (hv : IsRows w v l) (hl : l.length ≤ 1048576) (hs : ∀ i, i < l.length → mayP (l.getD i dR).1 = true ∧ mayC (l.getD i dR).2 = true) :
    Calls Tryz.prog 53 #[v] w fun e w' => e = .returned (.int .i64 (bytesR l)) ∧ Below w.heap.size w w' := by
  obtain ⟨a, cap, rfl, hc⟩ := hv
  have HC := Lib.hid hc; have HS := Lib.hid hs; clear hc hs
  go_enter Tryz.func53, Tryz.ntmps53
  go_wp2_with fail
  go_loopw [3, 4] (fun n i wr => ∃ k N : Nat, k ≤ l.length ∧ i = .int .i64 k ∧ n = .int .i64 N ∧ Hid (N = bytesR (l.take k)) ∧ Hid (N ≤ k * 33000) ∧ Hid (Below w.heap.size w wr)) (fun _ i _ => l.length - (intOf i).toNat)
  case atStart => exact ⟨0, 0, Nat.zero_le _, rfl, rfl, Lib.hid rfl, Lib.hid (by omega), Lib.hid (Below.refl _ _)⟩
  case round =>
    obtain ⟨k, N, hk, rfl, rfl, hN, hNb, hbw⟩ := hrel
    have hNs : N ≤ 34603008000 := by have := hNb.out; omega
    by_cases hlt : k < l.length
    · rcases HC.out with hn | ⟨b, off, rfl, hbl, hcc⟩
      · subst hn; simp at hlt
      obtain ⟨g0, g1, s, g2, hs⟩ := hcc k hlt
      have e0 := (hbw.out.cell (p := ⟨b, off + k * 3, none⟩) hbl).trans g0
      have e1 := (hbw.out.cell (p := ⟨b, off + k * 3 + 1, none⟩) hbl).trans g1
      have e2 := (hbw.out.cell (p := ⟨b, off + k * 3 + 2, none⟩) hbl).trans g2
      obtain ⟨hp1, hp2⟩ := HS.out k hlt
      have hp1 := mayP_size hp1
      have hsz := may_size hp2
      have hln := may_len hp2
      obtain ⟨x, hx⟩ : ∃ x, x = l.getD k dR := ⟨_, rfl⟩
      rw [← hx] at e0 e1 hs hp1 hp2 hsz hln
      have hs2 := hs
      obtain ⟨va, vc, rfl, _⟩ := hs2
      have Hx := Lib.hid hx
      have HSZ := Lib.hid (fun (W : World) (h : Below w.heap.size w W) => ref17_size x.2 (.slice va x.2.l.length vc) W (hs.below h (Nat.le_refl _)) (by omega) (may_sizes hp2))
      obtain ⟨z, hz⟩ : ∃ z, z = sizeL x.2.l := ⟨_, rfl⟩
      rw [← hz] at hsz HSZ
      have Hz := Lib.hid hz
      have hltI : (k : Int) < (l.length : Int) := by omega
      have hb1 : N + x.1.size ≤ 9223372036854775807 := by have := hNb.out; omega
      have hb2 : N + x.1.size + z ≤ 9223372036854775807 := by have := hNb.out; omega
      have hb3 : N + (x.1.size + z) ≤ (k + 1) * 33000 := by have := hNb.out; omega
      have HB3 := Lib.hid hb3
      have hw1 : IntKind.i64.wrap ((N : Int) + (x.1.size : Int)) = (N : Int) + (x.1.size : Int) := by rw [IntKind.wrap_i64]; omega
      have hw2 : IntKind.i64.wrap ((N : Int) + (x.1.size : Int) + (z : Int)) = (N : Int) + (x.1.size : Int) + (z : Int) := by rw [IntKind.wrap_i64]; omega
      clear hx hz g0 g1 g2 hcc hs hp1 hp2 hln hb3
      go_upto_region 5 with fail
      refine wp_region_quiet (C := fun w' => Hid (Below wr.heap.size wr w')) (by kernel_rfl) (by kernel_rfl) (Lib.hid (Below.drew (Below.refl _ _))) ?_
      have HF := Lib.hid (fun (w' : World) (h : Hid (Below wr.heap.size wr w')) => (⟨(h.out.cell (p := ⟨b, off + k * 3, none⟩) (by have := hbw.out.size; dsimp only; omega)).trans e0, (h.out.cell (p := ⟨b, off + k * 3 + 1, none⟩) (by have := hbw.out.size; dsimp only; omega)).trans e1, (h.out.cell (p := ⟨b, off + k * 3 + 2, none⟩) (by have := hbw.out.size; dsimp only; omega)).trans e2⟩ : w'.cell? ⟨b, off + k * 3, none⟩ = some (.string x.1) ∧ w'.cell? ⟨b, off + k * 3 + 1, none⟩ = some (.int .u64 x.2.last) ∧ w'.cell? ⟨b, off + k * 3 + 2, none⟩ = some (.slice va x.2.l.length vc)))
      clear e0 e1 e2
      refine (quiet_plain' ?_ (.int .i64 (N : Int)) (fun w' hw' => ?_) ?_ : _)
      · exact rfl
      · go_simp
      go_frame
      refine (quiet_plain' ?_ (.slice (some ⟨b, off, none⟩) l.length cap) (fun w' hw' => ?_) ?_ : _)
      · exact rfl
      · go_simp
      go_frame
      refine (quiet_plain' ?_ (.int .i64 (k : Int)) (fun w' hw' => ?_) ?_ : _)
      · exact rfl
      · go_simp
      go_frame
      refine (quiet_plain' ?_ (.pointer (some ⟨b, off + k * 3, none⟩)) (fun w' hw' => ?_) ?_ : _)
      · exact rfl
      · go_simp
      go_frame
      refine (quiet_plain' ?_ (.pointer (some ⟨b, off + k * 3, none⟩)) (fun w' hw' => ?_) ?_ : _)
      · exact rfl
      · go_simp
      go_frame
      refine (quiet_plain' ?_ (.string x.1) (fun w' hw' => ?_) ?_ : _)
      · exact rfl
      · obtain ⟨f0, f1, f2⟩ := HF.out w' hw'
        go_simp
      go_frame
      refine (quiet_plain' ?_ (.int .i64 (x.1.size : Int)) (fun w' hw' => ?_) ?_ : _)
      · exact rfl
      · go_simp
      go_frame
      refine (quiet_plain' ?_ (.int .i64 ((N : Int) + (x.1.size : Int))) (fun w' hw' => ?_) ?_ : _)
      · exact rfl
      · go_simp
      go_frame
      refine (quiet_plain' ?_ (.slice (some ⟨b, off, none⟩) l.length cap) (fun w' hw' => ?_) ?_ : _)
      · exact rfl
      · go_simp
      go_frame
      refine (quiet_plain' ?_ (.int .i64 (k : Int)) (fun w' hw' => ?_) ?_ : _)
      · exact rfl
      · go_simp
      go_frame
      refine (quiet_plain' ?_ (.pointer (some ⟨b, off + k * 3, none⟩)) (fun w' hw' => ?_) ?_ : _)
      · exact rfl
      · go_simp
      go_frame
      refine (quiet_plain' ?_ (.pointer (some ⟨b, off + k * 3 + 1, none⟩)) (fun w' hw' => ?_) ?_ : _)
      · exact rfl
      · go_simp
      go_frame
      refine (quiet_plain' ?_ (.agg #[.int .u64 x.2.last, .slice va x.2.l.length vc]) (fun w' hw' => ?_) ?_ : _)
      · exact rfl
      · obtain ⟨f0, f1, f2⟩ := HF.out w' hw'
        go_simp
      go_frame
      refine (quiet_call' ?_ (.int .i64 (z : Int)) 82 #[.agg #[.int .u64 x.2.last, .slice va x.2.l.length vc]] (fun w' hw' => ⟨?_, ?_⟩) ?_ : _)
      · exact rfl
      · obtain ⟨f0, f1, f2⟩ := HF.out w' hw'
        go_simp
      · exact (HSZ.out w' (hbw.out.trans (hw'.out.mono hbw.out.size))).mono (fun e w6 ⟨he, hb⟩ => ⟨he, Lib.hid (hw'.out.trans (hb.mono hw'.out.size))⟩)
      go_frame
      refine (quiet_plain' ?_ (.int .i64 ((N : Int) + (x.1.size : Int) + (z : Int))) (fun w' hw' => ?_) ?_ : _)
      · exact rfl
      · go_simp
      go_frame
      refine (quiet_plain' ?_ (.int .i64 ((N : Int) + (x.1.size : Int) + (z : Int))) (fun w' hw' => ?_) ?_ : _)
      · exact rfl
      · go_simp
      go_frame
      refine (wpQuiet_nil ?_ : _)
      intro W6 hW6
      go_wp2_with fail
      go_roundw
      case rel => exact ⟨k + 1, N + x.1.size + z, by omega, by go_num, by go_num, Lib.hid (by rw [bytesR_take hlt, ← hN.out, ← Hx.out, ← Hz.out]; omega), Lib.hid (by have := HB3.out; omega), Lib.hid (hbw.out.trans (hW6.out.mono hbw.out.size))⟩
      case measure => simp [intOf]; omega
    · have hge : (l.length : Int) ≤ (k : Int) := by omega
      have H : Hid (N = bytesR l) := Lib.hid (by have := hN.out; rw [List.take_of_length_le (by omega)] at this; exact this)
      go_wp2_with fail
      go_ret
      exact ⟨ret_int (by rw [H.out]), hbw.out⟩
end Go.Proofs.YtfbgnpfhjbiikaaGreatDoor

namespace Go.Proofs.YtfbgnpfhjbiikaaGreatDoor
open Go Go.RowKit
def CapV (v : Value) : Prop := ∀ a n c, v = .slice a n c → n ≤ c
theorem CapV.own {w : World} {B e n k : Nat} {v : Value} {xs : List Value} (h : w.ownsRow B e k v n xs) : CapV v := by
  intro a m c he
  rcases h.2 with ⟨hv, _⟩ | ⟨g, cap, cur, hv, _, _, hn, _⟩
  · rw [hv] at he; cases he; exact Nat.le_refl _
  · rw [hv] at he; cases he; exact hn
theorem RowsOff.app {w W w8 : World} {T : List (Rw × Value)} {s2 : Value} {x : Rw} {a4 : Option Addr} {c4 g : Nat} {e : TypeId} {o : Obj} (hoff : RowsOff W T s2.ownBlock) (hrow : W.ownsRow (w.heap.size + 1) e 3 s2 T.length (rowCells T)) (hx : IsVers w (.slice a4 x.2.l.length c4) x.2.l) (hb : Below w.heap.size w W)
    (hg8 : (W.alloc o).grownBy w8 s2.ownBlock) (hat : s2.ownBlock = some g ∨ g = W.heap.size + 1) : RowsOff w8 (T ++ [(x, .slice a4 x.2.l.length c4)]) (some g) := by
  have hA : RowsOff (W.alloc o) (T ++ [(x, .slice a4 x.2.l.length c4)]) s2.ownBlock := by
    intro y hy
    rcases List.mem_append.1 hy with hy | hy
    · exact (hoff.below ((Below.refl _ _).alloc (Nat.le_refl _) _)) y hy
    · rcases List.mem_singleton.1 hy with rfl
      refine ⟨(hx.below hb (Nat.le_refl _)).below ((Below.refl _ _).alloc (Nat.le_refl _) _) (Nat.le_refl _), fun hl kb hkb e => ?_⟩
      have h1 : kb < w.heap.size := hx.own_lt hl hkb
      have h2 := ownAbove hrow kb e
      omega
  refine hA.row hg8 ?_
  rcases hat with h | h
  · left; exact h.symm
  · right; rw [h]; simp

theorem wStep_of {r x : Rw} {s : List Rw × Bool} {m1 : List Rw} {d1 : Bool} (h : (m1, d1) = if s.2 = false ∧ ¬ pL x < pL r then (s.1 ++ [r], true) else s) : wStep r s x = (if x.1 ≠ r.1 then m1 ++ [x] else m1, d1) := by
  unfold wStep; simp only; rw [← h]
theorem One.grow2 {n : Nat} {C : Array Value} {W W' : World} {o : Option Nat} {ob : Obj} (h : One n C W) (hg : (W.alloc ob).grownBy W' o) (hne : ∀ k, o = some k → k ≠ n) : One n C W' := by
  have h1 := h.step ((Below.refl _ _).alloc (Nat.le_refl _) ob)
  refine ⟨Nat.lt_of_lt_of_le h1.lt hg.size, fun j => ?_, fun j => ?_⟩
  · exact (hg.cell_far ⟨n, j, none⟩ h1.lt (by intro e; exact hne n e.symm rfl)).trans (h1.c j)
  · exact (hg.frozen_far ⟨n, j, none⟩ h1.lt (by intro e; exact hne n e.symm rfl)).trans (h1.f j)

set_option maxRecDepth 100000 in
set_option maxHeartbeats 4000000 in
theorem ref18_with (l : List Rw) (v rv : Value) (r : Rw) (w : World) (hv : IsRows w v l) (hr : IsVers w rv r.2.l) (hl : l.length ≤ 1048576) :
    Calls Tryz.prog 74 #[v, .agg #[.string r.1, .int .u64 r.2.last, rv]] w fun e w' => ∃ v', e = .returned v' ∧ IsRows w' v' (withR l r) ∧ CapV v' ∧ Below w.heap.size w w' := by
  obtain ⟨a, cap, rfl, hc⟩ := hv
  have HC := Lib.hid hc; clear hc
  have HRV := Lib.hid hr
  obtain ⟨ra, rc, rfl, _⟩ := hr
  have HW : Hid (withR l r = if (withS r l).2 then (withS r l).1 else (withS r l).1 ++ [r]) := Lib.hid rfl
  generalize withR l r = out at HW
  obtain ⟨i0, hi, hz0, hz1, hz2⟩ := info_parts infoRow
  go_enter Tryz.func74, Tryz.ntmps74
  go_wp2_with fail
  have HB0 := Lib.hid ((Below.refl w.heap.size w).alloc (Nat.le_refl _) (.cells #[.string r.1, .int .u64 r.2.last, .slice ra r.2.l.length rc] 48))
  have HO0 := Lib.hid (One.of w #[.string r.1, .int .u64 r.2.last, .slice ra r.2.l.length rc] 48)
  obtain ⟨w0, hw0⟩ : ∃ w0, w.alloc (.cells #[.string r.1, .int .u64 r.2.last, .slice ra r.2.l.length rc] 48) = w0 := ⟨_, rfl⟩
  rw [hw0] at HB0 HO0 ⊢
  clear hw0
  go_loopw [5, 6, 7] (fun s5 s6 i wr => ∃ (k : Nat) (T : List (Rw × Value)) (dn : Bool), k ≤ l.length ∧ i = .int .i64 k ∧ s6 = .bool dn ∧ (∃ a c, s5 = .slice a T.length c) ∧ Hid ((T.map (·.1), dn) = withS r (l.take k)) ∧ Hid (T.length ≤ 2 * k) ∧ Hid (wr.ownsRow (w.heap.size + 1) 48 3 s5 T.length (rowCells T)) ∧ Hid (RowsOff wr T s5.ownBlock) ∧ Hid (One w.heap.size #[.string r.1, .int .u64 r.2.last, .slice ra r.2.l.length rc] wr) ∧ Hid (Below w.heap.size w wr)) (fun _ _ i _ => l.length - (intOf i).toNat)
  case atStart => exact ⟨0, [], false, Nat.zero_le _, rfl, rfl, ⟨none, 0, rfl⟩, Lib.hid rfl, Lib.hid (by simp), Lib.hid (World.ownsRow_nil _ _ _ _), Lib.hid (fun x hx => by cases hx), HO0, HB0⟩
  case round =>
    obtain ⟨k, T, dn, hk, rfl, rfl, ⟨a2, c2, rfl⟩, hmap, hTk, hrow, hoff, hone, hbw⟩ := hrel
    have hTl : T.length ≤ 2 * k := hTk.out
    by_cases hlt : k < l.length
    · rcases HC.out with hn | ⟨b, off, rfl, hbl, hcc⟩
      · subst hn; simp at hlt
      obtain ⟨g0, g1, s, g2, hs⟩ := hcc k hlt
      obtain ⟨x, hx⟩ : ∃ x, x = l.getD k dR := ⟨_, rfl⟩
      rw [← hx] at g0 g1 hs
      obtain ⟨va, vc, rfl, hvs⟩ := hs
      have HX0 : Hid (IsVers w (.slice va x.2.l.length vc) x.2.l) := Lib.hid ⟨va, vc, rfl, hvs⟩
      have HF := Lib.hid (fun (U : World) (h : Below w.heap.size w U) => (⟨(h.cell (p := ⟨b, off + k * 3, none⟩) hbl).trans g0, (h.cell (p := ⟨b, off + k * 3 + 1, none⟩) hbl).trans g1, (h.cell (p := ⟨b, off + k * 3 + 2, none⟩) hbl).trans g2⟩ : U.cell? ⟨b, off + k * 3, none⟩ = some (.string x.1) ∧ U.cell? ⟨b, off + k * 3 + 1, none⟩ = some (.int .u64 x.2.last) ∧ U.cell? ⟨b, off + k * 3 + 2, none⟩ = some (.slice va x.2.l.length vc)))
      have Hx := Lib.hid hx
      have hltI : (k : Int) < (l.length : Int) := by omega
      clear hx hcc g0 g1 g2 hvs
      obtain ⟨bb, hbb⟩ : ∃ bb, bb = (!dn && !decide (pL x < pL r)) := ⟨_, rfl⟩
      have HBB := Lib.hid hbb; clear hbb
      obtain ⟨f0, f1, f2⟩ := HF.out wr hbw.out
      have y0 := hone.out.c 0
      simp at y0
      go_upto_region 6 with fail
      go_cut [25] (fun v wx => v = .bool bb ∧ Hid (Below wr.heap.size wr wx))
      case first =>
        cases dn with
        | true =>
          go_quiet (fail)
          go_wp2_with fail
          go_meet
          case rel => exact ⟨by rw [HBB.out]; rfl, Lib.hid (belowDrewN _ _)⟩
        | false =>
          by_cases hl2 : pL x < pL r
          · have hB := lt_bytes (a := x.1) (b := r.1) hl2
            have HL2 : Hid (bb = false) := Lib.hid (by rw [HBB.out]; simp [hl2])
            clear hl2
            go_quiet (fail)
            go_wp2_with fail
            go_meet
            case rel => exact ⟨by rw [HL2.out], Lib.hid (belowDrewN _ _)⟩
          · have hB := nlt_bytes (a := x.1) (b := r.1) hl2
            have HL2 : Hid (bb = true) := Lib.hid (by rw [HBB.out]; simp [hl2])
            clear hl2
            go_quiet (fail)
            go_wp2_with fail
            go_meet
            case rel => exact ⟨by rw [HL2.out], Lib.hid (belowDrewN _ _)⟩
      case rest =>
        obtain ⟨rfl, HX⟩ := hcut
        obtain ⟨X, hX⟩ : ∃ X, X = wc := ⟨_, rfl⟩
        subst wc
        have HBX := Lib.hid (hbw.out.trans (HX.out.mono hbw.out.size))
        have HROX := Lib.hid (ownBelow hrow.out HX.out)
        have HOFX := Lib.hid (hoff.out.below HX.out)
        have HONX := Lib.hid (hone.out.step HX.out)
        clear f0 f1 f2 y0 hrow hoff hone hbw HX
        obtain ⟨f0, f1, f2⟩ := HF.out X HBX.out
        have y0 := HONX.out.c 0; have y1 := HONX.out.c 1; have y2 := HONX.out.c 2
        simp at y0 y1 y2
        go_upto_if 25 with fail
        go_cut [5, 6] (fun s5 s6 wx => ∃ (T1 : List (Rw × Value)) (d1 : Bool), s6 = .bool d1 ∧ (∃ a c, s5 = .slice a T1.length c) ∧ Hid ((T1.map (·.1), d1) = if (T.map (·.1), dn).2 = false ∧ ¬ pL x < pL r then ((T.map (·.1), dn).1 ++ [r], true) else (T.map (·.1), dn)) ∧ Hid (T1.length ≤ T.length + 1) ∧ Hid (wx.ownsRow (w.heap.size + 1) 48 3 s5 T1.length (rowCells T1)) ∧ Hid (RowsOff wx T1 s5.ownBlock) ∧ Hid (One w.heap.size #[.string r.1, .int .u64 r.2.last, .slice ra r.2.l.length rc] wx) ∧ Hid (Below w.heap.size w wx))
        case first =>
          by_cases hcd : dn = false ∧ ¬ pL x < pL r
          · obtain rfl : bb = true := by rw [HBB.out, hcd.1]; simp [hcd.2]
            have HCD := Lib.hid hcd; clear hcd
            go_wp2_with (
              at_builtin
              refine wpList_append_lies _ rfl (.tmp 26) (.tmp 28) 26 rfl (w.heap.size + 1) 48 i0 (.agg #[.string ByteArray.empty, .int .u64 0, .slice none 0 0]) 3 48 Tryz.underlying26 hi hz0 hz1 hz2 rfl (by decide) _ T.length (rowCells T) rfl (ownBelow HROX.out ((Below.refl _ _).alloc (Nat.le_refl _) _)) ⟨X.heap.size, 0, none⟩ 1 1 [.string r.1, .int .u64 r.2.last, .slice ra r.2.l.length rc] rfl rfl (World.news_of_block (MapKept.heap_alloc _ _).1) (by intro u hu; simp only [List.mem_cons, List.mem_nil_iff, or_false] at hu; rcases hu with rfl | rfl | rfl <;> rfl) (by decide) (by unfold maxLen; omega) (by omega) (by have := HONX.out.lt; simp; omega) (X.heap.size + 1) (by simp) ?goA
              intro g cp w8 hown8 hg8 hat8 hlt8
              have hbx8 : Below w.heap.size w w8 := (HBX.out.alloc HBX.out.size _).grown hg8 (HBX.out.alloc HBX.out.size _).size (fun k hk => by have := ownAbove HROX.out k hk; omega)
              have hone8 : One w.heap.size #[.string r.1, .int .u64 r.2.last, .slice ra r.2.l.length rc] w8 := HONX.out.grow2 hg8 (fun k hk => by have := ownAbove HROX.out k hk; omega)
              have HO8 := Lib.hid hown8; have HG8 := Lib.hid hg8; have HAT8 := Lib.hid hat8; have HB8 := Lib.hid hbx8; have HON8 := Lib.hid hone8
              clear hown8 hg8 hat8 hlt8 hbx8 hone8)
            go_meet
            case rel =>
              refine ⟨T ++ [(r, .slice ra r.2.l.length rc)], true, rfl, ⟨_, _, by rw [List.length_append]; rfl⟩, Lib.hid ?_, Lib.hid (by simp), Lib.hid ?_, Lib.hid ?_, HON8, HB8⟩
              · rw [if_pos HCD.out, List.map_append]; rfl
              · rw [List.length_append, rowCells_append]; exact HO8.out
              · exact RowsOff.app HOFX.out HROX.out HRV.out HBX.out HG8.out HAT8.out
          · obtain rfl : bb = false := by
              rw [HBB.out]
              cases dn with
              | true => rfl
              | false =>
                by_cases h : pL x < pL r
                · simp [h]
                · exact absurd ⟨rfl, h⟩ hcd
            have HCD := Lib.hid hcd; clear hcd
            go_wp2_with fail
            go_meet
            case rel => exact ⟨T, dn, rfl, ⟨_, _, rfl⟩, Lib.hid (by rw [if_neg HCD.out]), Lib.hid (by omega), HROX, HOFX, HONX, HBX⟩
        case rest =>
          obtain ⟨T1, d1, rfl, ⟨a3, c3, rfl⟩, HM1, HT1, HR1, HOF1, HON1, HBY⟩ := hcut
          obtain ⟨Y, hY⟩ : ∃ Y, Y = wc := ⟨_, rfl⟩
          subst wc
          have hT1 := HT1.out
          clear f0 f1 f2 y0 y1 y2 HROX HOFX HONX HBX
          obtain ⟨f0, f1, f2⟩ := HF.out Y HBY.out
          have y0 := HON1.out.c 0
          simp at y0
          go_upto_region 9 with fail
          go_cut [37] (fun v wx => v = .bool (decide (x.1 ≠ r.1)) ∧ Hid (Below Y.heap.size Y wx))
          case first =>
            by_cases he : x.1 = r.1
            · have hB := strEq he
              have HE : Hid (decide (x.1 ≠ r.1) = false) := Lib.hid (by simp [he])
              clear he
              go_quiet (fail)
              go_wp2_with fail
              go_meet
              case rel => exact ⟨by rw [HE.out], Lib.hid (belowDrewN _ _)⟩
            · have hB := strNe he
              have HE : Hid (decide (x.1 ≠ r.1) = true) := Lib.hid (by simp [he])
              clear he
              go_quiet (fail)
              go_wp2_with fail
              go_meet
              case rel => exact ⟨by rw [HE.out], Lib.hid (belowDrewN _ _)⟩
          case rest =>
            obtain ⟨rfl, HX⟩ := hcut
            obtain ⟨X, hX⟩ : ∃ X, X = wc := ⟨_, rfl⟩
            subst wc
            have HBX := Lib.hid (HBY.out.trans (HX.out.mono HBY.out.size))
            have HROX := Lib.hid (ownBelow HR1.out HX.out)
            have HOFX := Lib.hid (HOF1.out.below HX.out)
            have HONX := Lib.hid (HON1.out.step HX.out)
            clear f0 f1 f2 y0 HR1 HOF1 HON1 HBY HX
            obtain ⟨f0, f1, f2⟩ := HF.out X HBX.out
            by_cases he : x.1 = r.1
            · have HE : Hid (withS r (l.take (k + 1)) = (T1.map (·.1), d1)) := Lib.hid (by rw [withS_take hlt, ← Hx.out, ← hmap.out, wStep_of HM1.out, if_neg (by simp [he])])
              have hdec : decide (x.1 ≠ r.1) = false := by simp [he]
              rw [hdec]
              clear he hdec
              go_wp2_with fail
              go_roundw
              case rel => exact ⟨k + 1, T1, d1, by omega, by go_num, rfl, ⟨_, _, rfl⟩, Lib.hid HE.out.symm, Lib.hid (by omega), HROX, HOFX, HONX, HBX⟩
              case measure => simp [intOf]; omega
            · have HE : Hid (withS r (l.take (k + 1)) = (T1.map (·.1) ++ [x], d1)) := Lib.hid (by rw [withS_take hlt, ← Hx.out, ← hmap.out, wStep_of HM1.out, if_pos (by simp [he])])
              have hdec : decide (x.1 ≠ r.1) = true := by simp [he]
              rw [hdec]
              clear he hdec
              go_wp2_with (
                at_builtin
                refine wpList_append_lies _ rfl (.tmp 38) (.tmp 43) 26 rfl (w.heap.size + 1) 48 i0 (.agg #[.string ByteArray.empty, .int .u64 0, .slice none 0 0]) 3 48 Tryz.underlying26 hi hz0 hz1 hz2 rfl (by decide) _ T1.length (rowCells T1) rfl (ownBelow HROX.out ((Below.refl _ _).alloc (Nat.le_refl _) _)) ⟨X.heap.size, 0, none⟩ 1 1 [.string x.1, .int .u64 x.2.last, .slice va x.2.l.length vc] rfl rfl (World.news_of_block (MapKept.heap_alloc _ _).1) (by intro u hu; simp only [List.mem_cons, List.mem_nil_iff, or_false] at hu; rcases hu with rfl | rfl | rfl <;> rfl) (by decide) (by unfold maxLen; omega) (by omega) (by have := HONX.out.lt; simp; omega) (X.heap.size + 1) (by simp) ?goB
                intro g cp w8 hown8 hg8 hat8 hlt8
                have hbx8 : Below w.heap.size w w8 := (HBX.out.alloc HBX.out.size _).grown hg8 (HBX.out.alloc HBX.out.size _).size (fun k hk => by have := ownAbove HROX.out k hk; omega)
                have hone8 : One w.heap.size #[.string r.1, .int .u64 r.2.last, .slice ra r.2.l.length rc] w8 := HONX.out.grow2 hg8 (fun k hk => by have := ownAbove HROX.out k hk; omega)
                have HO8 := Lib.hid hown8; have HG8 := Lib.hid hg8; have HAT8 := Lib.hid hat8; have HB8 := Lib.hid hbx8; have HON8 := Lib.hid hone8
                clear hown8 hg8 hat8 hlt8 hbx8 hone8)
              go_roundw
              case rel =>
                refine ⟨k + 1, T1 ++ [(x, .slice va x.2.l.length vc)], d1, by omega, by go_num, rfl, ⟨_, _, by rw [List.length_append]; rfl⟩, Lib.hid ?_, Lib.hid (by simp; omega), Lib.hid ?_, Lib.hid ?_, HON8, HB8⟩
                · rw [HE.out, List.map_append]; rfl
                · rw [List.length_append, rowCells_append]; exact HO8.out
                · exact RowsOff.app HOFX.out HROX.out HX0.out HBX.out HG8.out HAT8.out
              case measure => simp [intOf]; omega
    · have hge : (l.length : Int) ≤ (k : Int) := by omega
      have HE : Hid (withS r l = (T.map (·.1), dn)) := Lib.hid (by rw [hmap.out, List.take_of_length_le (by omega)])
      have hbx := hbw; have HBX := hbw; have HONX := hone
      cases dn with
      | true =>
        go_wp2_with fail
        go_ret
        refine ⟨_, rfl, ?_, CapV.own hrow.out, hbw.out⟩
        rw [HW.out, HE.out]
        exact IsRows.own hrow.out hoff.out
      | false =>
        have y0 := hone.out.c 0; have y1 := hone.out.c 1; have y2 := hone.out.c 2
        simp at y0 y1 y2
        go_wp2_with (
          at_builtin
          refine wpList_append_lies _ rfl (.tmp 47) (.tmp 49) 26 rfl (w.heap.size + 1) 48 i0 (.agg #[.string ByteArray.empty, .int .u64 0, .slice none 0 0]) 3 48 Tryz.underlying26 hi hz0 hz1 hz2 rfl (by decide) _ T.length (rowCells T) rfl (ownBelow hrow.out ((Below.refl _ _).alloc (Nat.le_refl _) _)) ⟨wr.heap.size, 0, none⟩ 1 1 [.string r.1, .int .u64 r.2.last, .slice ra r.2.l.length rc] rfl rfl (World.news_of_block (MapKept.heap_alloc _ _).1) (by intro u hu; simp only [List.mem_cons, List.mem_nil_iff, or_false] at hu; rcases hu with rfl | rfl | rfl <;> rfl) (by decide) (by unfold maxLen; omega) (by omega) (by have := HONX.out.lt; simp; omega) (wr.heap.size + 1) (by simp) ?goC
          intro g cp w8 hown8 hg8 hat8 hlt8
          have hbx8 : Below w.heap.size w w8 := (HBX.out.alloc HBX.out.size _).grown hg8 (HBX.out.alloc HBX.out.size _).size (fun k hk => by have := ownAbove hrow.out k hk; omega)
          have hone8 : One w.heap.size #[.string r.1, .int .u64 r.2.last, .slice ra r.2.l.length rc] w8 := HONX.out.grow2 hg8 (fun k hk => by have := ownAbove hrow.out k hk; omega)
          have HO8 := Lib.hid hown8; have HG8 := Lib.hid hg8; have HAT8 := Lib.hid hat8; have HB8 := Lib.hid hbx8; have HON8 := Lib.hid hone8
          clear hown8 hg8 hat8 hlt8 hbx8 hone8)
        go_ret
        refine ⟨_, rfl, ?_, CapV.own HO8.out, HB8.out⟩
        rw [HW.out, HE.out]
        have h1 := IsRows.own (T := T ++ [(r, .slice ra r.2.l.length rc)]) (by rw [List.length_append, rowCells_append]; exact HO8.out) (RowsOff.app hoff.out hrow.out HRV.out hbw.out HG8.out HAT8.out)
        rw [List.map_append] at h1
        exact h1
end Go.Proofs.YtfbgnpfhjbiikaaGreatDoor

namespace Go.Proofs.YtfbgnpfhjbiikaaGreatDoor
open Go Go.RowKit
open Pth
def OneG (r : Cel × Nat) (l : List Rw) (p : ByteArray) (w : World) (e : Ending) (w' : World) : Prop :=
  ∃ (v' : Value) (n : Nat), e = .returned (.tuple #[v', .int .u64 n, .int .i64 r.2]) ∧ (r.2 = 0 → IsRows w' v' (withR l (p, r.1)) ∧ n = r.1.last ∧ CapV v') ∧ Below w.heap.size w w'
theorem pieces_zero {p : ByteArray} {m : List ByteArray} (h : m.map (·.data.toList) = piecesL p.data.toList) : ((m.length : Int) == 0) = !mayP p := by
  have h1 : m.length = (piecesL p.data.toList).length := by rw [← h, List.length_map]
  unfold mayP mayL
  rw [h1]
  cases piecesL p.data.toList with
  | nil => rfl
  | cons a t => simp; omega
theorem RefErr.intro {r : Cel × Nat} {w : World} {e : Ending} {w' : World} (h : RefErr r w e w') : ∃ a c, e = .returned (.tuple #[.agg #[.int .u64 r.1.last, .slice a r.1.l.length c], .int .i64 r.2]) ∧ IsVers w' (.slice a r.1.l.length c) r.1.l ∧ Below w.heap.size w w' := by
  obtain ⟨v, he, ⟨a, c, rfl, hc⟩, hb⟩ := h
  exact ⟨a, c, he, ⟨a, c, rfl, hc⟩, hb⟩
theorem cellR_at {l : List Rw} (h : Up l) {p : ByteArray} {z : Int} (hz : AtG l p z) : (z = -1 ∧ cellR l p = ⟨0, []⟩) ∨ ∃ k : Nat, z = k ∧ k < l.length ∧ cellR l p = (l.getD k dR).2 := by
  rcases hz with ⟨k, hk, rfl, he, _⟩ | ⟨rfl, hn⟩
  · refine Or.inr ⟨k, rfl, hk, ?_⟩
    have hm : l.getD k dR ∈ l := by rw [List.getD_eq_getElem?_getD, List.getElem?_eq_getElem hk]; exact List.getElem_mem hk
    rw [← he]; exact cellR_of h hm
  · exact Or.inl ⟨rfl, cellR_none hn⟩

set_option maxRecDepth 100000 in
set_option maxHeartbeats 4000000 in
theorem ref18_one (l : List Rw) (v : Value) (x : Edt) (w : World) (hv : IsRows w v l) (hup : Up l) (hl : l.length ≤ 1048576) (hc : ∀ i, i < l.length → (l.getD i dR).2.l.length ≤ 65536 ∧ (l.getD i dR).2.last < 18446744073709551616) (hps : x.path.size ≤ 140737488351232) (hts : x.text.size ≤ 9223372036854775807) :
    Calls Tryz.prog 72 #[v, edtVal x] w (OneG (editR l x) l x.path w) := by
  have HE : Hid (editR l x = if x.kind < 1 ∨ 3 < x.kind ∨ mayP x.path = false then (cellR l x.path, 2) else if x.kind = 1 then putE (cellR l x.path) x.any x.want x.text else if x.kind = 2 then deleteE (cellR l x.path) x.any x.want else destroyE (cellR l x.path) x.n) := Lib.hid rfl
  generalize editR l x = r at HE
  have HAT := Lib.hid (fun (w' : World) (h : Below w.heap.size w w') => ref18_at l v x.path w' (hv.below h (Nat.le_refl _)) (by omega))
  have HCR := Lib.hid (fun (z : Int) (hz : AtG l x.path z) => cellR_at hup hz)
  have HCB : Hid ((cellR l x.path).l.length ≤ 65536 ∧ (cellR l x.path).last < 18446744073709551616) := Lib.hid (by
    unfold cellR
    cases hf : l.find? (fun y => decide (y.1 = x.path)) with
    | none => exact ⟨by decide, by decide⟩
    | some y =>
      obtain ⟨i, hi, rfl⟩ := List.getElem_of_mem (List.mem_of_find?_eq_some hf)
      have := hc i hi
      rwa [List.getD_eq_getElem?_getD, List.getElem?_eq_getElem hi] at this)
  have HWI := Lib.hid (fun (rv : Value) (d : Cel) (w' : World) (h : Below w.heap.size w w') (hr : IsVers w' rv d.l) => ref18_with l v rv (x.path, d) w' (hv.below h (Nat.le_refl _)) hr hl)
  have HPI := Lib.hid (fun (w' : World) => ref16_pieces x.path hps w')
  have HPZ := Lib.hid (fun (m : List ByteArray) (h : m.map (·.data.toList) = piecesL x.path.data.toList) => pieces_zero h)
  have HPU := Lib.hid (fun (s : Value) (w' : World) (h : IsVers w' s (cellR l x.path).l) => (ref17_put (cellR l x.path) s x.any x.want x.text w' h HCB.out.1 HCB.out.2 hts).mono (fun _ _ h => h.intro))
  have HDE := Lib.hid (fun (s : Value) (w' : World) (h : IsVers w' s (cellR l x.path).l) => (ref17_delete (cellR l x.path) s x.any x.want w' h HCB.out.1 HCB.out.2).mono (fun _ _ h => h.intro))
  have HDS := Lib.hid (fun (s : Value) (w' : World) (h : IsVers w' s (cellR l x.path).l) => (ref17_destroy (cellR l x.path) s x.n w' h HCB.out.1).mono (fun _ _ h => h.intro))
  generalize mayP x.path = y at HE HPZ
  generalize putE (cellR l x.path) x.any x.want x.text = r1 at HE HPU
  generalize deleteE (cellR l x.path) x.any x.want = r2 at HE HDE
  generalize destroyE (cellR l x.path) x.n = r3 at HE HDS
  obtain ⟨C, hC⟩ : ∃ C, cellR l x.path = C := ⟨_, rfl⟩
  rw [hC] at HE HCR HCB HPU HDE HDS
  clear hC
  obtain ⟨a, cap, rfl, hcc⟩ := hv
  have HC := Lib.hid hcc; clear hcc
  obtain ⟨kd, pth, any, want, n, tx⟩ := x
  simp only at HE HAT HCR HWI HPI HPZ HPU HDE HDS hps hts ⊢
  unfold edtVal
  go_enter Tryz.func72, Tryz.ntmps72
  go_upto_region 1 with fail
  refine wp_abs (F := fun W => One w.heap.size #[.int .u8 kd, .string pth, .bool any, .int .u64 want, .int .u64 n, .string tx] W ∧ Below w.heap.size w W) ⟨One.of w _ _, (Below.refl _ _).alloc (Nat.le_refl _) _⟩ ?_
  rintro W ⟨ho, hb⟩
  have k0 := ho.c 0; have k1 := ho.c 1
  simp at k0 k1
  have HO := Lib.hid ho; have HB := Lib.hid hb
  clear ho hb
  by_cases h1 : kd < 1
  · have h1i : (kd : Int) < 1 := by omega
    obtain rfl : r = (C, 2) := by rw [HE.out, if_pos (by simp [h1])]
    go_wp2_with fail
    refine bodyPost_ret (v := .tuple #[.slice a l.length cap, .int .u64 0, .int .i64 2]) ?_ rfl ⟨.slice a l.length cap, 0, rfl, fun h => absurd h (by simp), HB.out⟩
    simp [results, Tryz.results72, go_sem]
  have h1i : ¬ (kd : Int) < 1 := by omega
  by_cases h3 : 3 < kd
  · have h3i : (3 : Int) < (kd : Int) := by omega
    obtain rfl : r = (C, 2) := by rw [HE.out, if_pos (by simp [h3])]
    go_wp2_with fail
    refine bodyPost_ret (v := .tuple #[.slice a l.length cap, .int .u64 0, .int .i64 2]) ?_ rfl ⟨.slice a l.length cap, 0, rfl, fun h => absurd h (by simp), HB.out⟩
    simp [results, Tryz.results72, go_sem]
  have h3i : ¬ (3 : Int) < (kd : Int) := by omega
  cases y with
  | false =>
    go_wp2_with fail
    refine (HPI.out _).mono ?_
    rintro e w1 ⟨vp, m, rfl, hp1, hp2, hb1⟩
    have hz := HPZ.out m hp2
    obtain ⟨ap, cp, rfl, _⟩ := hp1
    have HB1 := Lib.hid (HB.out.trans (hb1.mono HB.out.size))
    have HO1 := Lib.hid (HO.out.step hb1)
    clear hp2 hb1
    simp only [Bool.not_false] at hz
    obtain rfl : r = (C, 2) := by rw [HE.out, if_pos (by simp [])]
    go_wp2_with fail
    refine bodyPost_ret (v := .tuple #[.slice a l.length cap, .int .u64 0, .int .i64 2]) ?_ rfl ⟨.slice a l.length cap, 0, rfl, fun h => absurd h (by simp), HB1.out⟩
    simp [results, Tryz.results72, go_sem]
  | true =>
    go_wp2_with fail
    refine (HPI.out _).mono ?_
    rintro e w1 ⟨vp, m, rfl, hp1, hp2, hb1⟩
    have hz := HPZ.out m hp2
    obtain ⟨ap, cp, rfl, _⟩ := hp1
    have HB1 := Lib.hid (HB.out.trans (hb1.mono HB.out.size))
    have HO1 := Lib.hid (HO.out.step hb1)
    clear hp2 hb1
    simp only [Bool.not_true] at hz
    have hrr : Hid (r = if kd = 1 then r1 else if kd = 2 then r2 else r3) := Lib.hid (by rw [HE.out, if_neg (by simp; omega)])
    clear HE k0 k1
    have k0 := HO1.out.c 0; have k1 := HO1.out.c 1; have k2 := HO1.out.c 2; have k3 := HO1.out.c 3; have k4 := HO1.out.c 4; have k5 := HO1.out.c 5
    simp at k0 k1 k2 k3 k4 k5
    go_upto_region 4 with fail
    obtain ⟨d, hd⟩ : ∃ d, w1.heap.size = d := ⟨_, rfl⟩
    have hwd : w.heap.size < d := by have := HO1.out.lt; omega
    refine wp_abs (F := fun X => One w.heap.size #[.int .u8 kd, .string pth, .bool any, .int .u64 want, .int .u64 n, .string tx] X ∧ One d #[.int .u64 0, .slice none 0 0] X ∧ Below w.heap.size w X) ⟨HO1.out.step ((Below.refl _ _).alloc (Nat.le_refl _) _), by rw [← hd]; exact One.of _ _ _, HB1.out.alloc HB1.out.size _⟩ ?_
    rintro X ⟨o2, d2, b2⟩
    rw [hd]
    clear k0 k1 k2 k3 k4 k5 hd
    have k0 := o2.c 0; have k1 := o2.c 1; have k2 := o2.c 2; have k3 := o2.c 3; have k4 := o2.c 4; have k5 := o2.c 5
    have z0 := d2.c 0; have z1 := d2.c 1; have g0 := d2.f 0; have g1 := d2.f 1
    simp at k0 k1 k2 k3 k4 k5 z0 z1
    have O2 := Lib.hid o2; have D2 := Lib.hid d2; have B2 := Lib.hid b2
    clear o2 d2 b2 HO1 HB1 HO HB
    go_wp2_with fail
    refine (HAT.out _ B2.out).mono ?_
    rintro e w3 ⟨z, rfl, hzat, hw3⟩
    subst w3
    have hz2 := HCR.out z hzat
    clear hzat
    go_upto_if 33 with fail
    go_cut [] (fun wx => Hid (∃ s, IsVers wx s C.l ∧ One w.heap.size #[.int .u8 kd, .string pth, .bool any, .int .u64 want, .int .u64 n, .string tx] wx ∧ One d #[.int .u64 C.last, s] wx ∧ Below w.heap.size w wx))
    case first =>
      rcases hz2 with ⟨rfl, hcz⟩ | ⟨k, rfl, hk, hck⟩
      · go_wp2_with fail
        go_meet
        case rel => exact Lib.hid ⟨.slice none 0 0, by rw [hcz]; exact IsVers.nil _, O2.out, by rw [hcz]; exact D2.out, B2.out⟩
      · rcases HC.out with hn | ⟨b, off, rfl, hbl, hcc⟩
        · subst hn; simp at hk
        obtain ⟨f0, f1, s, f2, hs⟩ := hcc k hk
        have e1 := (B2.out.cell (p := ⟨b, off + k * 3 + 1, none⟩) hbl).trans f1
        have e2 := (B2.out.cell (p := ⟨b, off + k * 3 + 2, none⟩) hbl).trans f2
        rw [← hck] at e1 hs
        have hbd : b ≠ d := by omega
        have hki : (k : Int) < (l.length : Int) := by omega
        have hs2 := hs.below B2.out (Nat.le_refl _)
        obtain ⟨sa, sc, rfl, _⟩ := hs
        have HS2 := Lib.hid hs2
        clear f0 f1 f2 hcc hs2 hck
        go_wp2_with fail
        go_meet
        case rel =>
          refine Lib.hid ⟨.slice sa C.l.length sc, ?_, (O2.out.far (by dsimp only; omega) _).far (by dsimp only; omega) _, (D2.out.set (i := 0) (by simp) _).set (i := 1) (by simp) _, (B2.out.setCell (by dsimp only; omega) _).setCell (by dsimp only; omega) _⟩
          exact (HS2.out.notOne D2.out (p := ⟨d, 0, none⟩) rfl _).notOne (D2.out.set (i := 0) (by simp) _) (p := ⟨d, 1, none⟩) rfl _
    case rest =>
      obtain ⟨s, hs, o3, d3, b3⟩ := hcut.out
      obtain ⟨Y, hY⟩ : ∃ Y, Y = wc := ⟨_, rfl⟩
      subst wc
      obtain ⟨sa, sc, rfl, _⟩ := (show ∃ sa sc, s = .slice sa C.l.length sc ∧ True from by obtain ⟨a', c', h, _⟩ := hs; exact ⟨a', c', h, trivial⟩)
      have HS := Lib.hid hs; have O3 := Lib.hid o3; have B3 := Lib.hid b3
      clear k0 k1 k2 k3 k4 k5 z0 z1 g0 g1 O2 D2 B2 hcut
      have z0 := d3.c 0; have z1 := d3.c 1
      simp at z0 z1
      have D3 := Lib.hid d3
      clear hs o3 d3 b3
      go_upto_region 8 with fail
      obtain ⟨q, hq⟩ : ∃ q, Y.heap.size = q := ⟨_, rfl⟩
      have hdq : d < q := by have := D3.out.lt; omega
      refine wp_abs (F := fun Z => IsVers Z (.slice sa C.l.length sc) C.l ∧ One w.heap.size #[.int .u8 kd, .string pth, .bool any, .int .u64 want, .int .u64 n, .string tx] Z ∧ One d #[.int .u64 C.last, .slice sa C.l.length sc] Z ∧ One q #[.int .u64 C.last, .slice sa C.l.length sc] Z ∧ Below w.heap.size w Z) ⟨HS.out.below ((Below.refl _ _).alloc (Nat.le_refl _) _) (Nat.le_refl _), O3.out.step ((Below.refl _ _).alloc (Nat.le_refl _) _), D3.out.step ((Below.refl _ _).alloc (Nat.le_refl _) _), by rw [← hq]; exact One.of _ _ _, B3.out.alloc B3.out.size _⟩ ?_
      rintro Z ⟨hs, o3, d3, q3, b3⟩
      rw [hq]
      clear hq z0 z1
      have k0 := o3.c 0; have k2 := o3.c 2; have k3 := o3.c 3; have k4 := o3.c 4; have k5 := o3.c 5
      have z0 := d3.c 0; have z1 := d3.c 1
      simp at k0 k2 k3 k4 k5 z0 z1
      have QS := Lib.hid hs; have Q3 := Lib.hid q3; have O4 := Lib.hid o3; have B4 := Lib.hid b3
      clear hs o3 d3 q3 b3 HS O3 B3 D3
      by_cases e1 : kd = 1
      · have b1 : ((kd : Int) == 1) = true := by simp [e1]
        obtain rfl : r = r1 := by rw [hrr.out, if_pos e1]
        go_wp2_with fail
        refine (HPU.out _ _ QS.out).mono ?_
        rintro e w5 ⟨a5, c5, rfl, hs5, hb5⟩
        obtain ⟨p0, p1, p2, p3⟩ : w5.cell? ⟨q, 0, none⟩ = some (.int .u64 C.last) ∧ w5.cell? ⟨q, 1, none⟩ = some (.slice sa C.l.length sc) ∧ w5.frozen? ⟨q, 0, none⟩ = false ∧ w5.frozen? ⟨q, 1, none⟩ = false := by
          have h := Q3.out.step hb5
          exact ⟨h.c 0, h.c 1, h.f 0, h.f 1⟩
        have HS5 := Lib.hid hs5
        have Q5 := Lib.hid (Q3.out.step hb5); have O5 := Lib.hid (O4.out.step hb5); have B5 := Lib.hid (B4.out.trans (hb5.mono B4.out.size))
        clear hs5 hb5
        go_upto_region 14 with fail
        refine wp_abs (F := fun V => IsVers V (.slice a5 r.1.l.length c5) r.1.l ∧ One w.heap.size #[.int .u8 kd, .string pth, .bool any, .int .u64 want, .int .u64 n, .string tx] V ∧ One q #[.int .u64 r.1.last, .slice a5 r.1.l.length c5] V ∧ Below w.heap.size w V) ⟨?_, (O5.out.far (by dsimp only; omega) _).far (by dsimp only; omega) _, (Q5.out.set (i := 0) (by simp) _).set (i := 1) (by simp) _, (B5.out.setCell (by dsimp only; omega) _).setCell (by dsimp only; omega) _⟩ ?_
        · exact (HS5.out.notOne Q5.out (p := ⟨q, 0, none⟩) rfl _).notOne (Q5.out.set (i := 0) (by simp) _) (p := ⟨q, 1, none⟩) rfl _
        rintro V ⟨hs, o3, q3, b3⟩
        clear k0 k2 k3 k4 k5 z0 z1 p0 p1 p2 p3
        have k1 := o3.c 1
        have z0 := q3.c 0; have z1 := q3.c 1
        simp at k1 z0 z1
        have VS := Lib.hid hs; have VO := Lib.hid o3; have VQ := Lib.hid q3; have VB := Lib.hid b3
        clear hs o3 q3 b3 QS Q3 O4 B4 HS5 Q5 O5 B5
        by_cases he : r.2 = 0
        · have heB : ((r.2 : Int) != 0) = false := by simp [he]
          have HEZ := Lib.hid he
          clear he
          go_upto_region 16 with fail
          have keepS : Hid (∀ U, Below V.heap.size V U → U.cell? ⟨w.heap.size, 1, none⟩ = some (.string pth) ∧ U.cell? ⟨q, 0, none⟩ = some (.int .u64 r.1.last) ∧ U.cell? ⟨q, 1, none⟩ = some (.slice a5 r.1.l.length c5) ∧ Hid (Below V.heap.size V U)) := Lib.hid (fun U h => ⟨(VO.out.step h).c 1, (VQ.out.step h).c 0, (VQ.out.step h).c 1, Lib.hid h⟩)
          have keepB : Hid (∀ U : World, (U.cell? ⟨w.heap.size, 1, none⟩ = some (.string pth) ∧ U.cell? ⟨q, 0, none⟩ = some (.int .u64 r.1.last) ∧ U.cell? ⟨q, 1, none⟩ = some (.slice a5 r.1.l.length c5) ∧ Hid (Below V.heap.size V U)) → Below V.heap.size V U) := Lib.hid (fun U h => h.2.2.2.out)
          go_region_held3 (fun U => U.cell? ⟨w.heap.size, 1, none⟩ = some (.string pth) ∧ U.cell? ⟨q, 0, none⟩ = some (.int .u64 r.1.last) ∧ U.cell? ⟨q, 1, none⟩ = some (.slice a5 r.1.l.length c5) ∧ Hid (Below V.heap.size V U))
            (first
              | exact keepS.out _ HB8.out
              | exact keepS.out _ (Below.refl _ _).drew)
            (first
              | (go_at_call 74; refine (HWI.out _ r.1 _ (VB.out.trans ((keepB.out _ (by assumption)).mono VB.out.size)) (VS.out.below (keepB.out _ (by assumption)) (Nat.le_refl _))).mono ?_; rintro e w8 ⟨v8, rfl, hr8, hcp8, hb8⟩; have HB8 := Lib.hid ((keepB.out _ (by assumption)).trans (hb8.mono (keepB.out _ (by assumption)).size)); have HR8 := Lib.hid hr8; have HCP8 := Lib.hid hcp8; clear hr8 hcp8 hb8))
          all_goals (
            go_wp2_with fail
            refine bodyPost_ret (v := .tuple #[v8, .int .u64 r.1.last, .int .i64 0]) ?_ rfl ⟨v8, r.1.last, by rw [HEZ.out]; rfl, fun _ => ⟨HR8.out, rfl, HCP8.out⟩, VB.out.trans (HB8.out.mono VB.out.size)⟩
            simp [results, Tryz.results72, go_sem])
        · have heB : ((r.2 : Int) != 0) = true := by simp; omega
          have HEN := Lib.hid he
          clear he
          go_wp2_with fail
          refine bodyPost_ret (v := .tuple #[.slice a l.length cap, .int .u64 0, .int .i64 r.2]) ?_ rfl ⟨.slice a l.length cap, 0, rfl, fun h => absurd h HEN.out, VB.out⟩
          simp [results, Tryz.results72, go_sem]
      have b1 : ((kd : Int) == 1) = false := by rw [beq_eq_false_iff_ne]; omega
      by_cases e2 : kd = 2
      · have b2 : ((kd : Int) == 2) = true := by simp [e2]
        obtain rfl : r = r2 := by rw [hrr.out, if_neg e1, if_pos e2]
        go_wp2_with fail
        refine (HDE.out _ _ QS.out).mono ?_
        rintro e w5 ⟨a5, c5, rfl, hs5, hb5⟩
        obtain ⟨p0, p1, p2, p3⟩ : w5.cell? ⟨q, 0, none⟩ = some (.int .u64 C.last) ∧ w5.cell? ⟨q, 1, none⟩ = some (.slice sa C.l.length sc) ∧ w5.frozen? ⟨q, 0, none⟩ = false ∧ w5.frozen? ⟨q, 1, none⟩ = false := by
          have h := Q3.out.step hb5
          exact ⟨h.c 0, h.c 1, h.f 0, h.f 1⟩
        have HS5 := Lib.hid hs5
        have Q5 := Lib.hid (Q3.out.step hb5); have O5 := Lib.hid (O4.out.step hb5); have B5 := Lib.hid (B4.out.trans (hb5.mono B4.out.size))
        clear hs5 hb5
        go_upto_region 14 with fail
        refine wp_abs (F := fun V => IsVers V (.slice a5 r.1.l.length c5) r.1.l ∧ One w.heap.size #[.int .u8 kd, .string pth, .bool any, .int .u64 want, .int .u64 n, .string tx] V ∧ One q #[.int .u64 r.1.last, .slice a5 r.1.l.length c5] V ∧ Below w.heap.size w V) ⟨?_, (O5.out.far (by dsimp only; omega) _).far (by dsimp only; omega) _, (Q5.out.set (i := 0) (by simp) _).set (i := 1) (by simp) _, (B5.out.setCell (by dsimp only; omega) _).setCell (by dsimp only; omega) _⟩ ?_
        · exact (HS5.out.notOne Q5.out (p := ⟨q, 0, none⟩) rfl _).notOne (Q5.out.set (i := 0) (by simp) _) (p := ⟨q, 1, none⟩) rfl _
        rintro V ⟨hs, o3, q3, b3⟩
        clear k0 k2 k3 k4 k5 z0 z1 p0 p1 p2 p3
        have k1 := o3.c 1
        have z0 := q3.c 0; have z1 := q3.c 1
        simp at k1 z0 z1
        have VS := Lib.hid hs; have VO := Lib.hid o3; have VQ := Lib.hid q3; have VB := Lib.hid b3
        clear hs o3 q3 b3 QS Q3 O4 B4 HS5 Q5 O5 B5
        by_cases he : r.2 = 0
        · have heB : ((r.2 : Int) != 0) = false := by simp [he]
          have HEZ := Lib.hid he
          clear he
          go_upto_region 16 with fail
          have keepS : Hid (∀ U, Below V.heap.size V U → U.cell? ⟨w.heap.size, 1, none⟩ = some (.string pth) ∧ U.cell? ⟨q, 0, none⟩ = some (.int .u64 r.1.last) ∧ U.cell? ⟨q, 1, none⟩ = some (.slice a5 r.1.l.length c5) ∧ Hid (Below V.heap.size V U)) := Lib.hid (fun U h => ⟨(VO.out.step h).c 1, (VQ.out.step h).c 0, (VQ.out.step h).c 1, Lib.hid h⟩)
          have keepB : Hid (∀ U : World, (U.cell? ⟨w.heap.size, 1, none⟩ = some (.string pth) ∧ U.cell? ⟨q, 0, none⟩ = some (.int .u64 r.1.last) ∧ U.cell? ⟨q, 1, none⟩ = some (.slice a5 r.1.l.length c5) ∧ Hid (Below V.heap.size V U)) → Below V.heap.size V U) := Lib.hid (fun U h => h.2.2.2.out)
          go_region_held3 (fun U => U.cell? ⟨w.heap.size, 1, none⟩ = some (.string pth) ∧ U.cell? ⟨q, 0, none⟩ = some (.int .u64 r.1.last) ∧ U.cell? ⟨q, 1, none⟩ = some (.slice a5 r.1.l.length c5) ∧ Hid (Below V.heap.size V U))
            (first
              | exact keepS.out _ HB8.out
              | exact keepS.out _ (Below.refl _ _).drew)
            (first
              | (go_at_call 74; refine (HWI.out _ r.1 _ (VB.out.trans ((keepB.out _ (by assumption)).mono VB.out.size)) (VS.out.below (keepB.out _ (by assumption)) (Nat.le_refl _))).mono ?_; rintro e w8 ⟨v8, rfl, hr8, hcp8, hb8⟩; have HB8 := Lib.hid ((keepB.out _ (by assumption)).trans (hb8.mono (keepB.out _ (by assumption)).size)); have HR8 := Lib.hid hr8; have HCP8 := Lib.hid hcp8; clear hr8 hcp8 hb8))
          all_goals (
            go_wp2_with fail
            refine bodyPost_ret (v := .tuple #[v8, .int .u64 r.1.last, .int .i64 0]) ?_ rfl ⟨v8, r.1.last, by rw [HEZ.out]; rfl, fun _ => ⟨HR8.out, rfl, HCP8.out⟩, VB.out.trans (HB8.out.mono VB.out.size)⟩
            simp [results, Tryz.results72, go_sem])
        · have heB : ((r.2 : Int) != 0) = true := by simp; omega
          have HEN := Lib.hid he
          clear he
          go_wp2_with fail
          refine bodyPost_ret (v := .tuple #[.slice a l.length cap, .int .u64 0, .int .i64 r.2]) ?_ rfl ⟨.slice a l.length cap, 0, rfl, fun h => absurd h HEN.out, VB.out⟩
          simp [results, Tryz.results72, go_sem]
      have b2 : ((kd : Int) == 2) = false := by rw [beq_eq_false_iff_ne]; omega
      obtain rfl : r = r3 := by rw [hrr.out, if_neg e1, if_neg e2]
      go_wp2_with fail
      refine (HDS.out _ _ QS.out).mono ?_
      rintro e w5 ⟨a5, c5, rfl, hs5, hb5⟩
      obtain ⟨p0, p1, p2, p3⟩ : w5.cell? ⟨q, 0, none⟩ = some (.int .u64 C.last) ∧ w5.cell? ⟨q, 1, none⟩ = some (.slice sa C.l.length sc) ∧ w5.frozen? ⟨q, 0, none⟩ = false ∧ w5.frozen? ⟨q, 1, none⟩ = false := by
        have h := Q3.out.step hb5
        exact ⟨h.c 0, h.c 1, h.f 0, h.f 1⟩
      have HS5 := Lib.hid hs5
      have Q5 := Lib.hid (Q3.out.step hb5); have O5 := Lib.hid (O4.out.step hb5); have B5 := Lib.hid (B4.out.trans (hb5.mono B4.out.size))
      clear hs5 hb5
      go_upto_region 14 with fail
      refine wp_abs (F := fun V => IsVers V (.slice a5 r.1.l.length c5) r.1.l ∧ One w.heap.size #[.int .u8 kd, .string pth, .bool any, .int .u64 want, .int .u64 n, .string tx] V ∧ One q #[.int .u64 r.1.last, .slice a5 r.1.l.length c5] V ∧ Below w.heap.size w V) ⟨?_, (O5.out.far (by dsimp only; omega) _).far (by dsimp only; omega) _, (Q5.out.set (i := 0) (by simp) _).set (i := 1) (by simp) _, (B5.out.setCell (by dsimp only; omega) _).setCell (by dsimp only; omega) _⟩ ?_
      · exact (HS5.out.notOne Q5.out (p := ⟨q, 0, none⟩) rfl _).notOne (Q5.out.set (i := 0) (by simp) _) (p := ⟨q, 1, none⟩) rfl _
      rintro V ⟨hs, o3, q3, b3⟩
      clear k0 k2 k3 k4 k5 z0 z1 p0 p1 p2 p3
      have k1 := o3.c 1
      have z0 := q3.c 0; have z1 := q3.c 1
      simp at k1 z0 z1
      have VS := Lib.hid hs; have VO := Lib.hid o3; have VQ := Lib.hid q3; have VB := Lib.hid b3
      clear hs o3 q3 b3 QS Q3 O4 B4 HS5 Q5 O5 B5
      by_cases he : r.2 = 0
      · have heB : ((r.2 : Int) != 0) = false := by simp [he]
        have HEZ := Lib.hid he
        clear he
        go_upto_region 16 with fail
        have keepS : Hid (∀ U, Below V.heap.size V U → U.cell? ⟨w.heap.size, 1, none⟩ = some (.string pth) ∧ U.cell? ⟨q, 0, none⟩ = some (.int .u64 r.1.last) ∧ U.cell? ⟨q, 1, none⟩ = some (.slice a5 r.1.l.length c5) ∧ Hid (Below V.heap.size V U)) := Lib.hid (fun U h => ⟨(VO.out.step h).c 1, (VQ.out.step h).c 0, (VQ.out.step h).c 1, Lib.hid h⟩)
        have keepB : Hid (∀ U : World, (U.cell? ⟨w.heap.size, 1, none⟩ = some (.string pth) ∧ U.cell? ⟨q, 0, none⟩ = some (.int .u64 r.1.last) ∧ U.cell? ⟨q, 1, none⟩ = some (.slice a5 r.1.l.length c5) ∧ Hid (Below V.heap.size V U)) → Below V.heap.size V U) := Lib.hid (fun U h => h.2.2.2.out)
        go_region_held3 (fun U => U.cell? ⟨w.heap.size, 1, none⟩ = some (.string pth) ∧ U.cell? ⟨q, 0, none⟩ = some (.int .u64 r.1.last) ∧ U.cell? ⟨q, 1, none⟩ = some (.slice a5 r.1.l.length c5) ∧ Hid (Below V.heap.size V U))
          (first
            | exact keepS.out _ HB8.out
            | exact keepS.out _ (Below.refl _ _).drew)
          (first
            | (go_at_call 74; refine (HWI.out _ r.1 _ (VB.out.trans ((keepB.out _ (by assumption)).mono VB.out.size)) (VS.out.below (keepB.out _ (by assumption)) (Nat.le_refl _))).mono ?_; rintro e w8 ⟨v8, rfl, hr8, hcp8, hb8⟩; have HB8 := Lib.hid ((keepB.out _ (by assumption)).trans (hb8.mono (keepB.out _ (by assumption)).size)); have HR8 := Lib.hid hr8; have HCP8 := Lib.hid hcp8; clear hr8 hcp8 hb8))
        all_goals (
          go_wp2_with fail
          refine bodyPost_ret (v := .tuple #[v8, .int .u64 r.1.last, .int .i64 0]) ?_ rfl ⟨v8, r.1.last, by rw [HEZ.out]; rfl, fun _ => ⟨HR8.out, rfl, HCP8.out⟩, VB.out.trans (HB8.out.mono VB.out.size)⟩
          simp [results, Tryz.results72, go_sem])
      · have heB : ((r.2 : Int) != 0) = true := by simp; omega
        have HEN := Lib.hid he
        clear he
        go_wp2_with fail
        refine bodyPost_ret (v := .tuple #[.slice a l.length cap, .int .u64 0, .int .i64 r.2]) ?_ rfl ⟨.slice a l.length cap, 0, rfl, fun h => absurd h HEN.out, VB.out⟩
        simp [results, Tryz.results72, go_sem]
end Go.Proofs.YtfbgnpfhjbiikaaGreatDoor
