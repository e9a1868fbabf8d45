/- Contract: scriniumref28.ask: a shard more among rising ones. A struct stored into one's own row. -/
import Derived.Test.YtggdkfijioeijaaGreatDoorQa24
namespace Go.Proofs.YtggdkfijioeijaaGreatDoor
open Go Go.RowKit
theorem wpList_append_gen {P : Program} {w : World} {ops : Array Oper} {rest : List Oper} {o : Oper} {a : Act} {Q : Exit → Act → World → Prop} (hgd : o.guard = none) (s x : Operand) (t : TypeId)
    (ho : o.op = .call { callee := .builtin .append, args := #[s, x], argTypes := #[t, t] })
    (base : Nat) (e : TypeId) (i : TypeInfo) (z : Value) (size bytes : Nat) (ht : P.underlying t = some (.slice e)) (hi : P.info? e = some i) (hz : i.zero = some z)
    (hsize : i.size = size) (hby : i.bytes = bytes) (hzs : z.cells.size = size) (hsz : 0 < size)
    (v : Value) (n : Nat) (xs : List Value) (hs : a.eval s = v) (hown : w.ownsRow base e size v n xs)
    (src : Value) (m : Nat) (news : List Value) (hx : a.eval x = src) (hsrc : (src = .slice none 0 0 ∧ m = 0) ∨ ∃ ad c, src = .slice (some ad) m c ∧ ∀ j u, news[j]? = some u → w.cell? (ad.add j) = some u) (hl : news.length = m * size) (h1 : ∀ u ∈ news, u.oneCell' = true)
    (h63 : n + m ≤ maxLen) (hbytes : (n + m) * bytes ≤ 140737488355328) (hbase : base ≤ w.heap.size)
    (h : ∀ a' c' w', w'.ownsRow base e size (.slice a' (n + m) c') (n + m) (xs ++ news) → w.grownBy w' v.ownBlock → wpList P ops Q rest (a.put o.dst (.slice a' (n + m) c')) w') :
    wpList P ops Q (o :: rest) a w := by
  have hshape : ∀ {w : World} {v : Value} {n : Nat} {xs : List Value}, w.ownsRow base e size v n xs → ∃ a' c', v = .slice a' n c' := fun h => by
    rcases h.2 with ⟨hv, h0⟩ | ⟨g, cap, cur, hv, _⟩
    · exact ⟨none, 0, by rw [hv, h0]⟩
    · exact ⟨_, _, hv⟩
  rcases hsrc with ⟨rfl, rfl⟩ | ⟨ad, c, rfl, hn⟩
  · obtain rfl : news = [] := List.length_eq_zero_iff.1 (by rw [hl, Nat.zero_mul])
    obtain ⟨a', c', rfl⟩ := hshape hown
    refine wpList_append_own_none hgd s x t ho base e i size ht hi _ n xs hs hown hx ?_
    exact h a' c' w (by rw [List.append_nil]; exact hown) ⟨rfl, rfl, rfl, Nat.le_refl _, fun _ _ _ => rfl⟩
  · refine wpList_plain hgd fun K hK => ?_
    obtain ⟨v', w', hr, h2, h3, _, _⟩ := run_append_own_at (P := P) w base t o.type e i z size bytes ht hi hz hsize hby hzs hsz v n xs hown ad m c news hl hn h1 h63 hbytes hbase
    obtain ⟨a', c', rfl⟩ := hshape h2
    unfold Oper.wp
    simp [execOp, ho, resolve, invoke, builtin, hs, hx, hr, Result.andThen]
    exact hK _ _ (h a' c' w' h2 h3)
def newC (s : Nat) : List Value := [.int .u32 (s : Int), .slice none 0 0, .slice none 0 0, .slice none 0 0, .slice none 0 0, .bool false, .string ⟨#[]⟩, .bool false, .bool false, .int .u64 0, .int .u64 0]
theorem newC_len (s : Nat) : (newC s).length = 11 := rfl
theorem newC_ones (l : List Nat) : ∀ u ∈ l.flatMap newC, u.oneCell' = true := by
  intro u hu
  obtain ⟨x, _, hx⟩ := List.mem_flatMap.1 hu
  simp only [newC, List.mem_cons, List.mem_nil_iff, or_false] at hx
  rcases hx with rfl | rfl | rfl | rfl | rfl | rfl | rfl | rfl | rfl | rfl | rfl <;> rfl
structure InsAt (ss : List Nat) (s k : Nat) : Prop where
  le : k ≤ ss.length
  lo : ∀ i, i < k → ss.getD i 0 < s
  hi : k < ss.length → s < ss.getD k 0
theorem getD_lt {ss : List Nat} (h : ss.Pairwise (· < ·)) {i j : Nat} (hij : i < j) (hj : j < ss.length) : ss.getD i 0 < ss.getD j 0 := by
  have := List.pairwise_iff_getElem.1 h i j (by omega) hj hij
  rw [List.getD_eq_getElem?_getD, List.getD_eq_getElem?_getD, List.getElem?_eq_getElem (by omega), List.getElem?_eq_getElem hj]; exact this
theorem getD_mem {ss : List Nat} {i : Nat} (h : i < ss.length) : ss.getD i 0 ∈ ss := by
  rw [List.getD_eq_getElem?_getD, List.getElem?_eq_getElem h]; exact List.getElem_mem _
theorem mem_take_i {ss : List Nat} {x k : Nat} (h : x ∈ ss.take k) : ∃ i, i < k ∧ i < ss.length ∧ ss.getD i 0 = x := by
  obtain ⟨i, hi, rfl⟩ := List.mem_iff_getElem.1 h
  rw [List.length_take] at hi
  exact ⟨i, by omega, by omega, by rw [List.getElem_take, List.getD_eq_getElem?_getD, List.getElem?_eq_getElem (by omega)]; rfl⟩
theorem mem_drop_i {ss : List Nat} {x k : Nat} (h : x ∈ ss.drop k) : ∃ i, k ≤ i ∧ i < ss.length ∧ ss.getD i 0 = x := by
  obtain ⟨i, hi, rfl⟩ := List.mem_iff_getElem.1 h
  rw [List.length_drop] at hi
  exact ⟨k + i, by omega, by omega, by rw [List.getElem_drop, List.getD_eq_getElem?_getD, List.getElem?_eq_getElem (by omega)]; rfl⟩
theorem InsAt.rise {ss : List Nat} {s k : Nat} (h : InsAt ss s k) (hr : ss.Pairwise (· < ·)) : (ss.take k ++ [s] ++ ss.drop k).Pairwise (· < ·) := by
  have hlo : ∀ x ∈ ss.take k, x < s := fun x hx => by
    obtain ⟨i, hi, _, rfl⟩ := mem_take_i hx; exact h.lo i hi
  have hhi : ∀ x ∈ ss.drop k, s < x := fun x hx => by
    obtain ⟨i, hi, hl, rfl⟩ := mem_drop_i hx
    have h0 := h.hi (by omega)
    by_cases e : i = k
    · subst e; exact h0
    · exact Nat.lt_trans h0 (getD_lt hr (by omega) hl)
  rw [List.pairwise_append, List.pairwise_append]
  refine ⟨⟨hr.sublist (List.take_sublist _ _), by simp, fun x hx y hy => by rw [List.mem_singleton.1 hy]; exact hlo x hx⟩, hr.sublist (List.drop_sublist _ _), fun x hx y hy => ?_⟩
  rcases List.mem_append.1 hx with hx | hx
  · exact Nat.lt_trans (hlo x hx) (hhi y hy)
  · rw [List.mem_singleton.1 hx]; exact hhi y hy
theorem InsAt.mem {ss : List Nat} {s k : Nat} (_h : InsAt ss s k) (x : Nat) : x ∈ ss.take k ++ [s] ++ ss.drop k ↔ x ∈ ss ∨ x = s := by
  conv => rhs; lhs; rw [← List.take_append_drop k ss]
  rw [List.mem_append, List.mem_append, List.mem_append, List.mem_singleton]
  constructor
  · rintro ((h | h) | h)
    · exact Or.inl (Or.inl h)
    · exact Or.inr h
    · exact Or.inl (Or.inr h)
  · rintro ((h | h) | h)
    · exact Or.inl (Or.inl h)
    · exact Or.inr h
    · exact Or.inl (Or.inr h)
def AskNG (ss : List Nat) (s B : Nat) (w : World) (e : Ending) (w' : World) : Prop :=
  ∃ (v : Value) (n' : Nat) (ss' : List Nat), e = .returned v ∧ w'.ownsRow B 47 11 v n' (ss'.flatMap newC) ∧ ss'.length = n' ∧ ss'.Pairwise (· < ·) ∧ (∀ x, x ∈ ss' ↔ x ∈ ss ∨ x = s) ∧ n' ≤ ss.length + 1 ∧ Below w.heap.size w w'
theorem newC_at {w : World} {B n g cap : Nat} {ss : List Nat} (h : w.ownsRow B 47 11 (.slice (some ⟨g, 0, none⟩) n cap) n (ss.flatMap newC)) (hn : ss.length = n) {i : Nat} (hi : i < n) (j : Nat) (u : Value) (hu : (newC (ss.getD i 0))[j]? = some u) : w.cell? ⟨g, i * 11 + j, none⟩ = some u := by
  have hj : j < 11 := by have := (List.getElem?_eq_some_iff.1 hu).1; rwa [newC_len] at this
  rw [World.ownsRow.cellAt h (i * 11 + j) (by omega)]
  exact flat_at newC_len 0 ss i (by omega) j u hu
theorem flat_take {ss : List Nat} {k j : Nat} {u : Value} (h : ((ss.take k).flatMap newC)[j]? = some u) : (ss.flatMap newC)[j]? = some u := by
  conv => lhs; rw [← List.take_append_drop k ss, List.flatMap_append]
  rw [List.getElem?_append_left (List.getElem?_eq_some_iff.1 h).1]; exact h
theorem flat_drop {ss : List Nat} {k j : Nat} {u : Value} (hk : k ≤ ss.length) (h : ((ss.drop k).flatMap newC)[j]? = some u) : (ss.flatMap newC)[k * 11 + j]? = some u := by
  conv => lhs; rw [← List.take_append_drop k ss, List.flatMap_append]
  have hl : ((ss.take k).flatMap newC).length = k * 11 := by rw [flat_length newC_len, List.length_take, Nat.min_eq_left hk]
  rw [List.getElem?_append_right (by rw [hl]; omega), hl, Nat.add_sub_cancel_left]; exact h
theorem newC_cell {w : World} {B n g cap : Nat} {ss : List Nat} (h : w.ownsRow B 47 11 (.slice (some ⟨g, 0, none⟩) n cap) n (ss.flatMap newC)) (hn : ss.length = n) {j : Nat} {u : Value} (hu : (ss.flatMap newC)[j]? = some u) : w.cell? ⟨g, j, none⟩ = some u := by
  have hj := (List.getElem?_eq_some_iff.1 hu).1
  rw [flat_length newC_len, hn] at hj
  rw [World.ownsRow.cellAt h j (by omega)]; exact hu
-- ASK
theorem ownBase {w : World} {B B' e n k : Nat} {v : Value} {xs : List Value} (h : w.ownsRow B e k v n xs) (hB : B' ≤ B) : w.ownsRow B' e k v n xs := by
  refine ⟨h.1, ?_⟩
  rcases h.2 with hn | ⟨g, cap, cur, hv, hBg, rest⟩
  · exact Or.inl hn
  · exact Or.inr ⟨g, cap, cur, hv, Nat.le_trans hB hBg, rest⟩
theorem addr_add' (g o i : Nat) : (⟨g, o, none⟩ : Addr).add i = ⟨g, o + i, none⟩ := by
  unfold Addr.add
  split
  · rename_i h; subst h; rfl
  · rfl

theorem own_lt {w : World} {B e n k g c : Nat} {xs : List Value} (h : w.ownsRow B e k (.slice (some ⟨g, 0, none⟩) n c) n xs) : g < w.heap.size := by
  rcases h.2 with ⟨hv, _⟩ | ⟨g', cap', cur, hv, _, hg, _⟩
  · cases hv
  · cases hv; exact (Array.getElem?_eq_some_iff.1 hg).1

set_option maxRecDepth 100000 in
set_option maxHeartbeats 4000000 in
theorem ref28_ask (ss : List Nat) (s n B : Nat) (v : Value) (w : World) (hrow : w.ownsRow B 47 11 v n (ss.flatMap newC)) (hn : ss.length = n) (hr : ss.Pairwise (· < ·)) (hB : B ≤ w.heap.size) (hl : n ≤ 3000) :
    Calls Tryz.prog 31 #[v, .int .u32 (s : Int)] w (AskNG ss s B w) := by
  obtain ⟨i0, hi, hz0, hz1, hz2⟩ := info_parts infoAsk
  have HI := Lib.hid hi; have HZ0 := Lib.hid hz0; have HZ1 := Lib.hid hz1; have HZ2 := Lib.hid hz2
  have HNN := Lib.hid hn; have HRS := Lib.hid hr; have HBB := Lib.hid hB
  clear hi hz0 hz1 hz2 hn hr
  rcases id hrow.2 with ⟨rfl, rfl⟩ | ⟨g, cap, cur, rfl, _, _, hncap, hcm, _, _⟩
  · have hss : ss = [] := List.length_eq_zero_iff.1 HNN.out
    have HSS := Lib.hid hss
    have HIN : Hid (InsAt ss s 0) := Lib.hid ⟨Nat.zero_le _, fun i hi => by omega, fun h => by rw [HSS.out] at h; simp at h⟩
    clear hrow hss
    go_enter Tryz.func31, Tryz.ntmps31
    go_wp2_with fail
    go_loopw [5] (fun vi wr => vi = .int .i64 0 ∧ wr = w) (fun _ _ => 0)
    case atStart => exact ⟨rfl, rfl⟩
    case round =>
      obtain ⟨rfl, rfl⟩ := hrel
      go_upto_region 7 with fail
      go_upto_region 8 with (at_builtin; refine wpList_append_gen rfl (.tmp 36) (.tmp 39) 37 rfl wr.heap.size 47 i0 (.agg #[.int .u32 0, .slice none 0 0, .slice none 0 0, .slice none 0 0, .slice none 0 0, .bool false, .string ByteArray.empty, .bool false, .bool false, .int .u64 0, .int .u64 0]) 11 152 Tryz.underlying37 HI.out HZ0.out HZ1.out HZ2.out rfl (by decide) _ 0 [] rfl (World.ownsRow_nil _ _ _ _) _ 0 ((ss.take 0).flatMap newC) rfl (Or.inl ⟨rfl, rfl⟩) (by rw [flat_length newC_len, List.length_take]; have := HNN.out; first | omega | (congr 1; omega)) (newC_ones _) (by unfold maxLen; omega) (by omega) (Nat.le_refl _) ?_; intro a1 c1 w2 hown2 hg2; rw [Nat.zero_add, List.nil_append] at hown2; have HO2 := Lib.hid hown2; have HB2 : Hid (Below wr.heap.size wr w2) := Lib.hid ((grown_but hg2).below (fun k hk => by cases hk) (Nat.le_refl _)); have HG2 := Lib.hid hg2; clear hown2 hg2)
      have hz2 := HB2.out.size
      go_upto_region 9 with (at_builtin; refine wpList_append_gen rfl (.tmp 41) (.tmp 44) 37 rfl wr.heap.size 47 i0 (.agg #[.int .u32 0, .slice none 0 0, .slice none 0 0, .slice none 0 0, .slice none 0 0, .bool false, .string ByteArray.empty, .bool false, .bool false, .int .u64 0, .int .u64 0]) 11 152 Tryz.underlying37 HI.out HZ0.out HZ1.out HZ2.out rfl (by decide) _ 0 ((ss.take 0).flatMap newC) rfl (HO2.out.alloc _) _ 1 (newC s) rfl (Or.inr ⟨⟨w2.heap.size, 0, none⟩, 1, rfl, World.news_of_block (MapKept.heap_alloc _ _).1⟩) rfl (by have := newC_ones [s]; simpa using this) (by unfold maxLen; omega) (by omega) (by first | (simp; omega) | simp) ?_; intro a2 c2 w3 hown3 hg3; have HO3 := Lib.hid hown3; have HB3 : Hid (Below wr.heap.size wr w3) := Lib.hid ((HB2.out.alloc HB2.out.size _).trans ((grown_but hg3).below (fun k hk => own_above2 HO2.out k hk) (by first | (simp; omega) | simp))); clear hown3 hg3)
      have hz3 := HB3.out.size
      go_upto_region 10 with (at_builtin; refine wpList_append_gen rfl (.tmp 46) (.tmp 49) 37 rfl wr.heap.size 47 i0 (.agg #[.int .u32 0, .slice none 0 0, .slice none 0 0, .slice none 0 0, .slice none 0 0, .bool false, .string ByteArray.empty, .bool false, .bool false, .int .u64 0, .int .u64 0]) 11 152 Tryz.underlying37 HI.out HZ0.out HZ1.out HZ2.out rfl (by decide) _ (0 + 1) ((ss.take 0).flatMap newC ++ newC s) rfl HO3.out _ 0 ((ss.drop 0).flatMap newC) rfl (Or.inl ⟨rfl, rfl⟩) (by rw [flat_length newC_len, List.length_drop]; have := HNN.out; first | omega | (congr 1; omega)) (newC_ones _) (by unfold maxLen; omega) (by omega) (by omega) ?_; intro a3 c3 w4 hown4 hg4; have HO4 := Lib.hid hown4; have HB4 : Hid (Below wr.heap.size wr w4) := Lib.hid (HB3.out.trans ((grown_but hg4).below (fun k hk => own_above2 HO3.out k hk) HB3.out.size)); clear hown4 hg4)
      go_wp2_with fail
      go_ret
      refine ⟨_, 0 + 1 + 0, ss.take 0 ++ [s] ++ ss.drop 0, rfl, ?_, ?_, HIN.out.rise HRS.out, HIN.out.mem, ?_, HB4.out⟩
      · have h := HO4.out
        refine ownBase (xs := (ss.take 0 ++ [s] ++ ss.drop 0).flatMap newC) ?_ HBB.out
        rw [List.flatMap_append, List.flatMap_append, show [s].flatMap newC = newC s by simp]
        exact h
      · have := HNN.out; rw [List.length_append, List.length_append, List.length_take, List.length_drop]; simp only [List.length_cons, List.length_nil]; omega
      · have := HNN.out; omega
  have HROW := Lib.hid hrow
  have HGL : Hid (g < w.heap.size) := Lib.hid (own_lt hrow)
  have hcap : cap ≤ 9223372036854775807 := by unfold maxLen at hcm; exact hcm
  clear hrow hcm
  go_enter Tryz.func31, Tryz.ntmps31
  go_wp2_with fail
  go_loopw [5] (fun vi wr => ∃ k : Nat, k ≤ n ∧ vi = .int .i64 k ∧ Hid (∀ i, i < k → ss.getD i 0 < s) ∧ wr = w) (fun vi _ => n - (intOf vi).toNat)
  case atStart => exact ⟨0, Nat.zero_le _, rfl, Lib.hid (fun i hi => by omega), rfl⟩
  case round =>
    obtain ⟨k, hk, rfl, HLO, rfl⟩ := hrel
    by_cases hlt : k < n
    · have hki : (k : Int) < (n : Int) := by omega
      have hc := newC_at HROW.out HNN.out hlt 0 _ rfl
      rw [Nat.add_zero] at hc
      obtain ⟨x, hx⟩ : ∃ x, ss.getD k 0 = x := ⟨_, rfl⟩
      rw [hx] at hc
      have HX := Lib.hid hx
      clear hx
      by_cases hxs : x < s
      · have hxi : (x : Int) < (s : Int) := by omega
        have HL2 : Hid (∀ i, i < k + 1 → ss.getD i 0 < s) := Lib.hid (fun i hi => by
          by_cases e : i = k
          · subst e; rw [HX.out]; exact hxs
          · exact HLO.out i (by omega))
        clear hxs
        go_wp2_with fail
        go_roundw
        case rel => exact ⟨k + 1, by omega, by go_num, HL2, by first | rfl | trivial⟩
        case measure => simp [intOf]; omega
      have hxi : ¬ (x : Int) < (s : Int) := by omega
      by_cases hxe : x = s
      · have hxb : ((x : Int) == (s : Int)) = true := by simp; omega
        have HME : Hid (∀ y, y ∈ ss ↔ y ∈ ss ∨ y = s) := Lib.hid (fun y => ⟨Or.inl, fun h => h.elim id (fun e => by rw [e, ← hxe, ← HX.out]; exact getD_mem (by rw [HNN.out]; exact hlt))⟩)
        clear hxe
        go_wp2_with fail
        go_ret
        exact ⟨_, n, ss, rfl, HROW.out, HNN.out, HRS.out, HME.out, by rw [HNN.out]; omega, Below.refl _ _⟩
      have hxb : ((x : Int) == (s : Int)) = false := by rw [beq_eq_false_iff_ne]; omega
      have HIN : Hid (InsAt ss s k) := Lib.hid ⟨by rw [HNN.out]; exact hk, HLO.out, fun _ => by rw [HX.out]; omega⟩
      have hkc : k < cap := by omega
      clear hxe hxs
      go_upto_region 7 with fail
      go_upto_region 8 with (at_builtin; refine wpList_append_gen rfl (.tmp 36) (.tmp 39) 37 rfl wr.heap.size 47 i0 (.agg #[.int .u32 0, .slice none 0 0, .slice none 0 0, .slice none 0 0, .slice none 0 0, .bool false, .string ByteArray.empty, .bool false, .bool false, .int .u64 0, .int .u64 0]) 11 152 Tryz.underlying37 HI.out HZ0.out HZ1.out HZ2.out rfl (by decide) _ 0 [] rfl (World.ownsRow_nil _ _ _ _) _ k ((ss.take k).flatMap newC) rfl (Or.inr ⟨⟨g, 0, none⟩, cap, rfl, fun j u hu => by rw [addr_add' g 0 j, Nat.zero_add]; exact newC_cell HROW.out HNN.out (flat_take hu)⟩) (by rw [flat_length newC_len, List.length_take]; have := HNN.out; first | omega | (congr 1; omega)) (newC_ones _) (by unfold maxLen; omega) (by omega) (Nat.le_refl _) ?_; intro a1 c1 w2 hown2 hg2; rw [Nat.zero_add, List.nil_append] at hown2; have HO2 := Lib.hid hown2; have HB2 : Hid (Below wr.heap.size wr w2) := Lib.hid ((grown_but hg2).below (fun k hk => by cases hk) (Nat.le_refl _)); have HG2 := Lib.hid hg2; clear hown2 hg2)
      have hz2 := HB2.out.size
      go_upto_region 9 with (at_builtin; refine wpList_append_gen rfl (.tmp 41) (.tmp 44) 37 rfl wr.heap.size 47 i0 (.agg #[.int .u32 0, .slice none 0 0, .slice none 0 0, .slice none 0 0, .slice none 0 0, .bool false, .string ByteArray.empty, .bool false, .bool false, .int .u64 0, .int .u64 0]) 11 152 Tryz.underlying37 HI.out HZ0.out HZ1.out HZ2.out rfl (by decide) _ k ((ss.take k).flatMap newC) rfl (HO2.out.alloc _) _ 1 (newC s) rfl (Or.inr ⟨⟨w2.heap.size, 0, none⟩, 1, rfl, World.news_of_block (MapKept.heap_alloc _ _).1⟩) rfl (by have := newC_ones [s]; simpa using this) (by unfold maxLen; omega) (by omega) (by first | (simp; omega) | simp) ?_; intro a2 c2 w3 hown3 hg3; have HO3 := Lib.hid hown3; have HB3 : Hid (Below wr.heap.size wr w3) := Lib.hid ((HB2.out.alloc HB2.out.size _).trans ((grown_but hg3).below (fun k hk => own_above2 HO2.out k hk) (by first | (simp; omega) | simp))); clear hown3 hg3)
      have hz3 := HB3.out.size
      go_upto_region 10 with (at_builtin; refine wpList_append_gen rfl (.tmp 46) (.tmp 49) 37 rfl wr.heap.size 47 i0 (.agg #[.int .u32 0, .slice none 0 0, .slice none 0 0, .slice none 0 0, .slice none 0 0, .bool false, .string ByteArray.empty, .bool false, .bool false, .int .u64 0, .int .u64 0]) 11 152 Tryz.underlying37 HI.out HZ0.out HZ1.out HZ2.out rfl (by decide) _ (k + 1) ((ss.take k).flatMap newC ++ newC s) rfl HO3.out _ (n - k) ((ss.drop k).flatMap newC) rfl (Or.inr ⟨_, _, rfl, fun j u hu => by rw [addr_add' _ _ j]; exact (HB3.out.cell (p := ⟨g, _, none⟩) HGL.out).trans (newC_cell HROW.out HNN.out (by first | exact flat_drop (by have := HNN.out; omega) hu | (have h := flat_drop (by have := HNN.out; omega) hu; simpa using h)))⟩) (by rw [flat_length newC_len, List.length_drop]; have := HNN.out; first | omega | (congr 1; omega)) (newC_ones _) (by unfold maxLen; omega) (by omega) (by omega) ?_; intro a3 c3 w4 hown4 hg4; have HO4 := Lib.hid hown4; have HB4 : Hid (Below wr.heap.size wr w4) := Lib.hid (HB3.out.trans ((grown_but hg4).below (fun k hk => own_above2 HO3.out k hk) HB3.out.size)); clear hown4 hg4)
      go_wp2_with fail
      go_ret
      refine ⟨_, k + 1 + (n - k), ss.take k ++ [s] ++ ss.drop k, rfl, ?_, ?_, HIN.out.rise HRS.out, HIN.out.mem, ?_, HB4.out⟩
      · have h := HO4.out
        refine ownBase (xs := (ss.take k ++ [s] ++ ss.drop k).flatMap newC) ?_ HBB.out
        rw [List.flatMap_append, List.flatMap_append, show [s].flatMap newC = newC s by simp]
        exact h
      · have := HNN.out; rw [List.length_append, List.length_append, List.length_take, List.length_drop]; simp only [List.length_cons, List.length_nil]; omega
      · have := HNN.out; omega
    obtain rfl : k = n := by omega
    have hki : ¬ (k : Int) < (k : Int) := by omega
    have HIN : Hid (InsAt ss s k) := Lib.hid ⟨by rw [HNN.out]; exact hk, HLO.out, fun h => by rw [HNN.out] at h; omega⟩
    rcases (show k < cap ∨ (cap ≤ k ∧ k ≤ cap) by omega) with hjc | hjc
    all_goals
      go_upto_region 7 with fail
      go_upto_region 8 with (at_builtin; refine wpList_append_gen rfl (.tmp 36) (.tmp 39) 37 rfl wr.heap.size 47 i0 (.agg #[.int .u32 0, .slice none 0 0, .slice none 0 0, .slice none 0 0, .slice none 0 0, .bool false, .string ByteArray.empty, .bool false, .bool false, .int .u64 0, .int .u64 0]) 11 152 Tryz.underlying37 HI.out HZ0.out HZ1.out HZ2.out rfl (by decide) _ 0 [] rfl (World.ownsRow_nil _ _ _ _) _ k ((ss.take k).flatMap newC) rfl (Or.inr ⟨⟨g, 0, none⟩, cap, rfl, fun j u hu => by rw [addr_add' g 0 j, Nat.zero_add]; exact newC_cell HROW.out HNN.out (flat_take hu)⟩) (by rw [flat_length newC_len, List.length_take]; have := HNN.out; first | omega | (congr 1; omega)) (newC_ones _) (by unfold maxLen; omega) (by omega) (Nat.le_refl _) ?_; intro a1 c1 w2 hown2 hg2; rw [Nat.zero_add, List.nil_append] at hown2; have HO2 := Lib.hid hown2; have HB2 : Hid (Below wr.heap.size wr w2) := Lib.hid ((grown_but hg2).below (fun k hk => by cases hk) (Nat.le_refl _)); have HG2 := Lib.hid hg2; clear hown2 hg2)
      have hz2 := HB2.out.size
      go_upto_region 9 with (at_builtin; refine wpList_append_gen rfl (.tmp 41) (.tmp 44) 37 rfl wr.heap.size 47 i0 (.agg #[.int .u32 0, .slice none 0 0, .slice none 0 0, .slice none 0 0, .slice none 0 0, .bool false, .string ByteArray.empty, .bool false, .bool false, .int .u64 0, .int .u64 0]) 11 152 Tryz.underlying37 HI.out HZ0.out HZ1.out HZ2.out rfl (by decide) _ k ((ss.take k).flatMap newC) rfl (HO2.out.alloc _) _ 1 (newC s) rfl (Or.inr ⟨⟨w2.heap.size, 0, none⟩, 1, rfl, World.news_of_block (MapKept.heap_alloc _ _).1⟩) rfl (by have := newC_ones [s]; simpa using this) (by unfold maxLen; omega) (by omega) (by first | (simp; omega) | simp) ?_; intro a2 c2 w3 hown3 hg3; have HO3 := Lib.hid hown3; have HB3 : Hid (Below wr.heap.size wr w3) := Lib.hid ((HB2.out.alloc HB2.out.size _).trans ((grown_but hg3).below (fun k hk => own_above2 HO2.out k hk) (by first | (simp; omega) | simp))); clear hown3 hg3)
      have hz3 := HB3.out.size
      go_upto_region 10 with (at_builtin; refine wpList_append_gen rfl (.tmp 46) (.tmp 49) 37 rfl wr.heap.size 47 i0 (.agg #[.int .u32 0, .slice none 0 0, .slice none 0 0, .slice none 0 0, .slice none 0 0, .bool false, .string ByteArray.empty, .bool false, .bool false, .int .u64 0, .int .u64 0]) 11 152 Tryz.underlying37 HI.out HZ0.out HZ1.out HZ2.out rfl (by decide) _ (k + 1) ((ss.take k).flatMap newC ++ newC s) rfl HO3.out _ 0 ((ss.drop k).flatMap newC) rfl (Or.inr ⟨_, _, rfl, fun j u hu => by rw [List.drop_of_length_le (by have := HNN.out; omega)] at hu; simp at hu⟩) (by rw [flat_length newC_len, List.length_drop]; have := HNN.out; first | omega | (congr 1; omega)) (newC_ones _) (by unfold maxLen; omega) (by omega) (by omega) ?_; intro a3 c3 w4 hown4 hg4; have HO4 := Lib.hid hown4; have HB4 : Hid (Below wr.heap.size wr w4) := Lib.hid (HB3.out.trans ((grown_but hg4).below (fun k hk => own_above2 HO3.out k hk) HB3.out.size)); clear hown4 hg4)
      go_wp2_with fail
      go_ret
      refine ⟨_, k + 1 + 0, ss.take k ++ [s] ++ ss.drop k, rfl, ?_, ?_, HIN.out.rise HRS.out, HIN.out.mem, ?_, HB4.out⟩
      · have h := HO4.out
        refine ownBase (xs := (ss.take k ++ [s] ++ ss.drop k).flatMap newC) ?_ HBB.out
        rw [List.flatMap_append, List.flatMap_append, show [s].flatMap newC = newC s by simp]
        exact h
      · have := HNN.out; rw [List.length_append, List.length_append, List.length_take, List.length_drop]; simp only [List.length_cons, List.length_nil]; omega
      · have := HNN.out; omega
end Go.Proofs.YtggdkfijioeijaaGreatDoor

namespace Go.Proofs.YtggdkfijioeijaaGreatDoor
open Go Go.RowKit
theorem row_set {w : World} {B k g n cap : Nat} {e : TypeId} {xs : List Value} (h : w.ownsRow B e k (.slice (some ⟨g, 0, none⟩) n cap) n xs) (q : Nat) (u : Value) : (w.setCell ⟨g, q, none⟩ u).ownsRow B e k (.slice (some ⟨g, 0, none⟩) n cap) n (xs.set q u) := by
  refine ⟨by rw [List.length_set]; exact h.1, Or.inr ?_⟩
  rcases h.2 with ⟨hv, _⟩ | ⟨g', cap', cur, hv, hB, hg, hn, hcap, hsz, htake⟩
  · cases hv
  · cases hv
    refine ⟨g, cap, cur.setIfInBounds q u, rfl, hB, setCell_block hg u, hn, hcap, by rw [Array.size_setIfInBounds]; exact hsz, ?_⟩
    rw [Array.toList_setIfInBounds, List.take_set, htake]
def setN (xs : List Value) : Nat → List Value → List Value
  | _, [] => xs
  | o, u :: us => setN (xs.set o u) (o + 1) us
theorem setN_skip (a : List Value) : ∀ (us y : List Value) (o : Nat), setN (a ++ y) (a.length + o) us = a ++ setN y o us
  | [], _, _ => rfl
  | u :: us, y, o => by
    unfold setN
    rw [List.set_append_right _ _ (by omega), Nat.add_sub_cancel_left, Nat.add_assoc]
    exact setN_skip a us (y.set o u) (o + 1)
theorem setN_head : ∀ (us a y : List Value), us.length = a.length → setN (a ++ y) 0 us = us ++ y
  | [], [], _, _ => rfl
  | [], _ :: _, _, h => by simp at h
  | _ :: _, [], _, h => by simp at h
  | u :: us, x :: a, y, h => by
    have h2 : us.length = a.length := by simpa using h
    show setN ((x :: (a ++ y)).set 0 u) 1 us = u :: (us ++ y)
    rw [List.set_cons_zero]
    have := setN_skip [u] us (a ++ y) 0
    rw [show [u] ++ (a ++ y) = u :: (a ++ y) from rfl, show [u].length + 0 = 1 from rfl] at this
    rw [this, setN_head us a y h2]; rfl
theorem setN_flat {us : List Value} : ∀ (L : List (List Value)) (i : Nat), i < L.length → (∀ x ∈ L, x.length = us.length) → setN L.flatten (i * us.length) us = (L.set i us).flatten
  | [], i, h, _ => by simp at h
  | a :: t, 0, _, hl => by
    rw [Nat.zero_mul, List.flatten_cons, List.set_cons_zero, List.flatten_cons]
    exact setN_head us a _ (hl a (by simp)).symm
  | a :: t, i + 1, h, hl => by
    have ha : a.length = us.length := hl a (by simp)
    rw [List.flatten_cons, List.set_cons_succ, List.flatten_cons, ← setN_flat t i (by simpa using h) (fun x hx => hl x (by simp [hx])), show (i + 1) * us.length = a.length + i * us.length by rw [ha, Nat.add_mul]; omega]
    exact setN_skip a us _ _
theorem row_put11 {w : World} {B g n cap i o : Nat} {e : TypeId} {L : List (List Value)} (h : w.ownsRow B e 11 (.slice (some ⟨g, 0, none⟩) n cap) n L.flatten) (hL : ∀ x ∈ L, x.length = 11) (hi : i < L.length) (ho : o = i * 11) (u0 u1 u2 u3 u4 u5 u6 u7 u8 u9 u10 : Value) :
    (((((((((((w.setCell ⟨g, o, none⟩ u0).setCell ⟨g, o + 1, none⟩ u1).setCell ⟨g, o + 2, none⟩ u2).setCell ⟨g, o + 3, none⟩ u3).setCell ⟨g, o + 4, none⟩ u4).setCell ⟨g, o + 5, none⟩ u5).setCell ⟨g, o + 6, none⟩ u6).setCell ⟨g, o + 7, none⟩ u7).setCell ⟨g, o + 8, none⟩ u8).setCell ⟨g, o + 9, none⟩ u9).setCell ⟨g, o + 10, none⟩ u10).ownsRow B e 11 (.slice (some ⟨g, 0, none⟩) n cap) n (L.set i [u0, u1, u2, u3, u4, u5, u6, u7, u8, u9, u10]).flatten := by
  have h2 := row_set (row_set (row_set (row_set (row_set (row_set (row_set (row_set (row_set (row_set (row_set h o u0) (o + 1) u1) (o + 2) u2) (o + 3) u3) (o + 4) u4) (o + 5) u5) (o + 6) u6) (o + 7) u7) (o + 8) u8) (o + 9) u9) (o + 10) u10
  have h3 := setN_flat (us := [u0, u1, u2, u3, u4, u5, u6, u7, u8, u9, u10]) L i hi hL
  rw [← h3, show i * [u0, u1, u2, u3, u4, u5, u6, u7, u8, u9, u10].length = o from ho.symm]
  exact h2
end Go.Proofs.YtggdkfijioeijaaGreatDoor
