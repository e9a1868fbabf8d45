/- Contract: model.Behind. Contract: law31.Heavy: what it lets through is small. Plain law of ModelParts: what stands behind all their transactions is what stands behind all. Plain laws of the stories that scriniumlaw31.alive plays. Boxes of stories; rows of two and of four stories. Contract: scriniumlaw31.alive. -/
import Derived.Test.YtfbgnpfhjbiikaaGreatDoorQp08
import Derived.Great.Walk
namespace Go.Proofs.YtfbgnpfhjbiikaaGreatDoor
open Go Go.RowKit
open Pth
open Go.Maps (has size Canon CanonK Tidy IsMap KeysOf Keyed Merged)
def stoFlat (l : List (Five × Sto)) : List Value := l.flatMap (fun x => stoCells x.1 x.2)
theorem stoFlat_append (l : List (Five × Sto)) (x : Five × Sto) : stoFlat (l ++ [x]) = stoFlat l ++ stoCells x.1 x.2 := by simp [stoFlat]
abbrev dFS : Five × Sto := (⟨.slice none 0 0, .slice none 0 0, .slice none 0 0, .slice none 0 0, .slice none 0 0⟩, dS)
theorem stoFlat_at (l : List (Five × Sto)) : ∀ (i : Nat), i < l.length → ∀ j, j < 18 → (stoFlat l)[i * 18 + j]? = (stoCells (l.getD i dFS).1 (l.getD i dFS).2)[j]? := by
  induction l with
  | nil => intro i hi; simp at hi
  | cons g r ih =>
    intro i hi j hj
    have e : stoFlat (g :: r) = stoCells g.1 g.2 ++ stoFlat r := by simp [stoFlat]
    have hl : (stoCells g.1 g.2).length = 18 := rfl
    rw [e]
    cases i with
    | zero => rw [List.getElem?_append_left (by rw [hl]; omega)]; simp
    | succ i =>
      rw [List.getElem?_append_right (by rw [hl]; omega), hl, show (i + 1) * 18 + j - 18 = i * 18 + j by omega, ih i (by simpa using hi) j hj]
      simp
theorem IsStos.own {w : World} {B e : Nat} {v : Value} {T : List (Five × Sto)} (h : w.ownsRow B e 18 v T.length (stoFlat T)) (hT : ∀ x ∈ T, StoIs w x.1 x.2) : IsStos w v (T.map (·.2)) := by
  rcases h.2 with ⟨hv, hl⟩ | ⟨g, cap, cur, hv, hB, hg, hn, hcap, hsz, htake⟩
  · have : T = [] := List.length_eq_zero_iff.1 hl
    subst this; exact ⟨none, 0, hv, Nat.le_refl _, Or.inl rfl⟩
  · refine ⟨_, cap, by rw [List.length_map]; exact hv, by rw [List.length_map]; exact hn, Or.inr ⟨g, 0, rfl, lt_of_block hg, fun i hi => ?_⟩⟩
    rw [List.length_map] at hi
    subst hv
    have hm : T.getD i dFS ∈ T := by rw [List.getD_eq_getElem?_getD, List.getElem?_eq_getElem hi]; exact List.getElem_mem hi
    have he : (T.map (·.2)).getD i dS = (T.getD i dFS).2 := by
      rw [List.getD_eq_getElem?_getD, List.getD_eq_getElem?_getD, List.getElem?_map, List.getElem?_eq_getElem hi]; rfl
    rw [he]
    refine ⟨(T.getD i dFS).1, hT _ hm, fun j u hj => ?_⟩
    have hj2 : j < 18 := (List.getElem?_eq_some_iff.1 hj).1
    rw [Nat.zero_add, World.ownsRow.cellAt h (i * 18 + j) (by omega), stoFlat_at T i hi j hj2, hj]
theorem infoStoA : (Tryz.prog.info? 87).map (fun i => (i.zero, i.size, i.bytes)) = some (some (.agg #[.int .i64 0, .int .u8 0, .slice none 0 0, .slice none 0 0, .string ByteArray.empty, .int .u64 0, .int .u64 0, .int .u32 0, .int .i64 0, .int .i64 0, .bool false, .int .u64 0, .int .u64 0, .int .i64 0, .int .i64 0, .slice none 0 0, .slice none 0 0, .slice none 0 0]), 18, 232) := by kernel_rfl

theorem built1 (f : Five) (s : Sto) : Tryz.prog.builtSlice 87 1 [(0, .agg (stoCells f s).toArray)] = some (stoCells f s).toArray := by kernel_rfl
theorem wpl_build_sto {ops : Array Oper} {rest : List Oper} {o : Oper} {a : Act} {w : World} {Q : Exit → Act → World → Prop} (hg : o.guard = none) (x : Operand) (ho : o.op = .buildSlice 68 1 #[(0, x)]) {f : Five} {s : Sto} (hx : a.eval x = .agg (stoCells f s).toArray)
    (h : wpList Tryz.prog ops Q rest (a.put o.dst (.slice (some ⟨w.heap.size, 0, none⟩) 1 1)) (w.alloc (.cells (stoCells f s).toArray 87))) : wpList Tryz.prog ops Q (o :: rest) a w :=
  Great.wpList_buildSliceTo hg 68 87 1 #[(0, x)] ho w.heap.size rfl o.dst rfl Tryz.underlying68 (stoCells f s).toArray (by
    simp only [List.map_toArray, List.map_cons, List.map_nil, hx]; exact built1 f s) h
def someS (l : List Sto) (txs : List Tx) (o : List Nat) : List Sto := (o.filter (fun i => txs.contains (txOf (l.getD i dS)))).map (fun i => l.getD i dS)
def allS (l : List Sto) (txs : List Tx) (o : List Nat) : Bool := txs.all (fun x => o.any (fun i => txOf (l.getD i dS) == x))
def leftF (l : List Sto) (txs : List Tx) (o : List Nat) (x : Tx) : Option Int := if x ∈ txs then some (if o.any (fun i => txOf (l.getD i dS) == x) then 0 else 1) else none
def BehindG (l : List Sto) (txs : List Tx) (w : World) (e : Ending) (w' : World) : Prop :=
  ∃ v, e = .returned (.tuple #[v, .bool (allS l txs (ordS l))]) ∧ IsRows w' v (rowsS (someS l txs (ordS l))) ∧ Below w.heap.size w w'
theorem filter_take_succ {p : Nat → Bool} {o : List Nat} {k : Nat} (hk : k < o.length) : (o.take (k + 1)).filter p = if p (o.getD k 0) then (o.take k).filter p ++ [o.getD k 0] else (o.take k).filter p := by
  rw [List.take_succ_eq_append_getElem hk, List.filter_append, List.getD_eq_getElem?_getD, List.getElem?_eq_getElem hk]
  by_cases h : p o[k] <;> simp [h]
theorem someS_succ {l : List Sto} {txs : List Tx} {o : List Nat} {k : Nat} (hk : k < o.length) : someS l txs (o.take (k + 1)) = if txOf (l.getD (o.getD k 0) dS) ∈ txs then someS l txs (o.take k) ++ [l.getD (o.getD k 0) dS] else someS l txs (o.take k) := by
  unfold someS
  rw [filter_take_succ hk]
  by_cases h : txOf (l.getD (o.getD k 0) dS) ∈ txs
  · rw [if_pos h, if_pos (by simpa using h), List.map_append]; rfl
  · rw [if_neg h, if_neg (by simpa using h)]
theorem leftF_succ {l : List Sto} {txs : List Tx} {o : List Nat} {k : Nat} (hk : k < o.length) (x : Tx) : leftF l txs (o.take (k + 1)) x = if x = txOf (l.getD (o.getD k 0) dS) ∧ txOf (l.getD (o.getD k 0) dS) ∈ txs then some 0 else leftF l txs (o.take k) x := by
  unfold leftF
  rw [any_take_succ (p := fun i => txOf (l.getD i dS) == x) hk 0]
  obtain ⟨y, hy⟩ : ∃ y, txOf (l.getD (o.getD k 0) dS) = y := ⟨_, rfl⟩
  rw [hy]
  by_cases h : x = y
  · subst h
    by_cases h2 : x ∈ txs
    · simp only [h2, if_true, beq_self_eq_true, Bool.or_true, and_self]
    · simp only [h2, if_false, and_false]
  · have h2 : (y == x) = false := by rw [beq_eq_false_iff_ne]; exact fun e => h e.symm
    rw [h2, Bool.or_false, if_neg (c := x = y ∧ y ∈ txs) (fun e => h e.1)]
theorem allS_succ {l : List Sto} {txs : List Tx} {o : List Nat} {k : Nat} (hk : k < txs.length) : allS l (txs.take (k + 1)) o = (allS l (txs.take k) o && o.any (fun i => txOf (l.getD i dS) == txs.getD k (0, 0))) := by
  unfold allS
  rw [List.take_succ_eq_append_getElem hk, List.all_append, List.getD_eq_getElem?_getD, List.getElem?_eq_getElem hk]
  simp
theorem someS_mem {l : List Sto} {txs : List Tx} {o : List Nat} {s : Sto} (h : s ∈ someS l txs o) : ∃ i ∈ o, s = l.getD i dS := by
  unfold someS at h
  obtain ⟨i, hi, rfl⟩ := List.mem_map.1 h
  exact ⟨i, (List.mem_filter.1 hi).1, rfl⟩
theorem someS_len (l : List Sto) (txs : List Tx) (o : List Nat) : (someS l txs o).length ≤ o.length := by
  unfold someS; rw [List.length_map]; exact List.length_filter_le _ _
set_option maxRecDepth 100000 in
set_option maxHeartbeats 8000000 in
theorem model_behindW (l : List Sto) (txs : List Tx) (v vt : Value) (w : World) (hv : IsStos w v l) (ht : IsTxs w vt txs) (hl : l.length ≤ 1048576) (htl : txs.length ≤ 1048576) (hk : (idxO l l.length).length < 40) (hz : StosSz l) (hok : ∀ x ∈ txs, TxOk x) (hokl : ∀ i, i < l.length → TxOk (txOf (l.getD i dS))) (hm : MX w) :
    Calls Tryz.prog 35 #[v, vt] w (BehindG l txs w) := by
  have HV := Lib.hid hv; have HZ := Lib.hid hz; have HM := Lib.hid hm; have HK := Lib.hid hk; have HOK := Lib.hid hok; have HOKL := Lib.hid hokl
  obtain ⟨a, cap, rfl, hcap, hcc⟩ := hv
  obtain ⟨at', ct, rfl, htc⟩ := ht
  have HC := Lib.hid hcc; have HTC := Lib.hid htc
  clear hcc hz hm hk hok hokl htc
  obtain ⟨i0, hi, hz0, hz1, hz2⟩ := info_parts infoStoA
  have hzt := zeroTx
  have hmm := @run_makeMap Tryz.prog
  go_enter Tryz.func35, Tryz.ntmps35
  go_upto_region 2 with fail
  refine wp_abs (F := fun W => MapTx W w.heap.size 0 (fun _ => none) ∧ Below w.heap.size w W) ⟨MapTx.made w, (Below.refl _ _).alloc (Nat.le_refl _) _⟩ ?_
  rintro W1 ⟨hM1, hb1⟩
  have HM1 := Lib.hid hM1; have Hb1 := Lib.hid hb1
  clear hM1 hb1
  go_wp2_with fail
  go_loopw [20] (fun s20 wr => ∃ k : Nat, k ≤ txs.length ∧ s20 = .int .i64 k ∧ Hid (MapTx wr w.heap.size k (fun x => if x ∈ txs.take k then some 1 else none)) ∧ Hid (Below w.heap.size w wr)) (fun i _ => txs.length - (intOf i).toNat)
  case atStart => exact ⟨0, Nat.zero_le _, rfl, Lib.hid (by simpa using HM1.out), Hb1⟩
  case round =>
    obtain ⟨k, hk, rfl, hM, hbw⟩ := hrel
    by_cases hlt : k < txs.length
    · have hltI : (k : Int) < (txs.length : Int) := by omega
      rcases HTC.out with hn | ⟨b1, o1, rfl, hblt, hst⟩
      · rw [hn] at hlt; simp at hlt
      obtain ⟨g0, g1⟩ := hst k hlt
      have e0 := (hbw.out.cell (p := ⟨b1, o1 + k * 2, none⟩) hblt).trans g0
      have e1 := (hbw.out.cell (p := ⟨b1, o1 + k * 2 + 1, none⟩) hblt).trans g1
      have hxm : txs.getD k (0, 0) ∈ txs := by rw [List.getD_eq_getElem?_getD, List.getElem?_eq_getElem hlt]; exact List.getElem_mem hlt
      have hxo := HOK.out _ hxm
      have htk : ∀ x, (x ∈ txs.take (k + 1) ↔ x = txs.getD k (0, 0) ∨ x ∈ txs.take k) := fun x => by
        rw [List.take_succ_eq_append_getElem hlt, List.mem_append, List.mem_singleton, List.getD_eq_getElem?_getD, List.getElem?_eq_getElem hlt]
        exact Or.comm
      obtain ⟨x, hx⟩ : ∃ x, txs.getD k (0, 0) = x := ⟨_, rfl⟩
      rw [hx] at e0 e1 hxo htk
      have Htk := Lib.hid htk; have Hxo := Lib.hid hxo
      clear hx hst g0 g1 hxm htk hxo
      obtain ⟨x1, x2⟩ := x
      dsimp only at e0 e1
      go_upto_region 5 with fail
      refine wp_abs (F := fun W => One wr.heap.size #[.int .u64 x1, .int .u64 x2] W ∧ Below wr.heap.size wr W) ⟨One.of _ _ _, (Below.refl _ _).alloc (Nat.le_refl _) _⟩ ?_
      rintro W2 ⟨hO2, hb2⟩
      have y0 := hO2.c 0; have y1 := hO2.c 1
      simp at y0 y1
      have HM2 := Lib.hid (hM.out.move (hb2.block _ hM.out.lt))
      have HB2 : Hid (Below w.heap.size w W2) := Lib.hid (hbw.out.trans (hb2.mono hbw.out.size))
      clear hO2 hb2 e0 e1
      go_wp2_with (first
        | (refine wpl_mapTx rfl (.tmp 24) (.tmp 25) _ rfl HM2.out (by unfold maxLen; omega) (x1, x2) 1 Hxo.out rfl rfl rfl ?_; intro w3 hM3 hg3; have HM3 := Lib.hid hM3; have Hg3 := Lib.hid hg3; clear hM3 hg3)
        | fail)
      go_roundw
      case rel => exact ⟨k + 1, by omega, by go_num, Lib.hid (by
          have : (fun y => if y = (x1, x2) then some (1 : Int) else if y ∈ txs.take k then some 1 else none) = (fun y => if y ∈ txs.take (k + 1) then some 1 else none) := by
            funext y
            by_cases e : y = (x1, x2)
            · rw [if_pos e, if_pos ((Htk.out y).2 (Or.inl e))]
            · rw [if_neg e]
              by_cases e2 : y ∈ txs.take k
              · rw [if_pos e2, if_pos ((Htk.out y).2 (Or.inr e2))]
              · rw [if_neg e2, if_neg (fun h => by rcases (Htk.out y).1 h with h | h; exact e h; exact e2 h)]
          rw [← this]; exact HM3.out), Lib.hid (HB2.out.grown Hg3.out HB2.out.size (fun k hk => by cases hk; exact Nat.le_refl _))⟩
      case measure => simp [intOf]; omega
    · have hge : ¬ (k : Int) < (txs.length : Int) := by omega
      obtain rfl : k = txs.length := by omega
      have HMa : Hid (MapTx wr w.heap.size txs.length (leftF l txs [])) := Lib.hid (by
        have h := hM.out
        rw [List.take_length] at h
        exact h)
      have HB0 := Lib.hid hbw.out
      have HOr := Lib.hid (model_orderW l _ wr (HV.out.below hbw.out (Nat.le_refl _)) hl HK.out)
      clear hM hbw
      go_wp2_with fail
      refine HOr.out.mono ?_
      rintro e w3 ⟨vo, rfl, hio, hfo, hb3⟩
      have HB3 : Hid (Below w.heap.size w w3) := Lib.hid (HB0.out.trans (hb3.mono HB0.out.size))
      have HM3 := Lib.hid (HMa.out.move (hb3.block _ HMa.out.lt))
      have HIO := Lib.hid hio
      have HFO : Hid (∀ k, vo.ownBlock = some k → ¬ (k = w.heap.size)) := Lib.hid (fun k hk => by have := hfo k hk; have := HMa.out.lt; omega)
      obtain ⟨ao, co, rfl, hoc, _⟩ := hio
      have hol : (ordS l).length ≤ 1048576 := Nat.le_trans (ordL_le _ _) hl
      have HLen : Hid ((ordS l).length ≤ 39) := Lib.hid (by unfold ordS; rw [ordL_length]; have := HK.out; unfold idxO at this; omega)
      have Hmb : Hid (w.heap.size < w3.heap.size) := Lib.hid HM3.out.lt
      clear hb3 hfo HOr hoc
      go_wp2_with fail
      go_loopw [9, 30] (fun s9 s30 wx => ∃ (k : Nat) (T : List (Five × Sto)), k ≤ (ordS l).length ∧ s30 = .int .i64 k ∧ (∃ a9 c9, s9 = .slice a9 T.length c9) ∧ Hid (T.map (·.2) = someS l txs ((ordS l).take k)) ∧ Hid (∀ x ∈ T, StoIs w x.1 x.2) ∧ Hid (wx.ownsRow w3.heap.size 87 18 s9 T.length (stoFlat T)) ∧ Hid (MapTx wx w.heap.size (txs.length + k) (leftF l txs ((ordS l).take k))) ∧ Hid (ButS (fun k => k = w.heap.size) w3 wx)) (fun _ i _ => (ordS l).length - (intOf i).toNat)
      case atStart => exact ⟨0, [], Nat.zero_le _, rfl, ⟨none, 0, rfl⟩, Lib.hid rfl, Lib.hid (fun x hx => by cases hx), Lib.hid (World.ownsRow_nil _ _ _ _), HM3, Lib.hid (ButS.of (Below.refl _ _))⟩
      case round =>
        obtain ⟨k, T, hk2, rfl, ⟨a9, c9, rfl⟩, hmap, hsi, hrow, hM, hbw⟩ := hrel
        have HBr : Hid (Below w.heap.size w wr) := Lib.hid (HB3.out.trans (hbw.out.below (fun k hk => by omega) HB3.out.size))
        have hTl : T.length ≤ k := by
          have h1 := congrArg List.length hmap.out
          rw [List.length_map] at h1
          rw [h1]; unfold someS
          rw [List.length_map]
          exact Nat.le_trans (List.length_filter_le _ _) (List.length_take_le _ _)
        by_cases hlt : k < (ordS l).length
        · have hltI : (k : Int) < ((ordS l).length : Int) := by omega
          have hio := HIO.out.but hbw.out HFO.out
          obtain ⟨ao', co', hvo, _, hoo⟩ := hio
          injection hvo with e1 _ e3
          subst e1; subst e3
          have hone : ordS l ≠ [] := fun h => by rw [h] at hlt; simp at hlt
          rcases hoo with h0 | ⟨ob, oo, rfl, hoblt, hoc2⟩
          · exact absurd h0 hone
          have hck := hoc2 k hlt
          have him : (ordS l).getD k 0 ∈ ordS l := by rw [List.getD_eq_getElem?_getD, List.getElem?_eq_getElem hlt]; exact List.getElem_mem hlt
          have hil := (mem_ordL.1 him).1
          have HSs := Lib.hid (someS_succ (l := l) (txs := txs) hlt)
          have HLs := Lib.hid (fun x => leftF_succ (l := l) (txs := txs) hlt x)
          obtain ⟨i, hi⟩ : ∃ i, (ordS l).getD k 0 = i := ⟨_, rfl⟩
          rw [hi] at hck hil HSs HLs
          rcases HC.out with hn | ⟨b1, o1, rfl, hblt, hst⟩
          · rw [hn] at hil; simp at hil
          obtain ⟨f, hsi1, hat⟩ := hst i hil
          have HAT := Lib.hid (hat.below HBr.out hblt)
          have g11 := HAT.out 11 _ rfl
          have g12 := HAT.out 12 _ rfl
          have hone1 := five_one hsi1
          have hxo := HOKL.out i hil
          have HSI := Lib.hid hsi1
          have hiI : (i : Int) < (l.length : Int) := by omega
          obtain ⟨x, hx⟩ : ∃ x, l.getD i dS = x := ⟨_, rfl⟩
          rw [hx] at HAT g11 g12 hone1 hxo HSI HSs HLs
          have Hone := Lib.hid hone1
          have hlook := (hM.out.look hxo).1
          unfold txVal txOf at hlook
          dsimp only at hlook
          have Hxo := Lib.hid hxo
          clear hi him hoc2 hone hst hsi1 hat hx hone1 hxo
          by_cases hin : txOf x ∈ txs
          · have hlf : (leftF l txs ((ordS l).take k) (x.life, x.txn)).isSome = true := by unfold leftF; rw [if_pos (show (x.life, x.txn) ∈ txs from hin)]; rfl
            rw [hlf] at hlook
            have HSs2 : Hid (someS l txs ((ordS l).take (k + 1)) = someS l txs ((ordS l).take k) ++ [x]) := Lib.hid (by rw [HSs.out, if_pos hin])
            have HLs2 : Hid ((fun y => if y = txOf x then some (0 : Int) else leftF l txs ((ordS l).take k) y) = leftF l txs ((ordS l).take (k + 1))) := Lib.hid (by
              funext y
              rw [HLs.out y]
              by_cases e : y = txOf x
              · rw [if_pos e, if_pos ⟨e, hin⟩]
              · rw [if_neg e, if_neg (fun h => e h.1)])
            have Hin := Lib.hid hin
            have HLen2 := HLen.out
            clear HSs HLs hin hlf
            have hbA : Below wr.heap.size wr (wr.alloc (.cells (stoCells f x).toArray 87)) := (Below.refl _ _).alloc (Nat.le_refl _) _
            have HbA := Lib.hid hbA
            have HMA := Lib.hid (hM.out.move (hbA.block _ hM.out.lt))
            have Hblt := Lib.hid hblt
            clear hbA
            go_wp2_with (first
              | (refine wpl_load_sto rfl (.tmp 48) rfl rfl HAT.out ?_)
              | (refine wpl_build_sto rfl (.tmp 49) rfl rfl ?_)
              | (at_builtin; refine wpList_append_own _ rfl (.tmp 45) (.tmp 50) 68 rfl w3.heap.size 87 i0 (.agg #[.int .i64 0, .int .u8 0, .slice none 0 0, .slice none 0 0, .string ByteArray.empty, .int .u64 0, .int .u64 0, .int .u32 0, .int .i64 0, .int .i64 0, .bool false, .int .u64 0, .int .u64 0, .int .i64 0, .int .i64 0, .slice none 0 0, .slice none 0 0, .slice none 0 0]) 18 232 Tryz.underlying68 hi hz0 hz1 hz2 rfl (by decide) _ T.length (stoFlat T) rfl (ownBelow hrow.out HbA.out) ⟨wr.heap.size, 0, none⟩ 1 1 (stoCells f x) rfl rfl (World.news_of_block (MapKept.heap_alloc _ _).1) Hone.out (by unfold maxLen; omega) (by omega) ?hbase ?go; (case hbase => have h1 := hbw.out.size; simp; omega); intro v5 w5 hown5 hg5 _; obtain ⟨a6, c6, rfl⟩ := ownShape hown5;
                  have hb5 : Below w.heap.size w w5 := (HBr.out.alloc HBr.out.size _).grown hg5 (HBr.out.alloc HBr.out.size (.cells (stoCells f x).toArray 87)).size (fun k hk => by have := ownAbove hrow.out k hk; have := Hmb.out; omega);
                  have hat5 := HAT.out.below ((Below.refl wr.heap.size wr).alloc (Nat.le_refl _) (.cells (stoCells f x).toArray 87)) (by have := HBr.out.size; have := Hblt.out; omega);
                  have HM5 := Lib.hid (HMA.out.move (hg5.block _ HMA.out.lt (fun e => by have := ownAbove hrow.out _ e.symm; have := Hmb.out; omega)));
                  have hat6 : StoAt w5 b1 (o1 + i * 18) f x := fun j u hj => (World.cell?_of_block (a := ⟨b1, o1 + i * 18 + j, none⟩) (hg5.block b1 (by have := HBr.out.size; have := Hblt.out; simp; omega) (fun e => by have := ownAbove hrow.out _ e.symm; have := Hblt.out; have := Hmb.out; omega))).trans (hat5 j u hj);
                  have p11 := hat6 11 _ rfl; have p12 := hat6 12 _ rfl; have HW5 : Hid (Below w3.heap.size wr w5) := Lib.hid ((HbA.out.mono hbw.out.size).grown hg5 (Nat.le_trans hbw.out.size HbA.out.size) (fun k hk => ownAbove hrow.out k hk)); have HB5 := Lib.hid hb5; have Hown5 := Lib.hid hown5; have Hg5 := Lib.hid hg5; clear hb5 hown5 hg5 hat5 hat6)
              | (refine wpl_mapTx rfl (.tmp 52) (.tmp 57) _ rfl HM5.out (by unfold maxLen; omega) (txOf x) 0 Hxo.out rfl rfl rfl ?_; intro w6 hM6 hg6; have HM6 := Lib.hid hM6; have Hg6 := Lib.hid hg6; clear hM6 hg6)
              | fail)
            go_roundw
            case rel =>
              refine ⟨k + 1, T ++ [(f, x)], by omega, by go_num, ⟨a6, c6, by rw [List.length_append]; rfl⟩, Lib.hid ?_, Lib.hid ?_, Lib.hid ?_, Lib.hid ?_, Lib.hid ?_⟩
              · rw [HSs2.out, List.map_append, hmap.out]; rfl
              · intro y hy
                rcases List.mem_append.1 hy with hy | hy
                · exact hsi.out y hy
                · rw [List.mem_singleton.1 hy]; exact HSI.out
              · rw [List.length_append, stoFlat_append]
                exact ownGrown Hown5.out Hg6.out Hmb.out
              · rw [← HLs2.out]; exact HM6.out
              · exact (hbw.out.thenB HW5.out).trans (ButS.grown Hg6.out rfl)
            case measure => simp [intOf]; omega
          · have hlf : (leftF l txs ((ordS l).take k) (x.life, x.txn)).isSome = false := by unfold leftF; rw [if_neg (show ¬ (x.life, x.txn) ∈ txs from hin)]; rfl
            rw [hlf] at hlook
            have HSs2 : Hid (someS l txs ((ordS l).take (k + 1)) = someS l txs ((ordS l).take k)) := Lib.hid (by rw [HSs.out, if_neg hin])
            have HLs2 : Hid (leftF l txs ((ordS l).take (k + 1)) = leftF l txs ((ordS l).take k)) := Lib.hid (by
              funext y
              rw [HLs.out y, if_neg (fun h => hin h.2)])
            have HMn : Hid (MapTx wr w.heap.size (txs.length + (k + 1)) (leftF l txs ((ordS l).take k))) := Lib.hid (by
              obtain ⟨D, ho, hm, hF⟩ := hM.out
              exact ⟨D, ho.mono (by omega), hm, hF⟩)
            clear HSs HLs hin hlf
            go_wp2_with fail
            go_roundw
            case rel => exact ⟨k + 1, T, by omega, by go_num, ⟨a9, c9, rfl⟩, Lib.hid (by rw [HSs2.out]; exact hmap.out), hsi, hrow, Lib.hid (by rw [HLs2.out]; exact HMn.out), hbw⟩
            case measure => simp [intOf]; omega
        · have hge2 : ¬ (k : Int) < ((ordS l).length : Int) := by omega
          have hkk : k = (ordS l).length := by omega
          have HSm : Hid (T.map (·.2) = someS l txs (ordS l)) := Lib.hid (by have := hmap.out; rwa [hkk, List.take_length] at this)
          have HMf : Hid (MapTx wr w.heap.size (txs.length + (ordS l).length) (leftF l txs (ordS l))) := Lib.hid (by have := hM.out; rwa [hkk, List.take_length] at this)
          have HISt : Hid (IsStos wr (.slice a9 T.length c9) (someS l txs (ordS l))) := Lib.hid (by
            rw [← HSm.out]
            exact IsStos.own hrow.out (fun y hy => (hsi.out y hy).below HBr.out (Nat.le_refl _)))
          have HTl : Hid (T.length = (someS l txs (ordS l)).length) := Lib.hid (by rw [← HSm.out, List.length_map])
          have HLen2 := HLen.out
          have HBr' := HBr
          obtain ⟨wrL, hwrL⟩ : ∃ W, W = wr := ⟨_, rfl⟩
          rw [← hwrL] at HBr' HMf HISt ⊢
          clear hmap hM hsi hrow hkk HMa hbw HBr hwrL
          go_wp2_with fail
          go_loopw [14, 61] (fun s14 s61 wx => ∃ k : Nat, k ≤ txs.length ∧ s61 = .int .i64 k ∧ s14 = .bool (allS l (txs.take k) (ordS l)) ∧ Hid (Below wrL.heap.size wrL wx)) (fun _ i _ => txs.length - (intOf i).toNat)
          case atStart => exact ⟨0, Nat.zero_le _, rfl, rfl, Lib.hid (Below.refl _ _)⟩
          case round =>
            obtain ⟨k5, hk5, rfl, rfl, hbx⟩ := hrel
            by_cases hlt5 : k5 < txs.length
            · have hltI : (k5 : Int) < (txs.length : Int) := by omega
              rcases HTC.out with hn | ⟨b1, o1, rfl, hblt, hst⟩
              · rw [hn] at hlt5; simp at hlt5
              obtain ⟨g0, g1⟩ := hst k5 hlt5
              have hbB : Below w.heap.size w wr := HBr'.out.trans (hbx.out.mono HBr'.out.size)
              have e0 := (hbB.cell (p := ⟨b1, o1 + k5 * 2, none⟩) hblt).trans g0
              have e1 := (hbB.cell (p := ⟨b1, o1 + k5 * 2 + 1, none⟩) hblt).trans g1
              have hxm : txs.getD k5 (0, 0) ∈ txs := by rw [List.getD_eq_getElem?_getD, List.getElem?_eq_getElem hlt5]; exact List.getElem_mem hlt5
              have hxo := HOK.out _ hxm
              have HAs := Lib.hid (allS_succ (l := l) (o := ordS l) hlt5)
              obtain ⟨x, hx⟩ : ∃ x, txs.getD k5 (0, 0) = x := ⟨_, rfl⟩
              rw [hx] at e0 e1 hxo HAs hxm
              have Hxo := Lib.hid hxo
              have HlF : Hid (leftF l txs (ordS l) x = some (if (ordS l).any (fun i => txOf (l.getD i dS) == x) then 0 else 1)) := Lib.hid (by unfold leftF; rw [if_pos hxm])
              clear hx hst g0 g1 hxm hxo hbB
              obtain ⟨x1, x2⟩ := x
              dsimp only at e0 e1
              go_upto_region 20 with fail
              refine wp_abs (F := fun W => One wr.heap.size #[.int .u64 x1, .int .u64 x2] W ∧ Below wr.heap.size wr W) ⟨One.of _ _ _, (Below.refl _ _).alloc (Nat.le_refl _) _⟩ ?_
              rintro W2 ⟨hO2, hb2⟩
              have y0 := hO2.c 0; have y1 := hO2.c 1
              simp at y0 y1
              have hM2 := HMf.out.move ((hb2.block _ (Nat.lt_of_lt_of_le HMf.out.lt hbx.out.size)).trans (hbx.out.block _ HMf.out.lt))
              have hlook := (hM2.look Hxo.out).2
              rw [HlF.out] at hlook
              unfold txVal at hlook
              dsimp only [Option.getD_some] at hlook
              obtain ⟨z2, hz2⟩ : ∃ z, (ordS l).any (fun i => txOf (l.getD i dS) == (x1, x2)) = z := ⟨_, rfl⟩
              rw [hz2] at hlook HAs
              obtain ⟨z1, hz1⟩ : ∃ z, allS l (txs.take k5) (ordS l) = z := ⟨_, rfl⟩
              rw [hz1] at HAs ⊢
              have HB2 : Hid (Below wrL.heap.size wrL W2) := Lib.hid (hbx.out.trans (hb2.mono hbx.out.size))
              clear hO2 hb2 e0 e1 hM2 hz1 hz2 HlF
              cases z1 <;> cases z2
              all_goals (
                go_wp2_with fail
                go_roundw
                case rel => exact ⟨k5 + 1, by omega, by go_num, by rw [HAs.out]; rfl, HB2⟩
                case measure => simp [intOf]; omega)
            · have hge5 : ¬ (k5 : Int) < (txs.length : Int) := by omega
              obtain rfl : k5 = txs.length := by omega
              have HBw : Hid (Below w.heap.size w wr) := Lib.hid (HBr'.out.trans (hbx.out.mono HBr'.out.size))
              have HIS2 := Lib.hid (HISt.out.below hbx.out (Nat.le_refl _))
              have hlen : (someS l txs (ordS l)).length ≤ 39 := Nat.le_trans (someS_len _ _ _) HLen2
              have HRw := Lib.hid (model_rowsW (someS l txs (ordS l)) _ wr HIS2.out (by omega) (Nat.lt_succ_of_le (Nat.le_trans (idxO_le _ _) hlen)) (fun i hi => by
                have hm : (someS l txs (ordS l)).getD i dS ∈ someS l txs (ordS l) := by rw [List.getD_eq_getElem?_getD, List.getElem?_eq_getElem hi]; exact List.getElem_mem hi
                obtain ⟨j, hj, he⟩ := someS_mem hm
                rw [he]; exact HZ.out j (mem_ordL.1 hj).1) (HM.out.below HBw.out (Nat.le_refl _)))
              rw [List.take_length]
              go_wp2_with fail
              refine HRw.out.mono ?_
              rintro e w9 ⟨v9, rfl, hi9, hb9⟩
              have HI9 := Lib.hid hi9; have HB9 := Lib.hid hb9
              obtain ⟨a10, c10, rfl, _⟩ := hi9
              clear hb9 HRw
              go_wp2_with fail
              go_ret2
              exact ⟨_, rfl, HI9.out, HBw.out.trans (HB9.out.mono HBw.out.size)⟩
theorem model_behind (l : List Sto) (txs : List Tx) (v vt : Value) (w : World) (hv : IsStos w v l) (ht : IsTxs w vt txs) (hl : l.length ≤ 1048576) (htl : txs.length ≤ 1048576) (hk : (idxO l l.length).length ≤ 20) (hz : StosSz l) (hok : ∀ x ∈ txs, TxOk x) (hokl : ∀ i, i < l.length → TxOk (txOf (l.getD i dS))) (hm : MX w) :
    Calls Tryz.prog 35 #[v, vt] w (BehindG l txs w) := model_behindW l txs v vt w hv ht hl htl (by omega) hz hok hokl hm
end Go.Proofs.YtfbgnpfhjbiikaaGreatDoor

namespace Go.Proofs.YtfbgnpfhjbiikaaGreatDoor
open Go Go.RowKit
open Pth
def HevOk (s : Sto) : Prop := (∀ q, q < s.call.eds.length → (s.call.eds.getD q dE).path.size ≤ 300 ∧ (s.call.eds.getD q dE).text.size ≤ 8192) ∧ (∀ q, q < s.call.rds.length → (s.call.rds.getD q dRd).path.size ≤ 300) ∧ s.call.pre.size ≤ 300
structure HevSz (s : Sto) : Prop where
  r : s.call.rds.length ≤ 281474976710656
  e : s.call.eds.length ≤ 281474976710656
  g : s.got.length ≤ 281474976710656
  n : s.nums.length ≤ 281474976710656
  m : s.names.length ≤ 281474976710656
  rs : ∀ i, i < s.call.rds.length → (s.call.rds.getD i dRd).path.size ≤ 140737488355328
  es : ∀ i, i < s.call.eds.length → (s.call.eds.getD i dE).path.size ≤ 140737488355328 ∧ (s.call.eds.getD i dE).text.size ≤ 140737488355328
  p : s.call.pre.size ≤ 140737488355328
def HevS (s : Sto) (S : Nat) : Prop := s.call.rds.length ≤ S ∧ s.call.eds.length ≤ S ∧ s.got.length ≤ S ∧ s.nums.length ≤ S ∧ s.names.length ≤ S
theorem HevS.up {s : Sto} {a b : Nat} (h : HevS s a) (hab : a ≤ b) : HevS s b := by obtain ⟨h1, h2, h3, h4, h5⟩ := h; exact ⟨by omega, by omega, by omega, by omega, by omega⟩
def HevP (l : List Sto) (i : Nat) (x : Int) : Prop := (∀ q, q < i → HevOk (l.getD q dS)) ∧ (l.length ≤ 30 → ∃ S : Nat, x = S ∧ (∀ q, q < i → HevS (l.getD q dS) S) ∧ S ≤ i * 288230376151711744)
def HevG (l : List Sto) (w : World) (e : Ending) (w' : World) : Prop :=
  ∃ b, e = .returned (.bool b) ∧ (b = false → l.length ≤ 30 ∧ ∀ q, q < l.length → HevOk (l.getD q dS) ∧ HevS (l.getD q dS) 600) ∧ Below w.heap.size w w'
theorem zeroCalA (w : World) : (zeroValue 80).run Tryz.prog w = .ok (.agg #[.int .u8 0, .slice none 0 0, .slice none 0 0, .string ByteArray.empty, .int .u64 0, .int .u64 0, .int .u32 0]) w := by kernel_rfl

theorem wpl_store_cal {ops : Array Oper} {rest : List Oper} {op : Oper} {a : Act} {w : World} {Q : Exit → Act → World → Prop} (hgd : op.guard = none) (x y : Operand) (ho : op.op = .store 80 x y) {c : Array Value} (hx : a.eval x = .pointer (some ⟨w.heap.size, 0, none⟩)) {vR vE : Value} {cc : Cal} (hy : a.eval y = calVal vR vE cc)
    (hoo : c.size = 7) (h1 : (calCells vR vE cc).toArray.all (·.oneCell') = true)
    (h : wpList Tryz.prog ops Q rest (a.put op.dst undef) (w.alloc (.cells (calCells vR vE cc).toArray 80))) : wpList Tryz.prog ops Q (op :: rest) a (w.alloc (.cells c 80)) :=
  wpl_store_new (c' := (calCells vR vE cc).toArray) hgd _ x y ho hx hy infoCal hoo h1 h
set_option maxRecDepth 100000 in
set_option maxHeartbeats 8000000 in
theorem law_heavy31 (l : List Sto) (v : Value) (w : World) (hv : IsStos w v l) (hl : l.length ≤ 140737488355328) (hz : ∀ i, i < l.length → HevSz (l.getD i dS)) :
    Calls Tryz.prog 31 #[v] w (HevG l w) := by
  obtain ⟨a, cap, rfl, hcap, hcc⟩ := hv
  have HC := Lib.hid hcc; have HZ := Lib.hid hz
  have hzc := zeroCalA
  clear hcc hz
  go_enter Tryz.func31, Tryz.ntmps31
  go_wp2_with fail
  go_loopw [3, 4, 5, 6, 7] (fun s3 s4 _ _ _ wr => ∃ (i : Nat) (x : Int), i ≤ l.length ∧ s4 = .int .i64 i ∧ s3 = .int .i64 x ∧ Hid (HevP l i x) ∧ Hid (Below w.heap.size w wr)) (fun _ i _ _ _ _ => l.length - (intOf i).toNat)
  case atStart => exact ⟨0, 0, Nat.zero_le _, rfl, rfl, Lib.hid ⟨fun q hq => by omega, fun _ => ⟨0, rfl, fun q hq => by omega, Nat.zero_le _⟩⟩, Lib.hid (Below.refl _ _)⟩
  case round =>
    obtain ⟨i, x, hi, rfl, rfl, HP, HBw⟩ := hrel
    by_cases hlt : i < l.length
    · have hltI : (i : Int) < (l.length : Int) := by omega
      rcases HC.out with hn | ⟨b1, o1, rfl, hblt, hst⟩
      · rw [hn] at hlt; simp at hlt
      obtain ⟨f, hsi, hat⟩ := hst i hlt
      have HAT := Lib.hid (hat.below HBw.out hblt)
      have HSI := Lib.hid (hsi.below HBw.out (Nat.le_refl _))
      have HZI := Lib.hid (HZ.out i hlt)
      have HPn : Hid (∀ y : Int, HevOk (l.getD i dS) → (l.length ≤ 30 → ∃ A : Nat, y = x + A ∧ HevS (l.getD i dS) A ∧ A ≤ 288230376151711744) → HevP l (i + 1) y) := Lib.hid (fun y h1 h2 => by
        obtain ⟨p1, p2⟩ := HP.out
        refine ⟨fun q hq => ?_, fun h30 => ?_⟩
        · by_cases e : q = i
          · subst e; exact h1
          · exact p1 q (by omega)
        · obtain ⟨S, e1, e2, e3⟩ := p2 h30
          obtain ⟨A, f1, f2, f3⟩ := h2 h30
          refine ⟨S + A, by omega, fun q hq => ?_, by omega⟩
          by_cases e : q = i
          · subst e; exact f2.up (by omega)
          · exact (e2 q (by omega)).up (by omega))
      have HX : Hid (l.length ≤ 30 → 0 ≤ x ∧ x ≤ 8358680908399640576) := Lib.hid (fun h30 => by
        obtain ⟨S, e1, _, e3⟩ := HP.out.2 h30
        omega)
      obtain ⟨y, hy⟩ : ∃ y, l.getD i dS = y := ⟨_, rfl⟩
      rw [hy] at HAT HSI HZI HPn
      have HCal := Lib.hid HAT.out.cal
      have HONE : Hid ((calCells f.r f.e y.call).toArray.all (·.oneCell') = true) := Lib.hid (by
        obtain ⟨_, _, e1, _⟩ := HSI.out.c.r; obtain ⟨_, _, e2, _⟩ := HSI.out.c.e
        simp [calCells, e1, e2]; exact ⟨rfl, rfl, rfl, rfl, rfl, rfl, rfl⟩)
      clear hy hst hsi hat HP
      go_upto_region 6 with (first
        | (refine wpl_load_cal rfl (.tmp 17) rfl rfl HCal.out ?_)
        | (refine wpl_store_cal rfl (.tmp 5) (.tmp 18) rfl rfl (vR := f.r) (vE := f.e) (cc := y.call) rfl rfl HONE.out ?_)
        | fail)
      refine wp_abs (F := fun W => One wr.heap.size #[.int .u8 y.call.kind, f.r, f.e, .string y.call.pre, .int .u64 y.call.f, .int .u64 y.call.t, .int .u32 y.call.dst] W ∧ Below wr.heap.size wr W) ⟨One.of _ _ _, (Below.refl _ _).alloc (Nat.le_refl _) _⟩ ?_
      rintro W1 ⟨hO, hb1⟩
      have HA1 := Lib.hid (HAT.out.below hb1 (by have := HBw.out.size; omega))
      have HB1 := Lib.hid (HBw.out.trans (hb1.mono HBw.out.size))
      have HS1 := Lib.hid (HSI.out.below hb1 (Nat.le_refl _))
      obtain ⟨nb, hnb⟩ : ∃ nb, wr.heap.size = nb := ⟨_, rfl⟩
      rw [hnb] at hO ⊢
      have HO := Lib.hid hO
      clear hb1 hO hnb HAT HBw HSI HCal HONE
      obtain ⟨aR, cR, eR, hRc⟩ := HS1.out.c.r
      obtain ⟨aE, cE, eE, hEc⟩ := HS1.out.c.e
      obtain ⟨aG, cG, eG, _⟩ := HS1.out.g
      obtain ⟨aN, cN, eN, _⟩ := HS1.out.n
      obtain ⟨aM, cM, eM, _⟩ := HS1.out.m
      have HRc := Lib.hid hRc; have HEc := Lib.hid hEc
      have KP := Lib.hid (fun (W : World) (h : Below W1.heap.size W1 W) => show W.cell? ⟨nb, 1, none⟩ = some (.slice aR y.call.rds.length cR) ∧ W.cell? ⟨nb, 2, none⟩ = some (.slice aE y.call.eds.length cE) ∧ W.cell? ⟨nb, 3, none⟩ = some (.string y.call.pre) from by
        have h1 := (HO.out.step h).c 1; have h2 := (HO.out.step h).c 2; have h3 := (HO.out.step h).c 3
        simp at h1 h2 h3
        rw [eR] at h1; rw [eE] at h2
        exact ⟨h1, h2, h3⟩)
      have y15 := HA1.out 15 f.g rfl; have y16 := HA1.out 16 f.n rfl; have y17 := HA1.out 17 f.m rfl
      rw [eG] at y15; rw [eN] at y16; rw [eM] at y17
      clear hRc hEc eR eE eG eN eM
      obtain ⟨x1, x2, x3⟩ := KP.out W1 (Below.refl _ _)
      go_quiet (fail)
      clear y15 y16 y17 x1 x2 x3
      obtain ⟨z, hz⟩ : ∃ z, IntKind.i64.wrap (IntKind.i64.wrap (IntKind.i64.wrap (IntKind.i64.wrap (IntKind.i64.wrap (x + (y.call.rds.length : Int)) + (y.call.eds.length : Int)) + (y.got.length : Int)) + (y.nums.length : Int)) + (y.names.length : Int)) = z := ⟨_, rfl⟩
      rw [hz]
      have HZ1 : Hid (l.length ≤ 30 → z = x + (y.call.rds.length + y.call.eds.length + y.got.length + y.nums.length + y.names.length : Nat) ∧ 0 ≤ x ∧ x ≤ 8358680908399640576) := Lib.hid (fun h30 => by
        obtain ⟨h1, h2⟩ := HX.out h30
        have r := HZI.out.r; have e := HZI.out.e; have g := HZI.out.g; have n := HZI.out.n; have m := HZI.out.m
        refine ⟨?_, h1, h2⟩
        rw [← hz]
        simp only [IntKind.wrap_i64]
        omega)
      clear hz HX
      have HD1 : Hid (Below W1.heap.size W1 (W1.drewN nq)) := Lib.hid (below_dn (Below.refl _ _) _)
      go_wp2_with fail
      go_loopw [3, 6] (fun s3 s6 w2 => ∃ (j : Nat) (z2 : Int), j ≤ y.call.eds.length ∧ s6 = .int .i64 j ∧ s3 = .int .i64 z2 ∧ Hid ((∀ q, q < j → (y.call.eds.getD q dE).path.size ≤ 300 ∧ (y.call.eds.getD q dE).text.size ≤ 8192) ∧ (l.length ≤ 30 → ∃ A : Nat, z2 = z + A ∧ A ≤ j * 512)) ∧ Hid (Below W1.heap.size W1 w2)) (fun _ i _ => y.call.eds.length - (intOf i).toNat)
      case atStart => exact ⟨0, z, Nat.zero_le _, rfl, rfl, Lib.hid ⟨fun q hq => by omega, fun _ => ⟨0, by omega, Nat.zero_le _⟩⟩, HD1⟩
      case round =>
        obtain ⟨j, z2, hj, rfl, rfl, HJ, HB2⟩ := hrel
        have HBE : Hid (Below w.heap.size w wr) := Lib.hid (HB1.out.trans (HB2.out.mono HB1.out.size))
        obtain ⟨x1, x2, x3⟩ := KP.out wr HB2.out
        by_cases hjl : j < y.call.eds.length
        · have hjI : (j : Int) < (y.call.eds.length : Int) := by omega
          rcases HEc.out with hn | ⟨b2, o2, rfl, hb2, hc2⟩
          · rw [hn] at hjl; simp at hjl
          obtain ⟨_, g1, _, _, _, g5⟩ := hc2 j hjl
          have e1 := (HB2.out.cell (p := ⟨b2, o2 + j * 6 + 1, none⟩) hb2).trans g1
          have e5 := (HB2.out.cell (p := ⟨b2, o2 + j * 6 + 5, none⟩) hb2).trans g5
          obtain ⟨q1, q2⟩ := HZI.out.es j hjl
          obtain ⟨ed, hed⟩ : ∃ ed, y.call.eds.getD j dE = ed := ⟨_, rfl⟩
          rw [hed] at e1 e5 q1 q2
          clear g1 g5 hc2 hb2
          have hje : j * 512 ≤ 144115188075855872 := by have := HZI.out.e; omega
          have hjb : j ≤ 281474976710656 := by have := HZI.out.e; omega
          by_cases c1 : ed.path.size ≤ 300
          · have c1i : ¬ (300 : Int) < (ed.path.size : Int) := by omega
            by_cases c2 : ed.text.size ≤ 8192
            · have c2i : ¬ (8192 : Int) < (ed.text.size : Int) := by omega
              have HJ2 : Hid ((∀ q, q < j + 1 → (y.call.eds.getD q dE).path.size ≤ 300 ∧ (y.call.eds.getD q dE).text.size ≤ 8192) ∧ (l.length ≤ 30 → ∃ A : Nat, wrap64 (z2 + (ed.text.size : Int) / 16) = z + A ∧ A ≤ (j + 1) * 512)) := Lib.hid (by
                refine ⟨fun q hq => ?_, fun h30 => ?_⟩
                · by_cases e : q = j
                  · subst e; rw [hed]; exact ⟨c1, c2⟩
                  · exact HJ.out.1 q (by omega)
                · obtain ⟨A, h1, h2⟩ := HJ.out.2 h30
                  obtain ⟨h3, h4, h5⟩ := HZ1.out h30
                  have r := HZI.out.r; have e := HZI.out.e; have g := HZI.out.g; have n := HZI.out.n; have m := HZI.out.m
                  refine ⟨A + ed.text.size / 16, ?_, by omega⟩
                  rw [IntWalk.wrap64_in _ ⟨by omega, by omega⟩]
                  omega)
              clear c1 c2 hed hje
              go_wp2_with fail
              go_roundw
              case rel => exact ⟨j + 1, _, by omega, by go_num, rfl, HJ2, HB2⟩
              case measure => simp [intOf]; omega
            · have c2i : (8192 : Int) < (ed.text.size : Int) := by omega
              clear c1 c2
              go_wp2_with fail
              go_ret
              exact ⟨true, rfl, (fun h => by cases h), HBE.out⟩
          · have c1i : (300 : Int) < (ed.path.size : Int) := by omega
            clear c1
            go_wp2_with fail
            go_ret
            exact ⟨true, rfl, (fun h => by cases h), HBE.out⟩
        · have hjI : ¬ (j : Int) < (y.call.eds.length : Int) := by omega
          obtain rfl : j = y.call.eds.length := by omega
          go_wp2_with fail
          clear x1 x2 x3 HBE
          go_loopw [7] (fun s7 w3 => ∃ q : Nat, q ≤ y.call.rds.length ∧ s7 = .int .i64 q ∧ Hid (∀ p, p < q → (y.call.rds.getD p dRd).path.size ≤ 300) ∧ Hid (Below W1.heap.size W1 w3)) (fun i _ => y.call.rds.length - (intOf i).toNat)
          case atStart => exact ⟨0, Nat.zero_le _, rfl, Lib.hid (fun p hp => by omega), HB2⟩
          case round =>
            clear HB2
            obtain ⟨q, hq, rfl, HQ, HB2⟩ := hrel
            have HBE : Hid (Below w.heap.size w wr) := Lib.hid (HB1.out.trans (HB2.out.mono HB1.out.size))
            obtain ⟨x1, x2, x3⟩ := KP.out wr HB2.out
            by_cases hql : q < y.call.rds.length
            · have hqI : (q : Int) < (y.call.rds.length : Int) := by omega
              rcases HRc.out with hn | ⟨b2, o2, rfl, hb2, hc2⟩
              · rw [hn] at hql; simp at hql
              obtain ⟨g0, _⟩ := hc2 q hql
              have e0 := (HB2.out.cell (p := ⟨b2, o2 + q * 2, none⟩) hb2).trans g0
              have q1 := HZI.out.rs q hql
              have hqb : q ≤ 281474976710656 := by have := HZI.out.r; omega
              obtain ⟨rd, hrd⟩ : ∃ rd, y.call.rds.getD q dRd = rd := ⟨_, rfl⟩
              rw [hrd] at e0 q1
              clear g0 hc2 hb2
              by_cases c1 : rd.path.size ≤ 300
              · have c1i : ¬ (300 : Int) < (rd.path.size : Int) := by omega
                have HQ2 : Hid (∀ p, p < q + 1 → (y.call.rds.getD p dRd).path.size ≤ 300) := Lib.hid (fun p hp => by
                  by_cases e : p = q
                  · subst e; rw [hrd]; exact c1
                  · exact HQ.out p (by omega))
                clear c1 hrd
                go_wp2_with fail
                go_roundw
                case rel => exact ⟨q + 1, by omega, by go_num, HQ2, HB2⟩
                case measure => simp [intOf]; omega
              · have c1i : (300 : Int) < (rd.path.size : Int) := by omega
                clear c1
                go_wp2_with fail
                go_ret
                exact ⟨true, rfl, (fun h => by cases h), HBE.out⟩
            · have hqI : ¬ (q : Int) < (y.call.rds.length : Int) := by omega
              obtain rfl : q = y.call.rds.length := by omega
              have hps := HZI.out.p
              by_cases c1 : y.call.pre.size ≤ 300
              · have c1i : ¬ (300 : Int) < (y.call.pre.size : Int) := by omega
                have HNx := Lib.hid (HPn.out z2 ⟨HJ.out.1, HQ.out, c1⟩ (fun h30 => by
                  obtain ⟨A, h1, h2⟩ := HJ.out.2 h30
                  obtain ⟨h3, h4, h5⟩ := HZ1.out h30
                  have r := HZI.out.r; have e := HZI.out.e; have g := HZI.out.g; have n := HZI.out.n; have m := HZI.out.m
                  exact ⟨y.call.rds.length + y.call.eds.length + y.got.length + y.nums.length + y.names.length + A, by omega, ⟨by omega, by omega, by omega, by omega, by omega⟩, by omega⟩))
                clear c1
                go_wp2_with fail
                go_roundw
                case rel => exact ⟨i + 1, z2, by omega, by go_num, rfl, HNx, HBE⟩
                case measure => simp [intOf]; omega
              · have c1i : (300 : Int) < (y.call.pre.size : Int) := by omega
                clear c1
                go_wp2_with fail
                go_ret
                exact ⟨true, rfl, (fun h => by cases h), HBE.out⟩
    · have hge : ¬ (i : Int) < (l.length : Int) := by omega
      obtain rfl : i = l.length := by omega
      by_cases h30 : l.length ≤ 30
      · have h30i : ¬ (30 : Int) < (l.length : Int) := by omega
        obtain ⟨S, rfl, h2, h3⟩ := HP.out.2 h30
        have H2 := Lib.hid h2
        clear h2
        by_cases h6 : S ≤ 600
        · have h6i : ¬ (600 : Int) < (S : Int) := by omega
          go_wp2_with fail
          go_ret
          exact ⟨false, rfl, fun _ => ⟨h30, fun q hq => ⟨HP.out.1 q hq, (H2.out q hq).up h6⟩⟩, HBw.out⟩
        · have h6i : (600 : Int) < (S : Int) := by omega
          go_wp2_with fail
          go_ret
          exact ⟨true, rfl, (fun h => by cases h), HBw.out⟩
      · have h30i : (30 : Int) < (l.length : Int) := by omega
        go_wp2_with fail
        go_ret
        exact ⟨true, rfl, (fun h => by cases h), HBw.out⟩
end Go.Proofs.YtfbgnpfhjbiikaaGreatDoor

namespace Go.Proofs.YtfbgnpfhjbiikaaGreatDoor
open Go Go.RowKit
open Pth
open Go.Maps (has size Canon CanonK Tidy IsMap KeysOf Keyed Merged)
theorem someS_all {l : List Sto} {txs : List Tx} (h : ∀ i ∈ ordS l, txOf (l.getD i dS) ∈ txs) : someS l txs (ordS l) = (ordS l).map (fun i => l.getD i dS) := by
  unfold someS
  rw [List.filter_eq_self.2 (fun i hi => by simpa using h i hi)]
theorem map_at {l : List Sto} {o : List Nat} {p : Nat} (hp : p < o.length) : (o.map (fun i => l.getD i dS)).getD p dS = l.getD (o.getD p 0) dS := by
  rw [List.getD_eq_getElem?_getD, List.getElem?_map, List.getElem?_eq_getElem hp, List.getD_eq_getElem?_getD (l := o), List.getElem?_eq_getElem hp]; rfl
theorem ord_at {l : List Sto} {p q : Nat} (hq : q < (ordS l).length) (hpq : p < q) : comF l ((ordS l).getD p 0) ≤ comF l ((ordS l).getD q 0) := by
  have hs : (ordS l).Pairwise (fun a b => leS (comF l) a b = true) := ordL_sorted _ _
  have h := List.pairwise_iff_getElem.1 hs p q (by omega) hq hpq
  rw [List.getD_eq_getElem?_getD, List.getD_eq_getElem?_getD, List.getElem?_eq_getElem hq, List.getElem?_eq_getElem (show p < (ordS l).length by omega)]
  simp only [leS, decide_eq_true_eq] at h
  simp only [Option.getD_some]
  omega
theorem ord_mem {l : List Sto} {p : Nat} (hp : p < (ordS l).length) : (ordS l).getD p 0 < l.length ∧ 0 < comF l ((ordS l).getD p 0) := by
  have hm : (ordS l).getD p 0 ∈ ordS l := by rw [List.getD_eq_getElem?_getD, List.getElem?_eq_getElem hp]; exact List.getElem_mem hp
  exact mem_ordL.1 hm
theorem ordS_sorted (l : List Sto) : ordS ((ordS l).map (fun i => l.getD i dS)) = List.range (ordS l).length := by
  have hc : ∀ p, p < (ordS l).length → comF ((ordS l).map (fun i => l.getD i dS)) p = comF l ((ordS l).getD p 0) := fun p hp => by
    show (((ordS l).map (fun i => l.getD i dS)).getD p dS).com = _
    rw [map_at hp]; rfl
  have hf : (List.range (ordS l).length).filter (fun i => decide (0 < comF ((ordS l).map (fun i => l.getD i dS)) i)) = List.range (ordS l).length :=
    List.filter_eq_self.2 (fun p hp => by rw [hc p (List.mem_range.1 hp)]; simpa using (ord_mem (List.mem_range.1 hp)).2)
  unfold ordS
  rw [List.length_map]
  show ordL (comF ((ordS l).map (fun i => l.getD i dS))) (ordS l).length = List.range (ordS l).length
  refine (ordL_uniq (by rw [hf]) ?_).symm
  refine List.pairwise_lt_range.imp_of_mem (fun {a b} ha hb hab => ?_)
  have h := ord_at (l := l) (List.mem_range.1 hb) hab
  simp only [leS, decide_eq_true_eq]
  rw [hc a (List.mem_range.1 ha), hc b (List.mem_range.1 hb)]
  omega
theorem runM_map {l : List Sto} {o : List Nat} : ∀ (ps : List Nat) (s : DataW Cel × Int), (∀ p ∈ ps, p < o.length) → runM (o.map (fun i => l.getD i dS)) ps s = runM l (ps.map (fun p => o.getD p 0)) s
  | [], _, _ => rfl
  | p :: r, s, h => by
    rw [List.map_cons]
    unfold runM
    rw [map_at (h p (List.mem_cons_self ..))]
    exact runM_map r _ (fun q hq => h q (List.mem_cons_of_mem _ hq))
theorem range_at (o : List Nat) : (List.range o.length).map (fun p => o.getD p 0) = o := by
  apply List.ext_getElem (by simp)
  intro i h1 h2
  simp [List.getD_eq_getElem?_getD, h2]
theorem parts_rows {l : List Sto} {txs : List Tx} (h : ∀ i ∈ ordS l, txOf (l.getD i dS) ∈ txs) : rowsS (someS l txs (ordS l)) = rowsS l := by
  rw [someS_all h]
  unfold rowsS
  rw [ordS_sorted, runM_map _ _ (fun p hp => List.mem_range.1 hp), range_at]
theorem parts_all {l : List Sto} {txs : List Tx} (h : ∀ x ∈ txs, ∃ i ∈ ordS l, txOf (l.getD i dS) = x) : allS l txs (ordS l) = true := by
  unfold allS
  rw [List.all_eq_true]
  intro x hx
  obtain ⟨i, hi, e⟩ := h x hx
  rw [List.any_eq_true]
  exact ⟨i, hi, by rw [e]; simp⟩
theorem parts_none (l : List Sto) (o : List Nat) : rowsS (someS l [] o) = [] ∧ allS l [] o = true := by
  have h : someS l [] o = [] := by unfold someS; simp
  refine ⟨?_, rfl⟩
  rw [h]
  unfold rowsS
  have : ordS [] = [] := List.eq_nil_of_length_eq_zero (Nat.le_zero.1 (ordL_le _ _))
  rw [this]
  exact rowsL_nil
theorem run_good (l : List Sto) (hz : StosSz l) : ∀ (o : List Nat) (M : DataW Cel), (∀ i ∈ o, i < l.length) → Good Tryz.prog 9 M → Good Tryz.prog 9 (runM l o (M, (bytesR (rowsL M) : Int))).1 ∧ size (runM l o (M, (bytesR (rowsL M) : Int))).1 ≤ size M + 1024 * o.length
  | [], M, _, hg => ⟨hg, by simp [runM]⟩
  | i :: r, M, h, hg => by
    obtain ⟨g1, g2, g3⟩ := does_good (q1 := QQ) (q2 := QQ) (c := (l.getD i dS).call) hg
    have he := (hz i (h i (List.mem_cons_self ..))).e
    have ih := run_good l hz r (doesT M (bytesR (rowsL M)) QQ QQ (l.getD i dS).call).M (fun j hj => h j (List.mem_cons_of_mem _ hj)) g1
    unfold runM
    simp only
    rw [g2]
    exact ⟨ih.1, by rw [List.length_cons]; have := ih.2; omega⟩
theorem rows_good (l : List Sto) (hz : StosSz l) (h : (ordS l).length ≤ 39) : ∃ M, rowsS l = rowsL M ∧ Good Tryz.prog 9 M ∧ size M ≤ 39936 := by
  have h0 := run_good l hz (ordS l) (.map []) (fun i hi => (mem_ordL.1 hi).1) (good_none _ _)
  rw [show ((bytesR (rowsL (.map [])) : Int)) = 0 by rw [rowsL_nil]; rfl] at h0
  exact ⟨_, rfl, h0.1, by
    have h1 := h0.2
    have h2 : size (DataW.map [] : DataW Cel) = 0 := by simp [size]
    omega⟩
def txFlat (l : List Tx) : List Value := l.flatMap (fun x => [.int .u64 x.1, .int .u64 x.2])
theorem txFlat_append (l : List Tx) (x : Tx) : txFlat (l ++ [x]) = txFlat l ++ [.int .u64 x.1, .int .u64 x.2] := by simp [txFlat]
theorem txFlat_at (l : List Tx) : ∀ (i : Nat), i < l.length → ∀ j, j < 2 → (txFlat l)[i * 2 + j]? = [Value.int .u64 (l.getD i (0, 0)).1, .int .u64 (l.getD i (0, 0)).2][j]? := by
  induction l with
  | nil => intro i hi; simp at hi
  | cons x r ih =>
    intro i hi j hj
    have e : txFlat (x :: r) = [.int .u64 x.1, .int .u64 x.2] ++ txFlat r := by simp [txFlat]
    rw [e]
    cases i with
    | zero => rw [List.getElem?_append_left (by simp; omega)]; simp
    | succ i =>
      rw [List.getElem?_append_right (by simp; omega)]
      have := ih i (by simpa using hi) j hj
      simp only [List.length_cons, List.length_nil]
      rw [show (i + 1) * 2 + j - (0 + 1 + 1) = i * 2 + j by omega, this]
      simp
theorem IsTxs.own {w : World} {B e : Nat} {v : Value} {l : List Tx} (h : w.ownsRow B e 2 v l.length (txFlat l)) : IsTxs w v l := by
  rcases h.2 with ⟨hv, hl⟩ | ⟨g, cap, cur, hv, hB, hg, hn, hcap, hsz, htake⟩
  · have : l = [] := List.length_eq_zero_iff.1 hl
    subst this; exact ⟨none, 0, hv, Or.inl rfl⟩
  · refine ⟨_, _, hv, Or.inr ⟨g, 0, rfl, lt_of_block hg, fun i hi => ?_⟩⟩
    subst hv
    have c : ∀ j, j < 2 → w.cell? ⟨g, i * 2 + j, none⟩ = [Value.int .u64 (l.getD i (0, 0)).1, .int .u64 (l.getD i (0, 0)).2][j]? := fun j hj => by
      rw [World.ownsRow.cellAt h (i * 2 + j) (by omega), txFlat_at l i hi j hj]
    simp only [Nat.zero_add]
    exact ⟨c 0 (by omega), c 1 (by omega)⟩
def txsT (l : List Sto) (k : Nat) : List Tx := ((ordS l).take k).map (fun i => txOf (l.getD i dS))
theorem txsT_succ {l : List Sto} {k : Nat} (hk : k < (ordS l).length) : txsT l (k + 1) = txsT l k ++ [txOf (l.getD ((ordS l).getD k 0) dS)] := by
  unfold txsT
  rw [List.take_succ_eq_append_getElem hk, List.map_append, List.getD_eq_getElem?_getD (l := ordS l), List.getElem?_eq_getElem hk]; rfl
theorem txsT_length {l : List Sto} {k : Nat} (hk : k ≤ (ordS l).length) : (txsT l k).length = k := by unfold txsT; rw [List.length_map, List.length_take]; omega
theorem txsT_mem {l : List Sto} : ∀ i ∈ ordS l, txOf (l.getD i dS) ∈ txsT l (ordS l).length := fun i hi => by
  unfold txsT; rw [List.take_length]; exact List.mem_map.2 ⟨i, hi, rfl⟩
theorem txsT_of {l : List Sto} {k : Nat} : ∀ x ∈ txsT l k, ∃ i ∈ ordS l, txOf (l.getD i dS) = x := fun x hx => by
  obtain ⟨i, hi, e⟩ := List.mem_map.1 hx
  exact ⟨i, List.mem_of_mem_take hi, e⟩
end Go.Proofs.YtfbgnpfhjbiikaaGreatDoor

namespace Go.Proofs.YtfbgnpfhjbiikaaGreatDoor
open Go Go.RowKit
open Pth
open Go.Maps (has size Canon CanonK Tidy IsMap KeysOf Keyed Merged)
def sA : Sto := ⟨0, putL tA tX, 1, 2, false, 1, 1, 1, 0, [], [1], []⟩
def sB : Sto := ⟨0, getL tA, 3, 4, false, 1, 2, 2, 0, [⟨⟨1, 1, tX⟩, 0⟩], [], []⟩
def sC : Sto := ⟨0, getL tA, 3, 4, false, 1, 2, 2, 0, [⟨dV, 3⟩], [], []⟩
def sD : Sto := ⟨0, putL tA tX, 1, 2, false, 1, 1, 3, 0, [], [1], []⟩
def exM : DataW Cel := .map [(kS tA, .held ⟨1, [⟨1, 1, tX⟩]⟩)]
theorem exM_put : doesT (.map []) 0 QQ QQ (putL tA tX) = ⟨[], [1], [], true, exM, 2⟩ := by kernel_rfl
theorem exM_get : doesT exM 2 QQ QQ (getL tA) = ⟨[⟨⟨1, 1, tX⟩, 0⟩], [], [], true, exM, 2⟩ := by kernel_rfl
theorem ord_AB (s t : Sto) (h1 : 0 < s.com) (h2 : s.com ≤ t.com) : ordS [s, t] = [0, 1] := by
  symm
  refine ordL_uniq ?_ ?_
  · have : (List.range [s, t].length).filter (fun i => decide (0 < comF [s, t] i)) = [0, 1] := by
      have e0 : comF [s, t] 0 = s.com := rfl
      have e1 : comF [s, t] 1 = t.com := rfl
      have hr : List.range [s, t].length = [0, 1] := rfl
      rw [hr]
      simp [e0, e1, h1]; omega
    rw [this]
  · have e0 : comF [s, t] 0 = s.com := rfl
    have e1 : comF [s, t] 1 = t.com := rfl
    simp [leS, e0, e1]; omega
theorem ord_BA (s t : Sto) (h1 : 0 < t.com) (h2 : t.com < s.com) : ordS [s, t] = [1, 0] := by
  symm
  refine ordL_uniq ?_ ?_
  · have : (List.range [s, t].length).filter (fun i => decide (0 < comF [s, t] i)) = [0, 1] := by
      have e0 : comF [s, t] 0 = s.com := rfl
      have e1 : comF [s, t] 1 = t.com := rfl
      have hr : List.range [s, t].length = [0, 1] := rfl
      rw [hr]
      simp [e0, e1, h1]; omega
    rw [this]
    exact List.Perm.swap _ _ _
  · have e0 : comF [s, t] 0 = s.com := rfl
    have e1 : comF [s, t] 1 = t.com := rfl
    simp [leS, e0, e1]; omega
theorem check_cons {l : List Sto} (h : l.findIdx badA = l.length) : checkT l = chkT l (ordS l) 0 (ordS l) (.map [], 0) := by
  unfold checkT; rw [h, if_neg (Nat.lt_irrefl _)]
theorem chk_step {l : List Sto} {o : List Nat} {k i : Nat} {r : List Nat} {M : DataW Cel} {B : Int} {d : Done} (hl : lateT l o k = false) (hd : doesT M B QQ QQ (l.getD i dS).call = d) (hi : d.is = true) (hw : wrongR d (l.getD i dS) = false) : chkT l o k (i :: r) (M, B) = chkT l o (k + 1) r (d.M, d.B) := by
  rw [chkT, if_neg (by rw [hl]; decide)]
  dsimp only
  rw [hd, if_neg (by rw [hi]; decide), if_neg (by rw [hw]; decide)]
theorem chk_wrong {l : List Sto} {o : List Nat} {k i : Nat} {r : List Nat} {M : DataW Cel} {B : Int} {d : Done} (hl : lateT l o k = false) (hd : doesT M B QQ QQ (l.getD i dS).call = d) (hi : d.is = true) (hw : wrongR d (l.getD i dS) = true) : chkT l o k (i :: r) (M, B) = ⟨false, i, 4⟩ := by
  rw [chkT, if_neg (by rw [hl]; decide)]
  dsimp only
  rw [hd, if_neg (by rw [hi]; decide), if_pos hw]
theorem chk_late {l : List Sto} {o : List Nat} {k i : Nat} {r : List Nat} {s : DataW Cel × Int} (hl : lateT l o k = true) : chkT l o k (i :: r) s = ⟨false, i, 1⟩ := by
  rw [chkT, if_pos hl]
theorem wrong_same {d : Done} {s : Sto} (h : SameR d s) : wrongR d s = false := by
  unfold wrongR; exact @decide_eq_false _ (Classical.propDecidable _) (fun h2 => h2.2 h)
theorem wrong_not {d : Done} {s : Sto} (h0 : 0 < s.til) (h : ¬ SameR d s) : wrongR d s = true := by
  unfold wrongR; exact @decide_eq_true _ (Classical.propDecidable _) ⟨h0, h⟩
theorem check_AB : checkT [sA, sB] = ⟨true, 0, 0⟩ := by
  rw [check_cons (by kernel_rfl), ord_AB sA sB (by decide) (by decide)]
  rw [chk_step (d := ⟨[], [1], [], true, exM, 2⟩) (by kernel_rfl) exM_put rfl (wrong_same ⟨rfl, rfl, rfl⟩)]
  rw [chk_step (d := ⟨[⟨⟨1, 1, tX⟩, 0⟩], [], [], true, exM, 2⟩) (by kernel_rfl) exM_get rfl (wrong_same ⟨rfl, rfl, rfl⟩)]
  rfl
theorem check_AC : checkT [sA, sC] = ⟨false, 1, 4⟩ := by
  rw [check_cons (by kernel_rfl), ord_AB sA sC (by decide) (by decide)]
  rw [chk_step (d := ⟨[], [1], [], true, exM, 2⟩) (by kernel_rfl) exM_put rfl (wrong_same ⟨rfl, rfl, rfl⟩)]
  rw [chk_wrong (d := ⟨[⟨⟨1, 1, tX⟩, 0⟩], [], [], true, exM, 2⟩) (by kernel_rfl) exM_get rfl (wrong_not (by decide) (fun h => by
    have h1 := h.1
    have h2 : (1 : Nat) = 0 := congrArg (fun l : List GotR => (l.getD 0 dG).ver.n) h1
    cases h2))]
theorem check_DB : checkT [sD, sB] = ⟨false, 1, 1⟩ := by
  rw [check_cons (by kernel_rfl), ord_BA sD sB (by decide) (by decide)]
  rw [chk_late (by kernel_rfl)]
theorem some_AB : someS [sA, sB] [(1, 1)] (ordS [sA, sB]) = [sA] := by
  rw [ord_AB sA sB (by decide) (by decide)]
  rfl
theorem all_AB : allS [sA, sB] [(1, 1)] (ordS [sA, sB]) = true := by
  rw [ord_AB sA sB (by decide) (by decide)]
  rfl
theorem ord_one (s : Sto) (h1 : 0 < s.com) : ordS [s] = [0] := by
  symm
  refine ordL_uniq ?_ (by simp)
  have : (List.range [s].length).filter (fun i => decide (0 < comF [s] i)) = [0] := by
    have e0 : comF [s] 0 = s.com := rfl
    have hr : List.range [s].length = [0] := rfl
    rw [hr]
    simp [e0, h1]
  rw [this]
theorem rows_A : rowsS [sA] = rowsL exM := by
  unfold rowsS
  rw [ord_one sA (by decide)]
  show rowsL (doesT (.map []) 0 QQ QQ (putL tA tX)).M = _
  rw [exM_put]
theorem good_exM : Good Tryz.prog 9 exM := by
  have h := (does_good (q1 := QQ) (q2 := QQ) (c := putL tA tX) (good_none Tryz.prog 9)).1
  rw [rowsL_nil] at h
  have e : doesT (.map []) ((bytesR [] : Nat) : Int) QQ QQ (putL tA tX) = ⟨[], [1], [], true, exM, 2⟩ := exM_put
  rw [e] at h
  exact h
theorem rows_one {M : DataW Cel} {p : ByteArray} {c : Cel} (hg : Good Tryz.prog 9 M) (hM : M = .map [(kS p, .held c)]) : rowsL M = [(p, c)] := by
  have hl : (rowsL M).length = 1 := by rw [rows_length hg.canon, hM]; rfl
  obtain ⟨x, hx⟩ := List.length_eq_one_iff.1 hl
  have hm := (rows_mem hg.canon x).1 (by rw [hx]; exact List.mem_cons_self)
  have hp : x.1 = p := by
    have h1 := hm.1
    rw [hM, Maps.has_eq] at h1
    simp only [List.any_cons, List.any_nil, Bool.or_false, sameKey_kS, decide_eq_true_eq] at h1
    exact h1.symm
  have hc : cellAt M p = c := by
    rw [hM]
    refine cellAt_of ?_
    have hk : Lit.sameKey (kS p) (kS p) = true := by rw [sameKey_kS]; simp
    simp [DataW.atKey, hk]
  rw [hx]
  congr 1
  exact Prod.ext hp (by rw [← hm.2, hp, hc])
theorem rows_exM : rowsL exM = [(tA, ⟨1, [⟨1, 1, tX⟩]⟩)] := rows_one good_exM rfl
end Go.Proofs.YtfbgnpfhjbiikaaGreatDoor

namespace Go.Proofs.YtfbgnpfhjbiikaaGreatDoor
open Go Go.RowKit
open Pth
open Go.Maps (has size Canon CanonK Tidy IsMap KeysOf Keyed Merged)
abbrev nilV : Value := .slice none 0 0
theorem IsNums.new1 (w : World) (n : Nat) (e : TypeId) : IsNums (w.alloc (.cells #[.int .u64 n] e)) (.slice (some ⟨w.heap.size, 0, none⟩) 1 1) [n] := by
  refine ⟨_, 1, rfl, Or.inr ⟨w.heap.size, 0, rfl, by simp, fun i hi => ?_⟩⟩
  obtain rfl : i = 0 := by simpa using hi
  simp
theorem IsGots.new1 (w : World) (g : GotR) (e : TypeId) : IsGots (w.alloc (.cells #[.int .u64 g.ver.n, .int .u8 g.ver.st, .string g.ver.tx, .int .i64 g.err] e)) (.slice (some ⟨w.heap.size, 0, none⟩) 1 1) [g] := by
  refine ⟨_, 1, rfl, Or.inr ⟨w.heap.size, 0, rfl, by simp, fun i hi => ?_⟩⟩
  obtain rfl : i = 0 := by simpa using hi
  have h := One.of w #[.int .u64 g.ver.n, .int .u8 g.ver.st, .string g.ver.tx, .int .i64 g.err] e
  exact ⟨h.c 0, h.c 1, h.c 2, h.c 3⟩
theorem IsEdts.one {w : World} {g : Nat} {x : Edt} (h : One g #[.int .u8 x.kind, .string x.path, .bool x.any, .int .u64 x.want, .int .u64 x.n, .string x.text] w) (cap : Nat) : IsEdts w (.slice (some ⟨g, 0, none⟩) 1 cap) [x] := by
  refine ⟨_, cap, rfl, Or.inr ⟨g, 0, rfl, h.lt, fun i hi => ?_⟩⟩
  obtain rfl : i = 0 := by simpa using hi
  exact ⟨h.c 0, h.c 1, h.c 2, h.c 3, h.c 4, h.c 5⟩
theorem wpl_store_stN {ops : Array Oper} {rest : List Oper} {op : Oper} {a : Act} {w : World} {Q : Exit → Act → World → Prop} (hgd : op.guard = none) (x y : Operand) (ho : op.op = .store 87 x y) (n : Nat) (hn : w.heap.size = n) {c : Array Value} (hx : a.eval x = .pointer (some ⟨n, 0, none⟩)) {f : Five} {s : Sto} (hy : a.eval y = .agg (stoCells f s).toArray)
    (hoo : c.size = 18) (h1 : ∀ v ∈ stoCells f s, v.oneCell' = true)
    (h : wpList Tryz.prog ops Q rest (a.put op.dst undef) (w.alloc (.cells (stoCells f s).toArray 87))) : wpList Tryz.prog ops Q (op :: rest) a (w.alloc (.cells c 87)) := by
  subst hn; exact wpl_store_sto hgd x y ho hx hy hoo h1 h
theorem sto_one5 {f : Five} {s : Sto} (h1 : f.r.oneCell' = true) (h2 : f.e.oneCell' = true) (h3 : f.g.oneCell' = true) (h4 : f.n.oneCell' = true) (h5 : f.m.oneCell' = true) : ∀ v ∈ stoCells f s, v.oneCell' = true := by
  intro v hv
  simp only [stoCells, List.mem_cons, List.not_mem_nil, or_false] at hv
  rcases hv with rfl | rfl | rfl | rfl | rfl | rfl | rfl | rfl | rfl | rfl | rfl | rfl | rfl | rfl | rfl | rfl | rfl | rfl <;> first | rfl | assumption
set_option maxRecDepth 100000 in
theorem wpl_build_s {ops : Array Oper} {rest : List Oper} {o : Oper} {a : Act} {w : World} {Q : Exit → Act → World → Prop} (hg : o.guard = none) (parts : Array (Nat × Operand)) (ho : o.op = .build 87 parts) (f : Five) (s : Sto)
    (hb : Tryz.prog.built 87 (parts.map fun (i, x) => (i, a.eval x)).toList = some (stoCells f s).toArray)
    (h : wpList Tryz.prog ops Q rest (a.put o.dst (.agg (stoCells f s).toArray)) w) : wpList Tryz.prog ops Q (o :: rest) a w := by
  refine wpList_plain hg fun K hK => ?_
  unfold Oper.wp execOp
  simp only [ho, Sem.run_bind]
  have := run_build (P := Tryz.prog) w 87 (parts.map fun (i, x) => (i, a.eval x)) _ hb
  simp only [this]
  exact hK _ _ h

structure BoxS (n : Nat) (f : Five) (s : Sto) (W : World) : Prop where
  o : One n (stoCells f s).toArray W
  i : StoIs W f s
theorem BoxS.step {n : Nat} {f : Five} {s : Sto} {W W' : World} (h : BoxS n f s W) (hb : Below W.heap.size W W') : BoxS n f s W' := ⟨h.o.step hb, h.i.below hb (Nat.le_refl _)⟩
theorem BoxS.at {n : Nat} {f : Five} {s : Sto} {W : World} (h : BoxS n f s W) : StoAt W n 0 f s := by
  intro j u hj
  rw [Nat.zero_add, h.o.c j]; simpa using hj
theorem BoxS.new {w : World} {f : Five} {s : Sto} (h : StoIs w f s) : BoxS w.heap.size f s (w.alloc (.cells (stoCells f s).toArray 87)) :=
  ⟨One.of _ _ _, h.below ((Below.refl _ _).alloc (Nat.le_refl _) _) (Nat.le_refl _)⟩
theorem IsStos.rowN (w : World) (L : List (Five × Sto)) (ty : TypeId) (h : ∀ x ∈ L, StoIs w x.1 x.2) : IsStos (w.alloc (.cells (stoFlat L).toArray ty)) (.slice (some ⟨w.heap.size, 0, none⟩) L.length L.length) (L.map (·.2)) := by
  have hO := One.of w (stoFlat L).toArray ty
  have hb : Below w.heap.size w (w.alloc (.cells (stoFlat L).toArray ty)) := (Below.refl _ _).alloc (Nat.le_refl _) _
  refine ⟨_, L.length, by rw [List.length_map], by rw [List.length_map]; exact Nat.le_refl _, Or.inr ⟨_, 0, rfl, hO.lt, fun i hi => ?_⟩⟩
  rw [List.length_map] at hi
  have hm : L.getD i dFS ∈ L := by rw [List.getD_eq_getElem?_getD, List.getElem?_eq_getElem hi]; exact List.getElem_mem hi
  have he : (L.map (·.2)).getD i dS = (L.getD i dFS).2 := by
    rw [List.getD_eq_getElem?_getD, List.getD_eq_getElem?_getD, List.getElem?_map, List.getElem?_eq_getElem hi]; rfl
  rw [he]
  refine ⟨(L.getD i dFS).1, (h _ hm).below hb (Nat.le_refl _), fun j u hj => ?_⟩
  have hj2 : j < 18 := (List.getElem?_eq_some_iff.1 hj).1
  rw [Nat.zero_add, hO.c, List.getElem?_toArray, stoFlat_at L i hi j hj2, hj]
theorem built2 (f g : Five) (s t : Sto) : Tryz.prog.builtSlice 87 2 [(0, .agg (stoCells f s).toArray), (1, .agg (stoCells g t).toArray)] = some (stoFlat [(f, s), (g, t)]).toArray := by kernel_rfl
theorem wpl_build_sto2 {ops : Array Oper} {rest : List Oper} {o : Oper} {a : Act} {w : World} {Q : Exit → Act → World → Prop} (hg : o.guard = none) (x y : Operand) (ho : o.op = .buildSlice 68 2 #[(0, x), (1, y)]) {f g : Five} {s t : Sto} (hx : a.eval x = .agg (stoCells f s).toArray) (hy : a.eval y = .agg (stoCells g t).toArray)
    (h : wpList Tryz.prog ops Q rest (a.put o.dst (.slice (some ⟨w.heap.size, 0, none⟩) 2 2)) (w.alloc (.cells (stoFlat [(f, s), (g, t)]).toArray 87))) : wpList Tryz.prog ops Q (o :: rest) a w :=
  Great.wpList_buildSliceTo hg 68 87 2 #[(0, x), (1, y)] ho w.heap.size rfl o.dst rfl Tryz.underlying68 (stoFlat [(f, s), (g, t)]).toArray (by
    simp only [List.map_toArray, List.map_cons, List.map_nil, hx, hy]; exact built2 f g s t) h
theorem sz_put {s : Sto} {p t : ByteArray} (h : s.call = putL p t) (hp : p.size ≤ 140737488351232) (ht : t.size ≤ 9223372036854775807) (hg : s.got.length ≤ 1048576) (hn : s.nums.length ≤ 1048576) (hm : s.names.length ≤ 1048576) : StoSz s := by
  refine ⟨?_, ?_, by omega, by omega, by omega⟩
  · rw [h]
    refine ⟨by simp [putL], by simp [putL], fun i hi => ?_, by simp [putL], fun i hi => ?_, by simp [putL]⟩
    · exact absurd hi (Nat.not_lt_zero _)
    · obtain rfl : i = 0 := by simpa [putL] using hi
      exact ⟨hp, ht⟩
  · rw [h]; simp [putL]
theorem sz_get {s : Sto} {p : ByteArray} (h : s.call = getL p) (hp : p.size ≤ 140737488351232) (hg : s.got.length ≤ 1048576) (hn : s.nums.length ≤ 1048576) (hm : s.names.length ≤ 1048576) : StoSz s := by
  refine ⟨?_, ?_, by omega, by omega, by omega⟩
  · rw [h]
    refine ⟨by simp [getL], by simp [getL], fun i hi => ?_, by simp [getL], fun i hi => ?_, by simp [getL]⟩
    · obtain rfl : i = 0 := by simpa [getL] using hi
      exact hp
    · exact absurd hi (Nat.not_lt_zero _)
  · rw [h]; simp [getL]
theorem StosSz.two {s t : Sto} (h : StoSz s) (k : StoSz t) : StosSz [s, t] := fun i hi => by
  have : i = 0 ∨ i = 1 := by have : i < 2 := hi; omega
  rcases this with rfl | rfl
  · exact h
  · exact k
theorem check_two (s t : Sto) (v : Value) (w : World) (hv : IsStos w v [s, t]) (h1 : StoSz s) (h2 : StoSz t) (hm : MX w) : Calls Tryz.prog 32 #[v] w (CheckG [s, t] w) :=
  model_check [s, t] v w hv (by simp) (Nat.le_trans (idxO_le _ _) (by simp)) (StosSz.two h1 h2) hm
theorem IsGots.one {w : World} {b : Nat} {g : GotR} (h : One b #[.int .u64 g.ver.n, .int .u8 g.ver.st, .string g.ver.tx, .int .i64 g.err] w) : IsGots w (.slice (some ⟨b, 0, none⟩) 1 1) [g] := by
  refine ⟨_, 1, rfl, Or.inr ⟨b, 0, rfl, h.lt, fun i hi => ?_⟩⟩
  obtain rfl : i = 0 := by simpa using hi
  exact ⟨h.c 0, h.c 1, h.c 2, h.c 3⟩
theorem IsNums.none (w : World) : IsNums w (.slice none 0 0) [] := ⟨Option.none, 0, rfl, Or.inl rfl⟩
end Go.Proofs.YtfbgnpfhjbiikaaGreatDoor

namespace Go.Proofs.YtfbgnpfhjbiikaaGreatDoor
open Go Go.RowKit
open Pth
open Go.Maps (has size Canon CanonK Tidy IsMap KeysOf Keyed Merged)
theorem szA : StoSz sA := sz_put rfl (by decide) (by decide) (by decide) (by decide) (by decide)
theorem szB : StoSz sB := sz_get rfl (by decide) (by decide) (by decide) (by decide)
theorem szC : StoSz sC := sz_get rfl (by decide) (by decide) (by decide) (by decide)
theorem szD : StoSz sD := sz_put rfl (by decide) (by decide) (by decide) (by decide) (by decide)
theorem vd_eq4 (w : World) : (binOp .eql 72 (.agg #[.bool false, .int .i64 1, .int .u8 4]) (.agg #[.bool false, .int .i64 1, .int .u8 4])).run Tryz.prog w = .ok (.bool true) w := by kernel_rfl
theorem vd_eq1 (w : World) : (binOp .eql 72 (.agg #[.bool false, .int .i64 1, .int .u8 1]) (.agg #[.bool false, .int .i64 1, .int .u8 1])).run Tryz.prog w = .ok (.bool true) w := by kernel_rfl
set_option maxRecDepth 100000 in
set_option maxHeartbeats 8000000 in
theorem law_alive (w : World) (hm : MX w) : Calls Tryz.prog 29 #[] w fun e w' => e = .returned (.bool true) ∧ Below w.heap.size w w' := by
  have HM := Lib.hid hm; clear hm
  have hzs := zeroSto
  have hPut := Lib.hid (law_put tA tX w)
  go_enter Tryz.func29, Tryz.ntmps29
  go_wp2_with fail
  refine hPut.out.mono ?_
  rintro e w1 ⟨g1, rfl, hg1, hO1, hb1⟩
  have HB1 := Lib.hid hb1
  have Hg1O := Lib.hid hO1
  clear hO1 hb1 hg1 hPut
  unfold calVal putL
  go_upto_region 2 with (first
    | (refine wpl_build_s rfl _ rfl ⟨nilV, .slice (some ⟨g1, 0, none⟩) 1 1, nilV, .slice (some ⟨w1.heap.size, 0, none⟩) 1 1, nilV⟩ sA (by kernel_rfl) ?_)
    | (refine wpl_store_stN rfl (.tmp 1) (.tmp 14) rfl (w1.heap.size + 1) (by simp) rfl (f := ⟨nilV, .slice (some ⟨g1, 0, none⟩) 1 1, nilV, .slice (some ⟨w1.heap.size, 0, none⟩) 1 1, nilV⟩) (s := sA) rfl rfl (sto_one5 rfl rfl rfl rfl rfl) ?_)
    | fail)
  refine wp_abs (F := fun W => (∃ f, BoxS (w1.heap.size + 1) f sA W) ∧ Below w.heap.size w W) ⟨⟨⟨nilV, .slice (some ⟨g1, 0, none⟩) 1 1, nilV, .slice (some ⟨w1.heap.size, 0, none⟩) 1 1, nilV⟩, ?_⟩, ?_⟩ ?_
  · have hb : Below w1.heap.size w1 (w1.alloc (.cells #[.int .u64 1] 43)) := (Below.refl _ _).alloc (Nat.le_refl _) _
    have := BoxS.new (w := w1.alloc (.cells #[.int .u64 1] 43)) (f := ⟨nilV, .slice (some ⟨g1, 0, none⟩) 1 1, nilV, .slice (some ⟨w1.heap.size, 0, none⟩) 1 1, nilV⟩) (s := sA) ⟨⟨IsRds.nil _, IsEdts.one (Hg1O.out.step hb) 1⟩, IsGots.nil _, IsNums.new1 _ _ _, IsStrs.nil _⟩
    simpa using this
  · exact ((HB1.out.alloc HB1.out.size _).alloc (by have := HB1.out.size; simp; omega) _)
  rintro W1 ⟨⟨f1, hX1⟩, hb1⟩
  have HX1 := Lib.hid hX1; have Hb1 := Lib.hid hb1
  clear hX1 hb1 Hg1O
  obtain ⟨n1, hn1⟩ : ∃ n1, w1.heap.size + 1 = n1 := ⟨_, rfl⟩
  rw [hn1] at HX1 ⊢
  have hGet := Lib.hid (law_get tA W1)
  go_wp2_with fail
  refine hGet.out.mono ?_
  rintro e w2 ⟨vR, rfl, hR2, hb2⟩
  have HX2 := Lib.hid (HX1.out.step hb2); have HR2 := Lib.hid hR2; have HB2 := Lib.hid (Hb1.out.trans (hb2.mono Hb1.out.size))
  clear hR2 hb2 hGet HX1 Hb1
  unfold calVal getL
  go_upto_region 3 with (first
    | (refine wpl_build_s rfl _ rfl ⟨vR, nilV, .slice (some ⟨w2.heap.size, 0, none⟩) 1 1, nilV, nilV⟩ sB (by kernel_rfl) ?_)
    | (refine wpl_store_stN rfl (.tmp 2) (.tmp 21) rfl (w2.heap.size + 1) (by simp) rfl (f := ⟨vR, nilV, .slice (some ⟨w2.heap.size, 0, none⟩) 1 1, nilV, nilV⟩) (s := sB) rfl rfl (sto_one5 (by obtain ⟨_, _, h, _⟩ := HR2.out; rw [h]; rfl) rfl rfl rfl rfl) ?_)
    | fail)
  refine wp_abs (F := fun W => BoxS n1 f1 sA W ∧ (∃ f, BoxS (w2.heap.size + 1) f sB W) ∧ Below w.heap.size w W) ⟨?_, ⟨⟨vR, nilV, .slice (some ⟨w2.heap.size, 0, none⟩) 1 1, nilV, nilV⟩, ?_⟩, ?_⟩ ?_
  · exact HX2.out.step (((Below.refl _ _).alloc (Nat.le_refl _) _).alloc (by simp) _)
  · have hb : Below w2.heap.size w2 (w2.alloc (.cells #[.int .u64 1, .int .u8 1, .string tX, .int .i64 0] 97)) := (Below.refl _ _).alloc (Nat.le_refl _) _
    have := BoxS.new (w := w2.alloc (.cells #[.int .u64 1, .int .u8 1, .string tX, .int .i64 0] 97)) (f := ⟨vR, nilV, .slice (some ⟨w2.heap.size, 0, none⟩) 1 1, nilV, nilV⟩) (s := sB) ⟨⟨HR2.out.below hb (Nat.le_refl _), ⟨none, 0, rfl, Or.inl rfl⟩⟩, IsGots.new1 _ ⟨⟨1, 1, tX⟩, 0⟩ _, ⟨none, 0, rfl, Or.inl rfl⟩, IsStrs.nil _⟩
    rw [show (w2.alloc (.cells #[.int .u64 1, .int .u8 1, .string tX, .int .i64 0] 97)).heap.size = w2.heap.size + 1 by simp] at this
    exact this
  · exact ((HB2.out.alloc HB2.out.size _).alloc (by have := HB2.out.size; simp; omega) _)
  rintro W2 ⟨hX1, ⟨f2, hX2⟩, hb2⟩
  have HA2 := Lib.hid hX1; have HC2 := Lib.hid hX2; have Hb2 := Lib.hid hb2
  clear hX1 hX2 hb2 HX2 HR2 HB2
  obtain ⟨n2, hn2⟩ : ∃ n2, w2.heap.size + 1 = n2 := ⟨_, rfl⟩
  rw [hn2] at HC2 ⊢
  go_wp2_with (first
    | (refine wpl_load_sto rfl (.tmp 1) rfl rfl HA2.out.at ?_)
    | (refine wpl_load_sto rfl (.tmp 2) rfl rfl HC2.out.at ?_)
    | (refine wpl_build_sto2 rfl (.tmp 22) (.tmp 23) rfl rfl rfl ?_)
    | fail)
  refine (check_two sA sB _ _ (IsStos.rowN W2 [(f1, sA), (f2, sB)] _ ?_) szA szB ?_).mono ?_
  · intro x hx
    simp only [List.mem_cons, List.not_mem_nil, or_false] at hx
    rcases hx with rfl | rfl
    · exact HA2.out.i
    · exact HC2.out.i
  · exact HM.out.below (Hb2.out.alloc Hb2.out.size _) (Nat.le_refl _)
  rintro e w3 ⟨rfl, hb3⟩
  have hb3' : Below W2.heap.size W2 w3 := ((Below.refl _ _).alloc (Nat.le_refl _) _).trans (hb3.mono (by simp))
  have HA3 := Lib.hid (HA2.out.step hb3'); have HC3 := Lib.hid (HC2.out.step hb3'); have HB3 := Lib.hid (Hb2.out.trans (hb3'.mono Hb2.out.size))
  clear HA2 HC2 Hb2 hb3 hb3'
  rw [check_AB]
  unfold vdVal
  go_upto_region 4 with fail
  refine wp_abs (F := fun W => BoxS n1 f1 sA W ∧ BoxS n2 f2 sB W ∧ One w3.heap.size #[.bool true, .int .i64 0, .int .u8 0] W ∧ Below w.heap.size w W) ?_ ?_
  · have hb : Below w3.heap.size w3 (w3.alloc (.cells #[.bool true, .int .i64 0, .int .u8 0] 72)) := (Below.refl _ _).alloc (Nat.le_refl _) _
    exact ⟨HA3.out.step hb, HC3.out.step hb, One.of _ _ _, HB3.out.alloc HB3.out.size _⟩
  rintro W3 ⟨hX1, hX2, hV3, hb3⟩
  have HA4 := Lib.hid hX1; have HC4 := Lib.hid hX2; have HV3 := Lib.hid hV3; have Hb3 := Lib.hid hb3
  clear hX1 hX2 hb3 hV3 HA3 HC3 HB3
  obtain ⟨n3, hn3⟩ : ∃ n3, w3.heap.size = n3 := ⟨_, rfl⟩
  rw [hn3] at HV3 ⊢
  go_upto_region 5 with (first
    | (refine wpl_load_sto rfl (.tmp 2) rfl rfl HC4.out.at ?_)
    | (refine wpl_store_stN rfl (.tmp 4) (.tmp 26) rfl W3.heap.size rfl rfl (f := f2) (s := sB) rfl rfl (five_one HC4.out.i) ?_)
    | fail)
  refine wp_abs (F := fun W => BoxS W3.heap.size f2 sB W ∧ Below W3.heap.size W3 W) ⟨BoxS.new HC4.out.i, (Below.refl _ _).alloc (Nat.le_refl _) _⟩ ?_
  rintro W4 ⟨hX4, hb4⟩
  have HX4 := Lib.hid hX4; have Hb4 := Lib.hid hb4
  clear hX4 hb4
  obtain ⟨n4, hn4⟩ : ∃ n4, W3.heap.size = n4 := ⟨_, rfl⟩
  rw [hn4] at HX4 ⊢
  have hO5 := HX4.out.o.step ((Below.refl _ _).alloc (Nat.le_refl _) (.cells #[.int .u64 0, .int .u8 0, .string ⟨#[]⟩, .int .i64 3] 97))
  have c15 := hO5.c 15; have c16 := hO5.c 16; have c17 := hO5.c 17
  have k15 := hO5.f 15; have k16 := hO5.f 16; have k17 := hO5.f 17
  simp [stoCells] at c15 c16 c17
  go_upto_region 6 with fail
  clear c15 c16 c17 k15 k16 k17
  refine wp_abs (F := fun W => (∃ f, BoxS n4 f sC W) ∧ Below W3.heap.size W3 W) ⟨⟨⟨f2.r, f2.e, .slice (some ⟨W4.heap.size, 0, none⟩) 1 1, nilV, nilV⟩, ?_⟩, ?_⟩ ?_
  · have hb : Below W4.heap.size W4 (W4.alloc (.cells #[.int .u64 0, .int .u8 0, .string ⟨#[]⟩, .int .i64 3] 97)) := (Below.refl _ _).alloc (Nat.le_refl _) _
    have hw : Below W3.heap.size W3 ((((W4.alloc (.cells #[.int .u64 0, .int .u8 0, .string ⟨#[]⟩, .int .i64 3] 97)).setCell ⟨n4, 15, none⟩ (.slice (some ⟨W4.heap.size, 0, none⟩) 1 1)).setCell ⟨n4, 16, none⟩ (.slice none 0 0)).setCell ⟨n4, 17, none⟩ (.slice none 0 0)) :=
      (((Hb4.out.alloc Hb4.out.size _).setCell (Nat.le_of_eq hn4) _).setCell (Nat.le_of_eq hn4) _).setCell (Nat.le_of_eq hn4) _
    refine ⟨((hO5.set (i := 15) (by show 15 < 18; decide) _).set (i := 16) (by simp; show 16 < 18; decide) _).set (i := 17) (by simp; show 17 < 18; decide) _, ⟨HC4.out.i.c.r.below hw (Nat.le_refl _), HC4.out.i.c.e.below hw (Nat.le_refl _)⟩, ?_, IsNums.none _, IsStrs.nil _⟩
    have hlt := HX4.out.o.lt
    exact IsGots.one (g := ⟨dV, 3⟩) ((((One.of W4 _ _).far (by show n4 ≠ _; omega) _).far (by show n4 ≠ _; omega) _).far (by show n4 ≠ _; omega) _)
  · exact (((Hb4.out.alloc Hb4.out.size _).setCell (Nat.le_of_eq hn4) _).setCell (Nat.le_of_eq hn4) _).setCell (Nat.le_of_eq hn4) _
  rintro W5 ⟨⟨f4, hX4⟩, hb5⟩
  have HA5 := Lib.hid (HA4.out.step hb5); have HC5 := Lib.hid (HC4.out.step hb5); have HD5 := Lib.hid hX4; have HV5 := Lib.hid (HV3.out.step hb5); have HB5 := Lib.hid (Hb3.out.trans (hb5.mono Hb3.out.size))
  clear hX4 hb5 HA4 HC4 HV3 Hb3 HX4 Hb4 hO5
  go_wp2_with (first
    | (refine wpl_load_sto rfl (.tmp 1) rfl rfl HA5.out.at ?_)
    | (refine wpl_load_sto rfl (.tmp 4) rfl rfl HD5.out.at ?_)
    | (refine wpl_build_sto2 rfl (.tmp 31) (.tmp 32) rfl rfl rfl ?_)
    | fail)
  refine (check_two sA sC _ _ (IsStos.rowN W5 [(f1, sA), (f4, sC)] _ ?_) szA szC ?_).mono ?_
  · intro x hx
    simp only [List.mem_cons, List.not_mem_nil, or_false] at hx
    rcases hx with rfl | rfl
    · exact HA5.out.i
    · exact HD5.out.i
  · exact HM.out.below (HB5.out.alloc HB5.out.size _) (Nat.le_refl _)
  rintro e w6 ⟨rfl, hb6⟩
  have hb6' : Below W5.heap.size W5 w6 := ((Below.refl _ _).alloc (Nat.le_refl _) _).trans (hb6.mono (by simp))
  have HA6 := Lib.hid (HA5.out.step hb6'); have HC6 := Lib.hid (HC5.out.step hb6'); have HV6 := Lib.hid (HV5.out.step hb6'); have HB6 := Lib.hid (HB5.out.trans (hb6'.mono HB5.out.size))
  clear HA5 HC5 HD5 HV5 HB5 hb6 hb6'
  rw [check_AC]
  unfold vdVal
  go_upto_region 7 with fail
  refine wp_abs (F := fun W => BoxS n1 f1 sA W ∧ BoxS n2 f2 sB W ∧ One n3 #[.bool true, .int .i64 0, .int .u8 0] W ∧ One w6.heap.size #[.bool false, .int .i64 1, .int .u8 4] W ∧ Below w.heap.size w W) ?_ ?_
  · have hb : Below w6.heap.size w6 (w6.alloc (.cells #[.bool false, .int .i64 1, .int .u8 4] 72)) := (Below.refl _ _).alloc (Nat.le_refl _) _
    exact ⟨HA6.out.step hb, HC6.out.step hb, HV6.out.step hb, One.of _ _ _, HB6.out.alloc HB6.out.size _⟩
  rintro W6 ⟨hX1, hX2, hV3, hV5, hb7⟩
  have HA7 := Lib.hid hX1; have HC7 := Lib.hid hX2; have HV7 := Lib.hid hV3; have HU7 := Lib.hid hV5; have HB7 := Lib.hid hb7
  clear hX1 hX2 hb7 hV3 hV5 HA6 HC6 HB6 HV6
  obtain ⟨n5, hn5⟩ : ∃ n5, w6.heap.size = n5 := ⟨_, rfl⟩
  rw [hn5] at HU7 ⊢
  go_upto_region 8 with (first
    | (refine wpl_load_sto rfl (.tmp 1) rfl rfl HA7.out.at ?_)
    | (refine wpl_store_stN rfl (.tmp 6) (.tmp 35) rfl W6.heap.size rfl rfl (f := f1) (s := sA) rfl rfl (five_one HA7.out.i) ?_)
    | fail)
  refine wp_abs (F := fun W => BoxS W6.heap.size f1 sA W ∧ Below W6.heap.size W6 W) ⟨BoxS.new HA7.out.i, (Below.refl _ _).alloc (Nat.le_refl _) _⟩ ?_
  rintro W7 ⟨hX6, hb8⟩
  have HX6 := Lib.hid hX6; have Hb8 := Lib.hid hb8
  clear hX6 hb8
  obtain ⟨n6, hn6⟩ : ∃ n6, W6.heap.size = n6 := ⟨_, rfl⟩
  rw [hn6] at HX6 ⊢
  have c13 := HX6.out.o.c 13; have k13 := HX6.out.o.f 13
  simp [stoCells] at c13
  go_upto_region 9 with fail
  clear c13 k13
  refine wp_abs (F := fun W => BoxS n6 f1 sD W ∧ Below W6.heap.size W6 W) ⟨?_, Hb8.out.setCell (Nat.le_of_eq hn6) _⟩ ?_
  · have hw := Hb8.out.setCell (p := ⟨n6, 13, none⟩) (Nat.le_of_eq hn6) (.int .i64 3)
    have hi := HA7.out.i.below hw (Nat.le_refl _)
    exact ⟨HX6.out.o.set (i := 13) (by show 13 < 18; decide) _, ⟨hi.c, hi.g, hi.n, hi.m⟩⟩
  rintro W8 ⟨hX6, hb9⟩
  have HA9 := Lib.hid (HA7.out.step hb9); have HC9 := Lib.hid (HC7.out.step hb9); have HD9 := Lib.hid hX6; have HV9 := Lib.hid (HV7.out.step hb9); have HU9 := Lib.hid (HU7.out.step hb9); have HB9 := Lib.hid (HB7.out.trans (hb9.mono HB7.out.size))
  clear hX6 hb9 HA7 HC7 HV7 HU7 HB7 HX6 Hb8
  go_wp2_with (first
    | (refine wpl_load_sto rfl (.tmp 6) rfl rfl HD9.out.at ?_)
    | (refine wpl_load_sto rfl (.tmp 2) rfl rfl HC9.out.at ?_)
    | (refine wpl_build_sto2 rfl (.tmp 37) (.tmp 38) rfl rfl rfl ?_)
    | fail)
  refine (check_two sD sB _ _ (IsStos.rowN W8 [(f1, sD), (f2, sB)] _ ?_) szD szB ?_).mono ?_
  · intro x hx
    simp only [List.mem_cons, List.not_mem_nil, or_false] at hx
    rcases hx with rfl | rfl
    · exact HD9.out.i
    · exact HC9.out.i
  · exact HM.out.below (HB9.out.alloc HB9.out.size _) (Nat.le_refl _)
  rintro e wA ⟨rfl, hbA⟩
  have hbA' : Below W8.heap.size W8 wA := ((Below.refl _ _).alloc (Nat.le_refl _) _).trans (hbA.mono (by simp))
  have HAA := Lib.hid (HA9.out.step hbA'); have HCA := Lib.hid (HC9.out.step hbA'); have HVA := Lib.hid (HV9.out.step hbA'); have HUA := Lib.hid (HU9.out.step hbA'); have HBA := Lib.hid (HB9.out.trans (hbA'.mono HB9.out.size))
  clear HA9 HC9 HD9 HV9 HU9 HB9 hbA hbA'
  rw [check_DB]
  unfold vdVal
  go_upto_region 10 with fail
  refine wp_abs (F := fun W => BoxS n1 f1 sA W ∧ BoxS n2 f2 sB W ∧ One n3 #[.bool true, .int .i64 0, .int .u8 0] W ∧ One n5 #[.bool false, .int .i64 1, .int .u8 4] W ∧ One wA.heap.size #[.bool false, .int .i64 1, .int .u8 1] W ∧ Below w.heap.size w W) ?_ ?_
  · have hb : Below wA.heap.size wA (wA.alloc (.cells #[.bool false, .int .i64 1, .int .u8 1] 72)) := (Below.refl _ _).alloc (Nat.le_refl _) _
    exact ⟨HAA.out.step hb, HCA.out.step hb, HVA.out.step hb, HUA.out.step hb, One.of _ _ _, HBA.out.alloc HBA.out.size _⟩
  rintro WA ⟨hX1, hX2, hV3, hV5, hV7, hbB⟩
  have HAB := Lib.hid hX1; have HCB := Lib.hid hX2; have HVB := Lib.hid hV3; have HUB := Lib.hid hV5; have HTB := Lib.hid hV7; have HBB := Lib.hid hbB
  clear hX1 hX2 hbB hV3 hV5 hV7 HAA HCA HVA HUA HBA
  obtain ⟨n7, hn7⟩ : ∃ n7, wA.heap.size = n7 := ⟨_, rfl⟩
  rw [hn7] at HTB ⊢
  have hoA := HAB.out.o.step ((Below.refl _ _).alloc (Nat.le_refl _) (.cells (stoFlat [(f1, sA), (f2, sB)]).toArray 87))
  have c11 := hoA.c 11; have c12 := hoA.c 12
  simp [stoCells] at c11 c12
  go_wp2_with (first
    | (refine wpl_load_sto rfl (.tmp 1) rfl rfl HAB.out.at ?_)
    | (refine wpl_load_sto rfl (.tmp 2) rfl rfl HCB.out.at ?_)
    | (refine wpl_build_sto2 rfl (.tmp 42) (.tmp 43) rfl rfl rfl ?_)
    | fail)
  have hwX : Below WA.heap.size WA ((WA.alloc (.cells (stoFlat [(f1, sA), (f2, sB)]).toArray 87)).alloc (.cells #[.int .u64 sA.life, .int .u64 sA.txn] 82)) := ((Below.refl _ _).alloc (Nat.le_refl _) _).alloc (by simp) _
  refine (model_behind [sA, sB] [(1, 1)] _ _ _ ((IsStos.rowN WA [(f1, sA), (f2, sB)] _ ?_).below ((Below.refl _ _).alloc (Nat.le_refl _) _) (Nat.le_refl _)) ⟨_, 1, rfl, Or.inr ⟨_, 0, rfl, ?_, ?_⟩⟩ (by decide) (by decide) (Nat.le_trans (idxO_le _ _) (by decide)) (StosSz.two szA szB) ?_ ?_ ?_).mono ?_
  · intro x hx
    simp only [List.mem_cons, List.not_mem_nil, or_false] at hx
    rcases hx with rfl | rfl
    · exact HAB.out.i
    · exact HCB.out.i
  · simp
  · intro i hi
    obtain rfl : i = 0 := by simpa using hi
    have h := One.of (WA.alloc (.cells (stoFlat [(f1, sA), (f2, sB)]).toArray 87)) #[.int .u64 sA.life, .int .u64 sA.txn] 82
    have h0 := h.c 0; have h1 := h.c 1
    rw [show (WA.alloc (.cells (stoFlat [(f1, sA), (f2, sB)]).toArray 87)).heap.size = WA.heap.size + 1 by simp] at h0 h1
    exact ⟨h0, h1⟩
  · intro x hx
    obtain rfl : x = (1, 1) := by simpa using hx
    exact ⟨by decide, by decide⟩
  · intro i hi
    have : i = 0 ∨ i = 1 := by have : i < 2 := hi; omega
    rcases this with rfl | rfl
    · exact ⟨by decide, by decide⟩
    · exact ⟨by decide, by decide⟩
  · exact HM.out.below (HBB.out.trans (hwX.mono HBB.out.size)) (Nat.le_refl _)
  rintro e wB ⟨vw, rfl, hrw, hbB⟩
  rw [all_AB]
  rw [some_AB, rows_A, rows_exM] at hrw
  have hbX : Below WA.heap.size WA wB := hwX.trans (hbB.mono hwX.size)
  obtain ⟨aw, cw, rfl, hrw⟩ := hrw
  rcases hrw with h | ⟨br, orr, rfl, hlt, hc⟩
  · cases h
  obtain ⟨hr0, _, _⟩ := hc 0 (by decide)
  have h3 := HVB.out.step hbX; have h5 := HUB.out.step hbX; have h7 := HTB.out.step hbX
  have hBZ := HBB.out.trans (hbX.mono HBB.out.size)
  have a30 := h3.c 0; have a50 := h5.c 0; have a51 := h5.c 1; have a52 := h5.c 2; have a70 := h7.c 0; have a71 := h7.c 1; have a72 := h7.c 2
  simp at a30 a50 a51 a52 a70 a71 a72 hr0
  have HZ := Lib.hid hBZ
  clear hBZ h3 h5 h7 hbX hbB hwX hc HAB HCB HVB HUB HTB HBB hlt c11 c12 hoA
  have hq4 := vd_eq4; have hq1 := vd_eq1
  go_upto_region 11 with fail
  go_wp2_with fail
  have hta : (tA.toList == [97]) = true := by kernel_rfl
  rw [hta]
  exact bodyPost_ret (v := .bool true) (by simp [results, Tryz.results29, go_sem]) rfl ⟨rfl, HZ.out⟩
end Go.Proofs.YtfbgnpfhjbiikaaGreatDoor
