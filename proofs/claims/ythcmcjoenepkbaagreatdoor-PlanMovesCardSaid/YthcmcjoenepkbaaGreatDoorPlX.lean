/- Contract: plan.Moves. Contract: ref28.Moves. Contract: the document's Of. -/
import Derived.Test.YthcmcjoenepkbaaGreatDoorPlF
import Derived.Test.YthcmcjoenepkbaaGreatDoorRfB
import Derived.Test.YthcmcjoenepkbaaGreatDoorR27
import Derived.Test.YthcmcjoenepkbaaGreatDoorPlV
namespace Go.Proofs.YthcmcjoenepkbaaGreatDoor
open Go Go.RowKit Go.Maps

/-- Is a path's place in a range? -/
def inRg (f t : Nat) (s : ByteArray) : Bool := decide (f ≤ Sh.hash (nb s)) && decide (Sh.hash (nb s) ≤ t)
def MovesG (f t : Nat) (l : List ByteArray) (w : World) (e : Ending) (w' : World) : Prop := ∃ u, e = .returned u ∧ IsNas w' u (l.filter (inRg f t)) ∧ Below w.heap.size w w'
theorem infoStr : (Tryz.prog.info? 9).map (fun i => (i.zero, i.size, i.bytes)) = some (some (.string ByteArray.empty), 1, 16) := by kernel_rfl

set_option maxRecDepth 100000 in
set_option maxHeartbeats 4000000 in
theorem plan_moves (f t : Nat) (l : List ByteArray) (v : Value) (w : World) (hv : IsNas w v l) (hl : l.length ≤ 1000) (hs : ∀ s ∈ l, s.size ≤ 100000) :
    Calls Tryz.prog 20 #[.agg #[.int .u64 (f : Int), .int .u64 (t : Int)], v] w (MovesG f t l w) := by
  obtain ⟨iS, hi0, hi1, hi2, hi3⟩ := info_parts infoStr
  obtain ⟨a, cp, rfl, hc⟩ := hv
  obtain ⟨n, hn⟩ : ∃ n, l.length = n := ⟨_, rfl⟩
  rw [hn] at hl hc ⊢
  have HC := Lib.hid hc; have HS := Lib.hid hs; have HN := Lib.hid hn; have HI0 := Lib.hid hi0; have HI1 := Lib.hid hi1; have HI2 := Lib.hid hi2; have HI3 := Lib.hid hi3
  obtain ⟨W0, hW0⟩ : ∃ W0, w.alloc (.cells #[.int .u64 (f : Int), .int .u64 (t : Int)] 27) = W0 := ⟨_, rfl⟩
  obtain ⟨hz0, hg0, hb0⟩ := alloc_keep hW0
  have HB0 := Lib.hid hb0; have HG0 := Lib.hid hg0; have HZ0 := Lib.hid hz0
  clear hc hs hn hi0 hi1 hi2 hi3 hz0 hg0 hb0
  go_enter Tryz.func20, Tryz.ntmps20
  go_wp2_with fail
  go_loopw [4, 10] (fun vl vi wr => ∃ (k j : Nat) (a c : _), k ≤ n ∧ vi = .int .i64 k ∧ vl = .slice a j c ∧ j ≤ k ∧ Hid (((l.take k).filter (inRg f t)).length = j) ∧ Hid (wr.ownsRow W0.heap.size 9 1 vl j (((l.take k).filter (inRg f t)).flatMap naC)) ∧ Hid (Below W0.heap.size W0 wr)) (fun _ vi _ => n - (intOf vi).toNat)
  case atStart => exact ⟨0, 0, none, 0, Nat.zero_le _, rfl, rfl, Nat.le_refl _, Lib.hid rfl, Lib.hid (World.ownsRow_nil _ _ _ _), Lib.hid (Below.refl _ _)⟩
  case round =>
    obtain ⟨k, j, aj, cj, hk, rfl, rfl, hjk, HLEN, HROW, HB⟩ := hrel
    have HBW : Hid (Below w.heap.size w wr) := Lib.hid (HB0.out.trans (HB.out.mono (by have := HZ0.out; omega)))
    by_cases hlt : k < n
    · have hkl : k < l.length := by rw [HN.out]; exact hlt
      obtain ⟨b, off, rfl, hbl, hcc⟩ := HC.out.resolve_left (fun h => by rw [h] at hkl; simp at hkl)
      have hx := hcc k hlt 0 _ rfl
      rw [Nat.mul_one, Nat.add_zero] at hx
      have hsz := HS.out (l.getD k ByteArray.empty) (by rw [List.getD_eq_getElem?_getD, List.getElem?_eq_getElem hkl]; exact List.getElem_mem _)
      have htk : l.take (k + 1) = l.take k ++ [l.getD k ByteArray.empty] := by
        rw [List.take_succ_eq_append_getElem hkl, List.getD_eq_getElem?_getD, List.getElem?_eq_getElem hkl]; rfl
      obtain ⟨s, hs⟩ : ∃ s, l.getD k ByteArray.empty = s := ⟨_, rfl⟩
      rw [hs] at hx hsz htk
      have x0 : wr.cell? ⟨b, off + k, none⟩ = some (.string s) := (HBW.out.cell (p := ⟨b, off + k, none⟩) hbl).trans hx
      have HH := Lib.hid (ring_Hash s hsz wr)
      have hin : inRg f t s = (decide (f ≤ Sh.hash (nb s)) && decide (Sh.hash (nb s) ≤ t)) := rfl
      obtain ⟨h, hh⟩ : ∃ h, Sh.hash (nb s) = h := ⟨_, rfl⟩
      rw [hh] at HH hin
      have HIN := Lib.hid hin; have HTK := Lib.hid htk
      have hki : (k : Int) < (n : Int) := by omega
      clear hkl hcc hx hsz htk hs hin hh
      go_wp2_with fail
      refine HH.out.mono ?_
      rintro e w1 ⟨rfl, hb1⟩
      have HB1 := Lib.hid (HB.out.trans (hb1.mono HB.out.size)); have HBR := Lib.hid hb1
      have hcb : w1.heap[w.heap.size]? = some (.cells #[.int .u64 (f : Int), .int .u64 (t : Int)] 27 (0, 0)) := (HB1.out.block _ (Array.getElem?_eq_some_iff.1 HG0.out).1).trans HG0.out
      have y0 : w1.cell? ⟨w.heap.size, 0, none⟩ = some (.int .u64 (f : Int)) := cell_of hcb 0
      have y1 : w1.cell? ⟨w.heap.size, 1, none⟩ = some (.int .u64 (t : Int)) := cell_of hcb 1
      have hj1 : j ≤ 1000 := by omega
      have HR1 := Lib.hid (ownBelow HROW.out hb1)
      clear hb1 hcb HROW
      by_cases hf : f ≤ h
      · have hfi : (f : Int) ≤ (h : Int) := by omega
        by_cases ht : h ≤ t
        · have hti : (h : Int) ≤ (t : Int) := by omega
          have HX : Hid ((l.take (k + 1)).filter (inRg f t) = (l.take k).filter (inRg f t) ++ [s]) := Lib.hid (by
            rw [HTK.out, List.filter_append, List.filter_cons_of_pos (by rw [HIN.out, decide_eq_true hf, decide_eq_true ht]; rfl)]; rfl)
          clear hf ht
          go_wp2_with (at_builtin; refine wpList_append_lies _ rfl (.tmp 26) (.tmp 28) 49 rfl W0.heap.size 9 iS (.string ByteArray.empty) 1 16 Tryz.underlying49 HI0.out HI1.out HI2.out HI3.out rfl (by decide) _ j (((l.take k).filter (inRg f t)).flatMap naC) rfl (HR1.out.alloc _) ⟨w1.heap.size, 0, none⟩ 1 1 [.string s] rfl rfl (World.news_of_block (MapKept.heap_alloc _ _).1) (by intro u hu; rcases List.mem_singleton.1 hu with rfl; rfl) (by decide) (by unfold maxLen; omega) (by omega) (by have := HB1.out.size; simp; omega) (w1.heap.size + 1) (by simp) ?goM; intro g8 cp8 w8 hown8 hg8 hat8 hlt8; have HO8 := Lib.hid hown8; have HB8 : Hid (Below W0.heap.size W0 w8) := Lib.hid ((HB1.out.alloc HB1.out.size _).trans ((grown_but hg8).below (fun k hk => own_above2 HR1.out k hk) (by have := HB1.out.size; simp; omega))); clear hown8 hg8 hat8 hlt8)
          go_roundw
          case rel => exact ⟨k + 1, j + 1, _, _, by omega, by go_num, rfl, by omega, Lib.hid (by rw [HX.out, List.length_append, HLEN.out]; rfl), Lib.hid (by rw [HX.out, flat_snoc]; exact HO8.out), HB8⟩
          case measure => simp [intOf]; omega
        · have hti : ¬ (h : Int) ≤ (t : Int) := by omega
          have HX : Hid ((l.take (k + 1)).filter (inRg f t) = (l.take k).filter (inRg f t)) := Lib.hid (by
            rw [HTK.out, List.filter_append, List.filter_cons_of_neg (by rw [HIN.out, decide_eq_false ht]; simp), List.filter_nil, List.append_nil])
          clear hf ht
          go_wp2_with fail
          go_roundw
          case rel => exact ⟨k + 1, j, _, _, by omega, by go_num, rfl, by omega, Lib.hid (by rw [HX.out]; exact HLEN.out), Lib.hid (by rw [HX.out]; exact HR1.out), HB1⟩
          case measure => simp [intOf]; omega
      · have hfi : ¬ (f : Int) ≤ (h : Int) := by omega
        have HX : Hid ((l.take (k + 1)).filter (inRg f t) = (l.take k).filter (inRg f t)) := Lib.hid (by
          rw [HTK.out, List.filter_append, List.filter_cons_of_neg (by rw [HIN.out, decide_eq_false hf]; simp), List.filter_nil, List.append_nil])
        clear hf
        go_wp2_with fail
        go_roundw
        case rel => exact ⟨k + 1, j, _, _, by omega, by go_num, rfl, by omega, Lib.hid (by rw [HX.out]; exact HLEN.out), Lib.hid (by rw [HX.out]; exact HR1.out), HB1⟩
        case measure => simp [intOf]; omega
    · have hki : ¬ (k : Int) < (n : Int) := by omega
      have hkn : k = n := by omega
      have HF : Hid (IsNas wr (.slice aj j cj) (l.filter (inRg f t))) := Lib.hid (by
        have h := HROW.out; have h2 := HLEN.out
        rw [List.take_of_length_le (by rw [HN.out]; omega)] at h h2
        rw [← h2] at h ⊢
        exact IsL.own naC_len (by decide) _ h)
      clear hkn
      go_wp2_with fail
      go_ret
      exact ⟨_, rfl, HF.out, HBW.out⟩
end Go.Proofs.YthcmcjoenepkbaaGreatDoor

namespace Go.Proofs.YthcmcjoenepkbaaGreatDoor
open Go Go.RowKit Go.Maps

set_option maxRecDepth 100000 in
set_option maxHeartbeats 4000000 in
theorem ref28_moves (f t : Nat) (l : List ByteArray) (v : Value) (w : World) (hv : IsNas w v l) (hl : l.length ≤ 1000) (hs : ∀ s ∈ l, s.size ≤ 100000) :
    Calls Tryz.prog 21 #[.agg #[.int .u64 (f : Int), .int .u64 (t : Int)], v] w (MovesG f t l w) := by
  obtain ⟨iS, hi0, hi1, hi2, hi3⟩ := info_parts infoStr
  obtain ⟨a, cp, rfl, hc⟩ := hv
  obtain ⟨n, hn⟩ : ∃ n, l.length = n := ⟨_, rfl⟩
  rw [hn] at hl hc ⊢
  have HC := Lib.hid hc; have HS := Lib.hid hs; have HN := Lib.hid hn; have HI0 := Lib.hid hi0; have HI1 := Lib.hid hi1; have HI2 := Lib.hid hi2; have HI3 := Lib.hid hi3
  obtain ⟨W0, hW0⟩ : ∃ W0, w.alloc (.cells #[.int .u64 (f : Int), .int .u64 (t : Int)] 27) = W0 := ⟨_, rfl⟩
  obtain ⟨hz0, hg0, hb0⟩ := alloc_keep hW0
  have HB0 := Lib.hid hb0; have HG0 := Lib.hid hg0; have HZ0 := Lib.hid hz0
  clear hc hs hn hi0 hi1 hi2 hi3 hz0 hg0 hb0
  go_enter Tryz.func21, Tryz.ntmps21
  go_wp2_with fail
  go_loopw [5, 6] (fun vl vi wr => ∃ (k j : Nat) (a c : _), k ≤ n ∧ vi = .int .i64 k ∧ vl = .slice a j c ∧ j ≤ k ∧ Hid (((l.take k).filter (inRg f t)).length = j) ∧ Hid (wr.ownsRow W0.heap.size 9 1 vl j (((l.take k).filter (inRg f t)).flatMap naC)) ∧ Hid (Below W0.heap.size W0 wr)) (fun _ vi _ => n - (intOf vi).toNat)
  case atStart => exact ⟨0, 0, none, 0, Nat.zero_le _, rfl, rfl, Nat.le_refl _, Lib.hid rfl, Lib.hid (World.ownsRow_nil _ _ _ _), Lib.hid (Below.refl _ _)⟩
  case round =>
    obtain ⟨k, j, aj, cj, hk, rfl, rfl, hjk, HLEN, HROW, HB⟩ := hrel
    have HBW : Hid (Below w.heap.size w wr) := Lib.hid (HB0.out.trans (HB.out.mono (by have := HZ0.out; omega)))
    by_cases hlt : k < n
    · have hkl : k < l.length := by rw [HN.out]; exact hlt
      obtain ⟨b, off, rfl, hbl, hcc⟩ := HC.out.resolve_left (fun h => by rw [h] at hkl; simp at hkl)
      have hx := hcc k hlt 0 _ rfl
      rw [Nat.mul_one, Nat.add_zero] at hx
      have hsz := HS.out (l.getD k ByteArray.empty) (by rw [List.getD_eq_getElem?_getD, List.getElem?_eq_getElem hkl]; exact List.getElem_mem _)
      have htk : l.take (k + 1) = l.take k ++ [l.getD k ByteArray.empty] := by
        rw [List.take_succ_eq_append_getElem hkl, List.getD_eq_getElem?_getD, List.getElem?_eq_getElem hkl]; rfl
      obtain ⟨s, hs⟩ : ∃ s, l.getD k ByteArray.empty = s := ⟨_, rfl⟩
      rw [hs] at hx hsz htk
      have x0 : wr.cell? ⟨b, off + k, none⟩ = some (.string s) := (HBW.out.cell (p := ⟨b, off + k, none⟩) hbl).trans hx
      have HH := Lib.hid (ref26_Hash s hsz wr)
      have hin : inRg f t s = (decide (f ≤ Sh.hash (nb s)) && decide (Sh.hash (nb s) ≤ t)) := rfl
      obtain ⟨h, hh⟩ : ∃ h, Sh.hash (nb s) = h := ⟨_, rfl⟩
      rw [hh] at HH hin
      have HIN := Lib.hid hin; have HTK := Lib.hid htk
      have hki : (k : Int) < (n : Int) := by omega
      clear hkl hcc hx hsz htk hs hin hh
      go_wp2_with fail
      refine HH.out.mono ?_
      rintro e w1 ⟨rfl, hb1⟩
      have HB1 := Lib.hid (HB.out.trans (hb1.mono HB.out.size)); have HBR := Lib.hid hb1
      have hcb : w1.heap[w.heap.size]? = some (.cells #[.int .u64 (f : Int), .int .u64 (t : Int)] 27 (0, 0)) := (HB1.out.block _ (Array.getElem?_eq_some_iff.1 HG0.out).1).trans HG0.out
      have y0 : w1.cell? ⟨w.heap.size, 0, none⟩ = some (.int .u64 (f : Int)) := cell_of hcb 0
      have y1 : w1.cell? ⟨w.heap.size, 1, none⟩ = some (.int .u64 (t : Int)) := cell_of hcb 1
      have hj1 : j ≤ 1000 := by omega
      have HR1 := Lib.hid (ownBelow HROW.out hb1)
      have x1 : w1.cell? ⟨b, off + k, none⟩ = some (.string s) := (HBR.out.cell (p := ⟨b, off + k, none⟩) (by have := HBW.out.size; dsimp only; omega)).trans x0
      clear hb1 hcb HROW
      by_cases hf : f ≤ h
      · have hfi : (f : Int) ≤ (h : Int) := by omega
        by_cases ht : h ≤ t
        · have hti : (h : Int) ≤ (t : Int) := by omega
          have HX : Hid ((l.take (k + 1)).filter (inRg f t) = (l.take k).filter (inRg f t) ++ [s]) := Lib.hid (by
            rw [HTK.out, List.filter_append, List.filter_cons_of_pos (by rw [HIN.out, decide_eq_true hf, decide_eq_true ht]; rfl)]; rfl)
          clear hf ht
          go_wp2_with (at_builtin; refine wpList_append_lies _ rfl (.tmp 29) (.tmp 34) 49 rfl W0.heap.size 9 iS (.string ByteArray.empty) 1 16 Tryz.underlying49 HI0.out HI1.out HI2.out HI3.out rfl (by decide) _ j (((l.take k).filter (inRg f t)).flatMap naC) rfl (HR1.out.alloc _) ⟨w1.heap.size, 0, none⟩ 1 1 [.string s] rfl rfl (World.news_of_block (MapKept.heap_alloc _ _).1) (by intro u hu; rcases List.mem_singleton.1 hu with rfl; rfl) (by decide) (by unfold maxLen; omega) (by omega) (by have := HB1.out.size; simp; omega) (w1.heap.size + 1) (by simp) ?goN; intro g8 cp8 w8 hown8 hg8 hat8 hlt8; have HO8 := Lib.hid hown8; have HB8 : Hid (Below W0.heap.size W0 w8) := Lib.hid ((HB1.out.alloc HB1.out.size _).trans ((grown_but hg8).below (fun k hk => own_above2 HR1.out k hk) (by have := HB1.out.size; simp; omega))); clear hown8 hg8 hat8 hlt8)
          go_roundw
          case rel => exact ⟨k + 1, j + 1, _, _, by omega, by go_num, rfl, by omega, Lib.hid (by rw [HX.out, List.length_append, HLEN.out]; rfl), Lib.hid (by rw [HX.out, flat_snoc]; exact HO8.out), HB8⟩
          case measure => simp [intOf]; omega
        · have hti : ¬ (h : Int) ≤ (t : Int) := by omega
          have HX : Hid ((l.take (k + 1)).filter (inRg f t) = (l.take k).filter (inRg f t)) := Lib.hid (by
            rw [HTK.out, List.filter_append, List.filter_cons_of_neg (by rw [HIN.out, decide_eq_false ht]; simp), List.filter_nil, List.append_nil])
          clear hf ht
          go_wp2_with fail
          go_roundw
          case rel => exact ⟨k + 1, j, _, _, by omega, by go_num, rfl, by omega, Lib.hid (by rw [HX.out]; exact HLEN.out), Lib.hid (by rw [HX.out]; exact HR1.out), HB1⟩
          case measure => simp [intOf]; omega
      · have hfi : ¬ (f : Int) ≤ (h : Int) := by omega
        have HX : Hid ((l.take (k + 1)).filter (inRg f t) = (l.take k).filter (inRg f t)) := Lib.hid (by
          rw [HTK.out, List.filter_append, List.filter_cons_of_neg (by rw [HIN.out, decide_eq_false hf]; simp), List.filter_nil, List.append_nil])
        clear hf
        go_wp2_with fail
        go_roundw
        case rel => exact ⟨k + 1, j, _, _, by omega, by go_num, rfl, by omega, Lib.hid (by rw [HX.out]; exact HLEN.out), Lib.hid (by rw [HX.out]; exact HR1.out), HB1⟩
        case measure => simp [intOf]; omega
    · have hki : ¬ (k : Int) < (n : Int) := by omega
      have hkn : k = n := by omega
      have HF : Hid (IsNas wr (.slice aj j cj) (l.filter (inRg f t))) := Lib.hid (by
        have h := HROW.out; have h2 := HLEN.out
        rw [List.take_of_length_le (by rw [HN.out]; omega)] at h h2
        rw [← h2] at h ⊢
        exact IsL.own naC_len (by decide) _ h)
      clear hkn
      go_wp2_with fail
      go_ret
      exact ⟨_, rfl, HF.out, HBW.out⟩
end Go.Proofs.YthcmcjoenepkbaaGreatDoor

namespace Go.Proofs.YthcmcjoenepkbaaGreatDoor
open Go Go.RowKit Go.Maps

set_option maxHeartbeats 1000000 in
theorem d27_Of (m e : Nat) (sp : List (Nat × Nat)) (s : ByteArray) (hs : s.size ≤ 100000) (w : World) (hD : DocAt w m e sp) (hl : sp.length ≤ 10000) (O : Nat → Nat) (hS : SpI O sp M64) :
    Calls Tryz.prog 23 #[.pointer (some ⟨m, 0, none⟩), .string s] w fun en w' => en = .returned (.int .u32 (ownP O s : Nat)) ∧ Below w.heap.size w w' := by
  have HH := Lib.hid (ref26_Hash s hs w)
  have HO := Lib.hid (fun (w' : World) (h : Below w.heap.size w w') => d27_Owner m e (Sh.hash (nb s)) sp w' (hD.below h) hl)
  rw [lastO_law hS (hash_lt _)] at HO
  unfold ownP
  clear hs hD hl hS
  go_enter Tryz.func23, Tryz.ntmps23
  go_wp2_with fail
  refine HH.out.mono ?_
  rintro en w1 ⟨rfl, hb1⟩
  have HB1 := Lib.hid hb1; clear hb1
  go_wp2_with fail
  refine (HO.out w1 HB1.out).mono ?_
  rintro en w2 ⟨rfl, rfl⟩
  go_wp2_with fail
  go_ret
  exact ⟨rfl, HB1.out⟩
end Go.Proofs.YthcmcjoenepkbaaGreatDoor
