/- Contract: scriniumlaw18.copied. -/
import Derived.Test.YtbmmabpglkojkaaDoorOpenR
namespace Go.Proofs.YtbmmabpglkojkaaDoor
open Go Go.RowKit

theorem run_append_empty (a : Option Addr) (c : Nat) (ty : TypeId) (w : World) : (Builtin.append_ #[60, 60] ty #[.slice none 0 0, .slice a 0 c]).run Tryd.prog w = .ok (.slice none 0 0) w := by
  obtain ⟨j0, hj, hy0, hy1, hy2⟩ := info_parts infoVer
  cases a <;> simp [Builtin.append_, run_underlying Tryd.underlying60, sizeOf, typeInfo, hj, Builtin.lenOf, Builtin.firstCells, loadCells, loadCellsFrom]
theorem wpList_append_empty {w : World} {ops : Array Oper} {rest : List Oper} {o : Oper} {a : Act} {Q : Exit → Act → World → Prop} (hgd : o.guard = none) (s x : Operand)
    (ho : o.op = .call { callee := .builtin .append, args := #[s, x], argTypes := #[60, 60] })
    (hs : a.eval s = .slice none 0 0) (ax : Option Addr) (c : Nat) (hx : a.eval x = .slice ax 0 c)
    (h : wpList Tryd.prog ops Q rest (a.put o.dst (.slice none 0 0)) w) : wpList Tryd.prog ops Q (o :: rest) a w := by
  refine wpList_plain hgd fun K hK => ?_
  have hrun := run_append_empty ax c o.type w
  unfold Oper.wp execOp
  simp only [ho, resolve, invoke, builtin, Sem.run_bind, Sem.run_pure, Result.andThen_ok, List.map_toArray, List.map_cons, List.map_nil, hs, hx, hrun]
  exact hK _ _ h
set_option maxRecDepth 100000 in
set_option maxHeartbeats 2000000 in
theorem law_copied (l : List (ByteArray × Cel)) (v : Value) (w : World) (hv : IsRows w v l) (hl : l.length ≤ 1073741824) (hc : ∀ i, i < l.length → (l.getD i dR).2.l.length * 32 ≤ 140737488355328) :
    Calls Tryd.prog 14 #[v] w fun e w' => ∃ v', e = .returned v' ∧ IsRows w' v' l ∧ Below w.heap.size w w' := by
  obtain ⟨a, cap, rfl, hcc⟩ := hv
  have HC := Lib.hid hcc; have HL := Lib.hid hc; clear hcc hc
  obtain ⟨i0, hi, hz0, hz1, hz2⟩ := info_parts infoRow
  obtain ⟨j0, hj, hy0, hy1, hy2⟩ := info_parts infoVer
  go_enter Tryd.func14, Tryd.ntmps14
  go_wp2_with fail
  go_loopw [3, 4] (fun s3 i wr => ∃ (k : Nat) (T : List ((ByteArray × Cel) × Value)), k ≤ l.length ∧ i = .int .i64 k ∧ (∃ a c, s3 = .slice a T.length c) ∧ Hid (T.map (·.1) = l.take k) ∧ Hid (T.length = k) ∧ Hid (wr.ownsRow w.heap.size 64 3 s3 T.length (rowCells T)) ∧ Hid (RowsOff wr T s3.ownBlock) ∧ Hid (Below w.heap.size w wr)) (fun _ i _ => l.length - (intOf i).toNat)
  case atStart => exact ⟨0, [], Nat.zero_le _, rfl, ⟨none, 0, rfl⟩, Lib.hid rfl, Lib.hid rfl, Lib.hid (World.ownsRow_nil _ _ _ _), Lib.hid (fun x hx => by cases hx), Lib.hid (Below.refl _ _)⟩
  case round =>
    obtain ⟨k, T, hk, rfl, ⟨a2, c2', rfl⟩, hmap, hTk, hrow, hoff, hbw⟩ := hrel
    by_cases hlt : k < l.length
    · rcases HC.out with hn | ⟨b, off, rfl, hbl, hcc⟩
      · subst hn; simp at hlt
      have hltI : (k : Int) < (l.length : Int) := by omega
      obtain ⟨g0, g1, s, g2, hs⟩ := hcc k hlt
      have e0 := (hbw.out.cell (p := ⟨b, off + k * 3, none⟩) hbl).trans g0
      have e1 := (hbw.out.cell (p := ⟨b, off + k * 3 + 1, none⟩) hbl).trans g1
      have e2 := (hbw.out.cell (p := ⟨b, off + k * 3 + 2, none⟩) hbl).trans g2
      have hs' := hs.below hbw.out (Nat.le_refl _)
      have hcl := HL.out k hlt
      have htake : l.take (k + 1) = l.take k ++ [l.getD k dR] := by
        rw [List.take_succ_eq_append_getElem hlt, List.getD_eq_getElem?_getD, List.getElem?_eq_getElem hlt]; rfl
      obtain ⟨x, hx⟩ : ∃ x, x = l.getD k dR := ⟨_, rfl⟩
      rw [← hx] at e0 e1 hs' hcl htake
      clear hx g0 g1 g2 hs hcc
      obtain ⟨p, ⟨last, L⟩⟩ := x
      simp only at e0 e1 hs' hcl
      obtain ⟨va, vc, rfl, hvs⟩ := hs'
      have Hvs := Lib.hid hvs; have Htake := Lib.hid htake; clear hvs htake
      have hTl : T.length ≤ 1073741824 := by have := hTk.out; omega
      go_upto_region 6 with fail
      refine wp_abs (F := fun W => One wr.heap.size #[.string p, .int .u64 last, .slice va L.length vc] W ∧ Below wr.heap.size wr W) ⟨One.of _ _ _, (Below.refl _ _).alloc (Nat.le_refl _) _⟩ ?_
      rintro WB ⟨hB, hbB⟩
      have y0 := hB.c 0; have y1 := hB.c 1; have y2 := hB.c 2
      have z2 := hB.f 2
      simp at y0 y1 y2
      have HB := Lib.hid hB; have HbB := Lib.hid hbB; clear hB hbB e0 e1 e2
      have hstep : ∀ (W2 : World) (v2 : Value), WB.grownBy W2 none → W2.ownsRow WB.heap.size 53 3 v2 L.length (flat L) → One wr.heap.size #[.string p, .int .u64 last, v2] (W2.setCell ⟨wr.heap.size, 2, none⟩ v2) ∧ IsVers (W2.setCell ⟨wr.heap.size, 2, none⟩ v2) v2 L ∧ (∀ kb, v2.ownBlock = some kb → wr.heap.size < kb) ∧ Below wr.heap.size wr (W2.setCell ⟨wr.heap.size, 2, none⟩ v2) := by
        intro W2 v2 hg ho
        have hb2 : Below WB.heap.size WB W2 := (Below.refl _ _).grown hg (Nat.le_refl _) (fun k hk => by cases hk)
        have hlt := HB.out.lt
        have hB2 := HB.out.step hb2
        refine ⟨hB2.set (i := 2) (by simp) v2, (IsVers.own ho).setFar (fun kb hkb => by have := ownAbove ho kb hkb; dsimp only; omega) _, fun kb hkb => by have := ownAbove ho kb hkb; omega, (HbB.out.trans (hb2.mono HbB.out.size)).setCell (by dsimp only; omega) _⟩
      have Hstep := Lib.hid hstep; clear hstep
      go_cut [] (fun wx => Hid (∃ v2, One wr.heap.size #[.string p, .int .u64 last, v2] wx ∧ IsVers wx v2 L ∧ (∀ kb, v2.ownBlock = some kb → wr.heap.size < kb) ∧ Below wr.heap.size wr wx))
      case first =>
        by_cases hL : L = []
        · subst hL
          simp only [List.length_nil] at y2
          go_wp2_with (first | (at_builtin; refine wpList_append_empty rfl _ _ rfl rfl va vc rfl ?_) | fail)
          go_meet
          case rel => exact Lib.hid ⟨_, Hstep.out WB (.slice none 0 0) ⟨rfl, rfl, rfl, Nat.le_refl _, fun _ _ _ => rfl⟩ (World.ownsRow_nil _ _ _ _)⟩
        · rcases Hvs.out with hn | ⟨bv, ov, rfl, hblv, hvv⟩
          · exact absurd hn hL
          have hnews : ∀ j u, (flat L)[j]? = some u → WB.cell? ((⟨bv, ov, none⟩ : Addr).add j) = some u := fun j u hu => by
            rw [addrAdd]; exact (HbB.out.cell (p := ⟨bv, ov + j, none⟩) hblv).trans (flat_cell hvv j u hu)
          have Hnews := Lib.hid hnews; clear hnews hvv
          go_wp2_with (first
            | (at_builtin; refine wpList_append_own _ rfl _ _ 60 rfl WB.heap.size 53 j0 (.agg #[.int .u64 0, .int .u8 0, .string ByteArray.empty]) 3 32 Tryd.underlying60 hj hy0 hy1 hy2 rfl (by decide) _ 0 [] rfl (World.ownsRow_nil _ _ _ _) ⟨bv, ov, none⟩ L.length vc (flat L) rfl (flat_length L) Hnews.out (flat_one L) (by unfold maxLen; omega) (by omega) (Nat.le_refl _) ?_; intro v2 W2 hown2 hg2 _; simp only [Nat.zero_add, List.nil_append] at hown2; obtain ⟨a9, c9, rfl⟩ := ownShape hown2; obtain ⟨hOne2, hIs2, hfr2, hbl2⟩ := Hstep.out W2 _ hg2 hown2; have y2 := ((HB.out.step ((Below.refl WB.heap.size WB).grown hg2 (Nat.le_refl _) (fun k hk => by cases hk))).c 2); have z2 := ((HB.out.step ((Below.refl WB.heap.size WB).grown hg2 (Nat.le_refl _) (fun k hk => by cases hk))).f 2); simp at y2; have HO2 := Lib.hid hOne2; have HI2 := Lib.hid hIs2; have HF2 := Lib.hid hfr2; have HBl2 := Lib.hid hbl2; clear hOne2 hIs2 hfr2 hbl2 hown2 hg2)
            | fail)
          go_meet
          case rel => exact Lib.hid ⟨_, HO2.out, HI2.out, HF2.out, HBl2.out⟩
      case rest =>
        obtain ⟨v2, hO, hI, hF, hB2⟩ := hcut.out
        have y0 := hO.c 0; have y1 := hO.c 1; have y2 := hO.c 2
        simp at y0 y1 y2
        have HI := Lib.hid hI
        obtain ⟨a4, c4, rfl, _⟩ := hI
        have HF := Lib.hid hF; have HB2 := Lib.hid hB2
        clear hcut hO hF hB2 z2
        go_wp2_with (first
          | (at_builtin; refine wpList_append_lies _ rfl (.tmp 22) (.tmp 24) 24 rfl w.heap.size 64 i0 (.agg #[.string ByteArray.empty, .int .u64 0, .slice none 0 0]) 3 48 Tryd.underlying24 hi hz0 hz1 hz2 rfl (by decide) _ T.length (rowCells T) rfl (ownBelow (ownBelow hrow.out HB2.out) ((Below.refl _ _).alloc (Nat.le_refl _) _)) ⟨wc.heap.size, 0, none⟩ 1 1 [.string p, .int .u64 last, .slice a4 L.length c4] rfl rfl (World.news_of_block (MapKept.heap_alloc _ _).1) (by intro u hu; simp only [List.mem_cons, List.mem_nil_iff, or_false] at hu; rcases hu with rfl | rfl | rfl <;> rfl) (by decide) (by unfold maxLen; omega) (by omega) ?hbase (wc.heap.size + 1) (by simp) ?go; (case hbase => have h1 := hbw.out.size; have h2 := HB2.out.size; simp; omega); intro g cp w8 hown8 hg8 hat hlt8)
          | fail)
        go_roundw
        case rel =>
          refine ⟨k + 1, T ++ [((p, ⟨last, L⟩), .slice a4 L.length c4)], by omega, by go_num, ⟨_, _, by rw [List.length_append]; rfl⟩, Lib.hid ?_, Lib.hid (by rw [List.length_append, hTk.out]; rfl), Lib.hid ?_, Lib.hid ?_, Lib.hid ?_⟩
          · rw [Htake.out, List.map_append, hmap.out]; rfl
          · rw [List.length_append, rowCells_append]; exact hown8
          · have hA : RowsOff (wc.alloc (.cells #[.string p, .int .u64 last, .slice a4 L.length c4] 64)) (T ++ [((p, ⟨last, L⟩), .slice a4 L.length c4)]) (Value.slice a2 T.length c2').ownBlock := by
              intro y hy
              rcases List.mem_append.1 hy with hy | hy
              · exact ((hoff.out.below HB2.out).below ((Below.refl _ _).alloc (Nat.le_refl _) _)) y hy
              · rcases List.mem_singleton.1 hy with rfl
                refine ⟨HI.out.below ((Below.refl _ _).alloc (Nat.le_refl _) _) (Nat.le_refl _), fun _ kb hkb e => ?_⟩
                have h1 := HF.out kb hkb
                have h2 : kb < wr.heap.size := by
                  rcases hrow.out.2 with ⟨hv, _⟩ | ⟨g', cp', cur, hv, hB, hg', _⟩
                  · rw [hv] at e; cases e
                  · rw [hv] at e; cases e; exact lt_of_block hg'
                omega
            refine hA.row hg8 ?_
            rcases hat with h | h
            · left; exact h.symm
            · right; show some g = some _; rw [h]; simp
          · have h1 : Below w.heap.size w wc := hbw.out.trans (HB2.out.mono hbw.out.size)
            exact (h1.alloc h1.size _).grown hg8 (h1.alloc h1.size _).size (fun k hk => ownAbove hrow.out k hk)
        case measure => simp [intOf]; omega
    · have hge : (l.length : Int) ≤ (k : Int) := by omega
      have Hkl : Hid (k = l.length) := Lib.hid (by omega)
      go_wp2_with fail
      go_ret
      refine ⟨_, rfl, ?_, hbw.out⟩
      have h1 := IsRows.own hrow.out hoff.out
      rw [hmap.out, Hkl.out, List.take_length] at h1
      exact h1
end Go.Proofs.YtbmmabpglkojkaaDoor
