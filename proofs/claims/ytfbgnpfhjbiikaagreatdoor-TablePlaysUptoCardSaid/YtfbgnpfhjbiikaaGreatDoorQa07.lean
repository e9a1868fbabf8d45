/- Contract: scriniumref18.with. Contract: scriniumref18.one. -/
import Derived.Test.YtfbgnpfhjbiikaaGreatDoorQa06
namespace Go.Proofs.YtfbgnpfhjbiikaaGreatDoor
open Go Go.RowKit
def CapV (v : Value) : Prop := ∀ a n c, v = .slice a n c → n ≤ c
theorem CapV.own {w : World} {B e n k : Nat} {v : Value} {xs : List Value} (h : w.ownsRow B e k v n xs) : CapV v := by
  intro a m c he
  rcases h.2 with ⟨hv, _⟩ | ⟨g, cap, cur, hv, _, _, hn, _⟩
  · rw [hv] at he; cases he; exact Nat.le_refl _
  · rw [hv] at he; cases he; exact hn
theorem RowsOff.app {w W w8 : World} {T : List (Rw × Value)} {s2 : Value} {x : Rw} {a4 : Option Addr} {c4 g : Nat} {e : TypeId} {o : Obj} (hoff : RowsOff W T s2.ownBlock) (hrow : W.ownsRow (w.heap.size + 1) e 3 s2 T.length (rowCells T)) (hx : IsVers w (.slice a4 x.2.l.length c4) x.2.l) (hb : Below w.heap.size w W)
    (hg8 : (W.alloc o).grownBy w8 s2.ownBlock) (hat : s2.ownBlock = some g ∨ g = W.heap.size + 1) : RowsOff w8 (T ++ [(x, .slice a4 x.2.l.length c4)]) (some g) := by
  have hA : RowsOff (W.alloc o) (T ++ [(x, .slice a4 x.2.l.length c4)]) s2.ownBlock := by
    intro y hy
    rcases List.mem_append.1 hy with hy | hy
    · exact (hoff.below ((Below.refl _ _).alloc (Nat.le_refl _) _)) y hy
    · rcases List.mem_singleton.1 hy with rfl
      refine ⟨(hx.below hb (Nat.le_refl _)).below ((Below.refl _ _).alloc (Nat.le_refl _) _) (Nat.le_refl _), fun hl kb hkb e => ?_⟩
      have h1 : kb < w.heap.size := hx.own_lt hl hkb
      have h2 := ownAbove hrow kb e
      omega
  refine hA.row hg8 ?_
  rcases hat with h | h
  · left; exact h.symm
  · right; rw [h]; simp

theorem wStep_of {r x : Rw} {s : List Rw × Bool} {m1 : List Rw} {d1 : Bool} (h : (m1, d1) = if s.2 = false ∧ ¬ pL x < pL r then (s.1 ++ [r], true) else s) : wStep r s x = (if x.1 ≠ r.1 then m1 ++ [x] else m1, d1) := by
  unfold wStep; simp only; rw [← h]
theorem One.grow2 {n : Nat} {C : Array Value} {W W' : World} {o : Option Nat} {ob : Obj} (h : One n C W) (hg : (W.alloc ob).grownBy W' o) (hne : ∀ k, o = some k → k ≠ n) : One n C W' := by
  have h1 := h.step ((Below.refl _ _).alloc (Nat.le_refl _) ob)
  refine ⟨Nat.lt_of_lt_of_le h1.lt hg.size, fun j => ?_, fun j => ?_⟩
  · exact (hg.cell_far ⟨n, j, none⟩ h1.lt (by intro e; exact hne n e.symm rfl)).trans (h1.c j)
  · exact (hg.frozen_far ⟨n, j, none⟩ h1.lt (by intro e; exact hne n e.symm rfl)).trans (h1.f j)

set_option maxRecDepth 100000 in
set_option maxHeartbeats 4000000 in
theorem ref18_with (l : List Rw) (v rv : Value) (r : Rw) (w : World) (hv : IsRows w v l) (hr : IsVers w rv r.2.l) (hl : l.length ≤ 1048576) :
    Calls Tryz.prog 74 #[v, .agg #[.string r.1, .int .u64 r.2.last, rv]] w fun e w' => ∃ v', e = .returned v' ∧ IsRows w' v' (withR l r) ∧ CapV v' ∧ Below w.heap.size w w' := by
  obtain ⟨a, cap, rfl, hc⟩ := hv
  have HC := Lib.hid hc; clear hc
  have HRV := Lib.hid hr
  obtain ⟨ra, rc, rfl, _⟩ := hr
  have HW : Hid (withR l r = if (withS r l).2 then (withS r l).1 else (withS r l).1 ++ [r]) := Lib.hid rfl
  generalize withR l r = out at HW
  obtain ⟨i0, hi, hz0, hz1, hz2⟩ := info_parts infoRow
  go_enter Tryz.func74, Tryz.ntmps74
  go_wp2_with fail
  have HB0 := Lib.hid ((Below.refl w.heap.size w).alloc (Nat.le_refl _) (.cells #[.string r.1, .int .u64 r.2.last, .slice ra r.2.l.length rc] 48))
  have HO0 := Lib.hid (One.of w #[.string r.1, .int .u64 r.2.last, .slice ra r.2.l.length rc] 48)
  obtain ⟨w0, hw0⟩ : ∃ w0, w.alloc (.cells #[.string r.1, .int .u64 r.2.last, .slice ra r.2.l.length rc] 48) = w0 := ⟨_, rfl⟩
  rw [hw0] at HB0 HO0 ⊢
  clear hw0
  go_loopw [5, 6, 7] (fun s5 s6 i wr => ∃ (k : Nat) (T : List (Rw × Value)) (dn : Bool), k ≤ l.length ∧ i = .int .i64 k ∧ s6 = .bool dn ∧ (∃ a c, s5 = .slice a T.length c) ∧ Hid ((T.map (·.1), dn) = withS r (l.take k)) ∧ Hid (T.length ≤ 2 * k) ∧ Hid (wr.ownsRow (w.heap.size + 1) 48 3 s5 T.length (rowCells T)) ∧ Hid (RowsOff wr T s5.ownBlock) ∧ Hid (One w.heap.size #[.string r.1, .int .u64 r.2.last, .slice ra r.2.l.length rc] wr) ∧ Hid (Below w.heap.size w wr)) (fun _ _ i _ => l.length - (intOf i).toNat)
  case atStart => exact ⟨0, [], false, Nat.zero_le _, rfl, rfl, ⟨none, 0, rfl⟩, Lib.hid rfl, Lib.hid (by simp), Lib.hid (World.ownsRow_nil _ _ _ _), Lib.hid (fun x hx => by cases hx), HO0, HB0⟩
  case round =>
    obtain ⟨k, T, dn, hk, rfl, rfl, ⟨a2, c2, rfl⟩, hmap, hTk, hrow, hoff, hone, hbw⟩ := hrel
    have hTl : T.length ≤ 2 * k := hTk.out
    by_cases hlt : k < l.length
    · rcases HC.out with hn | ⟨b, off, rfl, hbl, hcc⟩
      · subst hn; simp at hlt
      obtain ⟨g0, g1, s, g2, hs⟩ := hcc k hlt
      obtain ⟨x, hx⟩ : ∃ x, x = l.getD k dR := ⟨_, rfl⟩
      rw [← hx] at g0 g1 hs
      obtain ⟨va, vc, rfl, hvs⟩ := hs
      have HX0 : Hid (IsVers w (.slice va x.2.l.length vc) x.2.l) := Lib.hid ⟨va, vc, rfl, hvs⟩
      have HF := Lib.hid (fun (U : World) (h : Below w.heap.size w U) => (⟨(h.cell (p := ⟨b, off + k * 3, none⟩) hbl).trans g0, (h.cell (p := ⟨b, off + k * 3 + 1, none⟩) hbl).trans g1, (h.cell (p := ⟨b, off + k * 3 + 2, none⟩) hbl).trans g2⟩ : U.cell? ⟨b, off + k * 3, none⟩ = some (.string x.1) ∧ U.cell? ⟨b, off + k * 3 + 1, none⟩ = some (.int .u64 x.2.last) ∧ U.cell? ⟨b, off + k * 3 + 2, none⟩ = some (.slice va x.2.l.length vc)))
      have Hx := Lib.hid hx
      have hltI : (k : Int) < (l.length : Int) := by omega
      clear hx hcc g0 g1 g2 hvs
      obtain ⟨bb, hbb⟩ : ∃ bb, bb = (!dn && !decide (pL x < pL r)) := ⟨_, rfl⟩
      have HBB := Lib.hid hbb; clear hbb
      obtain ⟨f0, f1, f2⟩ := HF.out wr hbw.out
      have y0 := hone.out.c 0
      simp at y0
      go_upto_region 6 with fail
      go_cut [25] (fun v wx => v = .bool bb ∧ Hid (Below wr.heap.size wr wx))
      case first =>
        cases dn with
        | true =>
          go_quiet (fail)
          go_wp2_with fail
          go_meet
          case rel => exact ⟨by rw [HBB.out]; rfl, Lib.hid (belowDrewN _ _)⟩
        | false =>
          by_cases hl2 : pL x < pL r
          · have hB := lt_bytes (a := x.1) (b := r.1) hl2
            have HL2 : Hid (bb = false) := Lib.hid (by rw [HBB.out]; simp [hl2])
            clear hl2
            go_quiet (fail)
            go_wp2_with fail
            go_meet
            case rel => exact ⟨by rw [HL2.out], Lib.hid (belowDrewN _ _)⟩
          · have hB := nlt_bytes (a := x.1) (b := r.1) hl2
            have HL2 : Hid (bb = true) := Lib.hid (by rw [HBB.out]; simp [hl2])
            clear hl2
            go_quiet (fail)
            go_wp2_with fail
            go_meet
            case rel => exact ⟨by rw [HL2.out], Lib.hid (belowDrewN _ _)⟩
      case rest =>
        obtain ⟨rfl, HX⟩ := hcut
        obtain ⟨X, hX⟩ : ∃ X, X = wc := ⟨_, rfl⟩
        subst wc
        have HBX := Lib.hid (hbw.out.trans (HX.out.mono hbw.out.size))
        have HROX := Lib.hid (ownBelow hrow.out HX.out)
        have HOFX := Lib.hid (hoff.out.below HX.out)
        have HONX := Lib.hid (hone.out.step HX.out)
        clear f0 f1 f2 y0 hrow hoff hone hbw HX
        obtain ⟨f0, f1, f2⟩ := HF.out X HBX.out
        have y0 := HONX.out.c 0; have y1 := HONX.out.c 1; have y2 := HONX.out.c 2
        simp at y0 y1 y2
        go_upto_if 25 with fail
        go_cut [5, 6] (fun s5 s6 wx => ∃ (T1 : List (Rw × Value)) (d1 : Bool), s6 = .bool d1 ∧ (∃ a c, s5 = .slice a T1.length c) ∧ Hid ((T1.map (·.1), d1) = if (T.map (·.1), dn).2 = false ∧ ¬ pL x < pL r then ((T.map (·.1), dn).1 ++ [r], true) else (T.map (·.1), dn)) ∧ Hid (T1.length ≤ T.length + 1) ∧ Hid (wx.ownsRow (w.heap.size + 1) 48 3 s5 T1.length (rowCells T1)) ∧ Hid (RowsOff wx T1 s5.ownBlock) ∧ Hid (One w.heap.size #[.string r.1, .int .u64 r.2.last, .slice ra r.2.l.length rc] wx) ∧ Hid (Below w.heap.size w wx))
        case first =>
          by_cases hcd : dn = false ∧ ¬ pL x < pL r
          · obtain rfl : bb = true := by rw [HBB.out, hcd.1]; simp [hcd.2]
            have HCD := Lib.hid hcd; clear hcd
            go_wp2_with (
              at_builtin
              refine wpList_append_lies _ rfl (.tmp 26) (.tmp 28) 26 rfl (w.heap.size + 1) 48 i0 (.agg #[.string ByteArray.empty, .int .u64 0, .slice none 0 0]) 3 48 Tryz.underlying26 hi hz0 hz1 hz2 rfl (by decide) _ T.length (rowCells T) rfl (ownBelow HROX.out ((Below.refl _ _).alloc (Nat.le_refl _) _)) ⟨X.heap.size, 0, none⟩ 1 1 [.string r.1, .int .u64 r.2.last, .slice ra r.2.l.length rc] rfl rfl (World.news_of_block (MapKept.heap_alloc _ _).1) (by intro u hu; simp only [List.mem_cons, List.mem_nil_iff, or_false] at hu; rcases hu with rfl | rfl | rfl <;> rfl) (by decide) (by unfold maxLen; omega) (by omega) (by have := HONX.out.lt; simp; omega) (X.heap.size + 1) (by simp) ?goA
              intro g cp w8 hown8 hg8 hat8 hlt8
              have hbx8 : Below w.heap.size w w8 := (HBX.out.alloc HBX.out.size _).grown hg8 (HBX.out.alloc HBX.out.size _).size (fun k hk => by have := ownAbove HROX.out k hk; omega)
              have hone8 : One w.heap.size #[.string r.1, .int .u64 r.2.last, .slice ra r.2.l.length rc] w8 := HONX.out.grow2 hg8 (fun k hk => by have := ownAbove HROX.out k hk; omega)
              have HO8 := Lib.hid hown8; have HG8 := Lib.hid hg8; have HAT8 := Lib.hid hat8; have HB8 := Lib.hid hbx8; have HON8 := Lib.hid hone8
              clear hown8 hg8 hat8 hlt8 hbx8 hone8)
            go_meet
            case rel =>
              refine ⟨T ++ [(r, .slice ra r.2.l.length rc)], true, rfl, ⟨_, _, by rw [List.length_append]; rfl⟩, Lib.hid ?_, Lib.hid (by simp), Lib.hid ?_, Lib.hid ?_, HON8, HB8⟩
              · rw [if_pos HCD.out, List.map_append]; rfl
              · rw [List.length_append, rowCells_append]; exact HO8.out
              · exact RowsOff.app HOFX.out HROX.out HRV.out HBX.out HG8.out HAT8.out
          · obtain rfl : bb = false := by
              rw [HBB.out]
              cases dn with
              | true => rfl
              | false =>
                by_cases h : pL x < pL r
                · simp [h]
                · exact absurd ⟨rfl, h⟩ hcd
            have HCD := Lib.hid hcd; clear hcd
            go_wp2_with fail
            go_meet
            case rel => exact ⟨T, dn, rfl, ⟨_, _, rfl⟩, Lib.hid (by rw [if_neg HCD.out]), Lib.hid (by omega), HROX, HOFX, HONX, HBX⟩
        case rest =>
          obtain ⟨T1, d1, rfl, ⟨a3, c3, rfl⟩, HM1, HT1, HR1, HOF1, HON1, HBY⟩ := hcut
          obtain ⟨Y, hY⟩ : ∃ Y, Y = wc := ⟨_, rfl⟩
          subst wc
          have hT1 := HT1.out
          clear f0 f1 f2 y0 y1 y2 HROX HOFX HONX HBX
          obtain ⟨f0, f1, f2⟩ := HF.out Y HBY.out
          have y0 := HON1.out.c 0
          simp at y0
          go_upto_region 9 with fail
          go_cut [37] (fun v wx => v = .bool (decide (x.1 ≠ r.1)) ∧ Hid (Below Y.heap.size Y wx))
          case first =>
            by_cases he : x.1 = r.1
            · have hB := strEq he
              have HE : Hid (decide (x.1 ≠ r.1) = false) := Lib.hid (by simp [he])
              clear he
              go_quiet (fail)
              go_wp2_with fail
              go_meet
              case rel => exact ⟨by rw [HE.out], Lib.hid (belowDrewN _ _)⟩
            · have hB := strNe he
              have HE : Hid (decide (x.1 ≠ r.1) = true) := Lib.hid (by simp [he])
              clear he
              go_quiet (fail)
              go_wp2_with fail
              go_meet
              case rel => exact ⟨by rw [HE.out], Lib.hid (belowDrewN _ _)⟩
          case rest =>
            obtain ⟨rfl, HX⟩ := hcut
            obtain ⟨X, hX⟩ : ∃ X, X = wc := ⟨_, rfl⟩
            subst wc
            have HBX := Lib.hid (HBY.out.trans (HX.out.mono HBY.out.size))
            have HROX := Lib.hid (ownBelow HR1.out HX.out)
            have HOFX := Lib.hid (HOF1.out.below HX.out)
            have HONX := Lib.hid (HON1.out.step HX.out)
            clear f0 f1 f2 y0 HR1 HOF1 HON1 HBY HX
            obtain ⟨f0, f1, f2⟩ := HF.out X HBX.out
            by_cases he : x.1 = r.1
            · have HE : Hid (withS r (l.take (k + 1)) = (T1.map (·.1), d1)) := Lib.hid (by rw [withS_take hlt, ← Hx.out, ← hmap.out, wStep_of HM1.out, if_neg (by simp [he])])
              have hdec : decide (x.1 ≠ r.1) = false := by simp [he]
              rw [hdec]
              clear he hdec
              go_wp2_with fail
              go_roundw
              case rel => exact ⟨k + 1, T1, d1, by omega, by go_num, rfl, ⟨_, _, rfl⟩, Lib.hid HE.out.symm, Lib.hid (by omega), HROX, HOFX, HONX, HBX⟩
              case measure => simp [intOf]; omega
            · have HE : Hid (withS r (l.take (k + 1)) = (T1.map (·.1) ++ [x], d1)) := Lib.hid (by rw [withS_take hlt, ← Hx.out, ← hmap.out, wStep_of HM1.out, if_pos (by simp [he])])
              have hdec : decide (x.1 ≠ r.1) = true := by simp [he]
              rw [hdec]
              clear he hdec
              go_wp2_with (
                at_builtin
                refine wpList_append_lies _ rfl (.tmp 38) (.tmp 43) 26 rfl (w.heap.size + 1) 48 i0 (.agg #[.string ByteArray.empty, .int .u64 0, .slice none 0 0]) 3 48 Tryz.underlying26 hi hz0 hz1 hz2 rfl (by decide) _ T1.length (rowCells T1) rfl (ownBelow HROX.out ((Below.refl _ _).alloc (Nat.le_refl _) _)) ⟨X.heap.size, 0, none⟩ 1 1 [.string x.1, .int .u64 x.2.last, .slice va x.2.l.length vc] rfl rfl (World.news_of_block (MapKept.heap_alloc _ _).1) (by intro u hu; simp only [List.mem_cons, List.mem_nil_iff, or_false] at hu; rcases hu with rfl | rfl | rfl <;> rfl) (by decide) (by unfold maxLen; omega) (by omega) (by have := HONX.out.lt; simp; omega) (X.heap.size + 1) (by simp) ?goB
                intro g cp w8 hown8 hg8 hat8 hlt8
                have hbx8 : Below w.heap.size w w8 := (HBX.out.alloc HBX.out.size _).grown hg8 (HBX.out.alloc HBX.out.size _).size (fun k hk => by have := ownAbove HROX.out k hk; omega)
                have hone8 : One w.heap.size #[.string r.1, .int .u64 r.2.last, .slice ra r.2.l.length rc] w8 := HONX.out.grow2 hg8 (fun k hk => by have := ownAbove HROX.out k hk; omega)
                have HO8 := Lib.hid hown8; have HG8 := Lib.hid hg8; have HAT8 := Lib.hid hat8; have HB8 := Lib.hid hbx8; have HON8 := Lib.hid hone8
                clear hown8 hg8 hat8 hlt8 hbx8 hone8)
              go_roundw
              case rel =>
                refine ⟨k + 1, T1 ++ [(x, .slice va x.2.l.length vc)], d1, by omega, by go_num, rfl, ⟨_, _, by rw [List.length_append]; rfl⟩, Lib.hid ?_, Lib.hid (by simp; omega), Lib.hid ?_, Lib.hid ?_, HON8, HB8⟩
                · rw [HE.out, List.map_append]; rfl
                · rw [List.length_append, rowCells_append]; exact HO8.out
                · exact RowsOff.app HOFX.out HROX.out HX0.out HBX.out HG8.out HAT8.out
              case measure => simp [intOf]; omega
    · have hge : (l.length : Int) ≤ (k : Int) := by omega
      have HE : Hid (withS r l = (T.map (·.1), dn)) := Lib.hid (by rw [hmap.out, List.take_of_length_le (by omega)])
      have hbx := hbw; have HBX := hbw; have HONX := hone
      cases dn with
      | true =>
        go_wp2_with fail
        go_ret
        refine ⟨_, rfl, ?_, CapV.own hrow.out, hbw.out⟩
        rw [HW.out, HE.out]
        exact IsRows.own hrow.out hoff.out
      | false =>
        have y0 := hone.out.c 0; have y1 := hone.out.c 1; have y2 := hone.out.c 2
        simp at y0 y1 y2
        go_wp2_with (
          at_builtin
          refine wpList_append_lies _ rfl (.tmp 47) (.tmp 49) 26 rfl (w.heap.size + 1) 48 i0 (.agg #[.string ByteArray.empty, .int .u64 0, .slice none 0 0]) 3 48 Tryz.underlying26 hi hz0 hz1 hz2 rfl (by decide) _ T.length (rowCells T) rfl (ownBelow hrow.out ((Below.refl _ _).alloc (Nat.le_refl _) _)) ⟨wr.heap.size, 0, none⟩ 1 1 [.string r.1, .int .u64 r.2.last, .slice ra r.2.l.length rc] rfl rfl (World.news_of_block (MapKept.heap_alloc _ _).1) (by intro u hu; simp only [List.mem_cons, List.mem_nil_iff, or_false] at hu; rcases hu with rfl | rfl | rfl <;> rfl) (by decide) (by unfold maxLen; omega) (by omega) (by have := HONX.out.lt; simp; omega) (wr.heap.size + 1) (by simp) ?goC
          intro g cp w8 hown8 hg8 hat8 hlt8
          have hbx8 : Below w.heap.size w w8 := (HBX.out.alloc HBX.out.size _).grown hg8 (HBX.out.alloc HBX.out.size _).size (fun k hk => by have := ownAbove hrow.out k hk; omega)
          have hone8 : One w.heap.size #[.string r.1, .int .u64 r.2.last, .slice ra r.2.l.length rc] w8 := HONX.out.grow2 hg8 (fun k hk => by have := ownAbove hrow.out k hk; omega)
          have HO8 := Lib.hid hown8; have HG8 := Lib.hid hg8; have HAT8 := Lib.hid hat8; have HB8 := Lib.hid hbx8; have HON8 := Lib.hid hone8
          clear hown8 hg8 hat8 hlt8 hbx8 hone8)
        go_ret
        refine ⟨_, rfl, ?_, CapV.own HO8.out, HB8.out⟩
        rw [HW.out, HE.out]
        have h1 := IsRows.own (T := T ++ [(r, .slice ra r.2.l.length rc)]) (by rw [List.length_append, rowCells_append]; exact HO8.out) (RowsOff.app hoff.out hrow.out HRV.out hbw.out HG8.out HAT8.out)
        rw [List.map_append] at h1
        exact h1
end Go.Proofs.YtfbgnpfhjbiikaaGreatDoor

namespace Go.Proofs.YtfbgnpfhjbiikaaGreatDoor
open Go Go.RowKit
open Pth
def OneG (r : Cel × Nat) (l : List Rw) (p : ByteArray) (w : World) (e : Ending) (w' : World) : Prop :=
  ∃ (v' : Value) (n : Nat), e = .returned (.tuple #[v', .int .u64 n, .int .i64 r.2]) ∧ (r.2 = 0 → IsRows w' v' (withR l (p, r.1)) ∧ n = r.1.last ∧ CapV v') ∧ Below w.heap.size w w'
theorem pieces_zero {p : ByteArray} {m : List ByteArray} (h : m.map (·.data.toList) = piecesL p.data.toList) : ((m.length : Int) == 0) = !mayP p := by
  have h1 : m.length = (piecesL p.data.toList).length := by rw [← h, List.length_map]
  unfold mayP mayL
  rw [h1]
  cases piecesL p.data.toList with
  | nil => rfl
  | cons a t => simp; omega
theorem RefErr.intro {r : Cel × Nat} {w : World} {e : Ending} {w' : World} (h : RefErr r w e w') : ∃ a c, e = .returned (.tuple #[.agg #[.int .u64 r.1.last, .slice a r.1.l.length c], .int .i64 r.2]) ∧ IsVers w' (.slice a r.1.l.length c) r.1.l ∧ Below w.heap.size w w' := by
  obtain ⟨v, he, ⟨a, c, rfl, hc⟩, hb⟩ := h
  exact ⟨a, c, he, ⟨a, c, rfl, hc⟩, hb⟩
theorem cellR_at {l : List Rw} (h : Up l) {p : ByteArray} {z : Int} (hz : AtG l p z) : (z = -1 ∧ cellR l p = ⟨0, []⟩) ∨ ∃ k : Nat, z = k ∧ k < l.length ∧ cellR l p = (l.getD k dR).2 := by
  rcases hz with ⟨k, hk, rfl, he, _⟩ | ⟨rfl, hn⟩
  · refine Or.inr ⟨k, rfl, hk, ?_⟩
    have hm : l.getD k dR ∈ l := by rw [List.getD_eq_getElem?_getD, List.getElem?_eq_getElem hk]; exact List.getElem_mem hk
    rw [← he]; exact cellR_of h hm
  · exact Or.inl ⟨rfl, cellR_none hn⟩

set_option maxRecDepth 100000 in
set_option maxHeartbeats 4000000 in
theorem ref18_one (l : List Rw) (v : Value) (x : Edt) (w : World) (hv : IsRows w v l) (hup : Up l) (hl : l.length ≤ 1048576) (hc : ∀ i, i < l.length → (l.getD i dR).2.l.length ≤ 65536 ∧ (l.getD i dR).2.last < 18446744073709551616) (hps : x.path.size ≤ 140737488351232) (hts : x.text.size ≤ 9223372036854775807) :
    Calls Tryz.prog 72 #[v, edtVal x] w (OneG (editR l x) l x.path w) := by
  have HE : Hid (editR l x = if x.kind < 1 ∨ 3 < x.kind ∨ mayP x.path = false then (cellR l x.path, 2) else if x.kind = 1 then putE (cellR l x.path) x.any x.want x.text else if x.kind = 2 then deleteE (cellR l x.path) x.any x.want else destroyE (cellR l x.path) x.n) := Lib.hid rfl
  generalize editR l x = r at HE
  have HAT := Lib.hid (fun (w' : World) (h : Below w.heap.size w w') => ref18_at l v x.path w' (hv.below h (Nat.le_refl _)) (by omega))
  have HCR := Lib.hid (fun (z : Int) (hz : AtG l x.path z) => cellR_at hup hz)
  have HCB : Hid ((cellR l x.path).l.length ≤ 65536 ∧ (cellR l x.path).last < 18446744073709551616) := Lib.hid (by
    unfold cellR
    cases hf : l.find? (fun y => decide (y.1 = x.path)) with
    | none => exact ⟨by decide, by decide⟩
    | some y =>
      obtain ⟨i, hi, rfl⟩ := List.getElem_of_mem (List.mem_of_find?_eq_some hf)
      have := hc i hi
      rwa [List.getD_eq_getElem?_getD, List.getElem?_eq_getElem hi] at this)
  have HWI := Lib.hid (fun (rv : Value) (d : Cel) (w' : World) (h : Below w.heap.size w w') (hr : IsVers w' rv d.l) => ref18_with l v rv (x.path, d) w' (hv.below h (Nat.le_refl _)) hr hl)
  have HPI := Lib.hid (fun (w' : World) => ref16_pieces x.path hps w')
  have HPZ := Lib.hid (fun (m : List ByteArray) (h : m.map (·.data.toList) = piecesL x.path.data.toList) => pieces_zero h)
  have HPU := Lib.hid (fun (s : Value) (w' : World) (h : IsVers w' s (cellR l x.path).l) => (ref17_put (cellR l x.path) s x.any x.want x.text w' h HCB.out.1 HCB.out.2 hts).mono (fun _ _ h => h.intro))
  have HDE := Lib.hid (fun (s : Value) (w' : World) (h : IsVers w' s (cellR l x.path).l) => (ref17_delete (cellR l x.path) s x.any x.want w' h HCB.out.1 HCB.out.2).mono (fun _ _ h => h.intro))
  have HDS := Lib.hid (fun (s : Value) (w' : World) (h : IsVers w' s (cellR l x.path).l) => (ref17_destroy (cellR l x.path) s x.n w' h HCB.out.1).mono (fun _ _ h => h.intro))
  generalize mayP x.path = y at HE HPZ
  generalize putE (cellR l x.path) x.any x.want x.text = r1 at HE HPU
  generalize deleteE (cellR l x.path) x.any x.want = r2 at HE HDE
  generalize destroyE (cellR l x.path) x.n = r3 at HE HDS
  obtain ⟨C, hC⟩ : ∃ C, cellR l x.path = C := ⟨_, rfl⟩
  rw [hC] at HE HCR HCB HPU HDE HDS
  clear hC
  obtain ⟨a, cap, rfl, hcc⟩ := hv
  have HC := Lib.hid hcc; clear hcc
  obtain ⟨kd, pth, any, want, n, tx⟩ := x
  simp only at HE HAT HCR HWI HPI HPZ HPU HDE HDS hps hts ⊢
  unfold edtVal
  go_enter Tryz.func72, Tryz.ntmps72
  go_upto_region 1 with fail
  refine wp_abs (F := fun W => One w.heap.size #[.int .u8 kd, .string pth, .bool any, .int .u64 want, .int .u64 n, .string tx] W ∧ Below w.heap.size w W) ⟨One.of w _ _, (Below.refl _ _).alloc (Nat.le_refl _) _⟩ ?_
  rintro W ⟨ho, hb⟩
  have k0 := ho.c 0; have k1 := ho.c 1
  simp at k0 k1
  have HO := Lib.hid ho; have HB := Lib.hid hb
  clear ho hb
  by_cases h1 : kd < 1
  · have h1i : (kd : Int) < 1 := by omega
    obtain rfl : r = (C, 2) := by rw [HE.out, if_pos (by simp [h1])]
    go_wp2_with fail
    refine bodyPost_ret (v := .tuple #[.slice a l.length cap, .int .u64 0, .int .i64 2]) ?_ rfl ⟨.slice a l.length cap, 0, rfl, fun h => absurd h (by simp), HB.out⟩
    simp [results, Tryz.results72, go_sem]
  have h1i : ¬ (kd : Int) < 1 := by omega
  by_cases h3 : 3 < kd
  · have h3i : (3 : Int) < (kd : Int) := by omega
    obtain rfl : r = (C, 2) := by rw [HE.out, if_pos (by simp [h3])]
    go_wp2_with fail
    refine bodyPost_ret (v := .tuple #[.slice a l.length cap, .int .u64 0, .int .i64 2]) ?_ rfl ⟨.slice a l.length cap, 0, rfl, fun h => absurd h (by simp), HB.out⟩
    simp [results, Tryz.results72, go_sem]
  have h3i : ¬ (3 : Int) < (kd : Int) := by omega
  cases y with
  | false =>
    go_wp2_with fail
    refine (HPI.out _).mono ?_
    rintro e w1 ⟨vp, m, rfl, hp1, hp2, hb1⟩
    have hz := HPZ.out m hp2
    obtain ⟨ap, cp, rfl, _⟩ := hp1
    have HB1 := Lib.hid (HB.out.trans (hb1.mono HB.out.size))
    have HO1 := Lib.hid (HO.out.step hb1)
    clear hp2 hb1
    simp only [Bool.not_false] at hz
    obtain rfl : r = (C, 2) := by rw [HE.out, if_pos (by simp [])]
    go_wp2_with fail
    refine bodyPost_ret (v := .tuple #[.slice a l.length cap, .int .u64 0, .int .i64 2]) ?_ rfl ⟨.slice a l.length cap, 0, rfl, fun h => absurd h (by simp), HB1.out⟩
    simp [results, Tryz.results72, go_sem]
  | true =>
    go_wp2_with fail
    refine (HPI.out _).mono ?_
    rintro e w1 ⟨vp, m, rfl, hp1, hp2, hb1⟩
    have hz := HPZ.out m hp2
    obtain ⟨ap, cp, rfl, _⟩ := hp1
    have HB1 := Lib.hid (HB.out.trans (hb1.mono HB.out.size))
    have HO1 := Lib.hid (HO.out.step hb1)
    clear hp2 hb1
    simp only [Bool.not_true] at hz
    have hrr : Hid (r = if kd = 1 then r1 else if kd = 2 then r2 else r3) := Lib.hid (by rw [HE.out, if_neg (by simp; omega)])
    clear HE k0 k1
    have k0 := HO1.out.c 0; have k1 := HO1.out.c 1; have k2 := HO1.out.c 2; have k3 := HO1.out.c 3; have k4 := HO1.out.c 4; have k5 := HO1.out.c 5
    simp at k0 k1 k2 k3 k4 k5
    go_upto_region 4 with fail
    obtain ⟨d, hd⟩ : ∃ d, w1.heap.size = d := ⟨_, rfl⟩
    have hwd : w.heap.size < d := by have := HO1.out.lt; omega
    refine wp_abs (F := fun X => One w.heap.size #[.int .u8 kd, .string pth, .bool any, .int .u64 want, .int .u64 n, .string tx] X ∧ One d #[.int .u64 0, .slice none 0 0] X ∧ Below w.heap.size w X) ⟨HO1.out.step ((Below.refl _ _).alloc (Nat.le_refl _) _), by rw [← hd]; exact One.of _ _ _, HB1.out.alloc HB1.out.size _⟩ ?_
    rintro X ⟨o2, d2, b2⟩
    rw [hd]
    clear k0 k1 k2 k3 k4 k5 hd
    have k0 := o2.c 0; have k1 := o2.c 1; have k2 := o2.c 2; have k3 := o2.c 3; have k4 := o2.c 4; have k5 := o2.c 5
    have z0 := d2.c 0; have z1 := d2.c 1; have g0 := d2.f 0; have g1 := d2.f 1
    simp at k0 k1 k2 k3 k4 k5 z0 z1
    have O2 := Lib.hid o2; have D2 := Lib.hid d2; have B2 := Lib.hid b2
    clear o2 d2 b2 HO1 HB1 HO HB
    go_wp2_with fail
    refine (HAT.out _ B2.out).mono ?_
    rintro e w3 ⟨z, rfl, hzat, hw3⟩
    subst w3
    have hz2 := HCR.out z hzat
    clear hzat
    go_upto_if 33 with fail
    go_cut [] (fun wx => Hid (∃ s, IsVers wx s C.l ∧ One w.heap.size #[.int .u8 kd, .string pth, .bool any, .int .u64 want, .int .u64 n, .string tx] wx ∧ One d #[.int .u64 C.last, s] wx ∧ Below w.heap.size w wx))
    case first =>
      rcases hz2 with ⟨rfl, hcz⟩ | ⟨k, rfl, hk, hck⟩
      · go_wp2_with fail
        go_meet
        case rel => exact Lib.hid ⟨.slice none 0 0, by rw [hcz]; exact IsVers.nil _, O2.out, by rw [hcz]; exact D2.out, B2.out⟩
      · rcases HC.out with hn | ⟨b, off, rfl, hbl, hcc⟩
        · subst hn; simp at hk
        obtain ⟨f0, f1, s, f2, hs⟩ := hcc k hk
        have e1 := (B2.out.cell (p := ⟨b, off + k * 3 + 1, none⟩) hbl).trans f1
        have e2 := (B2.out.cell (p := ⟨b, off + k * 3 + 2, none⟩) hbl).trans f2
        rw [← hck] at e1 hs
        have hbd : b ≠ d := by omega
        have hki : (k : Int) < (l.length : Int) := by omega
        have hs2 := hs.below B2.out (Nat.le_refl _)
        obtain ⟨sa, sc, rfl, _⟩ := hs
        have HS2 := Lib.hid hs2
        clear f0 f1 f2 hcc hs2 hck
        go_wp2_with fail
        go_meet
        case rel =>
          refine Lib.hid ⟨.slice sa C.l.length sc, ?_, (O2.out.far (by dsimp only; omega) _).far (by dsimp only; omega) _, (D2.out.set (i := 0) (by simp) _).set (i := 1) (by simp) _, (B2.out.setCell (by dsimp only; omega) _).setCell (by dsimp only; omega) _⟩
          exact (HS2.out.notOne D2.out (p := ⟨d, 0, none⟩) rfl _).notOne (D2.out.set (i := 0) (by simp) _) (p := ⟨d, 1, none⟩) rfl _
    case rest =>
      obtain ⟨s, hs, o3, d3, b3⟩ := hcut.out
      obtain ⟨Y, hY⟩ : ∃ Y, Y = wc := ⟨_, rfl⟩
      subst wc
      obtain ⟨sa, sc, rfl, _⟩ := (show ∃ sa sc, s = .slice sa C.l.length sc ∧ True from by obtain ⟨a', c', h, _⟩ := hs; exact ⟨a', c', h, trivial⟩)
      have HS := Lib.hid hs; have O3 := Lib.hid o3; have B3 := Lib.hid b3
      clear k0 k1 k2 k3 k4 k5 z0 z1 g0 g1 O2 D2 B2 hcut
      have z0 := d3.c 0; have z1 := d3.c 1
      simp at z0 z1
      have D3 := Lib.hid d3
      clear hs o3 d3 b3
      go_upto_region 8 with fail
      obtain ⟨q, hq⟩ : ∃ q, Y.heap.size = q := ⟨_, rfl⟩
      have hdq : d < q := by have := D3.out.lt; omega
      refine wp_abs (F := fun Z => IsVers Z (.slice sa C.l.length sc) C.l ∧ One w.heap.size #[.int .u8 kd, .string pth, .bool any, .int .u64 want, .int .u64 n, .string tx] Z ∧ One d #[.int .u64 C.last, .slice sa C.l.length sc] Z ∧ One q #[.int .u64 C.last, .slice sa C.l.length sc] Z ∧ Below w.heap.size w Z) ⟨HS.out.below ((Below.refl _ _).alloc (Nat.le_refl _) _) (Nat.le_refl _), O3.out.step ((Below.refl _ _).alloc (Nat.le_refl _) _), D3.out.step ((Below.refl _ _).alloc (Nat.le_refl _) _), by rw [← hq]; exact One.of _ _ _, B3.out.alloc B3.out.size _⟩ ?_
      rintro Z ⟨hs, o3, d3, q3, b3⟩
      rw [hq]
      clear hq z0 z1
      have k0 := o3.c 0; have k2 := o3.c 2; have k3 := o3.c 3; have k4 := o3.c 4; have k5 := o3.c 5
      have z0 := d3.c 0; have z1 := d3.c 1
      simp at k0 k2 k3 k4 k5 z0 z1
      have QS := Lib.hid hs; have Q3 := Lib.hid q3; have O4 := Lib.hid o3; have B4 := Lib.hid b3
      clear hs o3 d3 q3 b3 HS O3 B3 D3
      by_cases e1 : kd = 1
      · have b1 : ((kd : Int) == 1) = true := by simp [e1]
        obtain rfl : r = r1 := by rw [hrr.out, if_pos e1]
        go_wp2_with fail
        refine (HPU.out _ _ QS.out).mono ?_
        rintro e w5 ⟨a5, c5, rfl, hs5, hb5⟩
        obtain ⟨p0, p1, p2, p3⟩ : w5.cell? ⟨q, 0, none⟩ = some (.int .u64 C.last) ∧ w5.cell? ⟨q, 1, none⟩ = some (.slice sa C.l.length sc) ∧ w5.frozen? ⟨q, 0, none⟩ = false ∧ w5.frozen? ⟨q, 1, none⟩ = false := by
          have h := Q3.out.step hb5
          exact ⟨h.c 0, h.c 1, h.f 0, h.f 1⟩
        have HS5 := Lib.hid hs5
        have Q5 := Lib.hid (Q3.out.step hb5); have O5 := Lib.hid (O4.out.step hb5); have B5 := Lib.hid (B4.out.trans (hb5.mono B4.out.size))
        clear hs5 hb5
        go_upto_region 14 with fail
        refine wp_abs (F := fun V => IsVers V (.slice a5 r.1.l.length c5) r.1.l ∧ One w.heap.size #[.int .u8 kd, .string pth, .bool any, .int .u64 want, .int .u64 n, .string tx] V ∧ One q #[.int .u64 r.1.last, .slice a5 r.1.l.length c5] V ∧ Below w.heap.size w V) ⟨?_, (O5.out.far (by dsimp only; omega) _).far (by dsimp only; omega) _, (Q5.out.set (i := 0) (by simp) _).set (i := 1) (by simp) _, (B5.out.setCell (by dsimp only; omega) _).setCell (by dsimp only; omega) _⟩ ?_
        · exact (HS5.out.notOne Q5.out (p := ⟨q, 0, none⟩) rfl _).notOne (Q5.out.set (i := 0) (by simp) _) (p := ⟨q, 1, none⟩) rfl _
        rintro V ⟨hs, o3, q3, b3⟩
        clear k0 k2 k3 k4 k5 z0 z1 p0 p1 p2 p3
        have k1 := o3.c 1
        have z0 := q3.c 0; have z1 := q3.c 1
        simp at k1 z0 z1
        have VS := Lib.hid hs; have VO := Lib.hid o3; have VQ := Lib.hid q3; have VB := Lib.hid b3
        clear hs o3 q3 b3 QS Q3 O4 B4 HS5 Q5 O5 B5
        by_cases he : r.2 = 0
        · have heB : ((r.2 : Int) != 0) = false := by simp [he]
          have HEZ := Lib.hid he
          clear he
          go_upto_region 16 with fail
          have keepS : Hid (∀ U, Below V.heap.size V U → U.cell? ⟨w.heap.size, 1, none⟩ = some (.string pth) ∧ U.cell? ⟨q, 0, none⟩ = some (.int .u64 r.1.last) ∧ U.cell? ⟨q, 1, none⟩ = some (.slice a5 r.1.l.length c5) ∧ Hid (Below V.heap.size V U)) := Lib.hid (fun U h => ⟨(VO.out.step h).c 1, (VQ.out.step h).c 0, (VQ.out.step h).c 1, Lib.hid h⟩)
          have keepB : Hid (∀ U : World, (U.cell? ⟨w.heap.size, 1, none⟩ = some (.string pth) ∧ U.cell? ⟨q, 0, none⟩ = some (.int .u64 r.1.last) ∧ U.cell? ⟨q, 1, none⟩ = some (.slice a5 r.1.l.length c5) ∧ Hid (Below V.heap.size V U)) → Below V.heap.size V U) := Lib.hid (fun U h => h.2.2.2.out)
          go_region_held3 (fun U => U.cell? ⟨w.heap.size, 1, none⟩ = some (.string pth) ∧ U.cell? ⟨q, 0, none⟩ = some (.int .u64 r.1.last) ∧ U.cell? ⟨q, 1, none⟩ = some (.slice a5 r.1.l.length c5) ∧ Hid (Below V.heap.size V U))
            (first
              | exact keepS.out _ HB8.out
              | exact keepS.out _ (Below.refl _ _).drew)
            (first
              | (go_at_call 74; refine (HWI.out _ r.1 _ (VB.out.trans ((keepB.out _ (by assumption)).mono VB.out.size)) (VS.out.below (keepB.out _ (by assumption)) (Nat.le_refl _))).mono ?_; rintro e w8 ⟨v8, rfl, hr8, hcp8, hb8⟩; have HB8 := Lib.hid ((keepB.out _ (by assumption)).trans (hb8.mono (keepB.out _ (by assumption)).size)); have HR8 := Lib.hid hr8; have HCP8 := Lib.hid hcp8; clear hr8 hcp8 hb8))
          all_goals (
            go_wp2_with fail
            refine bodyPost_ret (v := .tuple #[v8, .int .u64 r.1.last, .int .i64 0]) ?_ rfl ⟨v8, r.1.last, by rw [HEZ.out]; rfl, fun _ => ⟨HR8.out, rfl, HCP8.out⟩, VB.out.trans (HB8.out.mono VB.out.size)⟩
            simp [results, Tryz.results72, go_sem])
        · have heB : ((r.2 : Int) != 0) = true := by simp; omega
          have HEN := Lib.hid he
          clear he
          go_wp2_with fail
          refine bodyPost_ret (v := .tuple #[.slice a l.length cap, .int .u64 0, .int .i64 r.2]) ?_ rfl ⟨.slice a l.length cap, 0, rfl, fun h => absurd h HEN.out, VB.out⟩
          simp [results, Tryz.results72, go_sem]
      have b1 : ((kd : Int) == 1) = false := by rw [beq_eq_false_iff_ne]; omega
      by_cases e2 : kd = 2
      · have b2 : ((kd : Int) == 2) = true := by simp [e2]
        obtain rfl : r = r2 := by rw [hrr.out, if_neg e1, if_pos e2]
        go_wp2_with fail
        refine (HDE.out _ _ QS.out).mono ?_
        rintro e w5 ⟨a5, c5, rfl, hs5, hb5⟩
        obtain ⟨p0, p1, p2, p3⟩ : w5.cell? ⟨q, 0, none⟩ = some (.int .u64 C.last) ∧ w5.cell? ⟨q, 1, none⟩ = some (.slice sa C.l.length sc) ∧ w5.frozen? ⟨q, 0, none⟩ = false ∧ w5.frozen? ⟨q, 1, none⟩ = false := by
          have h := Q3.out.step hb5
          exact ⟨h.c 0, h.c 1, h.f 0, h.f 1⟩
        have HS5 := Lib.hid hs5
        have Q5 := Lib.hid (Q3.out.step hb5); have O5 := Lib.hid (O4.out.step hb5); have B5 := Lib.hid (B4.out.trans (hb5.mono B4.out.size))
        clear hs5 hb5
        go_upto_region 14 with fail
        refine wp_abs (F := fun V => IsVers V (.slice a5 r.1.l.length c5) r.1.l ∧ One w.heap.size #[.int .u8 kd, .string pth, .bool any, .int .u64 want, .int .u64 n, .string tx] V ∧ One q #[.int .u64 r.1.last, .slice a5 r.1.l.length c5] V ∧ Below w.heap.size w V) ⟨?_, (O5.out.far (by dsimp only; omega) _).far (by dsimp only; omega) _, (Q5.out.set (i := 0) (by simp) _).set (i := 1) (by simp) _, (B5.out.setCell (by dsimp only; omega) _).setCell (by dsimp only; omega) _⟩ ?_
        · exact (HS5.out.notOne Q5.out (p := ⟨q, 0, none⟩) rfl _).notOne (Q5.out.set (i := 0) (by simp) _) (p := ⟨q, 1, none⟩) rfl _
        rintro V ⟨hs, o3, q3, b3⟩
        clear k0 k2 k3 k4 k5 z0 z1 p0 p1 p2 p3
        have k1 := o3.c 1
        have z0 := q3.c 0; have z1 := q3.c 1
        simp at k1 z0 z1
        have VS := Lib.hid hs; have VO := Lib.hid o3; have VQ := Lib.hid q3; have VB := Lib.hid b3
        clear hs o3 q3 b3 QS Q3 O4 B4 HS5 Q5 O5 B5
        by_cases he : r.2 = 0
        · have heB : ((r.2 : Int) != 0) = false := by simp [he]
          have HEZ := Lib.hid he
          clear he
          go_upto_region 16 with fail
          have keepS : Hid (∀ U, Below V.heap.size V U → U.cell? ⟨w.heap.size, 1, none⟩ = some (.string pth) ∧ U.cell? ⟨q, 0, none⟩ = some (.int .u64 r.1.last) ∧ U.cell? ⟨q, 1, none⟩ = some (.slice a5 r.1.l.length c5) ∧ Hid (Below V.heap.size V U)) := Lib.hid (fun U h => ⟨(VO.out.step h).c 1, (VQ.out.step h).c 0, (VQ.out.step h).c 1, Lib.hid h⟩)
          have keepB : Hid (∀ U : World, (U.cell? ⟨w.heap.size, 1, none⟩ = some (.string pth) ∧ U.cell? ⟨q, 0, none⟩ = some (.int .u64 r.1.last) ∧ U.cell? ⟨q, 1, none⟩ = some (.slice a5 r.1.l.length c5) ∧ Hid (Below V.heap.size V U)) → Below V.heap.size V U) := Lib.hid (fun U h => h.2.2.2.out)
          go_region_held3 (fun U => U.cell? ⟨w.heap.size, 1, none⟩ = some (.string pth) ∧ U.cell? ⟨q, 0, none⟩ = some (.int .u64 r.1.last) ∧ U.cell? ⟨q, 1, none⟩ = some (.slice a5 r.1.l.length c5) ∧ Hid (Below V.heap.size V U))
            (first
              | exact keepS.out _ HB8.out
              | exact keepS.out _ (Below.refl _ _).drew)
            (first
              | (go_at_call 74; refine (HWI.out _ r.1 _ (VB.out.trans ((keepB.out _ (by assumption)).mono VB.out.size)) (VS.out.below (keepB.out _ (by assumption)) (Nat.le_refl _))).mono ?_; rintro e w8 ⟨v8, rfl, hr8, hcp8, hb8⟩; have HB8 := Lib.hid ((keepB.out _ (by assumption)).trans (hb8.mono (keepB.out _ (by assumption)).size)); have HR8 := Lib.hid hr8; have HCP8 := Lib.hid hcp8; clear hr8 hcp8 hb8))
          all_goals (
            go_wp2_with fail
            refine bodyPost_ret (v := .tuple #[v8, .int .u64 r.1.last, .int .i64 0]) ?_ rfl ⟨v8, r.1.last, by rw [HEZ.out]; rfl, fun _ => ⟨HR8.out, rfl, HCP8.out⟩, VB.out.trans (HB8.out.mono VB.out.size)⟩
            simp [results, Tryz.results72, go_sem])
        · have heB : ((r.2 : Int) != 0) = true := by simp; omega
          have HEN := Lib.hid he
          clear he
          go_wp2_with fail
          refine bodyPost_ret (v := .tuple #[.slice a l.length cap, .int .u64 0, .int .i64 r.2]) ?_ rfl ⟨.slice a l.length cap, 0, rfl, fun h => absurd h HEN.out, VB.out⟩
          simp [results, Tryz.results72, go_sem]
      have b2 : ((kd : Int) == 2) = false := by rw [beq_eq_false_iff_ne]; omega
      obtain rfl : r = r3 := by rw [hrr.out, if_neg e1, if_neg e2]
      go_wp2_with fail
      refine (HDS.out _ _ QS.out).mono ?_
      rintro e w5 ⟨a5, c5, rfl, hs5, hb5⟩
      obtain ⟨p0, p1, p2, p3⟩ : w5.cell? ⟨q, 0, none⟩ = some (.int .u64 C.last) ∧ w5.cell? ⟨q, 1, none⟩ = some (.slice sa C.l.length sc) ∧ w5.frozen? ⟨q, 0, none⟩ = false ∧ w5.frozen? ⟨q, 1, none⟩ = false := by
        have h := Q3.out.step hb5
        exact ⟨h.c 0, h.c 1, h.f 0, h.f 1⟩
      have HS5 := Lib.hid hs5
      have Q5 := Lib.hid (Q3.out.step hb5); have O5 := Lib.hid (O4.out.step hb5); have B5 := Lib.hid (B4.out.trans (hb5.mono B4.out.size))
      clear hs5 hb5
      go_upto_region 14 with fail
      refine wp_abs (F := fun V => IsVers V (.slice a5 r.1.l.length c5) r.1.l ∧ One w.heap.size #[.int .u8 kd, .string pth, .bool any, .int .u64 want, .int .u64 n, .string tx] V ∧ One q #[.int .u64 r.1.last, .slice a5 r.1.l.length c5] V ∧ Below w.heap.size w V) ⟨?_, (O5.out.far (by dsimp only; omega) _).far (by dsimp only; omega) _, (Q5.out.set (i := 0) (by simp) _).set (i := 1) (by simp) _, (B5.out.setCell (by dsimp only; omega) _).setCell (by dsimp only; omega) _⟩ ?_
      · exact (HS5.out.notOne Q5.out (p := ⟨q, 0, none⟩) rfl _).notOne (Q5.out.set (i := 0) (by simp) _) (p := ⟨q, 1, none⟩) rfl _
      rintro V ⟨hs, o3, q3, b3⟩
      clear k0 k2 k3 k4 k5 z0 z1 p0 p1 p2 p3
      have k1 := o3.c 1
      have z0 := q3.c 0; have z1 := q3.c 1
      simp at k1 z0 z1
      have VS := Lib.hid hs; have VO := Lib.hid o3; have VQ := Lib.hid q3; have VB := Lib.hid b3
      clear hs o3 q3 b3 QS Q3 O4 B4 HS5 Q5 O5 B5
      by_cases he : r.2 = 0
      · have heB : ((r.2 : Int) != 0) = false := by simp [he]
        have HEZ := Lib.hid he
        clear he
        go_upto_region 16 with fail
        have keepS : Hid (∀ U, Below V.heap.size V U → U.cell? ⟨w.heap.size, 1, none⟩ = some (.string pth) ∧ U.cell? ⟨q, 0, none⟩ = some (.int .u64 r.1.last) ∧ U.cell? ⟨q, 1, none⟩ = some (.slice a5 r.1.l.length c5) ∧ Hid (Below V.heap.size V U)) := Lib.hid (fun U h => ⟨(VO.out.step h).c 1, (VQ.out.step h).c 0, (VQ.out.step h).c 1, Lib.hid h⟩)
        have keepB : Hid (∀ U : World, (U.cell? ⟨w.heap.size, 1, none⟩ = some (.string pth) ∧ U.cell? ⟨q, 0, none⟩ = some (.int .u64 r.1.last) ∧ U.cell? ⟨q, 1, none⟩ = some (.slice a5 r.1.l.length c5) ∧ Hid (Below V.heap.size V U)) → Below V.heap.size V U) := Lib.hid (fun U h => h.2.2.2.out)
        go_region_held3 (fun U => U.cell? ⟨w.heap.size, 1, none⟩ = some (.string pth) ∧ U.cell? ⟨q, 0, none⟩ = some (.int .u64 r.1.last) ∧ U.cell? ⟨q, 1, none⟩ = some (.slice a5 r.1.l.length c5) ∧ Hid (Below V.heap.size V U))
          (first
            | exact keepS.out _ HB8.out
            | exact keepS.out _ (Below.refl _ _).drew)
          (first
            | (go_at_call 74; refine (HWI.out _ r.1 _ (VB.out.trans ((keepB.out _ (by assumption)).mono VB.out.size)) (VS.out.below (keepB.out _ (by assumption)) (Nat.le_refl _))).mono ?_; rintro e w8 ⟨v8, rfl, hr8, hcp8, hb8⟩; have HB8 := Lib.hid ((keepB.out _ (by assumption)).trans (hb8.mono (keepB.out _ (by assumption)).size)); have HR8 := Lib.hid hr8; have HCP8 := Lib.hid hcp8; clear hr8 hcp8 hb8))
        all_goals (
          go_wp2_with fail
          refine bodyPost_ret (v := .tuple #[v8, .int .u64 r.1.last, .int .i64 0]) ?_ rfl ⟨v8, r.1.last, by rw [HEZ.out]; rfl, fun _ => ⟨HR8.out, rfl, HCP8.out⟩, VB.out.trans (HB8.out.mono VB.out.size)⟩
          simp [results, Tryz.results72, go_sem])
      · have heB : ((r.2 : Int) != 0) = true := by simp; omega
        have HEN := Lib.hid he
        clear he
        go_wp2_with fail
        refine bodyPost_ret (v := .tuple #[.slice a l.length cap, .int .u64 0, .int .i64 r.2]) ?_ rfl ⟨.slice a l.length cap, 0, rfl, fun h => absurd h HEN.out, VB.out⟩
        simp [results, Tryz.results72, go_sem]
end Go.Proofs.YtfbgnpfhjbiikaaGreatDoor
