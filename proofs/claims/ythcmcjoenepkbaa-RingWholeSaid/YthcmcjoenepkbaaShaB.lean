/- Contracts: sha.Sum, sha.Of a text. -/
import Derived.Test.YthcmcjoenepkbaaShaA
namespace Go.Proofs.Ythcmcjoenepkbaa
open Go Go.RowKit

theorem infoHash : (Try.prog.info? 105).map (·.size) = some 11 := by kernel_rfl
def z11 : Array Value := #[.int .u32 0, .int .u32 0, .int .u32 0, .int .u32 0, .int .u32 0, .int .u32 0, .int .u32 0, .int .u32 0, .string ByteArray.empty, .int .u64 0, .bool false]
/-- What is put behind. -/
def tl (r n : Nat) : List Nat := 128 :: (List.replicate ((119 - r) % 64) 0 ++ Sh.put (8 * n % 18446744073709551616) 8)
/-- A step whose value is known. -/
theorem step_run {P : Program} {ops : Array Oper} {o : Oper} {a : Act} {w w' : World} {K : Act → World → Prop} {Q : Exit → Act → World → Prop} {E : Prop} {v : Value} (hgd : o.guard = none) (h : (execOp a.eval o).run P w = .ok (.value v) w') (k : K (a.put o.dst v) w') :
    if Region.wanted o (yielded ops a.tmps) = true then Oper.wp P o a w K Q else E := by
  have hw : Region.wanted o (yielded ops a.tmps) = true := by simp [Region.wanted, hgd]
  rw [if_pos hw]
  unfold Oper.wp; rw [h]; exact k

theorem conv_step {o : Oper} {a : Act} {W : World} {b z : Nat} {x : Operand} (hop : o.op = .convert 22 9 x) (he : a.eval x = .slice (some ⟨b, 0, none⟩) z z) (hb : W.heap[b]? = some (.cells (madeCells #[.int .u8 0] z) 5 (0, 0))) :
    (execOp a.eval o).run Try.prog W = .ok (.value (.string (sb (List.replicate z 0)))) W := by
  have hcv := run_convert_bytes_arg (P := Try.prog) W 22 5 Try.underlying22 Try.underlying5 b 0 z z ((List.replicate z 0).map Int.ofNat) (by simp) (fun i hi => by
    rw [Nat.zero_add, cell_of hb]
    simp [madeCells, hi, Nat.mod_one, List.getD_eq_getElem?_getD]) 9 Try.underlying9
  rw [strOfNums_nat] at hcv
  unfold execOp
  simp only [hop, he, Sem.run_bind, hcv, Result.andThen_ok, Sem.run_pure]
theorem conv_run {W : World} {b z : Nat} (hb : W.heap[b]? = some (.cells (madeCells #[.int .u8 0] z) 5 (0, 0))) :
    (convert 22 9 (.slice (some ⟨b, 0, none⟩) z z)).run Try.prog W = .ok (.string (sb (List.replicate z 0))) W := by
  have hcv := run_convert_bytes_arg (P := Try.prog) W 22 5 Try.underlying22 Try.underlying5 b 0 z z ((List.replicate z 0).map Int.ofNat) (by simp) (fun i hi => by
    rw [Nat.zero_add, cell_of hb]
    simp [madeCells, hi, Nat.mod_one, List.getD_eq_getElem?_getD]) 9 Try.underlying9
  rw [strOfNums_nat] at hcv
  exact hcv
set_option maxRecDepth 100000 in
set_option maxHeartbeats 4000000 in
theorem sha_Sum (n : Nat) (st : Sh.S8) (hst : st.Ok) (rest : ByteArray) (len : Nat) (w : World) (h : w.heap[n]? = some (.cells (hC st rest len) 105 (0, 0))) (hr : rest.size < 64) (hlen : len ≤ 200000) :
    Calls Try.prog 45 #[.pointer (some ⟨n, 0, none⟩)] w fun e w' => e = .returned (.string (sb (Sh.out (Sh.run st (nb rest ++ tl rest.size len) ((rest.size + (tl rest.size len).length) / 64))))) ∧ Below w.heap.size w w' := by
  have c10 := cell_of h 10
  simp [hC] at c10
  have hal : (w.alloc (.cells z11 105)).heap[w.heap.size]? = some (.cells z11 105 (0, 0)) := (MapKept.heap_alloc _ _).1
  have hset := setRow_heap _ w.heap.size z11 (hC st rest len) _ _ hal
  have hbl : Below w.heap.size w ((w.alloc (.cells z11 105)).setRow w.heap.size (hC st rest len)) := below_setRow ((Below.refl _ _).alloc (Nat.le_refl _) _) (Nat.le_refl _) _
  have hold : ((w.alloc (.cells z11 105)).setRow w.heap.size (hC st rest len)).heap[n]? = some (.cells (hC st rest len) 105 (0, 0)) := (hbl.block _ (lt_of_block h)).trans h
  have HS := Lib.hid hset; have HA := Lib.hid hal; have H := Lib.hid h; have HBL := Lib.hid hbl; have HOLD := Lib.hid hold; have Hst := Lib.hid hst
  clear hset hal h hbl hold hst
  go_enter Try.func45, Try.ntmps45
  go_upto_region 3 with fail
  clear c10
  refine wp_region_list ?_
  go_wp2_with (first | (refine wpList_load_row rfl 105 (.tmp 16) rfl n rfl _ (hC st rest len) (0, 0) _ H.out Try.underlying105 rfl infoHash ?_) | (refine wpList_store_row rfl 105 (.tmp 3) (.tmp 17) rfl w.heap.size (hC st rest len) rfl rfl _ z11 HA.out infoHash rfl (by simp [hC, Value.oneCell']) ?_))
  simp only [Act.put]
  refine wp_abs (F := fun W => W.heap[w.heap.size]? = some (.cells (hC st rest len) 105 (0, 0)) ∧ W.heap[n]? = some (.cells (hC st rest len) 105 (0, 0)) ∧ Below w.heap.size w W) ⟨HS.out, HOLD.out, HBL.out⟩ ?_
  rintro W ⟨h1, h2, h3⟩
  have hn : n < w.heap.size := lt_of_block H.out
  have HN := Lib.hid hn
  have H1 := Lib.hid h1; have H2 := Lib.hid h2; have H3 := Lib.hid h3
  clear h1 h2 h3 HS HOLD HBL H HA hn
  obtain ⟨z, hz⟩ : ∃ z, (119 - rest.size) % 64 = z := ⟨_, rfl⟩
  have hzi : ((119 : Int) - (rest.size : Int)).tmod 64 = (z : Int) := by rw [Int.tmod_eq_emod_of_nonneg (by omega)]; omega
  have hzi2 : ((119 : Int) - (rest.size : Int)) % 64 = (z : Int) := by omega
  have hz64 : z < 64 := by omega
  have hwr : IntKind.i64.wrap ((119 : Int) - (rest.size : Int)) = (119 : Int) - (rest.size : Int) := by rw [IntKind.wrap_i64]; omega
  have hwl : IntKind.u64.wrap ((len : Int) * 8) = (len : Int) * 8 := by rw [IntKind.wrap_u64]; omega
  have htl : tl rest.size len = 128 :: (List.replicate z 0 ++ Sh.put (8 * len) 8) := by unfold tl; rw [hz, Nat.mod_eq_of_lt (by omega)]
  have hmk : ∀ w, (Instr.makeSlice 22 (.int .i64 (z : Int)) (.int .i64 (z : Int))).run Try.prog w = .ok (.slice (some ⟨w.heap.size, 0, none⟩) z z) (w.alloc (.cells (madeCells #[.int .u8 0] z) 5)) := fun w =>
    run_make_row' (P := Try.prog) 22 5 (.int .u8 0) 1 Try.underlying22 infoU8 rfl .i64 .i64 z (by omega) (by omega) w
  have hput := word_Put64 (8 * len) (by omega)
  rw [show ((8 * len : Nat) : Int) = (len : Int) * 8 by omega] at hput
  have HPUT := Lib.hid hput
  obtain ⟨Z, hZ⟩ : ∃ Z, sb (List.replicate z 0) = Z := ⟨_, rfl⟩
  obtain ⟨P8, hP8⟩ : ∃ P8, sb (Sh.put (8 * len) 8) = P8 := ⟨_, rfl⟩
  have hZs : Z.size = z := by rw [← hZ, sb_size, List.length_replicate]
  have hPs : P8.size = 8 := by rw [← hP8, sb_size, Sh.put_length]
  have h80 : (⟨#[128]⟩ : ByteArray).size = 1 := rfl
  rw [hP8] at HPUT
  obtain ⟨tlb, htlb⟩ : ∃ tlb : ByteArray, (⟨#[128]⟩ : ByteArray) ++ Z ++ P8 = tlb := ⟨_, rfl⟩
  have hnt : nb tlb = tl rest.size len := by
    rw [← htlb, nb_app, nb_app, ← hZ, ← hP8, nb_sb (fun x hx => by rw [List.eq_of_mem_replicate hx]; decide), nb_sb (Sh.put_bytes _ _), htl]; rfl
  have htz : tlb.size = 9 + z := by rw [← nb_length, hnt, htl]; simp [Sh.put_length]; omega
  have HNT := Lib.hid hnt
  have hkeep : ∀ w', Below W.heap.size W w' → (w'.cell? ⟨n, 8, none⟩ = some (.string rest) ∧ w'.cell? ⟨n, 9, none⟩ = some (.int .u64 (len : Int))) := fun w' hb => by
    have h' := (hb.block _ (lt_of_block H2.out)).trans H2.out
    exact ⟨cell_of h' 8, cell_of h' 9⟩
  have HKP := Lib.hid hkeep
  have hadd : ∀ w1, Below W.heap.size W w1 → Calls Try.prog 44 #[.pointer (some ⟨w.heap.size, 0, none⟩), .string tlb] w1 fun e w' => e = .returned (.tuple #[]) ∧ (w'.cell? ⟨n, 8, none⟩ = some (.string rest) ∧ w'.cell? ⟨n, 9, none⟩ = some (.int .u64 (len : Int))) ∧ Below w.heap.size w w' ∧
      ∃ r' l', w'.heap[w.heap.size]? = some (.cells (hC (Sh.run st (nb rest ++ tl rest.size len) ((rest.size + (tl rest.size len).length) / 64)) r' l') 105 (0, 0)) := fun w1 hb => by
    have h1' := (hb.block _ (lt_of_block H1.out)).trans H1.out
    have h2' := (hb.block _ (lt_of_block H2.out)).trans H2.out
    refine (sha_Add w.heap.size st Hst.out rest tlb len w1 w1 ⟨h1', ButS.refl _⟩ (by omega) (by omega)).mono ?_
    rintro e w' ⟨rfl, r', _, ho⟩
    have h3' : w'.heap[n]? = some (.cells (hC st rest len) 105 (0, 0)) := (ho.b.block n (lt_of_block h2') (by have := HN.out; omega)).trans h2'
    refine ⟨rfl, ⟨cell_of h3' 8, cell_of h3' 9⟩, (H3.out.trans (hb.mono H3.out.size)).trans (ho.b.below (fun k hk => by omega) ?_), r', len + tlb.size, ?_⟩
    · have := H3.out.size; have := hb.size; omega
    · rw [← HNT.out, nb_length]; exact ho.o
  have HADD := Lib.hid hadd
  clear hput hnt hkeep hadd htl hz
  have HZ := Lib.hid hZ
  have hc1 : (convert 22 9 (.slice (some ⟨W.heap.size, 0, none⟩) z z)).run Try.prog (W.alloc (.cells (madeCells #[.int .u8 0] z) 5)).drew = .ok (.string Z) (W.alloc (.cells (madeCells #[.int .u8 0] z) 5)).drew := hZ ▸ conv_run (MapKept.heap_alloc _ _).1
  clear hZ hP8
  go_cut [] (fun wx => Hid (Below w.heap.size w wx) ∧ ∃ r' l', Hid (wx.heap[w.heap.size]? = some (.cells (hC (Sh.run st (nb rest ++ tl rest.size len) ((rest.size + (tl rest.size len).length) / 64)) r' l') 105 (0, 0))))
  case first =>
    have hov1 : ¬ (9223372036854775807 < 1 + z) := by omega
    have hov2 : ¬ (9223372036854775807 < 1 + z + 8) := by omega
    have k8a := (HKP.out (W.alloc (.cells (madeCells #[.int .u8 0] z) 5)) ((Below.refl _ _).alloc (Nat.le_refl _) _)).1
    have k9a := (HKP.out (W.alloc (.cells (madeCells #[.int .u8 0] z) 5)) ((Below.refl _ _).alloc (Nat.le_refl _) _)).2
    have k80 := (HKP.out W (Below.refl _ _)).1
    have k90 := (HKP.out W (Below.refl _ _)).2
    go_region_law (first
      | (refine step_run rfl (conv_step rfl rfl ?_) ?_; (first | exact (MapKept.heap_alloc _ _).1 | exact (HBC.out.block _ (by simp)).trans (MapKept.heap_alloc _ _).1))
      | (go_simp; go_at_call 67; refine (HPUT.out _).mono ?_; rintro e w1 ⟨rfl, hb⟩; have HBC := Lib.hid hb; (first | (have hc2 := conv_run (z := z) ((hb.block W.heap.size (by simp)).trans (MapKept.heap_alloc W _).1); rw [HZ.out] at hc2; have HNP := Lib.hid ((((Below.refl _ W).alloc (Nat.le_refl _) _).drew).trans (hb.mono (by simp))); clear hb) | (have hc3 := conv_run (z := z) (MapKept.heap_alloc w1 _).1; rw [HZ.out] at hc3; have HNP := Lib.hid (((Below.refl W.heap.size W).drew).trans hb); clear hb)); have k8 := (HKP.out _ HNP.out).1; have k9 := (HKP.out _ HNP.out).2)
      | (go_simp; go_at_call 44; (first | refine (HADD.out _ HNP.out).mono ?_ | refine (HADD.out _ (HNP.out.alloc HNP.out.size _)).mono ?_); rintro e w3 ⟨rfl, hdn⟩; have HDN := Lib.hid hdn; clear hdn))
    all_goals
      obtain ⟨r', l', hob⟩ := HDN.out.2.2
      have HOB := Lib.hid hob
      have HBB := Lib.hid HDN.out.2.1
      clear hob HDN
      go_wp2_with fail
      go_meet
      exact ⟨HBB, r', l', HOB⟩
  case rest =>
    obtain ⟨HB, r', l', HOB⟩ := hcut
    clear H1 H2 H3 HPUT HKP HADD hc1 hmk
    obtain ⟨g, hg⟩ : ∃ g, Sh.run st (nb rest ++ tl rest.size len) ((rest.size + (tl rest.size len).length) / 64) = g := ⟨_, rfl⟩
    have hgo := Sh.run_ok Hst.out (nb rest ++ tl rest.size len) ((rest.size + (tl rest.size len).length) / 64)
    rw [hg] at HOB hgo
    have HG := Lib.hid hg
    have c0 := cell_of HOB.out 0; have c1 := cell_of HOB.out 1; have c2 := cell_of HOB.out 2; have c3 := cell_of HOB.out 3; have c4 := cell_of HOB.out 4; have c5 := cell_of HOB.out 5; have c6 := cell_of HOB.out 6; have c7 := cell_of HOB.out 7
    simp [hC] at c0 c1 c2 c3 c4 c5 c6 c7
    have HGO := Lib.hid hgo
    clear hg hgo HOB hzi hzi2 hwr hwl HNT HZ
    go_wp2_with fail
    go_loopg [38, 2] 8 (fun gk i so wr => ∃ j : Nat, j ≤ 8 ∧ 8 - j ≤ gk ∧ i = .int .i64 j ∧ so = .string (sb ((Sh.out g).take (4 * j))) ∧ Hid (Below w.heap.size w wr))
    case atStart => exact ⟨0, by omega, by omega, rfl, rfl, HB⟩
    case round =>
      clear HB c0 c1 c2 c3 c4 c5 c6 c7
      obtain ⟨j, hj, hgj, rfl, rfl, Hbw⟩ := hrel
      rcases (show j = 0 ∨ j = 1 ∨ j = 2 ∨ j = 3 ∨ j = 4 ∨ j = 5 ∨ j = 6 ∨ j = 7 ∨ j = 8 by omega) with rfl | rfl | rfl | rfl | rfl | rfl | rfl | rfl | rfl
      · obtain ⟨o, ho⟩ : ∃ o, sb ((Sh.out g).take 0) = o := ⟨_, rfl⟩
        have hos : o.size = 0 := by rw [← ho, sb_size, List.length_take, Sh.out_length]; rfl
        obtain ⟨q, hq⟩ : ∃ q, sb (Sh.put g.a 4) = q := ⟨_, rfl⟩
        have hqs : q.size = 4 := by rw [← hq, sb_size, Sh.put_length]
        have hn : o ++ q = sb ((Sh.out g).take 4) := by rw [← ho, ← hq, sb_app]; rfl
        have hp := word_Put32 g.a HGO.out.a wr
        rw [hq] at hp
        have hix : ∀ w, (Instr.index 103 (.agg #[.int .u32 (g.a : Int), .int .u32 (g.b : Int), .int .u32 (g.c : Int), .int .u32 (g.d : Int), .int .u32 (g.e : Int), .int .u32 (g.f : Int), .int .u32 (g.g : Int), .int .u32 (g.h : Int)]) (.int .i64 0)).run Try.prog w = .ok (.int .u32 (g.a : Int)) w := fun w => by kernel_rfl
        rw [show ((0 : Nat) : Int) = 0 from rfl]
        have HP := Lib.hid hp; have HNX := Lib.hid hn
        rw [ho]
        clear hp hn ho hq
        go_wp2_with (go_at_call 22; refine HP.out.mono ?_; rintro e w2 ⟨rfl, hb2⟩; have HB2 := Lib.hid hb2; clear hb2)
        go_roundg (8 - 1)
        case measure => omega
        case rel => exact ⟨1, by omega, by omega, by rfl, by rw [HNX.out], Lib.hid (Hbw.out.trans (HB2.out.mono Hbw.out.size))⟩
      · obtain ⟨o, ho⟩ : ∃ o, sb ((Sh.out g).take 4) = o := ⟨_, rfl⟩
        have hos : o.size = 4 := by rw [← ho, sb_size, List.length_take, Sh.out_length]; rfl
        obtain ⟨q, hq⟩ : ∃ q, sb (Sh.put g.b 4) = q := ⟨_, rfl⟩
        have hqs : q.size = 4 := by rw [← hq, sb_size, Sh.put_length]
        have hn : o ++ q = sb ((Sh.out g).take 8) := by rw [← ho, ← hq, sb_app]; rfl
        have hp := word_Put32 g.b HGO.out.b wr
        rw [hq] at hp
        have hix : ∀ w, (Instr.index 103 (.agg #[.int .u32 (g.a : Int), .int .u32 (g.b : Int), .int .u32 (g.c : Int), .int .u32 (g.d : Int), .int .u32 (g.e : Int), .int .u32 (g.f : Int), .int .u32 (g.g : Int), .int .u32 (g.h : Int)]) (.int .i64 1)).run Try.prog w = .ok (.int .u32 (g.b : Int)) w := fun w => by kernel_rfl
        rw [show ((1 : Nat) : Int) = 1 from rfl]
        have HP := Lib.hid hp; have HNX := Lib.hid hn
        rw [ho]
        clear hp hn ho hq
        go_wp2_with (go_at_call 22; refine HP.out.mono ?_; rintro e w2 ⟨rfl, hb2⟩; have HB2 := Lib.hid hb2; clear hb2)
        go_roundg (8 - 2)
        case measure => omega
        case rel => exact ⟨2, by omega, by omega, by rfl, by rw [HNX.out], Lib.hid (Hbw.out.trans (HB2.out.mono Hbw.out.size))⟩
      · obtain ⟨o, ho⟩ : ∃ o, sb ((Sh.out g).take 8) = o := ⟨_, rfl⟩
        have hos : o.size = 8 := by rw [← ho, sb_size, List.length_take, Sh.out_length]; rfl
        obtain ⟨q, hq⟩ : ∃ q, sb (Sh.put g.c 4) = q := ⟨_, rfl⟩
        have hqs : q.size = 4 := by rw [← hq, sb_size, Sh.put_length]
        have hn : o ++ q = sb ((Sh.out g).take 12) := by rw [← ho, ← hq, sb_app]; rfl
        have hp := word_Put32 g.c HGO.out.c wr
        rw [hq] at hp
        have hix : ∀ w, (Instr.index 103 (.agg #[.int .u32 (g.a : Int), .int .u32 (g.b : Int), .int .u32 (g.c : Int), .int .u32 (g.d : Int), .int .u32 (g.e : Int), .int .u32 (g.f : Int), .int .u32 (g.g : Int), .int .u32 (g.h : Int)]) (.int .i64 2)).run Try.prog w = .ok (.int .u32 (g.c : Int)) w := fun w => by kernel_rfl
        rw [show ((2 : Nat) : Int) = 2 from rfl]
        have HP := Lib.hid hp; have HNX := Lib.hid hn
        rw [ho]
        clear hp hn ho hq
        go_wp2_with (go_at_call 22; refine HP.out.mono ?_; rintro e w2 ⟨rfl, hb2⟩; have HB2 := Lib.hid hb2; clear hb2)
        go_roundg (8 - 3)
        case measure => omega
        case rel => exact ⟨3, by omega, by omega, by rfl, by rw [HNX.out], Lib.hid (Hbw.out.trans (HB2.out.mono Hbw.out.size))⟩
      · obtain ⟨o, ho⟩ : ∃ o, sb ((Sh.out g).take 12) = o := ⟨_, rfl⟩
        have hos : o.size = 12 := by rw [← ho, sb_size, List.length_take, Sh.out_length]; rfl
        obtain ⟨q, hq⟩ : ∃ q, sb (Sh.put g.d 4) = q := ⟨_, rfl⟩
        have hqs : q.size = 4 := by rw [← hq, sb_size, Sh.put_length]
        have hn : o ++ q = sb ((Sh.out g).take 16) := by rw [← ho, ← hq, sb_app]; rfl
        have hp := word_Put32 g.d HGO.out.d wr
        rw [hq] at hp
        have hix : ∀ w, (Instr.index 103 (.agg #[.int .u32 (g.a : Int), .int .u32 (g.b : Int), .int .u32 (g.c : Int), .int .u32 (g.d : Int), .int .u32 (g.e : Int), .int .u32 (g.f : Int), .int .u32 (g.g : Int), .int .u32 (g.h : Int)]) (.int .i64 3)).run Try.prog w = .ok (.int .u32 (g.d : Int)) w := fun w => by kernel_rfl
        rw [show ((3 : Nat) : Int) = 3 from rfl]
        have HP := Lib.hid hp; have HNX := Lib.hid hn
        rw [ho]
        clear hp hn ho hq
        go_wp2_with (go_at_call 22; refine HP.out.mono ?_; rintro e w2 ⟨rfl, hb2⟩; have HB2 := Lib.hid hb2; clear hb2)
        go_roundg (8 - 4)
        case measure => omega
        case rel => exact ⟨4, by omega, by omega, by rfl, by rw [HNX.out], Lib.hid (Hbw.out.trans (HB2.out.mono Hbw.out.size))⟩
      · obtain ⟨o, ho⟩ : ∃ o, sb ((Sh.out g).take 16) = o := ⟨_, rfl⟩
        have hos : o.size = 16 := by rw [← ho, sb_size, List.length_take, Sh.out_length]; rfl
        obtain ⟨q, hq⟩ : ∃ q, sb (Sh.put g.e 4) = q := ⟨_, rfl⟩
        have hqs : q.size = 4 := by rw [← hq, sb_size, Sh.put_length]
        have hn : o ++ q = sb ((Sh.out g).take 20) := by rw [← ho, ← hq, sb_app]; rfl
        have hp := word_Put32 g.e HGO.out.e wr
        rw [hq] at hp
        have hix : ∀ w, (Instr.index 103 (.agg #[.int .u32 (g.a : Int), .int .u32 (g.b : Int), .int .u32 (g.c : Int), .int .u32 (g.d : Int), .int .u32 (g.e : Int), .int .u32 (g.f : Int), .int .u32 (g.g : Int), .int .u32 (g.h : Int)]) (.int .i64 4)).run Try.prog w = .ok (.int .u32 (g.e : Int)) w := fun w => by kernel_rfl
        rw [show ((4 : Nat) : Int) = 4 from rfl]
        have HP := Lib.hid hp; have HNX := Lib.hid hn
        rw [ho]
        clear hp hn ho hq
        go_wp2_with (go_at_call 22; refine HP.out.mono ?_; rintro e w2 ⟨rfl, hb2⟩; have HB2 := Lib.hid hb2; clear hb2)
        go_roundg (8 - 5)
        case measure => omega
        case rel => exact ⟨5, by omega, by omega, by rfl, by rw [HNX.out], Lib.hid (Hbw.out.trans (HB2.out.mono Hbw.out.size))⟩
      · obtain ⟨o, ho⟩ : ∃ o, sb ((Sh.out g).take 20) = o := ⟨_, rfl⟩
        have hos : o.size = 20 := by rw [← ho, sb_size, List.length_take, Sh.out_length]; rfl
        obtain ⟨q, hq⟩ : ∃ q, sb (Sh.put g.f 4) = q := ⟨_, rfl⟩
        have hqs : q.size = 4 := by rw [← hq, sb_size, Sh.put_length]
        have hn : o ++ q = sb ((Sh.out g).take 24) := by rw [← ho, ← hq, sb_app]; rfl
        have hp := word_Put32 g.f HGO.out.f wr
        rw [hq] at hp
        have hix : ∀ w, (Instr.index 103 (.agg #[.int .u32 (g.a : Int), .int .u32 (g.b : Int), .int .u32 (g.c : Int), .int .u32 (g.d : Int), .int .u32 (g.e : Int), .int .u32 (g.f : Int), .int .u32 (g.g : Int), .int .u32 (g.h : Int)]) (.int .i64 5)).run Try.prog w = .ok (.int .u32 (g.f : Int)) w := fun w => by kernel_rfl
        rw [show ((5 : Nat) : Int) = 5 from rfl]
        have HP := Lib.hid hp; have HNX := Lib.hid hn
        rw [ho]
        clear hp hn ho hq
        go_wp2_with (go_at_call 22; refine HP.out.mono ?_; rintro e w2 ⟨rfl, hb2⟩; have HB2 := Lib.hid hb2; clear hb2)
        go_roundg (8 - 6)
        case measure => omega
        case rel => exact ⟨6, by omega, by omega, by rfl, by rw [HNX.out], Lib.hid (Hbw.out.trans (HB2.out.mono Hbw.out.size))⟩
      · obtain ⟨o, ho⟩ : ∃ o, sb ((Sh.out g).take 24) = o := ⟨_, rfl⟩
        have hos : o.size = 24 := by rw [← ho, sb_size, List.length_take, Sh.out_length]; rfl
        obtain ⟨q, hq⟩ : ∃ q, sb (Sh.put g.g 4) = q := ⟨_, rfl⟩
        have hqs : q.size = 4 := by rw [← hq, sb_size, Sh.put_length]
        have hn : o ++ q = sb ((Sh.out g).take 28) := by rw [← ho, ← hq, sb_app]; rfl
        have hp := word_Put32 g.g HGO.out.g wr
        rw [hq] at hp
        have hix : ∀ w, (Instr.index 103 (.agg #[.int .u32 (g.a : Int), .int .u32 (g.b : Int), .int .u32 (g.c : Int), .int .u32 (g.d : Int), .int .u32 (g.e : Int), .int .u32 (g.f : Int), .int .u32 (g.g : Int), .int .u32 (g.h : Int)]) (.int .i64 6)).run Try.prog w = .ok (.int .u32 (g.g : Int)) w := fun w => by kernel_rfl
        rw [show ((6 : Nat) : Int) = 6 from rfl]
        have HP := Lib.hid hp; have HNX := Lib.hid hn
        rw [ho]
        clear hp hn ho hq
        go_wp2_with (go_at_call 22; refine HP.out.mono ?_; rintro e w2 ⟨rfl, hb2⟩; have HB2 := Lib.hid hb2; clear hb2)
        go_roundg (8 - 7)
        case measure => omega
        case rel => exact ⟨7, by omega, by omega, by rfl, by rw [HNX.out], Lib.hid (Hbw.out.trans (HB2.out.mono Hbw.out.size))⟩
      · obtain ⟨o, ho⟩ : ∃ o, sb ((Sh.out g).take 28) = o := ⟨_, rfl⟩
        have hos : o.size = 28 := by rw [← ho, sb_size, List.length_take, Sh.out_length]; rfl
        obtain ⟨q, hq⟩ : ∃ q, sb (Sh.put g.h 4) = q := ⟨_, rfl⟩
        have hqs : q.size = 4 := by rw [← hq, sb_size, Sh.put_length]
        have hn : o ++ q = sb ((Sh.out g).take 32) := by rw [← ho, ← hq, sb_app]; rfl
        have hp := word_Put32 g.h HGO.out.h wr
        rw [hq] at hp
        have hix : ∀ w, (Instr.index 103 (.agg #[.int .u32 (g.a : Int), .int .u32 (g.b : Int), .int .u32 (g.c : Int), .int .u32 (g.d : Int), .int .u32 (g.e : Int), .int .u32 (g.f : Int), .int .u32 (g.g : Int), .int .u32 (g.h : Int)]) (.int .i64 7)).run Try.prog w = .ok (.int .u32 (g.h : Int)) w := fun w => by kernel_rfl
        rw [show ((7 : Nat) : Int) = 7 from rfl]
        have HP := Lib.hid hp; have HNX := Lib.hid hn
        rw [ho]
        clear hp hn ho hq
        go_wp2_with (go_at_call 22; refine HP.out.mono ?_; rintro e w2 ⟨rfl, hb2⟩; have HB2 := Lib.hid hb2; clear hb2)
        go_roundg (8 - 8)
        case measure => omega
        case rel => exact ⟨8, by omega, by omega, by rfl, by rw [HNX.out], Lib.hid (Hbw.out.trans (HB2.out.mono Hbw.out.size))⟩
      · have e : (Sh.out g).take (4 * 8) = Sh.out g := List.take_of_length_le (by rw [Sh.out_length]; omega)
        rw [e]
        go_wp2_with fail
        go_ret
        exact ⟨by rw [HG.out]; rfl, Hbw.out⟩
end Go.Proofs.Ythcmcjoenepkbaa
