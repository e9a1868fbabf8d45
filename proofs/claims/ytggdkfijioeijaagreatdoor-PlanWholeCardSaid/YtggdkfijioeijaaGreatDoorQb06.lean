/- Contracts: sha.New, Add. Contracts: sha.Sum, sha.Of a text. Contracts: sha.Of a text; ring.Hash, ring.Point. -/
import Derived.Test.YtggdkfijioeijaaGreatDoorQb05
namespace Go.Proofs.YtggdkfijioeijaaGreatDoor
open Go Go.RowKit
theorem run_back (s : Sh.S8) (b : List Nat) (k : Nat) : Sh.run s b (k + 1) = Sh.block (Sh.run s b k) ((b.drop (64 * k)).take 64) := by
 induction k generalizing s b with
 | zero => simp [Sh.run]
 | succ k ih =>
  rw [Sh.run, ih, Sh.run, List.drop_drop, show 64 + 64 * k = 64 * (k + 1) by omega]
theorem sha_eq (t : List Nat) : Sh.sha t = Sh.out (Sh.run (Sh.run Sh.init t (t.length / 64)) (t.drop (64 * (t.length / 64)) ++ Sh.tail t.length) ((t.drop (64 * (t.length / 64)) ++ Sh.tail t.length).length / 64)) := by
 unfold Sh.sha
 rw [← Sh.run_app Sh.init t (Sh.tail t.length) (t.length / 64) _ (by omega)]
 congr 2
 rw [List.length_append, List.length_drop, Sh.tail_length]
 omega
theorem nb_extract (s : ByteArray) (a b : Nat) : nb (s.extract a b) = ((nb s).drop a).take (b - a) := by
 unfold nb
 rw [ByteArray.data_extract]
 simp only [Array.toList_extract, List.extract_eq_take_drop, List.map_take, List.map_drop]
def hC (st : Sh.S8) (rest : ByteArray) (len : Nat) : Array Value := #[.int .u32 (st.a : Int), .int .u32 (st.b : Int), .int .u32 (st.c : Int), .int .u32 (st.d : Int), .int .u32 (st.e : Int), .int .u32 (st.f : Int), .int .u32 (st.g : Int), .int .u32 (st.h : Int), .string rest, .int .u64 (len : Int), .bool true]
structure HO (n : Nat) (st : Sh.S8) (rest : ByteArray) (len : Nat) (w W : World) : Prop where
 o : W.heap[n]? = some (.cells (hC st rest len) 203 (0, 0))
 b : ButS (fun k => k = n) w W
theorem HO.below {n : Nat} {st : Sh.S8} {rest : ByteArray} {len : Nat} {w W W' : World} (h : HO n st rest len w W) (hb : Below W.heap.size W W') : HO n st rest len w W' :=
 ⟨(hb.block _ (lt_of_block h.o)).trans h.o, h.b.trans (ButS.of hb)⟩
set_option maxRecDepth 100000 in
theorem sha_New (w : World) : Calls Tryz.prog 100 #[] w fun e w' => e = .returned (.pointer (some ⟨w.heap.size, 0, none⟩)) ∧ w' = w.alloc (.cells (hC Sh.init ByteArray.empty 0) 203) := by
 go_enter Tryz.func100, Tryz.ntmps100
 go_wp2
 go_ret
 exact ⟨rfl, rfl⟩
theorem HO.set {n : Nat} {st : Sh.S8} {rest : ByteArray} {len : Nat} {w W : World} (h : HO n st rest len w W) (i : Nat) (u : Value) {st' : Sh.S8} {rest' : ByteArray} {len' : Nat} (hc : (hC st rest len).setIfInBounds i u = hC st' rest' len') : HO n st' rest' len' w (W.setCell ⟨n, i, none⟩ u) := by
 refine ⟨?_, h.b.trans (ButS.set (S := fun k => k = n) W (p := ⟨n, i, none⟩) rfl u)⟩
 rw [setCell_eq_setRow W n i _ _ _ u h.o, setRow_heap _ _ _ _ _ _ h.o, hc]
theorem HO.set8 {n : Nat} {st : Sh.S8} {rest : ByteArray} {len : Nat} {w W : World} (h : HO n st rest len w W) (r : Sh.S8) : HO n r rest len w ((((((((W.setCell ⟨n, 0, none⟩ (.int .u32 (r.a : Int))).setCell ⟨n, 1, none⟩ (.int .u32 (r.b : Int))).setCell ⟨n, 2, none⟩ (.int .u32 (r.c : Int))).setCell ⟨n, 3, none⟩ (.int .u32 (r.d : Int))).setCell ⟨n, 4, none⟩ (.int .u32 (r.e : Int))).setCell ⟨n, 5, none⟩ (.int .u32 (r.f : Int))).setCell ⟨n, 6, none⟩ (.int .u32 (r.g : Int))).setCell ⟨n, 7, none⟩ (.int .u32 (r.h : Int))) := by
 have h0 := h.set 0 (.int .u32 (r.a : Int)) (st' := ⟨r.a, st.b, st.c, st.d, st.e, st.f, st.g, st.h⟩) rfl
 have h1 := h0.set 1 (.int .u32 (r.b : Int)) (st' := ⟨r.a, r.b, st.c, st.d, st.e, st.f, st.g, st.h⟩) rfl
 have h2 := h1.set 2 (.int .u32 (r.c : Int)) (st' := ⟨r.a, r.b, r.c, st.d, st.e, st.f, st.g, st.h⟩) rfl
 have h3 := h2.set 3 (.int .u32 (r.d : Int)) (st' := ⟨r.a, r.b, r.c, r.d, st.e, st.f, st.g, st.h⟩) rfl
 have h4 := h3.set 4 (.int .u32 (r.e : Int)) (st' := ⟨r.a, r.b, r.c, r.d, r.e, st.f, st.g, st.h⟩) rfl
 have h5 := h4.set 5 (.int .u32 (r.f : Int)) (st' := ⟨r.a, r.b, r.c, r.d, r.e, r.f, st.g, st.h⟩) rfl
 have h6 := h5.set 6 (.int .u32 (r.g : Int)) (st' := ⟨r.a, r.b, r.c, r.d, r.e, r.f, r.g, st.h⟩) rfl
 exact h6.set 7 (.int .u32 (r.h : Int)) (st' := r) rfl
set_option maxRecDepth 100000 in
set_option maxHeartbeats 4000000 in
theorem sha_Add (n : Nat) (st : Sh.S8) (hst : st.Ok) (rest s : ByteArray) (len : Nat) (w0 w : World) (h : HO n st rest len w0 w) (hsz : rest.size + s.size ≤ 200000) (hlen : len + s.size < 4611686018427387904) :
  Calls Tryz.prog 101 #[.pointer (some ⟨n, 0, none⟩), .string s] w fun e w' => e = .returned (.tuple #[]) ∧ ∃ rest' : ByteArray, nb rest' = (nb rest ++ nb s).drop (64 * ((rest.size + s.size) / 64)) ∧ HO n (Sh.run st (nb rest ++ nb s) ((rest.size + s.size) / 64)) rest' (len + s.size) w0 w' := by
 have c10 := cell_of h.o 10; have c9 := cell_of h.o 9; have f9 := frozen_of h.o 9; have c8 := cell_of h.o 8
 simp [hC] at c10 c9 c8
 have h2 := h.set 9 (.int .u64 ((len + s.size : Nat) : Int)) (st' := st) (rest' := rest) (len' := len + s.size) rfl
 rw [show ((len + s.size : Nat) : Int) = (len : Int) + (s.size : Int) by omega] at h2
 have H2 := Lib.hid h2; have Hst := Lib.hid hst
 obtain ⟨t, ht⟩ : ∃ t : ByteArray, rest ++ s = t := ⟨_, rfl⟩
 have hnt : nb t = nb rest ++ nb s := by rw [← ht, nb_app]
 have htz : t.size = rest.size + s.size := by rw [← nb_length, hnt, List.length_append, nb_length, nb_length]
 have HNT := Lib.hid hnt; have HTZ := Lib.hid htz
 clear h h2 hst hnt htz
 go_enter Tryz.func101, Tryz.ntmps101
 go_wp2_with fail
 clear c10 c9 f9 c8
 go_loopg [1] (t.size / 64) (fun g sl wr => ∃ (k : Nat) (u : ByteArray), sl = .string u ∧ Hid (64 * k ≤ t.size) ∧ Hid (u.size = t.size - 64 * k) ∧ t.size / 64 - k ≤ g ∧ Hid (nb u = (nb t).drop (64 * k)) ∧ Hid (HO n (Sh.run st (nb t) k) rest (len + s.size) w0 wr))
 case atStart => exact ⟨0, t, rfl, Lib.hid (by omega), Lib.hid (by omega), by omega, Lib.hid rfl, H2⟩
 case round =>
  clear H2
  obtain ⟨k, u, rfl, HK, HSZ, hg, HU, HO⟩ := hrel
  by_cases h64 : 64 ≤ u.size
  ·have h64z : (64 : Int) ≤ (u.size : Int) := by omega
   have hrok := Sh.run_ok Hst.out (nb t) k
   have hnx := run_back st (nb t) k
   rw [← HU.out] at hnx
   have hex : nb (u.extract 0 64) = (nb u).take 64 := by rw [nb_extract]; rfl
   have hes : (u.extract 0 64).size = 64 := by rw [← nb_length, hex, List.length_take, nb_length]; omega
   have hbeh := sha_behind (Sh.run st (nb t) k) hrok (u.extract 0 64) hes
   rw [hex, ← hnx] at hbeh
   have hex2 : nb (u.extract 64 u.size) = (nb t).drop (64 * (k + 1)) := by
    rw [nb_extract, HU.out, List.drop_drop, show 64 * k + 64 = 64 * (k + 1) by omega]
    refine List.take_of_length_le ?_
    rw [List.length_drop, nb_length]; have := HSZ.out; omega
   have hes2 : (u.extract 64 u.size).size = t.size - 64 * (k + 1) := by rw [← nb_length, hex2, List.length_drop, nb_length]
   have d0 := cell_of HO.out.o 0
   have d1 := cell_of HO.out.o 1
   have d2 := cell_of HO.out.o 2
   have d3 := cell_of HO.out.o 3
   have d4 := cell_of HO.out.o 4
   have d5 := cell_of HO.out.o 5
   have d6 := cell_of HO.out.o 6
   have d7 := cell_of HO.out.o 7
   obtain ⟨r, hr⟩ : ∃ r, Sh.run st (nb t) k = r := ⟨_, rfl⟩
   obtain ⟨r2, hr2⟩ : ∃ r2, Sh.run st (nb t) (k + 1) = r2 := ⟨_, rfl⟩
   rw [hr] at HO hbeh d0 d1 d2 d3 d4 d5 d6 d7
   rw [hr2] at hbeh
   simp [hC] at d0 d1 d2 d3 d4 d5 d6 d7
   simp only [S8v] at hbeh
   have HBEH := Lib.hid hbeh; have HR2 := Lib.hid hr2; have HX2 := Lib.hid hex2; have HE2 := Lib.hid hes2
   obtain ⟨u2, hu2⟩ : ∃ u2, u.extract 64 u.size = u2 := ⟨_, rfl⟩
   rw [hu2] at HX2 HE2
   clear hbeh hr2 hex2 hes2 hr hnx hrok hex hes
   go_wp2_with fail
   go_region_with (go_at_call 127; refine (HBEH.out _).mono ?_; rintro e w1 ⟨rfl, hb1⟩; have HN1 := Lib.hid ((HO.out.below (Below.refl _ _).drew).below hb1); clear hb1; have c0 := cell_of HN1.out.o 0; have f0 := frozen_of HN1.out.o 0; have c1 := cell_of HN1.out.o 1; have f1 := frozen_of HN1.out.o 1; have c2 := cell_of HN1.out.o 2; have f2 := frozen_of HN1.out.o 2; have c3 := cell_of HN1.out.o 3; have f3 := frozen_of HN1.out.o 3; have c4 := cell_of HN1.out.o 4; have f4 := frozen_of HN1.out.o 4; have c5 := cell_of HN1.out.o 5; have f5 := frozen_of HN1.out.o 5; have c6 := cell_of HN1.out.o 6; have f6 := frozen_of HN1.out.o 6; have c7 := cell_of HN1.out.o 7; have f7 := frozen_of HN1.out.o 7; simp [hC] at c0 c1 c2 c3 c4 c5 c6 c7)
   all_goals
    have hset := HN1.out.set8 r2
    rw [← HR2.out] at hset
    have HSET := Lib.hid hset
    clear hset
    rw [← HR2.out]
    go_wp2_with fail
    go_roundg (t.size / 64 - (k + 1))
    case measure => have := HSZ.out; have := HK.out; omega
    case rel => exact ⟨k + 1, u2, rfl, Lib.hid (by have := HSZ.out; have := HK.out; omega), HE2, Nat.le_refl _, HX2, HSET⟩
  ·have h64z : ¬ ((64 : Int) ≤ (u.size : Int)) := by omega
   have d8 := cell_of HO.out.o 8; have f8 := frozen_of HO.out.o 8
   simp [hC] at d8
   have hset := HO.out.set 8 (.string u) (st' := Sh.run st (nb t) k) (rest' := u) (len' := len + s.size) rfl
   have HSET := Lib.hid hset
   clear hset
   go_wp2_with fail
   go_end0
   have e : k = (rest.size + s.size) / 64 := by have := HSZ.out; have := HK.out; have := HTZ.out; omega
   subst e
   rw [← HNT.out]
   exact ⟨rfl, u, HU.out, HSET.out⟩
end Go.Proofs.YtggdkfijioeijaaGreatDoor
namespace Go.Proofs.YtggdkfijioeijaaGreatDoor
open Go Go.RowKit
theorem infoHash : (Tryz.prog.info? 203).map (·.size) = some 11 := by kernel_rfl
def z11 : Array Value := #[.int .u32 0, .int .u32 0, .int .u32 0, .int .u32 0, .int .u32 0, .int .u32 0, .int .u32 0, .int .u32 0, .string ByteArray.empty, .int .u64 0, .bool false]
def tl (r n : Nat) : List Nat := 128 :: (List.replicate ((119 - r) % 64) 0 ++ Sh.put (8 * n % 18446744073709551616) 8)
theorem step_run {P : Program} {ops : Array Oper} {o : Oper} {a : Act} {w w' : World} {K : Act → World → Prop} {Q : Exit → Act → World → Prop} {E : Prop} {v : Value} (hgd : o.guard = none) (h : (execOp a.eval o).run P w = .ok (.value v) w') (k : K (a.put o.dst v) w') :
  if Region.wanted o (yielded ops a.tmps) = true then Oper.wp P o a w K Q else E := by
 have hw : Region.wanted o (yielded ops a.tmps) = true := by simp [Region.wanted, hgd]
 rw [if_pos hw]
 unfold Oper.wp; rw [h]; exact k
theorem conv_step {o : Oper} {a : Act} {W : World} {b z : Nat} {x : Operand} (hop : o.op = .convert 195 9 x) (he : a.eval x = .slice (some ⟨b, 0, none⟩) z z) (hb : W.heap[b]? = some (.cells (madeCells #[.int .u8 0] z) 5 (0, 0))) :
  (execOp a.eval o).run Tryz.prog W = .ok (.value (.string (sb (List.replicate z 0)))) W := by
 have hcv := run_convert_bytes_arg (P := Tryz.prog) W 195 5 Tryz.underlying195 Tryz.underlying5 b 0 z z ((List.replicate z 0).map Int.ofNat) (by simp) (fun i hi => by
  rw [Nat.zero_add, cell_of hb]
  simp [madeCells, hi, Nat.mod_one, List.getD_eq_getElem?_getD]) 9 Tryz.underlying9
 rw [strOfNums_nat] at hcv
 unfold execOp
 simp only [hop, he, Sem.run_bind, hcv, Result.andThen_ok, Sem.run_pure]
theorem conv_run {W : World} {b z : Nat} (hb : W.heap[b]? = some (.cells (madeCells #[.int .u8 0] z) 5 (0, 0))) :
  (convert 195 9 (.slice (some ⟨b, 0, none⟩) z z)).run Tryz.prog W = .ok (.string (sb (List.replicate z 0))) W := by
 have hcv := run_convert_bytes_arg (P := Tryz.prog) W 195 5 Tryz.underlying195 Tryz.underlying5 b 0 z z ((List.replicate z 0).map Int.ofNat) (by simp) (fun i hi => by
  rw [Nat.zero_add, cell_of hb]
  simp [madeCells, hi, Nat.mod_one, List.getD_eq_getElem?_getD]) 9 Tryz.underlying9
 rw [strOfNums_nat] at hcv
 exact hcv
set_option maxRecDepth 100000 in
set_option maxHeartbeats 4000000 in
theorem sha_Sum (n : Nat) (st : Sh.S8) (hst : st.Ok) (rest : ByteArray) (len : Nat) (w : World) (h : w.heap[n]? = some (.cells (hC st rest len) 203 (0, 0))) (hr : rest.size < 64) (hlen : len ≤ 200000) :
  Calls Tryz.prog 102 #[.pointer (some ⟨n, 0, none⟩)] w fun e w' => e = .returned (.string (sb (Sh.out (Sh.run st (nb rest ++ tl rest.size len) ((rest.size + (tl rest.size len).length) / 64))))) ∧ Below w.heap.size w w' := by
 have c10 := cell_of h 10
 simp [hC] at c10
 have hal : (w.alloc (.cells z11 203)).heap[w.heap.size]? = some (.cells z11 203 (0, 0)) := (MapKept.heap_alloc _ _).1
 have hset := setRow_heap _ w.heap.size z11 (hC st rest len) _ _ hal
 have hbl : Below w.heap.size w ((w.alloc (.cells z11 203)).setRow w.heap.size (hC st rest len)) := below_setRow ((Below.refl _ _).alloc (Nat.le_refl _) _) (Nat.le_refl _) _
 have hold : ((w.alloc (.cells z11 203)).setRow w.heap.size (hC st rest len)).heap[n]? = some (.cells (hC st rest len) 203 (0, 0)) := (hbl.block _ (lt_of_block h)).trans h
 have HS := Lib.hid hset; have HA := Lib.hid hal; have H := Lib.hid h; have HBL := Lib.hid hbl; have HOLD := Lib.hid hold; have Hst := Lib.hid hst
 clear hset hal h hbl hold hst
 go_enter Tryz.func102, Tryz.ntmps102
 go_upto_region 3 with fail
 clear c10
 refine wp_region_list ?_
 go_wp2_with (first | (refine wpList_load_row rfl 203 (.tmp 16) rfl n rfl _ (hC st rest len) (0, 0) _ H.out Tryz.underlying203 rfl infoHash ?_) | (refine wpList_store_row rfl 203 (.tmp 3) (.tmp 17) rfl w.heap.size (hC st rest len) rfl rfl _ z11 HA.out infoHash rfl (by simp [hC, Value.oneCell']) ?_))
 simp only [Act.put]
 refine wp_abs (F := fun W => W.heap[w.heap.size]? = some (.cells (hC st rest len) 203 (0, 0)) ∧ W.heap[n]? = some (.cells (hC st rest len) 203 (0, 0)) ∧ Below w.heap.size w W) ⟨HS.out, HOLD.out, HBL.out⟩ ?_
 rintro W ⟨h1, h2, h3⟩
 have hn : n < w.heap.size := lt_of_block H.out
 have HN := Lib.hid hn
 have H1 := Lib.hid h1; have H2 := Lib.hid h2; have H3 := Lib.hid h3
 clear h1 h2 h3 HS HOLD HBL H HA hn
 obtain ⟨z, hz⟩ : ∃ z, (119 - rest.size) % 64 = z := ⟨_, rfl⟩
 have hzi : ((119 : Int) - (rest.size : Int)).tmod 64 = (z : Int) := by rw [Int.tmod_eq_emod_of_nonneg (by omega)]; omega
 have hzi2 : ((119 : Int) - (rest.size : Int)) % 64 = (z : Int) := by omega
 have hz64 : z < 64 := by omega
 have hwr : IntKind.i64.wrap ((119 : Int) - (rest.size : Int)) = (119 : Int) - (rest.size : Int) := by rw [IntKind.wrap_i64]; omega
 have hwl : IntKind.u64.wrap ((len : Int) * 8) = (len : Int) * 8 := by rw [IntKind.wrap_u64]; omega
 have htl : tl rest.size len = 128 :: (List.replicate z 0 ++ Sh.put (8 * len) 8) := by unfold tl; rw [hz, Nat.mod_eq_of_lt (by omega)]
 have hmk : ∀ w, (Instr.makeSlice 195 (.int .i64 (z : Int)) (.int .i64 (z : Int))).run Tryz.prog w = .ok (.slice (some ⟨w.heap.size, 0, none⟩) z z) (w.alloc (.cells (madeCells #[.int .u8 0] z) 5)) := fun w =>
  run_make_row' (P := Tryz.prog) 195 5 (.int .u8 0) 1 Tryz.underlying195 infoU8 rfl .i64 .i64 z (by omega) (by omega) w
 have hput := word_Put64 (8 * len) (by omega)
 rw [show ((8 * len : Nat) : Int) = (len : Int) * 8 by omega] at hput
 have HPUT := Lib.hid hput
 obtain ⟨Z, hZ⟩ : ∃ Z, sb (List.replicate z 0) = Z := ⟨_, rfl⟩
 obtain ⟨P8, hP8⟩ : ∃ P8, sb (Sh.put (8 * len) 8) = P8 := ⟨_, rfl⟩
 have hZs : Z.size = z := by rw [← hZ, sb_size, List.length_replicate]
 have hPs : P8.size = 8 := by rw [← hP8, sb_size, Sh.put_length]
 have h80 : (⟨#[128]⟩ : ByteArray).size = 1 := rfl
 rw [hP8] at HPUT
 obtain ⟨tlb, htlb⟩ : ∃ tlb : ByteArray, (⟨#[128]⟩ : ByteArray) ++ Z ++ P8 = tlb := ⟨_, rfl⟩
 have hnt : nb tlb = tl rest.size len := by
  rw [← htlb, nb_app, nb_app, ← hZ, ← hP8, nb_sb (fun x hx => by rw [List.eq_of_mem_replicate hx]; decide), nb_sb (Sh.put_bytes _ _), htl]; rfl
 have htz : tlb.size = 9 + z := by rw [← nb_length, hnt, htl]; simp [Sh.put_length]; omega
 have HNT := Lib.hid hnt
 have hkeep : ∀ w', Below W.heap.size W w' → (w'.cell? ⟨n, 8, none⟩ = some (.string rest) ∧ w'.cell? ⟨n, 9, none⟩ = some (.int .u64 (len : Int))) := fun w' hb => by
  have h' := (hb.block _ (lt_of_block H2.out)).trans H2.out
  exact ⟨cell_of h' 8, cell_of h' 9⟩
 have HKP := Lib.hid hkeep
 have hadd : ∀ w1, Below W.heap.size W w1 → Calls Tryz.prog 101 #[.pointer (some ⟨w.heap.size, 0, none⟩), .string tlb] w1 fun e w' => e = .returned (.tuple #[]) ∧ (w'.cell? ⟨n, 8, none⟩ = some (.string rest) ∧ w'.cell? ⟨n, 9, none⟩ = some (.int .u64 (len : Int))) ∧ Below w.heap.size w w' ∧
   ∃ r' l', w'.heap[w.heap.size]? = some (.cells (hC (Sh.run st (nb rest ++ tl rest.size len) ((rest.size + (tl rest.size len).length) / 64)) r' l') 203 (0, 0)) := fun w1 hb => by
  have h1' := (hb.block _ (lt_of_block H1.out)).trans H1.out
  have h2' := (hb.block _ (lt_of_block H2.out)).trans H2.out
  refine (sha_Add w.heap.size st Hst.out rest tlb len w1 w1 ⟨h1', ButS.refl _⟩ (by omega) (by omega)).mono ?_
  rintro e w' ⟨rfl, r', _, ho⟩
  have h3' : w'.heap[n]? = some (.cells (hC st rest len) 203 (0, 0)) := (ho.b.block n (lt_of_block h2') (by have := HN.out; omega)).trans h2'
  refine ⟨rfl, ⟨cell_of h3' 8, cell_of h3' 9⟩, (H3.out.trans (hb.mono H3.out.size)).trans (ho.b.below (fun k hk => by omega) ?_), r', len + tlb.size, ?_⟩
  ·have := H3.out.size; have := hb.size; omega
  ·rw [← HNT.out, nb_length]; exact ho.o
 have HADD := Lib.hid hadd
 clear hput hnt hkeep hadd htl hz
 have HZ := Lib.hid hZ
 have hc1 : (convert 195 9 (.slice (some ⟨W.heap.size, 0, none⟩) z z)).run Tryz.prog (W.alloc (.cells (madeCells #[.int .u8 0] z) 5)).drew = .ok (.string Z) (W.alloc (.cells (madeCells #[.int .u8 0] z) 5)).drew := hZ ▸ conv_run (MapKept.heap_alloc _ _).1
 clear hZ hP8
 go_cut [] (fun wx => Hid (Below w.heap.size w wx) ∧ ∃ r' l', Hid (wx.heap[w.heap.size]? = some (.cells (hC (Sh.run st (nb rest ++ tl rest.size len) ((rest.size + (tl rest.size len).length) / 64)) r' l') 203 (0, 0))))
 case first =>
  have hov1 : ¬ (9223372036854775807 < 1 + z) := by omega
  have hov2 : ¬ (9223372036854775807 < 1 + z + 8) := by omega
  have k8a := (HKP.out (W.alloc (.cells (madeCells #[.int .u8 0] z) 5)) ((Below.refl _ _).alloc (Nat.le_refl _) _)).1
  have k9a := (HKP.out (W.alloc (.cells (madeCells #[.int .u8 0] z) 5)) ((Below.refl _ _).alloc (Nat.le_refl _) _)).2
  have k80 := (HKP.out W (Below.refl _ _)).1
  have k90 := (HKP.out W (Below.refl _ _)).2
  go_region_law (first
   | (refine step_run rfl (conv_step rfl rfl ?_) ?_; (first | exact (MapKept.heap_alloc _ _).1 | exact (HBC.out.block _ (by simp)).trans (MapKept.heap_alloc _ _).1))
   | (go_simp; go_at_call 128; refine (HPUT.out _).mono ?_; rintro e w1 ⟨rfl, hb⟩; have HBC := Lib.hid hb; (first | (have hc2 := conv_run (z := z) ((hb.block W.heap.size (by simp)).trans (MapKept.heap_alloc W _).1); rw [HZ.out] at hc2; have HNP := Lib.hid ((((Below.refl _ W).alloc (Nat.le_refl _) _).drew).trans (hb.mono (by simp))); clear hb) | (have hc3 := conv_run (z := z) (MapKept.heap_alloc w1 _).1; rw [HZ.out] at hc3; have HNP := Lib.hid (((Below.refl W.heap.size W).drew).trans hb); clear hb)); have k8 := (HKP.out _ HNP.out).1; have k9 := (HKP.out _ HNP.out).2)
   | (go_simp; go_at_call 101; (first | refine (HADD.out _ HNP.out).mono ?_ | refine (HADD.out _ (HNP.out.alloc HNP.out.size _)).mono ?_); rintro e w3 ⟨rfl, hdn⟩; have HDN := Lib.hid hdn; clear hdn))
  all_goals
   obtain ⟨r', l', hob⟩ := HDN.out.2.2
   have HOB := Lib.hid hob
   have HBB := Lib.hid HDN.out.2.1
   clear hob HDN
   go_wp2_with fail
   go_meet
   exact ⟨HBB, r', l', HOB⟩
 case rest =>
  obtain ⟨HB, r', l', HOB⟩ := hcut
  clear H1 H2 H3 HPUT HKP HADD hc1 hmk
  obtain ⟨g, hg⟩ : ∃ g, Sh.run st (nb rest ++ tl rest.size len) ((rest.size + (tl rest.size len).length) / 64) = g := ⟨_, rfl⟩
  have hgo := Sh.run_ok Hst.out (nb rest ++ tl rest.size len) ((rest.size + (tl rest.size len).length) / 64)
  rw [hg] at HOB hgo
  have HG := Lib.hid hg
  have c0 := cell_of HOB.out 0; have c1 := cell_of HOB.out 1; have c2 := cell_of HOB.out 2; have c3 := cell_of HOB.out 3; have c4 := cell_of HOB.out 4; have c5 := cell_of HOB.out 5; have c6 := cell_of HOB.out 6; have c7 := cell_of HOB.out 7
  simp [hC] at c0 c1 c2 c3 c4 c5 c6 c7
  have HGO := Lib.hid hgo
  clear hg hgo HOB hzi hzi2 hwr hwl HNT HZ
  go_wp2_with fail
  go_loopg [38, 2] 8 (fun gk i so wr => ∃ j : Nat, j ≤ 8 ∧ 8 - j ≤ gk ∧ i = .int .i64 j ∧ so = .string (sb ((Sh.out g).take (4 * j))) ∧ Hid (Below w.heap.size w wr))
  case atStart => exact ⟨0, by omega, by omega, rfl, rfl, HB⟩
  case round =>
   clear HB c0 c1 c2 c3 c4 c5 c6 c7
   obtain ⟨j, hj, hgj, rfl, rfl, Hbw⟩ := hrel
   rcases (show j = 0 ∨ j = 1 ∨ j = 2 ∨ j = 3 ∨ j = 4 ∨ j = 5 ∨ j = 6 ∨ j = 7 ∨ j = 8 by omega) with rfl | rfl | rfl | rfl | rfl | rfl | rfl | rfl | rfl
   ·obtain ⟨o, ho⟩ : ∃ o, sb ((Sh.out g).take 0) = o := ⟨_, rfl⟩
    have hos : o.size = 0 := by rw [← ho, sb_size, List.length_take, Sh.out_length]; rfl
    obtain ⟨q, hq⟩ : ∃ q, sb (Sh.put g.a 4) = q := ⟨_, rfl⟩
    have hqs : q.size = 4 := by rw [← hq, sb_size, Sh.put_length]
    have hn : o ++ q = sb ((Sh.out g).take 4) := by rw [← ho, ← hq, sb_app]; rfl
    have hp := word_Put32 g.a HGO.out.a wr
    rw [hq] at hp
    have hix : ∀ w, (Instr.index 201 (.agg #[.int .u32 (g.a : Int), .int .u32 (g.b : Int), .int .u32 (g.c : Int), .int .u32 (g.d : Int), .int .u32 (g.e : Int), .int .u32 (g.f : Int), .int .u32 (g.g : Int), .int .u32 (g.h : Int)]) (.int .i64 0)).run Tryz.prog w = .ok (.int .u32 (g.a : Int)) w := fun w => by kernel_rfl
    rw [show ((0 : Nat) : Int) = 0 from rfl]
    have HP := Lib.hid hp; have HNX := Lib.hid hn
    rw [ho]
    clear hp hn ho hq
    go_wp2_with (go_at_call 86; refine HP.out.mono ?_; rintro e w2 ⟨rfl, hb2⟩; have HB2 := Lib.hid hb2; clear hb2)
    go_roundg (8 - 1)
    case measure => omega
    case rel => exact ⟨1, by omega, by omega, by rfl, by rw [HNX.out], Lib.hid (Hbw.out.trans (HB2.out.mono Hbw.out.size))⟩
   ·obtain ⟨o, ho⟩ : ∃ o, sb ((Sh.out g).take 4) = o := ⟨_, rfl⟩
    have hos : o.size = 4 := by rw [← ho, sb_size, List.length_take, Sh.out_length]; rfl
    obtain ⟨q, hq⟩ : ∃ q, sb (Sh.put g.b 4) = q := ⟨_, rfl⟩
    have hqs : q.size = 4 := by rw [← hq, sb_size, Sh.put_length]
    have hn : o ++ q = sb ((Sh.out g).take 8) := by rw [← ho, ← hq, sb_app]; rfl
    have hp := word_Put32 g.b HGO.out.b wr
    rw [hq] at hp
    have hix : ∀ w, (Instr.index 201 (.agg #[.int .u32 (g.a : Int), .int .u32 (g.b : Int), .int .u32 (g.c : Int), .int .u32 (g.d : Int), .int .u32 (g.e : Int), .int .u32 (g.f : Int), .int .u32 (g.g : Int), .int .u32 (g.h : Int)]) (.int .i64 1)).run Tryz.prog w = .ok (.int .u32 (g.b : Int)) w := fun w => by kernel_rfl
    rw [show ((1 : Nat) : Int) = 1 from rfl]
    have HP := Lib.hid hp; have HNX := Lib.hid hn
    rw [ho]
    clear hp hn ho hq
    go_wp2_with (go_at_call 86; refine HP.out.mono ?_; rintro e w2 ⟨rfl, hb2⟩; have HB2 := Lib.hid hb2; clear hb2)
    go_roundg (8 - 2)
    case measure => omega
    case rel => exact ⟨2, by omega, by omega, by rfl, by rw [HNX.out], Lib.hid (Hbw.out.trans (HB2.out.mono Hbw.out.size))⟩
   ·obtain ⟨o, ho⟩ : ∃ o, sb ((Sh.out g).take 8) = o := ⟨_, rfl⟩
    have hos : o.size = 8 := by rw [← ho, sb_size, List.length_take, Sh.out_length]; rfl
    obtain ⟨q, hq⟩ : ∃ q, sb (Sh.put g.c 4) = q := ⟨_, rfl⟩
    have hqs : q.size = 4 := by rw [← hq, sb_size, Sh.put_length]
    have hn : o ++ q = sb ((Sh.out g).take 12) := by rw [← ho, ← hq, sb_app]; rfl
    have hp := word_Put32 g.c HGO.out.c wr
    rw [hq] at hp
    have hix : ∀ w, (Instr.index 201 (.agg #[.int .u32 (g.a : Int), .int .u32 (g.b : Int), .int .u32 (g.c : Int), .int .u32 (g.d : Int), .int .u32 (g.e : Int), .int .u32 (g.f : Int), .int .u32 (g.g : Int), .int .u32 (g.h : Int)]) (.int .i64 2)).run Tryz.prog w = .ok (.int .u32 (g.c : Int)) w := fun w => by kernel_rfl
    rw [show ((2 : Nat) : Int) = 2 from rfl]
    have HP := Lib.hid hp; have HNX := Lib.hid hn
    rw [ho]
    clear hp hn ho hq
    go_wp2_with (go_at_call 86; refine HP.out.mono ?_; rintro e w2 ⟨rfl, hb2⟩; have HB2 := Lib.hid hb2; clear hb2)
    go_roundg (8 - 3)
    case measure => omega
    case rel => exact ⟨3, by omega, by omega, by rfl, by rw [HNX.out], Lib.hid (Hbw.out.trans (HB2.out.mono Hbw.out.size))⟩
   ·obtain ⟨o, ho⟩ : ∃ o, sb ((Sh.out g).take 12) = o := ⟨_, rfl⟩
    have hos : o.size = 12 := by rw [← ho, sb_size, List.length_take, Sh.out_length]; rfl
    obtain ⟨q, hq⟩ : ∃ q, sb (Sh.put g.d 4) = q := ⟨_, rfl⟩
    have hqs : q.size = 4 := by rw [← hq, sb_size, Sh.put_length]
    have hn : o ++ q = sb ((Sh.out g).take 16) := by rw [← ho, ← hq, sb_app]; rfl
    have hp := word_Put32 g.d HGO.out.d wr
    rw [hq] at hp
    have hix : ∀ w, (Instr.index 201 (.agg #[.int .u32 (g.a : Int), .int .u32 (g.b : Int), .int .u32 (g.c : Int), .int .u32 (g.d : Int), .int .u32 (g.e : Int), .int .u32 (g.f : Int), .int .u32 (g.g : Int), .int .u32 (g.h : Int)]) (.int .i64 3)).run Tryz.prog w = .ok (.int .u32 (g.d : Int)) w := fun w => by kernel_rfl
    rw [show ((3 : Nat) : Int) = 3 from rfl]
    have HP := Lib.hid hp; have HNX := Lib.hid hn
    rw [ho]
    clear hp hn ho hq
    go_wp2_with (go_at_call 86; refine HP.out.mono ?_; rintro e w2 ⟨rfl, hb2⟩; have HB2 := Lib.hid hb2; clear hb2)
    go_roundg (8 - 4)
    case measure => omega
    case rel => exact ⟨4, by omega, by omega, by rfl, by rw [HNX.out], Lib.hid (Hbw.out.trans (HB2.out.mono Hbw.out.size))⟩
   ·obtain ⟨o, ho⟩ : ∃ o, sb ((Sh.out g).take 16) = o := ⟨_, rfl⟩
    have hos : o.size = 16 := by rw [← ho, sb_size, List.length_take, Sh.out_length]; rfl
    obtain ⟨q, hq⟩ : ∃ q, sb (Sh.put g.e 4) = q := ⟨_, rfl⟩
    have hqs : q.size = 4 := by rw [← hq, sb_size, Sh.put_length]
    have hn : o ++ q = sb ((Sh.out g).take 20) := by rw [← ho, ← hq, sb_app]; rfl
    have hp := word_Put32 g.e HGO.out.e wr
    rw [hq] at hp
    have hix : ∀ w, (Instr.index 201 (.agg #[.int .u32 (g.a : Int), .int .u32 (g.b : Int), .int .u32 (g.c : Int), .int .u32 (g.d : Int), .int .u32 (g.e : Int), .int .u32 (g.f : Int), .int .u32 (g.g : Int), .int .u32 (g.h : Int)]) (.int .i64 4)).run Tryz.prog w = .ok (.int .u32 (g.e : Int)) w := fun w => by kernel_rfl
    rw [show ((4 : Nat) : Int) = 4 from rfl]
    have HP := Lib.hid hp; have HNX := Lib.hid hn
    rw [ho]
    clear hp hn ho hq
    go_wp2_with (go_at_call 86; refine HP.out.mono ?_; rintro e w2 ⟨rfl, hb2⟩; have HB2 := Lib.hid hb2; clear hb2)
    go_roundg (8 - 5)
    case measure => omega
    case rel => exact ⟨5, by omega, by omega, by rfl, by rw [HNX.out], Lib.hid (Hbw.out.trans (HB2.out.mono Hbw.out.size))⟩
   ·obtain ⟨o, ho⟩ : ∃ o, sb ((Sh.out g).take 20) = o := ⟨_, rfl⟩
    have hos : o.size = 20 := by rw [← ho, sb_size, List.length_take, Sh.out_length]; rfl
    obtain ⟨q, hq⟩ : ∃ q, sb (Sh.put g.f 4) = q := ⟨_, rfl⟩
    have hqs : q.size = 4 := by rw [← hq, sb_size, Sh.put_length]
    have hn : o ++ q = sb ((Sh.out g).take 24) := by rw [← ho, ← hq, sb_app]; rfl
    have hp := word_Put32 g.f HGO.out.f wr
    rw [hq] at hp
    have hix : ∀ w, (Instr.index 201 (.agg #[.int .u32 (g.a : Int), .int .u32 (g.b : Int), .int .u32 (g.c : Int), .int .u32 (g.d : Int), .int .u32 (g.e : Int), .int .u32 (g.f : Int), .int .u32 (g.g : Int), .int .u32 (g.h : Int)]) (.int .i64 5)).run Tryz.prog w = .ok (.int .u32 (g.f : Int)) w := fun w => by kernel_rfl
    rw [show ((5 : Nat) : Int) = 5 from rfl]
    have HP := Lib.hid hp; have HNX := Lib.hid hn
    rw [ho]
    clear hp hn ho hq
    go_wp2_with (go_at_call 86; refine HP.out.mono ?_; rintro e w2 ⟨rfl, hb2⟩; have HB2 := Lib.hid hb2; clear hb2)
    go_roundg (8 - 6)
    case measure => omega
    case rel => exact ⟨6, by omega, by omega, by rfl, by rw [HNX.out], Lib.hid (Hbw.out.trans (HB2.out.mono Hbw.out.size))⟩
   ·obtain ⟨o, ho⟩ : ∃ o, sb ((Sh.out g).take 24) = o := ⟨_, rfl⟩
    have hos : o.size = 24 := by rw [← ho, sb_size, List.length_take, Sh.out_length]; rfl
    obtain ⟨q, hq⟩ : ∃ q, sb (Sh.put g.g 4) = q := ⟨_, rfl⟩
    have hqs : q.size = 4 := by rw [← hq, sb_size, Sh.put_length]
    have hn : o ++ q = sb ((Sh.out g).take 28) := by rw [← ho, ← hq, sb_app]; rfl
    have hp := word_Put32 g.g HGO.out.g wr
    rw [hq] at hp
    have hix : ∀ w, (Instr.index 201 (.agg #[.int .u32 (g.a : Int), .int .u32 (g.b : Int), .int .u32 (g.c : Int), .int .u32 (g.d : Int), .int .u32 (g.e : Int), .int .u32 (g.f : Int), .int .u32 (g.g : Int), .int .u32 (g.h : Int)]) (.int .i64 6)).run Tryz.prog w = .ok (.int .u32 (g.g : Int)) w := fun w => by kernel_rfl
    rw [show ((6 : Nat) : Int) = 6 from rfl]
    have HP := Lib.hid hp; have HNX := Lib.hid hn
    rw [ho]
    clear hp hn ho hq
    go_wp2_with (go_at_call 86; refine HP.out.mono ?_; rintro e w2 ⟨rfl, hb2⟩; have HB2 := Lib.hid hb2; clear hb2)
    go_roundg (8 - 7)
    case measure => omega
    case rel => exact ⟨7, by omega, by omega, by rfl, by rw [HNX.out], Lib.hid (Hbw.out.trans (HB2.out.mono Hbw.out.size))⟩
   ·obtain ⟨o, ho⟩ : ∃ o, sb ((Sh.out g).take 28) = o := ⟨_, rfl⟩
    have hos : o.size = 28 := by rw [← ho, sb_size, List.length_take, Sh.out_length]; rfl
    obtain ⟨q, hq⟩ : ∃ q, sb (Sh.put g.h 4) = q := ⟨_, rfl⟩
    have hqs : q.size = 4 := by rw [← hq, sb_size, Sh.put_length]
    have hn : o ++ q = sb ((Sh.out g).take 32) := by rw [← ho, ← hq, sb_app]; rfl
    have hp := word_Put32 g.h HGO.out.h wr
    rw [hq] at hp
    have hix : ∀ w, (Instr.index 201 (.agg #[.int .u32 (g.a : Int), .int .u32 (g.b : Int), .int .u32 (g.c : Int), .int .u32 (g.d : Int), .int .u32 (g.e : Int), .int .u32 (g.f : Int), .int .u32 (g.g : Int), .int .u32 (g.h : Int)]) (.int .i64 7)).run Tryz.prog w = .ok (.int .u32 (g.h : Int)) w := fun w => by kernel_rfl
    rw [show ((7 : Nat) : Int) = 7 from rfl]
    have HP := Lib.hid hp; have HNX := Lib.hid hn
    rw [ho]
    clear hp hn ho hq
    go_wp2_with (go_at_call 86; refine HP.out.mono ?_; rintro e w2 ⟨rfl, hb2⟩; have HB2 := Lib.hid hb2; clear hb2)
    go_roundg (8 - 8)
    case measure => omega
    case rel => exact ⟨8, by omega, by omega, by rfl, by rw [HNX.out], Lib.hid (Hbw.out.trans (HB2.out.mono Hbw.out.size))⟩
   ·have e : (Sh.out g).take (4 * 8) = Sh.out g := List.take_of_length_le (by rw [Sh.out_length]; omega)
    rw [e]
    go_wp2_with fail
    go_ret
    exact ⟨by rw [HG.out]; rfl, Hbw.out⟩
end Go.Proofs.YtggdkfijioeijaaGreatDoor
namespace Go.Proofs.YtggdkfijioeijaaGreatDoor
open Go Go.RowKit
set_option maxRecDepth 100000 in
set_option maxHeartbeats 2000000 in
theorem sha_Of (s : ByteArray) (hs : s.size ≤ 100000) (b : Nat) (cap : Nat) (w : World) (hb : w.heap[b]? = some (.cells #[.string s] 9 (0, 0))) :
  Calls Tryz.prog 73 #[.slice (some ⟨b, 0, none⟩) 1 cap] w fun e w' => e = .returned (.string (sb (Sh.sha (nb s)))) ∧ Below w.heap.size w w' := by
 have hbl : Below w.heap.size w (w.alloc (.cells (hC Sh.init ByteArray.empty 0) 203)) := (Below.refl _ _).alloc (Nat.le_refl _) _
 have hho : HO w.heap.size Sh.init ByteArray.empty 0 (w.alloc (.cells (hC Sh.init ByteArray.empty 0) 203)) (w.alloc (.cells (hC Sh.init ByteArray.empty 0) 203)) := ⟨(MapKept.heap_alloc _ _).1, ButS.refl _⟩
 have hcs := cell_of ((hbl.block _ (lt_of_block hb)).trans hb) 0
 simp at hcs
 have hadd := sha_Add w.heap.size Sh.init Sh.init_ok ByteArray.empty s 0 _ _ hho (by simp; omega) (by omega)
 have hplain := sha_eq (nb s)
 have HADD := Lib.hid hadd; have HBL := Lib.hid hbl; have HP := Lib.hid hplain
 clear hadd hbl hho hb hplain
 go_enter Tryz.func73, Tryz.ntmps73
 go_wp2_with fail
 refine (sha_New w).mono ?_
 rintro e w1 ⟨rfl, rfl⟩
 go_wp2_with fail
 go_loopg [9] 1 (fun g i wr => ∃ k : Nat, k ≤ 1 ∧ 1 - k ≤ g ∧ i = .int .i64 k ∧ (k = 0 → wr = w.alloc (.cells (hC Sh.init ByteArray.empty 0) 203)) ∧
  (k = 1 → ∃ rest' : ByteArray, Hid (nb rest' = (nb s).drop (64 * (s.size / 64))) ∧ Hid (wr.heap[w.heap.size]? = some (.cells (hC (Sh.run Sh.init (nb s) (s.size / 64)) rest' s.size) 203 (0, 0))) ∧ Hid (Below w.heap.size w wr)))
 case atStart => exact ⟨0, by omega, by omega, rfl, fun _ => rfl, fun h => by omega⟩
 case round =>
  obtain ⟨k, hk, hg, rfl, h0, h1⟩ := hrel
  rcases (show k = 0 ∨ k = 1 by omega) with rfl | rfl
  ·obtain rfl := h0 rfl
   clear h0 h1
   rw [show ((0 : Nat) : Int) = 0 from rfl]
   go_wp2_with fail
   refine HADD.out.mono ?_
   rintro e w2 ⟨rfl, rest', hr1, hr2⟩
   have e1 : (ByteArray.empty.size + s.size) / 64 = s.size / 64 := by simp
   have e2 : nb ByteArray.empty ++ nb s = nb s := rfl
   rw [e1, e2] at hr1 hr2
   have hfin : w2.heap[w.heap.size]? = some (.cells (hC (Sh.run Sh.init (nb s) (s.size / 64)) rest' s.size) 203 (0, 0)) := by rw [hr2.o, Nat.zero_add]
   have H1 := Lib.hid hr1; have H2 := Lib.hid hfin
   have H3 := Lib.hid (HBL.out.trans (hr2.b.below (fun k hk => by omega) (by simp)))
   clear hr1 hr2 hfin e1 e2
   go_wp2_with fail
   go_roundg 0
   case measure => omega
   case rel => exact ⟨1, by omega, by omega, by rfl, fun h => by omega, fun _ => ⟨rest', H1, H2, H3⟩⟩
  ·obtain ⟨rest', H1, H2, H3⟩ := h1 rfl
   clear h0 h1
   have hrs : rest'.size = s.size % 64 := by rw [← nb_length, H1.out, List.length_drop, nb_length]; omega
   have hsum := sha_Sum w.heap.size _ (Sh.run_ok Sh.init_ok (nb s) (s.size / 64)) rest' s.size wr H2.out (by omega) (by omega)
   have hte : tl rest'.size s.size = Sh.tail (nb s).length := by unfold tl Sh.tail; rw [hrs, nb_length]
   have hfin : Sh.out (Sh.run (Sh.run Sh.init (nb s) (s.size / 64)) (nb rest' ++ tl rest'.size s.size) ((rest'.size + (tl rest'.size s.size).length) / 64)) = Sh.sha (nb s) := by
    rw [HP.out, hte, nb_length s, ← H1.out, List.length_append, nb_length rest']
   rw [hfin] at hsum
   have HSUM := Lib.hid hsum
   clear hsum hfin hte hrs
   rw [show ((1 : Nat) : Int) = 1 from rfl]
   go_wp2_with fail
   refine HSUM.out.mono ?_
   rintro e w2 ⟨rfl, hb2⟩
   have HB2 := Lib.hid (H3.out.trans (hb2.mono H3.out.size))
   clear hb2
   go_wp2_with fail
   go_ret
   exact ⟨rfl, HB2.out⟩
theorem sha_length (t : List Nat) : (Sh.sha t).length = 32 := Sh.out_length _
theorem out_bytes (s : Sh.S8) : Sh.Bytes (Sh.out s) := by
 intro x hx
 simp only [Sh.out, List.mem_append] at hx
 rcases hx with ((((((h | h) | h) | h) | h) | h) | h) | h <;> exact Sh.put_bytes _ _ x h
theorem hash_lt (t : List Nat) : Sh.hash t < 18446744073709551616 := by
 unfold Sh.hash
 have := num_lt ((Sh.sha t).take 8) (fun x hx => out_bytes _ x (List.mem_of_mem_take hx)) 0
 rw [List.length_take, sha_length] at this
 exact Nat.lt_of_lt_of_le this (by decide)
set_option maxRecDepth 100000 in
set_option maxHeartbeats 2000000 in
theorem ring_Hash (s : ByteArray) (hs : s.size ≤ 100000) (w : World) :
  Calls Tryz.prog 42 #[.string s] w fun e w' => e = .returned (.int .u64 (Sh.hash (nb s) : Nat)) ∧ Below w.heap.size w w' := by
 have hof := sha_Of s hs w.heap.size 1 (w.alloc (.cells #[.string s] 9)) (MapKept.heap_alloc _ _).1
 have HOF := Lib.hid hof; clear hof
 have hsz : (sb (Sh.sha (nb s))).size = 32 := by rw [sb_size, sha_length]
 have hv : Sh.num (((nb (sb (Sh.sha (nb s)))).drop 0).take 8) 0 = Sh.hash (nb s) := by rw [nb_sb (show Sh.Bytes (Sh.sha (nb s)) from out_bytes _)]; rfl
 obtain ⟨q, hq⟩ : ∃ q, sb (Sh.sha (nb s)) = q := ⟨_, rfl⟩
 rw [hq] at HOF hsz hv
 have hget := fun w => word_Get64 q 0 (by omega) (by omega) w
 rw [hv] at hget
 have HGET := Lib.hid hget
 have HB0 : Hid (Below w.heap.size w (w.alloc (.cells #[.string s] 9))) := Lib.hid ((Below.refl _ _).alloc (Nat.le_refl _) _)
 clear hget hv hq
 go_enter Tryz.func42, Tryz.ntmps42
 go_wp2_with fail
 refine HOF.out.mono ?_
 rintro e w1 ⟨rfl, hb1⟩
 have HB1 := Lib.hid (HB0.out.trans (hb1.mono (by simp)))
 clear hb1
 go_wp2_with fail
 refine (HGET.out _).mono ?_
 rintro e w2 ⟨rfl, rfl⟩
 go_wp2_with fail
 go_ret
 exact ⟨rfl, HB1.out⟩
set_option maxRecDepth 100000 in
set_option maxHeartbeats 2000000 in
theorem ring_Point (n i : Nat) (hn : n < 4294967296) (hi : i < 4294967296) (w : World) :
  Calls Tryz.prog 60 #[.int .u32 (n : Int), .int .i64 (i : Int)] w fun e w' => e = .returned (.int .u64 (Sh.point n i : Nat)) ∧ Below w.heap.size w w' := by
 obtain ⟨a, ha⟩ : ∃ a, sb (Sh.put n 4) = a := ⟨_, rfl⟩
 obtain ⟨b, hb⟩ : ∃ b, sb (Sh.put i 4) = b := ⟨_, rfl⟩
 have has : a.size = 4 := by rw [← ha, sb_size, Sh.put_length]
 have hbs : b.size = 4 := by rw [← hb, sb_size, Sh.put_length]
 obtain ⟨c, hc⟩ : ∃ c : ByteArray, (⟨#[1]⟩ : ByteArray) ++ a ++ b = c := ⟨_, rfl⟩
 have hnc : nb c = 1 :: (Sh.put n 4 ++ Sh.put i 4) := by
  rw [← hc, nb_app, nb_app, ← ha, ← hb, nb_sb (Sh.put_bytes _ _), nb_sb (Sh.put_bytes _ _)]; rfl
 have hcs : c.size = 9 := by rw [← nb_length, hnc]; simp [Sh.put_length]
 have hh := fun w => ring_Hash c (by omega) w
 rw [hnc] at hh
 have HH := Lib.hid hh
 have hp1 := fun w => word_Put32 n hn w
 have hp2 := fun w => word_Put32 i hi w
 rw [ha] at hp1; rw [hb] at hp2
 have HP1 := Lib.hid hp1; have HP2 := Lib.hid hp2
 have h80 : (⟨#[1]⟩ : ByteArray).size = 1 := rfl
 clear hh hp1 hp2 hnc ha hb
 go_enter Tryz.func60, Tryz.ntmps60
 go_wp2_with fail
 refine (HP1.out _).mono ?_
 rintro e w1 ⟨rfl, hb1⟩
 have HB1 := Lib.hid hb1
 clear hb1
 go_wp2_with fail
 refine (HP2.out _).mono ?_
 rintro e w2 ⟨rfl, hb2⟩
 have HB2 := Lib.hid (HB1.out.trans (hb2.mono HB1.out.size))
 clear hb2
 go_wp2_with fail
 refine (HH.out _).mono ?_
 rintro e w3 ⟨rfl, hb3⟩
 have HB3 := Lib.hid (HB2.out.trans (hb3.mono HB2.out.size))
 clear hb3
 go_wp2_with fail
 go_ret
 exact ⟨rfl, HB3.out⟩
end Go.Proofs.YtggdkfijioeijaaGreatDoor
