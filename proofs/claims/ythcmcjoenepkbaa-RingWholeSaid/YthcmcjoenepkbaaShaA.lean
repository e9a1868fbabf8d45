/- Contracts: sha.New, Add. -/
import Derived.Test.YthcmcjoenepkbaaBehind
namespace Go.Proofs.Ythcmcjoenepkbaa
open Go Go.RowKit

theorem run_back (s : Sh.S8) (b : List Nat) (k : Nat) : Sh.run s b (k + 1) = Sh.block (Sh.run s b k) ((b.drop (64 * k)).take 64) := by
  induction k generalizing s b with
  | zero => simp [Sh.run]
  | succ k ih =>
    rw [Sh.run, ih, Sh.run, List.drop_drop, show 64 + 64 * k = 64 * (k + 1) by omega]
theorem sha_eq (t : List Nat) : Sh.sha t = Sh.out (Sh.run (Sh.run Sh.init t (t.length / 64)) (t.drop (64 * (t.length / 64)) ++ Sh.tail t.length) ((t.drop (64 * (t.length / 64)) ++ Sh.tail t.length).length / 64)) := by
  unfold Sh.sha
  rw [← Sh.run_app Sh.init t (Sh.tail t.length) (t.length / 64) _ (by omega)]
  congr 2
  rw [List.length_append, List.length_drop, Sh.tail_length]
  omega
theorem nb_extract (s : ByteArray) (a b : Nat) : nb (s.extract a b) = ((nb s).drop a).take (b - a) := by
  unfold nb
  rw [ByteArray.data_extract]
  simp only [Array.toList_extract, List.extract_eq_take_drop, List.map_take, List.map_drop]

/-- A hash under way. -/
def hC (st : Sh.S8) (rest : ByteArray) (len : Nat) : Array Value := #[.int .u32 (st.a : Int), .int .u32 (st.b : Int), .int .u32 (st.c : Int), .int .u32 (st.d : Int), .int .u32 (st.e : Int), .int .u32 (st.f : Int), .int .u32 (st.g : Int), .int .u32 (st.h : Int), .string rest, .int .u64 (len : Int), .bool true]
/-- It lies in block n of W, of which all else is as in w. -/
structure HO (n : Nat) (st : Sh.S8) (rest : ByteArray) (len : Nat) (w W : World) : Prop where
  o : W.heap[n]? = some (.cells (hC st rest len) 105 (0, 0))
  b : ButS (fun k => k = n) w W
theorem HO.below {n : Nat} {st : Sh.S8} {rest : ByteArray} {len : Nat} {w W W' : World} (h : HO n st rest len w W) (hb : Below W.heap.size W W') : HO n st rest len w W' :=
  ⟨(hb.block _ (lt_of_block h.o)).trans h.o, h.b.trans (ButS.of hb)⟩

set_option maxRecDepth 100000 in
theorem sha_New (w : World) : Calls Try.prog 43 #[] w fun e w' => e = .returned (.pointer (some ⟨w.heap.size, 0, none⟩)) ∧ w' = w.alloc (.cells (hC Sh.init ByteArray.empty 0) 105) := by
  go_enter Try.func43, Try.ntmps43
  go_wp2
  go_ret
  exact ⟨rfl, rfl⟩

theorem HO.set {n : Nat} {st : Sh.S8} {rest : ByteArray} {len : Nat} {w W : World} (h : HO n st rest len w W) (i : Nat) (u : Value) {st' : Sh.S8} {rest' : ByteArray} {len' : Nat} (hc : (hC st rest len).setIfInBounds i u = hC st' rest' len') : HO n st' rest' len' w (W.setCell ⟨n, i, none⟩ u) := by
  refine ⟨?_, h.b.trans (ButS.set (S := fun k => k = n) W (p := ⟨n, i, none⟩) rfl u)⟩
  rw [setCell_eq_setRow W n i _ _ _ u h.o, setRow_heap _ _ _ _ _ _ h.o, hc]
theorem HO.set8 {n : Nat} {st : Sh.S8} {rest : ByteArray} {len : Nat} {w W : World} (h : HO n st rest len w W) (r : Sh.S8) : HO n r rest len w ((((((((W.setCell ⟨n, 0, none⟩ (.int .u32 (r.a : Int))).setCell ⟨n, 1, none⟩ (.int .u32 (r.b : Int))).setCell ⟨n, 2, none⟩ (.int .u32 (r.c : Int))).setCell ⟨n, 3, none⟩ (.int .u32 (r.d : Int))).setCell ⟨n, 4, none⟩ (.int .u32 (r.e : Int))).setCell ⟨n, 5, none⟩ (.int .u32 (r.f : Int))).setCell ⟨n, 6, none⟩ (.int .u32 (r.g : Int))).setCell ⟨n, 7, none⟩ (.int .u32 (r.h : Int))) := by
  have h0 := h.set 0 (.int .u32 (r.a : Int)) (st' := ⟨r.a, st.b, st.c, st.d, st.e, st.f, st.g, st.h⟩) rfl
  have h1 := h0.set 1 (.int .u32 (r.b : Int)) (st' := ⟨r.a, r.b, st.c, st.d, st.e, st.f, st.g, st.h⟩) rfl
  have h2 := h1.set 2 (.int .u32 (r.c : Int)) (st' := ⟨r.a, r.b, r.c, st.d, st.e, st.f, st.g, st.h⟩) rfl
  have h3 := h2.set 3 (.int .u32 (r.d : Int)) (st' := ⟨r.a, r.b, r.c, r.d, st.e, st.f, st.g, st.h⟩) rfl
  have h4 := h3.set 4 (.int .u32 (r.e : Int)) (st' := ⟨r.a, r.b, r.c, r.d, r.e, st.f, st.g, st.h⟩) rfl
  have h5 := h4.set 5 (.int .u32 (r.f : Int)) (st' := ⟨r.a, r.b, r.c, r.d, r.e, r.f, st.g, st.h⟩) rfl
  have h6 := h5.set 6 (.int .u32 (r.g : Int)) (st' := ⟨r.a, r.b, r.c, r.d, r.e, r.f, r.g, st.h⟩) rfl
  exact h6.set 7 (.int .u32 (r.h : Int)) (st' := r) rfl

set_option maxRecDepth 100000 in
set_option maxHeartbeats 4000000 in
theorem sha_Add (n : Nat) (st : Sh.S8) (hst : st.Ok) (rest s : ByteArray) (len : Nat) (w0 w : World) (h : HO n st rest len w0 w) (hsz : rest.size + s.size ≤ 200000) (hlen : len + s.size < 4611686018427387904) :
    Calls Try.prog 44 #[.pointer (some ⟨n, 0, none⟩), .string s] w fun e w' => e = .returned (.tuple #[]) ∧ ∃ rest' : ByteArray, nb rest' = (nb rest ++ nb s).drop (64 * ((rest.size + s.size) / 64)) ∧ HO n (Sh.run st (nb rest ++ nb s) ((rest.size + s.size) / 64)) rest' (len + s.size) w0 w' := by
  have c10 := cell_of h.o 10; have c9 := cell_of h.o 9; have f9 := frozen_of h.o 9; have c8 := cell_of h.o 8
  simp [hC] at c10 c9 c8
  have h2 := h.set 9 (.int .u64 ((len + s.size : Nat) : Int)) (st' := st) (rest' := rest) (len' := len + s.size) rfl
  rw [show ((len + s.size : Nat) : Int) = (len : Int) + (s.size : Int) by omega] at h2
  have H2 := Lib.hid h2; have Hst := Lib.hid hst
  obtain ⟨t, ht⟩ : ∃ t : ByteArray, rest ++ s = t := ⟨_, rfl⟩
  have hnt : nb t = nb rest ++ nb s := by rw [← ht, nb_app]
  have htz : t.size = rest.size + s.size := by rw [← nb_length, hnt, List.length_append, nb_length, nb_length]
  have HNT := Lib.hid hnt; have HTZ := Lib.hid htz
  clear h h2 hst hnt htz
  go_enter Try.func44, Try.ntmps44
  go_wp2_with fail
  clear c10 c9 f9 c8
  go_loopg [1] (t.size / 64) (fun g sl wr => ∃ (k : Nat) (u : ByteArray), sl = .string u ∧ Hid (64 * k ≤ t.size) ∧ Hid (u.size = t.size - 64 * k) ∧ t.size / 64 - k ≤ g ∧ Hid (nb u = (nb t).drop (64 * k)) ∧ Hid (HO n (Sh.run st (nb t) k) rest (len + s.size) w0 wr))
  case atStart => exact ⟨0, t, rfl, Lib.hid (by omega), Lib.hid (by omega), by omega, Lib.hid rfl, H2⟩
  case round =>
    clear H2
    obtain ⟨k, u, rfl, HK, HSZ, hg, HU, HO⟩ := hrel
    by_cases h64 : 64 ≤ u.size
    · have h64z : (64 : Int) ≤ (u.size : Int) := by omega
      have hrok := Sh.run_ok Hst.out (nb t) k
      have hnx := run_back st (nb t) k
      rw [← HU.out] at hnx
      have hex : nb (u.extract 0 64) = (nb u).take 64 := by rw [nb_extract]; rfl
      have hes : (u.extract 0 64).size = 64 := by rw [← nb_length, hex, List.length_take, nb_length]; omega
      have hbeh := sha_behind (Sh.run st (nb t) k) hrok (u.extract 0 64) hes
      rw [hex, ← hnx] at hbeh
      have hex2 : nb (u.extract 64 u.size) = (nb t).drop (64 * (k + 1)) := by
        rw [nb_extract, HU.out, List.drop_drop, show 64 * k + 64 = 64 * (k + 1) by omega]
        refine List.take_of_length_le ?_
        rw [List.length_drop, nb_length]; have := HSZ.out; omega
      have hes2 : (u.extract 64 u.size).size = t.size - 64 * (k + 1) := by rw [← nb_length, hex2, List.length_drop, nb_length]
      have d0 := cell_of HO.out.o 0
      have d1 := cell_of HO.out.o 1
      have d2 := cell_of HO.out.o 2
      have d3 := cell_of HO.out.o 3
      have d4 := cell_of HO.out.o 4
      have d5 := cell_of HO.out.o 5
      have d6 := cell_of HO.out.o 6
      have d7 := cell_of HO.out.o 7
      obtain ⟨r, hr⟩ : ∃ r, Sh.run st (nb t) k = r := ⟨_, rfl⟩
      obtain ⟨r2, hr2⟩ : ∃ r2, Sh.run st (nb t) (k + 1) = r2 := ⟨_, rfl⟩
      rw [hr] at HO hbeh d0 d1 d2 d3 d4 d5 d6 d7
      rw [hr2] at hbeh
      simp [hC] at d0 d1 d2 d3 d4 d5 d6 d7
      simp only [S8v] at hbeh
      have HBEH := Lib.hid hbeh; have HR2 := Lib.hid hr2; have HX2 := Lib.hid hex2; have HE2 := Lib.hid hes2
      obtain ⟨u2, hu2⟩ : ∃ u2, u.extract 64 u.size = u2 := ⟨_, rfl⟩
      rw [hu2] at HX2 HE2
      clear hbeh hr2 hex2 hes2 hr hnx hrok hex hes
      go_wp2_with fail
      go_region_with (go_at_call 66; refine (HBEH.out _).mono ?_; rintro e w1 ⟨rfl, hb1⟩; have HN1 := Lib.hid ((HO.out.below (Below.refl _ _).drew).below hb1); clear hb1; have c0 := cell_of HN1.out.o 0; have f0 := frozen_of HN1.out.o 0; have c1 := cell_of HN1.out.o 1; have f1 := frozen_of HN1.out.o 1; have c2 := cell_of HN1.out.o 2; have f2 := frozen_of HN1.out.o 2; have c3 := cell_of HN1.out.o 3; have f3 := frozen_of HN1.out.o 3; have c4 := cell_of HN1.out.o 4; have f4 := frozen_of HN1.out.o 4; have c5 := cell_of HN1.out.o 5; have f5 := frozen_of HN1.out.o 5; have c6 := cell_of HN1.out.o 6; have f6 := frozen_of HN1.out.o 6; have c7 := cell_of HN1.out.o 7; have f7 := frozen_of HN1.out.o 7; simp [hC] at c0 c1 c2 c3 c4 c5 c6 c7)
      all_goals
        have hset := HN1.out.set8 r2
        rw [← HR2.out] at hset
        have HSET := Lib.hid hset
        clear hset
        rw [← HR2.out]
        go_wp2_with fail
        go_roundg (t.size / 64 - (k + 1))
        case measure => have := HSZ.out; have := HK.out; omega
        case rel => exact ⟨k + 1, u2, rfl, Lib.hid (by have := HSZ.out; have := HK.out; omega), HE2, Nat.le_refl _, HX2, HSET⟩
    · have h64z : ¬ ((64 : Int) ≤ (u.size : Int)) := by omega
      have d8 := cell_of HO.out.o 8; have f8 := frozen_of HO.out.o 8
      simp [hC] at d8
      have hset := HO.out.set 8 (.string u) (st' := Sh.run st (nb t) k) (rest' := u) (len' := len + s.size) rfl
      have HSET := Lib.hid hset
      clear hset
      go_wp2_with fail
      go_end0
      have e : k = (rest.size + s.size) / 64 := by have := HSZ.out; have := HK.out; have := HTZ.out; omega
      subst e
      rw [← HNT.out]
      exact ⟨rfl, u, HU.out, HSET.out⟩
end Go.Proofs.Ythcmcjoenepkbaa
