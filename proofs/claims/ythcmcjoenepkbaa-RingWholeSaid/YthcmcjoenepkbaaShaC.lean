/- Contracts: sha.Of a text; ring.Hash, ring.Point. -/
import Derived.Test.YthcmcjoenepkbaaShaB
namespace Go.Proofs.Ythcmcjoenepkbaa
open Go Go.RowKit

set_option maxRecDepth 100000 in
set_option maxHeartbeats 2000000 in
theorem sha_Of (s : ByteArray) (hs : s.size ≤ 100000) (b : Nat) (cap : Nat) (w : World) (hb : w.heap[b]? = some (.cells #[.string s] 9 (0, 0))) :
    Calls Try.prog 33 #[.slice (some ⟨b, 0, none⟩) 1 cap] w fun e w' => e = .returned (.string (sb (Sh.sha (nb s)))) ∧ Below w.heap.size w w' := by
  have hbl : Below w.heap.size w (w.alloc (.cells (hC Sh.init ByteArray.empty 0) 105)) := (Below.refl _ _).alloc (Nat.le_refl _) _
  have hho : HO w.heap.size Sh.init ByteArray.empty 0 (w.alloc (.cells (hC Sh.init ByteArray.empty 0) 105)) (w.alloc (.cells (hC Sh.init ByteArray.empty 0) 105)) := ⟨(MapKept.heap_alloc _ _).1, ButS.refl _⟩
  have hcs := cell_of ((hbl.block _ (lt_of_block hb)).trans hb) 0
  simp at hcs
  have hadd := sha_Add w.heap.size Sh.init Sh.init_ok ByteArray.empty s 0 _ _ hho (by simp; omega) (by omega)
  have hplain := sha_eq (nb s)
  have HADD := Lib.hid hadd; have HBL := Lib.hid hbl; have HP := Lib.hid hplain
  clear hadd hbl hho hb hplain
  go_enter Try.func33, Try.ntmps33
  go_wp2_with fail
  refine (sha_New w).mono ?_
  rintro e w1 ⟨rfl, rfl⟩
  go_wp2_with fail
  go_loopg [9] 1 (fun g i wr => ∃ k : Nat, k ≤ 1 ∧ 1 - k ≤ g ∧ i = .int .i64 k ∧ (k = 0 → wr = w.alloc (.cells (hC Sh.init ByteArray.empty 0) 105)) ∧
    (k = 1 → ∃ rest' : ByteArray, Hid (nb rest' = (nb s).drop (64 * (s.size / 64))) ∧ Hid (wr.heap[w.heap.size]? = some (.cells (hC (Sh.run Sh.init (nb s) (s.size / 64)) rest' s.size) 105 (0, 0))) ∧ Hid (Below w.heap.size w wr)))
  case atStart => exact ⟨0, by omega, by omega, rfl, fun _ => rfl, fun h => by omega⟩
  case round =>
    obtain ⟨k, hk, hg, rfl, h0, h1⟩ := hrel
    rcases (show k = 0 ∨ k = 1 by omega) with rfl | rfl
    · obtain rfl := h0 rfl
      clear h0 h1
      rw [show ((0 : Nat) : Int) = 0 from rfl]
      go_wp2_with fail
      refine HADD.out.mono ?_
      rintro e w2 ⟨rfl, rest', hr1, hr2⟩
      have e1 : (ByteArray.empty.size + s.size) / 64 = s.size / 64 := by simp
      have e2 : nb ByteArray.empty ++ nb s = nb s := rfl
      rw [e1, e2] at hr1 hr2
      have hfin : w2.heap[w.heap.size]? = some (.cells (hC (Sh.run Sh.init (nb s) (s.size / 64)) rest' s.size) 105 (0, 0)) := by rw [hr2.o, Nat.zero_add]
      have H1 := Lib.hid hr1; have H2 := Lib.hid hfin
      have H3 := Lib.hid (HBL.out.trans (hr2.b.below (fun k hk => by omega) (by simp)))
      clear hr1 hr2 hfin e1 e2
      go_wp2_with fail
      go_roundg 0
      case measure => omega
      case rel => exact ⟨1, by omega, by omega, by rfl, fun h => by omega, fun _ => ⟨rest', H1, H2, H3⟩⟩
    · obtain ⟨rest', H1, H2, H3⟩ := h1 rfl
      clear h0 h1
      have hrs : rest'.size = s.size % 64 := by rw [← nb_length, H1.out, List.length_drop, nb_length]; omega
      have hsum := sha_Sum w.heap.size _ (Sh.run_ok Sh.init_ok (nb s) (s.size / 64)) rest' s.size wr H2.out (by omega) (by omega)
      have hte : tl rest'.size s.size = Sh.tail (nb s).length := by unfold tl Sh.tail; rw [hrs, nb_length]
      have hfin : Sh.out (Sh.run (Sh.run Sh.init (nb s) (s.size / 64)) (nb rest' ++ tl rest'.size s.size) ((rest'.size + (tl rest'.size s.size).length) / 64)) = Sh.sha (nb s) := by
        rw [HP.out, hte, nb_length s, ← H1.out, List.length_append, nb_length rest']
      rw [hfin] at hsum
      have HSUM := Lib.hid hsum
      clear hsum hfin hte hrs
      rw [show ((1 : Nat) : Int) = 1 from rfl]
      go_wp2_with fail
      refine HSUM.out.mono ?_
      rintro e w2 ⟨rfl, hb2⟩
      have HB2 := Lib.hid (H3.out.trans (hb2.mono H3.out.size))
      clear hb2
      go_wp2_with fail
      go_ret
      exact ⟨rfl, HB2.out⟩

theorem sha_length (t : List Nat) : (Sh.sha t).length = 32 := Sh.out_length _
theorem out_bytes (s : Sh.S8) : Sh.Bytes (Sh.out s) := by
  intro x hx
  simp only [Sh.out, List.mem_append] at hx
  rcases hx with ((((((h | h) | h) | h) | h) | h) | h) | h <;> exact Sh.put_bytes _ _ x h
theorem hash_lt (t : List Nat) : Sh.hash t < 18446744073709551616 := by
  unfold Sh.hash
  have := num_lt ((Sh.sha t).take 8) (fun x hx => out_bytes _ x (List.mem_of_mem_take hx)) 0
  rw [List.length_take, sha_length] at this
  exact Nat.lt_of_lt_of_le this (by decide)

set_option maxRecDepth 100000 in
set_option maxHeartbeats 2000000 in
theorem ring_Hash (s : ByteArray) (hs : s.size ≤ 100000) (w : World) :
    Calls Try.prog 21 #[.string s] w fun e w' => e = .returned (.int .u64 (Sh.hash (nb s) : Nat)) ∧ Below w.heap.size w w' := by
  have hof := sha_Of s hs w.heap.size 1 (w.alloc (.cells #[.string s] 9)) (MapKept.heap_alloc _ _).1
  have HOF := Lib.hid hof; clear hof
  have hsz : (sb (Sh.sha (nb s))).size = 32 := by rw [sb_size, sha_length]
  have hv : Sh.num (((nb (sb (Sh.sha (nb s)))).drop 0).take 8) 0 = Sh.hash (nb s) := by rw [nb_sb (show Sh.Bytes (Sh.sha (nb s)) from out_bytes _)]; rfl
  obtain ⟨q, hq⟩ : ∃ q, sb (Sh.sha (nb s)) = q := ⟨_, rfl⟩
  rw [hq] at HOF hsz hv
  have hget := fun w => word_Get64 q 0 (by omega) (by omega) w
  rw [hv] at hget
  have HGET := Lib.hid hget
  have HB0 : Hid (Below w.heap.size w (w.alloc (.cells #[.string s] 9))) := Lib.hid ((Below.refl _ _).alloc (Nat.le_refl _) _)
  clear hget hv hq
  go_enter Try.func21, Try.ntmps21
  go_wp2_with fail
  refine HOF.out.mono ?_
  rintro e w1 ⟨rfl, hb1⟩
  have HB1 := Lib.hid (HB0.out.trans (hb1.mono (by simp)))
  clear hb1
  go_wp2_with fail
  refine (HGET.out _).mono ?_
  rintro e w2 ⟨rfl, rfl⟩
  go_wp2_with fail
  go_ret
  exact ⟨rfl, HB1.out⟩

set_option maxRecDepth 100000 in
set_option maxHeartbeats 2000000 in
theorem ring_Point (n i : Nat) (hn : n < 4294967296) (hi : i < 4294967296) (w : World) :
    Calls Try.prog 8 #[.int .u32 (n : Int), .int .i64 (i : Int)] w fun e w' => e = .returned (.int .u64 (Sh.point n i : Nat)) ∧ Below w.heap.size w w' := by
  obtain ⟨a, ha⟩ : ∃ a, sb (Sh.put n 4) = a := ⟨_, rfl⟩
  obtain ⟨b, hb⟩ : ∃ b, sb (Sh.put i 4) = b := ⟨_, rfl⟩
  have has : a.size = 4 := by rw [← ha, sb_size, Sh.put_length]
  have hbs : b.size = 4 := by rw [← hb, sb_size, Sh.put_length]
  obtain ⟨c, hc⟩ : ∃ c : ByteArray, (⟨#[1]⟩ : ByteArray) ++ a ++ b = c := ⟨_, rfl⟩
  have hnc : nb c = 1 :: (Sh.put n 4 ++ Sh.put i 4) := by
    rw [← hc, nb_app, nb_app, ← ha, ← hb, nb_sb (Sh.put_bytes _ _), nb_sb (Sh.put_bytes _ _)]; rfl
  have hcs : c.size = 9 := by rw [← nb_length, hnc]; simp [Sh.put_length]
  have hh := fun w => ring_Hash c (by omega) w
  rw [hnc] at hh
  have HH := Lib.hid hh
  have hp1 := fun w => word_Put32 n hn w
  have hp2 := fun w => word_Put32 i hi w
  rw [ha] at hp1; rw [hb] at hp2
  have HP1 := Lib.hid hp1; have HP2 := Lib.hid hp2
  have h80 : (⟨#[1]⟩ : ByteArray).size = 1 := rfl
  clear hh hp1 hp2 hnc ha hb
  go_enter Try.func8, Try.ntmps8
  go_wp2_with fail
  refine (HP1.out _).mono ?_
  rintro e w1 ⟨rfl, hb1⟩
  have HB1 := Lib.hid hb1
  clear hb1
  go_wp2_with fail
  refine (HP2.out _).mono ?_
  rintro e w2 ⟨rfl, hb2⟩
  have HB2 := Lib.hid (HB1.out.trans (hb2.mono HB1.out.size))
  clear hb2
  go_wp2_with fail
  refine (HH.out _).mono ?_
  rintro e w3 ⟨rfl, hb3⟩
  have HB3 := Lib.hid (HB2.out.trans (hb3.mono HB2.out.size))
  clear hb3
  go_wp2_with fail
  go_ret
  exact ⟨rfl, HB3.out⟩
end Go.Proofs.Ythcmcjoenepkbaa
