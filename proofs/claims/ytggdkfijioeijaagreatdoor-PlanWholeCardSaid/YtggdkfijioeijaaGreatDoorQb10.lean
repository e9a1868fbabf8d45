/- Contracts: ref26's Hash, Point. Contract: ref26's Spots. Contract: ref26's Owner. Contract: ref26's put: a number more, in its place. Contract: ref26's Spans: the spans of the owners. -/
import Derived.Test.YtggdkfijioeijaaGreatDoorQb05
import Derived.Test.YtggdkfijioeijaaGreatDoorQb06
import Derived.Test.YtggdkfijioeijaaGreatDoorQb07
import Derived.Test.YtggdkfijioeijaaGreatDoorQb09
import Derived.Deep.RegionLaw
import Derived.Laws.AppendOwnNone
namespace Go.Proofs.YtggdkfijioeijaaGreatDoor
open Go Go.RowKit
set_option maxRecDepth 100000 in
set_option maxHeartbeats 2000000 in
theorem ref26_Hash (s : ByteArray) (hs : s.size ≤ 100000) (w : World) :
  Calls Tryz.prog 51 #[.string s] w fun e w' => e = .returned (.int .u64 (Sh.hash (nb s) : Nat)) ∧ Below w.heap.size w w' := by
 have hof := ref02_Of s hs w
 obtain ⟨h, hh⟩ : ∃ h, sb (Sh.sha (nb s)) = h := ⟨_, rfl⟩
 have hhs : h.size = 32 := by rw [← hh, sb_size, sha_length]
 have hnb : nb h = Sh.sha (nb s) := by rw [← hh]; exact nb_sb (out_bytes _)
 have hget := fun w => ref01_Get h 0 8 (by omega) (by omega) (by omega) w
 rw [hnb, List.drop_zero] at hget
 rw [show Sh.num ((Sh.sha (nb s)).take 8) 0 = Sh.hash (nb s) from rfl] at hget
 rw [hh] at hof
 obtain ⟨q, hq⟩ : ∃ q, Sh.hash (nb s) = q := ⟨_, rfl⟩
 rw [hq] at hget ⊢
 have HOF := Lib.hid hof; have HGET := Lib.hid hget
 clear hof hget hnb hh hq
 go_enter Tryz.func51, Tryz.ntmps51
 go_wp2_with fail
 refine HOF.out.mono ?_
 rintro e w1 ⟨rfl, hb1⟩
 have HB1 := Lib.hid hb1
 clear hb1
 go_wp2_with fail
 refine (HGET.out w1).mono ?_
 rintro e w2 ⟨rfl, rfl⟩
 go_wp2_with fail
 go_ret
 exact ⟨rfl, HB1.out⟩
set_option maxRecDepth 100000 in
set_option maxHeartbeats 2000000 in
theorem ref26_Point (n i : Nat) (hn : n < 4294967296) (hi : i < 4294967296) (w : World) :
  Calls Tryz.prog 66 #[.int .u32 (n : Int), .int .i64 (i : Int)] w fun e w' => e = .returned (.int .u64 (Sh.point n i : Nat)) ∧ Below w.heap.size w w' := by
 have hwn : IntKind.u64.wrap (n : Int) = (n : Int) := by rw [IntKind.wrap_u64]; omega
 have hwi : IntKind.u64.wrap (i : Int) = (i : Int) := by rw [IntKind.wrap_u64]; omega
 have hwj : IntKind.u32.wrap (i : Int) = (i : Int) := by rw [IntKind.wrap_u32]; omega
 have hp1 := fun w => ref01_Put4 n (by omega) w
 have hp2 := fun w => ref01_Put4 i (by omega) w
 obtain ⟨a, ha⟩ : ∃ a, sb (Sh.put n 4) = a := ⟨_, rfl⟩
 obtain ⟨b, hb⟩ : ∃ b, sb (Sh.put i 4) = b := ⟨_, rfl⟩
 have has : a.size = 4 := by rw [← ha, sb_size, Sh.put_length]
 have hbs : b.size = 4 := by rw [← hb, sb_size, Sh.put_length]
 obtain ⟨c, hc⟩ : ∃ c : ByteArray, (⟨#[1]⟩ : ByteArray) ++ a = c := ⟨_, rfl⟩
 have hcs : c.size = 5 := by
  rw [← nb_length, ← hc, nb_app, List.length_append, nb_length a, has]; rfl
 obtain ⟨d, hd⟩ : ∃ d : ByteArray, c ++ b = d := ⟨_, rfl⟩
 have hds : d.size = 9 := by
  rw [← nb_length, ← hd, nb_app, List.length_append, nb_length, nb_length, hcs, hbs]
 have hnd : nb d = 1 :: (Sh.put n 4 ++ Sh.put i 4) := by
  rw [← hd, nb_app, ← hc, nb_app, ← ha, ← hb, nb_sb (Sh.put_bytes _ _), nb_sb (Sh.put_bytes _ _)]; rfl
 have hh := fun w => ref26_Hash d (by omega) w
 rw [hnd, show Sh.hash (1 :: (Sh.put n 4 ++ Sh.put i 4)) = Sh.point n i from rfl] at hh
 rw [ha] at hp1; rw [hb] at hp2
 have HP1 := Lib.hid hp1; have HP2 := Lib.hid hp2; have HH := Lib.hid hh; have HC := Lib.hid hc; have HD := Lib.hid hd
 clear hp1 hp2 hh ha hb hnd hc hd
 go_enter Tryz.func66, Tryz.ntmps66
 go_wp2_with fail
 refine (HP1.out w).mono ?_
 rintro e w1 ⟨rfl, hb1⟩
 have HB1 := Lib.hid hb1
 have hc := HC.out
 clear hb1
 go_wp2_with fail
 refine (HP2.out w1).mono ?_
 rintro e w2 ⟨rfl, hb2⟩
 have HB2 := Lib.hid (HB1.out.trans (hb2.mono HB1.out.size))
 have hd := HD.out
 clear hb2
 go_wp2_with fail
 refine (HH.out w2).mono ?_
 rintro e w3 ⟨rfl, hb3⟩
 have HB3 := Lib.hid (HB2.out.trans (hb3.mono HB2.out.size))
 clear hb3
 go_wp2_with fail
 go_ret
 exact ⟨rfl, HB3.out⟩
end Go.Proofs.YtggdkfijioeijaaGreatDoor
namespace Go.Proofs.YtggdkfijioeijaaGreatDoor
open Go Go.RowKit Go.Maps
theorem infoSpot : (Tryz.prog.info? 146).map (fun i => (i.zero, i.size, i.bytes)) = some (some (.agg #[.int .u64 0, .int .u32 0]), 2, 16) := by kernel_rfl
theorem puts_take_succ (S : List Nat) (k i : Nat) (h : i < S.length) : puts (S.take (i + 1)) k = puts (S.take i) k ++ puts1 (S.getD i 0) k := by
 rw [List.take_succ_eq_append_getElem h, puts_snoc, List.getD_eq_getElem?_getD, List.getElem?_eq_getElem h]; rfl
theorem two_one (x : Nat × Nat) : ∀ u ∈ [Value.int .u64 (x.1 : Int), Value.int .u32 (x.2 : Int)], u.oneCell' = true := by
 intro u hu; simp only [List.mem_cons, List.mem_nil_iff, or_false] at hu; rcases hu with rfl | rfl <;> rfl
theorem own_above2 {w : World} {B e n k : Nat} {v : Value} {xs : List Value} (h : w.ownsRow B e k v n xs) : ∀ j, v.ownBlock = some j → B ≤ j := by
 intro j hk
 rcases h.2 with ⟨hv, _⟩ | ⟨g, cap, cur, hv, hB, _⟩
 ·subst hv; cases hk
 ·subst hv; cases hk; exact hB
set_option maxRecDepth 100000 in
set_option maxHeartbeats 4000000 in
theorem ref26_Spots (S : List Nat) (k b cap : Nat) (w : World) (hS : S.length ≤ 16) (hk : k ≤ 64) (hb : ∀ s ∈ S, s < 4294967296) (hc : ∀ i, i < S.length → w.cell? ⟨b, i, none⟩ = some (.int .u32 ((S.getD i 0 : Nat) : Int))) :
  Calls Tryz.prog 27 #[.int .i64 (k : Int), .slice (some ⟨b, 0, none⟩) S.length cap] w fun e w' => ∃ v, e = .returned v ∧ w'.ownsRow w.heap.size 146 2 v (puts S k).length (spV (puts S k)) ∧ Below w.heap.size w w' := by
 obtain ⟨i0, hi, hz0, hz1, hz2⟩ := info_parts infoSpot
 obtain ⟨m, hm⟩ : ∃ m, S.length = m := ⟨_, rfl⟩
 rw [hm] at hc hS ⊢
 have HC := Lib.hid hc; have HM := Lib.hid hm; have HBD := Lib.hid hb
 clear hc hm hb
 go_enter Tryz.func27, Tryz.ntmps27
 go_wp2_with fail
 go_loopw [5, 6] (fun v i wr => ∃ (q n : Nat), q ≤ m ∧ i = .int .i64 q ∧ Hid (n = q * k) ∧ Hid (wr.ownsRow w.heap.size 146 2 v n (spV (puts (S.take q) k))) ∧ Hid (Below w.heap.size w wr)) (fun _ i _ => m - (intOf i).toNat)
 case atStart => exact ⟨0, 0, Nat.zero_le _, rfl, Lib.hid (by omega), Lib.hid (World.ownsRow_nil _ _ _ _), Lib.hid (Below.refl _ _)⟩
 case round =>
  obtain ⟨q, n, hq, rfl, HN, HROW, HB⟩ := hrel
  by_cases hlt : q < m
  ·obtain ⟨s, hs⟩ : ∃ s, S.getD q 0 = s := ⟨_, rfl⟩
   have hsl : s < 4294967296 := by
    rw [← hs]; refine HBD.out _ ?_
    rw [List.getD_eq_getElem?_getD, List.getElem?_eq_getElem (by rw [HM.out]; exact hlt)]; exact List.getElem_mem _
   have hcs := HC.out q hlt
   rw [hs] at hcs
   have hbl := block_lt_of_cell hcs
   have hnx := puts_take_succ S k q (by rw [HM.out]; exact hlt)
   rw [hs] at hnx
   have HNX := Lib.hid hnx
   have HCS := Lib.hid (fun w' (h : Below w.heap.size w w') => show w'.cell? ⟨b, q, none⟩ = some (.int .u32 (s : Int)) from (h.cell (p := ⟨b, q, none⟩) hbl).trans hcs)
   have hnl : n ≤ 16 * 64 := by rw [HN.out]; exact Nat.mul_le_mul (by omega) hk
   clear hnx hcs hbl hs
   go_wp2_with fail
   go_loopw [5, 7] (fun v j wx => ∃ (p : Nat), p ≤ k ∧ j = .int .i64 p ∧ Hid (wx.ownsRow w.heap.size 146 2 v (n + p) (spV (puts (S.take q) k ++ puts1 s p))) ∧ Hid (Below w.heap.size w wx)) (fun _ j _ => k - (intOf j).toNat)
   case atStart => exact ⟨0, Nat.zero_le _, rfl, Lib.hid (by have h : puts1 s 0 = [] := rfl; rw [h, List.append_nil]; exact HROW.out), HB⟩
   case round =>
    clear HROW HB
    obtain ⟨p, hp, rfl, HROW, HB⟩ := hrel
    by_cases hlt2 : p < k
    ·have hpt := fun w => ref26_Point s p hsl (by omega) w
     obtain ⟨h, hh⟩ : ∃ h, Sh.point s p = h := ⟨_, rfl⟩
     rw [hh] at hpt
     have hrow2 : spV (puts (S.take q) k ++ puts1 s p) ++ [.int .u64 (h : Int), .int .u32 (s : Int)] = spV (puts (S.take q) k ++ puts1 s (p + 1)) := by
      rw [puts1_succ, ← List.append_assoc, spV_snoc, hh]
     have HPT := Lib.hid hpt; have HR2 := Lib.hid hrow2
     have c0 := HCS.out _ HB.out
     clear hpt hh hrow2
     have hbs : w.heap.size ≤ wr.heap.size := HB.out.size
     have hqm : ((q : Int) < (m : Int)) = True := by simp; omega
     have hq0 : (0 : Int) ≤ (q : Int) := by omega
     have hwq : IntKind.i64.wrap (q : Int) = (q : Int) := by rw [IntKind.wrap_i64]; omega
     go_wp2_with fail
     go_region_law (first
      | (go_simp; go_at_call 66; refine (HPT.out _).mono ?_; rintro e w1 ⟨rfl, hb1⟩; have HBW := Lib.hid (((Below.refl wr.heap.size wr).drew).trans hb1); have c1 := HCS.out w1 (HB.out.trans (HBW.out.mono hbs)); have hsz1 := HBW.out.size; clear hb1)
      | (refine step_append_lies (hgd := rfl) (s := .tmp 19) (x := .tmp 31) (t := 85) (ho := rfl) (base := w.heap.size) (e := 146) (i := i0) (z := .agg #[.int .u64 0, .int .u32 0]) (size := 2) (bytes := 16) (ht := Tryz.underlying85) (hi := hi) (hz := hz0) (hsize := hz1) (hby := hz2) (hzs := rfl) (hsz := by decide) (v := _) (n := n + p) (xs := spV (puts (S.take q) k ++ puts1 s p)) (hs := rfl) (hown := rowBelow HROW.out (HBW.out.alloc HBW.out.size _)) (ad := _) (m := 1) (c := _) (news := [.int .u64 (h : Int), .int .u32 (s : Int)]) (hx := rfl) (hl := rfl) (hnews := World.news_of_block (MapKept.heap_alloc _ _).1) (h1 := two_one (h, s)) (hm := Nat.zero_lt_one) (h63 := by unfold maxLen; omega) (hbytes := by omega) (hbase := by simp; omega) (H := _) (hH := rfl) (h := ?_); intro g8 cp8 w8 hown8 hg8 _hat8 _hlt8; have HB8 := Lib.hid (((HB.out.trans (HBW.out.mono hbs)).alloc (by omega) _).grown hg8 (by simp; omega) (own_above2 HROW.out)); have HO8 := Lib.hid hown8; clear hown8 hg8 _hat8 _hlt8))
     all_goals (
      go_wp2_with fail
      go_roundw
      case rel => exact ⟨p + 1, by omega, rfl, Lib.hid (by rw [← HR2.out]; exact HO8.out), HB8⟩
      case measure => simp [intOf]; omega)
    ·obtain rfl : p = k := by omega
     have hn2 : n + p = (q + 1) * p := by rw [HN.out, Nat.succ_mul]
     have HRE := HROW.out
     rw [← HNX.out] at HRE
     have HRE2 := Lib.hid HRE; have HN2 := Lib.hid hn2
     clear HRE hn2 HROW
     go_wp2_with fail
     go_roundw
     case rel => exact ⟨q + 1, n + p, by omega, rfl, HN2, HRE2, HB⟩
     case measure => simp [intOf]; omega
  ·obtain rfl : q = m := by omega
   go_wp2_with fail
   go_ret
   refine ⟨_, rfl, ?_, HB.out⟩
   have hr := HROW.out
   rw [List.take_of_length_le (by rw [HM.out]; exact Nat.le_refl _), HN.out] at hr
   rw [puts_length, HM.out]; exact hr
end Go.Proofs.YtggdkfijioeijaaGreatDoor
namespace Go.Proofs.YtggdkfijioeijaaGreatDoor
open Go Go.RowKit Go.Maps
theorem key_lt {h a b : Nat} {x y : Nat × Nat} (hx : x.2 < M32) (hy : y.2 < M32) (ha : (x.1 + M64 - h) % M64 = a) (hb : (y.1 + M64 - h) % M64 = b) : key h x < key h y ↔ a < b ∨ a = b ∧ x.2 < y.2 := by
 unfold key
 rw [ha, hb]
 simp only [M32] at *
 omega
set_option maxRecDepth 100000 in
set_option maxHeartbeats 4000000 in
theorem ref26_Owner (ps : List (Nat × Nat)) (g cap h : Nat) (w : World) (hh : h < M64) (hB : InB ps) (hl : 1 ≤ ps.length) (hl2 : ps.length ≤ 10000) (hc : ∀ i, i < ps.length → w.cell? ⟨g, i * 2, none⟩ = some (.int .u64 ((ps.getD i d0).1 : Int)) ∧ w.cell? ⟨g, i * 2 + 1, none⟩ = some (.int .u32 ((ps.getD i d0).2 : Int))) :
  Calls Tryz.prog 65 #[.slice (some ⟨g, 0, none⟩) ps.length cap, .int .u64 (h : Int)] w fun e w' => e = .returned (.int .u32 (ownF ps h : Nat)) ∧ Below w.heap.size w w' := by
 obtain ⟨L, hL⟩ : ∃ L, ps.length = L := ⟨_, rfl⟩
 rw [hL] at hc hl hl2 ⊢
 have hmem : ∀ i, i < L → ps.getD i d0 ∈ ps := fun i hi => by
  rw [List.getD_eq_getElem?_getD, List.getElem?_eq_getElem (by omega)]; exact List.getElem_mem _
 have hcw := fun w' (hb : Below w.heap.size w w') i (hi : i < L) => show w'.cell? ⟨g, i * 2, none⟩ = some (.int .u64 ((ps.getD i d0).1 : Int)) ∧ w'.cell? ⟨g, i * 2 + 1, none⟩ = some (.int .u32 ((ps.getD i d0).2 : Int)) from ⟨(hb.cell (p := ⟨g, i * 2, none⟩) (block_lt_of_cell (hc i hi).1)).trans (hc i hi).1, (hb.cell (p := ⟨g, i * 2 + 1, none⟩) (block_lt_of_cell (hc i hi).2)).trans (hc i hi).2⟩
 have HCW := Lib.hid hcw; have HMEM := Lib.hid hmem; have HL := Lib.hid hL; have HB := Lib.hid hB
 obtain ⟨c0, c1⟩ := hc 0 (by omega)
 obtain ⟨p0, hp0⟩ : ∃ p, (ps.getD 0 d0).1 = p := ⟨_, rfl⟩
 obtain ⟨s0, hs0⟩ : ∃ p, (ps.getD 0 d0).2 = p := ⟨_, rfl⟩
 rw [hp0, Nat.zero_mul] at c0; rw [hs0, Nat.zero_mul] at c1
 have H00 := Lib.hid (show ps.getD 0 d0 = (p0, s0) by rw [← hp0, ← hs0])
 clear hc hcw hmem hL hB hp0 hs0
 have hl0 : ((0 : Int) < (L : Int)) = True := by simp; omega
 go_enter Tryz.func65, Tryz.ntmps65
 go_wp2_with fail
 have hone : One w.heap.size #[.int .u64 (p0 : Int), .int .u32 (s0 : Int)] (w.alloc (.cells #[.int .u64 (p0 : Int), .int .u32 (s0 : Int)] 146)) := One.of w _ _
 have HONE := Lib.hid hone
 have HB0 := Lib.hid ((Below.refl w.heap.size w).alloc (Nat.le_refl _) (.cells #[.int .u64 (p0 : Int), .int .u32 (s0 : Int)] 146))
 clear hone c0 c1
 go_loopw [6] (fun i wr => ∃ (q p s : Nat), 1 ≤ q ∧ q ≤ L ∧ i = .int .i64 q ∧ Hid ((p, s) ∈ ps ∧ ∀ j, j < q → key h (p, s) ≤ key h (ps.getD j d0)) ∧ Hid (One w.heap.size #[.int .u64 (p : Int), .int .u32 (s : Int)] wr) ∧ Hid (Below w.heap.size w wr)) (fun i _ => L - (intOf i).toNat)
 case atStart =>
  refine ⟨1, p0, s0, by omega, hl, rfl, Lib.hid ⟨?_, fun j hj => ?_⟩, HONE, HB0⟩
  ·rw [← H00.out]; exact HMEM.out 0 (by omega)
  ·obtain rfl : j = 0 := by omega
   rw [H00.out]; exact Nat.le_refl _
 case round =>
  obtain ⟨q, p, s, hq1, hq, rfl, HM, HO, HBw⟩ := hrel
  by_cases hlt : q < L
  ·obtain ⟨e0, e1⟩ := HCW.out wr HBw.out q hlt
   obtain ⟨x, hx⟩ : ∃ x, (ps.getD q d0).1 = x := ⟨_, rfl⟩
   obtain ⟨y, hy⟩ : ∃ y, (ps.getD q d0).2 = y := ⟨_, rfl⟩
   have hxy : ps.getD q d0 = (x, y) := by rw [← hx, ← hy]
   rw [hx] at e0; rw [hy] at e1
   have hb1 := HB.out _ HM.out.1
   have hb2 := HB.out _ (HMEM.out q hlt)
   rw [hxy] at hb2
   simp only at hb1 hb2
   have b0 : wr.cell? ⟨w.heap.size, 0, none⟩ = some (.int .u64 (p : Int)) := HO.out.c 0
   have b1 : wr.cell? ⟨w.heap.size, 1, none⟩ = some (.int .u32 (s : Int)) := HO.out.c 1
   have f0 := HO.out.f 0
   have f1 := HO.out.f 1
   obtain ⟨a, ha⟩ : ∃ a, (x + M64 - h) % M64 = a := ⟨_, rfl⟩
   obtain ⟨b, hb⟩ : ∃ b, (p + M64 - h) % M64 = b := ⟨_, rfl⟩
   have hwa : IntKind.u64.wrap ((x : Int) - (h : Int)) = (a : Int) := by rw [IntKind.wrap_u64]; simp only [M64] at *; omega
   have hwb : IntKind.u64.wrap ((p : Int) - (h : Int)) = (b : Int) := by rw [IntKind.wrap_u64]; simp only [M64] at *; omega
   have hkey := key_lt (h := h) (x := (x, y)) (y := (p, s)) hb2.2 hb1.2 ha hb
   simp only at hkey
   have hql : ((q : Int) < (L : Int)) = True := by simp; omega
   have HKEY := Lib.hid hkey; have HXY := Lib.hid hxy
   clear ha hb hx hy hxy hb1 hb2 hkey
   have hnot : ¬ (a < b ∨ a = b ∧ y < s) → Hid ((p, s) ∈ ps ∧ ∀ j, j < q + 1 → key h (p, s) ≤ key h (ps.getD j d0)) := fun hn => Lib.hid ⟨HM.out.1, fun j hj => by
    by_cases e : j = q
    ·subst e; rw [HXY.out]
     exact Nat.le_of_not_lt (fun h1 => hn (HKEY.out.1 h1))
    ·exact HM.out.2 j (by omega)⟩
   have hyes : (a < b ∨ a = b ∧ y < s) → Hid ((x, y) ∈ ps ∧ ∀ j, j < q + 1 → key h (x, y) ≤ key h (ps.getD j d0)) := fun hn => Lib.hid ⟨by rw [← HXY.out]; exact HMEM.out q hlt, fun j hj => by
    have hlk := HKEY.out.2 hn
    by_cases e : j = q
    ·subst e; rw [HXY.out]; exact Nat.le_refl _
    ·exact Nat.le_trans (Nat.le_of_lt hlk) (HM.out.2 j (by omega))⟩
   have HNOT := Lib.hid hnot; have HYES := Lib.hid hyes
   clear hnot hyes
   rcases Nat.lt_trichotomy a b with hab | hab | hab
   ·have t1 : decide (a < b) = true := by simp; omega
    have HY := HYES.out (Or.inl hab)
    clear HNOT HYES hab
    go_wp2_with fail
    go_quiet (fail)
    go_wp2_with fail
    go_quiet (fail)
    go_wp2_with fail
    go_roundw
    case rel => exact ⟨q + 1, x, y, by omega, by omega, rfl, HY, Lib.hid (((HO.out.drewN _).set (i := 0) (by show 0 < 2; decide) (.int .u64 (x : Int))).set (i := 1) (by show 1 < 2; decide) (.int .u32 (y : Int))), Lib.hid (((below_dr HBw.out _).setCell (p := ⟨w.heap.size, 0, none⟩) (Nat.le_refl _) _).setCell (p := ⟨w.heap.size, 1, none⟩) (Nat.le_refl _) _)⟩
    case measure => simp [intOf]; omega
   ·have t1 : decide (a < b) = false := by simp; omega
    have t2 : ((a : Int) == (b : Int)) = true := by simp [hab]
    by_cases hys : y < s
    ·have t3 : decide (y < s) = true := by simp; omega
     have HY := HYES.out (Or.inr ⟨hab, hys⟩)
     clear HNOT HYES hab hys
     go_wp2_with fail
     go_quiet (fail)
     go_wp2_with fail
     go_quiet (fail)
     go_wp2_with fail
     go_roundw
     case rel => exact ⟨q + 1, x, y, by omega, by omega, rfl, HY, Lib.hid (((HO.out.drewN _).set (i := 0) (by show 0 < 2; decide) (.int .u64 (x : Int))).set (i := 1) (by show 1 < 2; decide) (.int .u32 (y : Int))), Lib.hid (((below_dr HBw.out _).setCell (p := ⟨w.heap.size, 0, none⟩) (Nat.le_refl _) _).setCell (p := ⟨w.heap.size, 1, none⟩) (Nat.le_refl _) _)⟩
     case measure => simp [intOf]; omega
    ·have t3 : decide (y < s) = false := by simp; omega
     have HY := HNOT.out (fun h => h.elim (fun h1 => by omega) (fun h1 => hys h1.2))
     clear HNOT HYES hab hys
     go_wp2_with fail
     go_quiet (fail)
     go_wp2_with fail
     go_quiet (fail)
     go_wp2_with fail
     go_roundw
     case rel => exact ⟨q + 1, p, s, by omega, by omega, rfl, HY, Lib.hid (HO.out.drewN _), Lib.hid (below_dr HBw.out _)⟩
     case measure => simp [intOf]; omega
   ·have t1 : decide (a < b) = false := by simp; omega
    have t2 : ((a : Int) == (b : Int)) = false := by simp; omega
    have HY := HNOT.out (fun h => h.elim (fun h1 => by omega) (fun h1 => by omega))
    clear HNOT HYES hab
    go_wp2_with fail
    go_quiet (fail)
    go_wp2_with fail
    go_quiet (fail)
    go_wp2_with fail
    go_roundw
    case rel => exact ⟨q + 1, p, s, by omega, by omega, rfl, HY, Lib.hid (HO.out.drewN _), Lib.hid (below_dr HBw.out _)⟩
    case measure => simp [intOf]; omega
  ·have hnl : ((q : Int) < (L : Int)) = False := by simp; omega
   have hqe : q = L := by omega
   have how : ownF ps h = s := ownF_eq HB.out ⟨p, HM.out.1, fun y hy => by
    obtain ⟨j, hj, e⟩ := List.mem_iff_getElem.1 hy
    have := HM.out.2 j (by have := HL.out; omega)
    rw [List.getD_eq_getElem?_getD, List.getElem?_eq_getElem hj] at this
    rw [← e]; exact this⟩
   have b1 : wr.cell? ⟨w.heap.size, 1, none⟩ = some (.int .u32 (s : Int)) := HO.out.c 1
   have HOW := Lib.hid how
   clear hqe how hlt
   go_wp2_with fail
   go_ret
   exact ⟨by rw [HOW.out]; rfl, HBw.out⟩
end Go.Proofs.YtggdkfijioeijaaGreatDoor
namespace Go.Proofs.YtggdkfijioeijaaGreatDoor
open Go Go.RowKit Go.Maps
def U64s (v : Value) (L : List Nat) (w : World) : Prop := (v = .slice none 0 0 ∧ L = []) ∨ ∃ g c, v = .slice (some ⟨g, 0, none⟩) L.length c ∧ L.length ≤ c ∧ g < w.heap.size ∧ ∀ i, i < L.length → w.cell? ⟨g, i, none⟩ = some (.int .u64 ((L.getD i 0 : Nat) : Int))
theorem U64s.below {v : Value} {L : List Nat} {w w' : World} (h : U64s v L w) (hb : Below w.heap.size w w') : U64s v L w' := by
 rcases h with h | ⟨g, c, h1, h2, h3, h4⟩
 ·exact Or.inl h
 ·exact Or.inr ⟨g, c, h1, h2, Nat.lt_of_lt_of_le h3 hb.size, fun i hi => (hb.cell (p := ⟨g, i, none⟩) h3).trans (h4 i hi)⟩
theorem U64s.own {w : World} {B e g n c : Nat} {L : List Nat} (h : w.ownsRow B e 1 (.slice (some ⟨g, 0, none⟩) n c) n (L.map (fun s : Nat => Value.int .u64 (s : Int)))) (hn : L.length = n) : U64s (.slice (some ⟨g, 0, none⟩) n c) L w := by
 rcases h.2 with ⟨h', _⟩ | ⟨g', cap', cur, h', _, hg, hcap, _⟩
 ·simp at h'
 ·simp only [Value.slice.injEq, Option.some.injEq, Addr.mk.injEq, and_true, true_and] at h'
  obtain ⟨rfl, rfl⟩ := h'
  refine Or.inr ⟨g, c, by rw [hn], by omega, lt_of_block hg, fun i hi => ?_⟩
  rw [World.ownsRow.cellAt h i (by omega), List.getElem?_map, List.getD_eq_getElem?_getD, List.getElem?_eq_getElem hi]; rfl
theorem infoU64s : (Tryz.prog.info? 25).map (fun i => (i.zero, i.size, i.bytes)) = some (some (.int .u64 0), 1, 8) := by kernel_rfl
theorem ints1 {K : IntKind} (S : List Nat) : ∀ u ∈ S.map (fun s : Nat => Value.int K (s : Int)), u.oneCell' = true := by
 intro u hu
 obtain ⟨s, _, rfl⟩ := List.mem_map.1 hu
 rfl
theorem ins_plain {L : List Nat} {n k : Nat} (hs : L.Pairwise (· < ·)) (hk : k ≤ L.length) (h1 : ∀ j, j < k → L.getD j 0 < n) (h2 : k < L.length → n < L.getD k 0) :
  (L.take k ++ [n] ++ L.drop k).Pairwise (· < ·) ∧ ∀ x, x ∈ L.take k ++ [n] ++ L.drop k ↔ x ∈ L ∨ x = n := by
 have hg : ∀ j, (hj : j < L.length) → L.getD j 0 = L[j] := fun j hj => by rw [List.getD_eq_getElem?_getD, List.getElem?_eq_getElem hj]; rfl
 have ht : ∀ x ∈ L.take k, x < n := fun x hx => by
  obtain ⟨j, hj, rfl⟩ := List.mem_iff_getElem.1 hx
  rw [List.length_take] at hj
  have := h1 j (by omega)
  rw [hg j (by omega)] at this
  rw [List.getElem_take]; exact this
 have hd : ∀ x ∈ L.drop k, n < x := fun x hx => by
  obtain ⟨j, hj, rfl⟩ := List.mem_iff_getElem.1 hx
  rw [List.length_drop] at hj
  have h3 := h2 (by omega)
  rw [hg k (by omega)] at h3
  rw [List.getElem_drop]
  by_cases e : j = 0
  ·subst e; exact h3
  ·have := List.pairwise_iff_getElem.1 hs k (k + j) (by omega) (by omega) (by omega)
   omega
 refine ⟨?_, fun x => ?_⟩
 ·rw [List.pairwise_append, List.pairwise_append]
  refine ⟨⟨hs.sublist (List.take_sublist _ _), by simp, fun a ha b hb => by simp at hb; subst hb; exact ht a ha⟩, hs.sublist (List.drop_sublist _ _), fun a ha b hb => ?_⟩
  rcases List.mem_append.1 ha with h | h
  ·exact Nat.lt_trans (ht a h) (hd b hb)
  ·simp at h; subst h; exact hd b hb
 ·have hx : x ∈ L ↔ x ∈ L.take k ∨ x ∈ L.drop k := by
   conv => lhs; rw [← List.take_append_drop k L]
   exact List.mem_append
  simp only [List.mem_append, List.mem_singleton, hx]
  constructor
  ·rintro ((h | h) | h)
   ·exact Or.inl (Or.inl h)
   ·exact Or.inr h
   ·exact Or.inl (Or.inr h)
  ·rintro ((h | h) | h)
   ·exact Or.inl (Or.inl h)
   ·exact Or.inr h
   ·exact Or.inl (Or.inr h)
def PutGives (L : List Nat) (n : Nat) (w : World) (e : Ending) (w' : World) : Prop := ∃ v' L', e = .returned v' ∧ U64s v' L' w' ∧ L'.Pairwise (· < ·) ∧ (∀ x, x ∈ L' ↔ x ∈ L ∨ x = n) ∧ L'.length ≤ L.length + 1 ∧ Below w.heap.size w w'
set_option maxRecDepth 100000 in
set_option maxHeartbeats 8000000 in
theorem ref26_put (v : Value) (L : List Nat) (n : Nat) (w : World) (hv : U64s v L w) (hs : L.Pairwise (· < ·)) (hl : L.length ≤ 10000) :
  Calls Tryz.prog 64 #[v, .int .u64 (n : Int)] w (PutGives L n w) := by
 obtain ⟨j0, hj, hy0, hy1, hy2⟩ := info_parts infoU64s
 obtain ⟨N, hN⟩ : ∃ N, L.length = N := ⟨_, rfl⟩
 rcases hv with ⟨rfl, rfl⟩ | ⟨g, c, rfl, hc, hg, hcell⟩
 ·clear hN
  go_enter Tryz.func64, Tryz.ntmps64
  go_wp2_with fail
  go_loopw [5] (fun i wr => i = .int .i64 0 ∧ wr = w) (fun _ _ => 0)
  case atStart => exact ⟨rfl, rfl⟩
  case round =>
   obtain ⟨rfl, rfl⟩ := hrel
   go_upto_region 9 with (
    at_builtin
    refine wpList_append_lies _ rfl (.tmp 39) (.tmp 41) 52 rfl wr.heap.size 25 j0 (.int .u64 0) 1 8 Tryz.underlying52 hj hy0 hy1 hy2 rfl (by decide) _ 0 [] rfl (World.ownsRow_nil _ _ _ _) ⟨wr.heap.size, 0, none⟩ 1 1 [.int .u64 (n : Int)] rfl rfl (cell_one_new _ _ _) (ints1 [n]) (by decide) (by unfold maxLen; omega) (by omega) (by simp) (wr.heap.size + 1) (by simp) ?_
    intro g8 cp8 w8 hown8 hg8 _hat8 _hlt8
    have HO8 := Lib.hid (show w8.ownsRow wr.heap.size 25 1 (.slice (some ⟨g8, 0, none⟩) 1 cp8) 1 [.int .u64 (n : Int)] from hown8)
    have HB8 := Lib.hid (((Below.refl wr.heap.size wr).alloc (Nat.le_refl _) _).grown hg8 (by simp) (fun k hk => by cases hk))
    simp only [Nat.zero_add]
    clear hown8 hg8 _hat8 _hlt8)
   go_wp2_with (at_builtin; refine wpList_append_own_none rfl (.tmp 43) (.tmp 46) 52 rfl wr.heap.size 25 j0 1 Tryz.underlying52 hj _ 1 [.int .u64 (n : Int)] rfl HO8.out rfl ?_)
   go_ret
   exact ⟨_, [n], rfl, U64s.own (L := [n]) HO8.out rfl, by simp, by simp, by simp, HB8.out⟩
 ·have HCELL := Lib.hid hcell; have HS := Lib.hid hs; have HNL := Lib.hid hN
  rw [hN] at hc hcell hl ⊢
  clear hcell hs hN
  go_enter Tryz.func64, Tryz.ntmps64
  go_wp2_with fail
  go_loopw [5] (fun i wr => ∃ k : Nat, k ≤ N ∧ i = .int .i64 k ∧ Hid (∀ j, j < k → L.getD j 0 < n) ∧ wr = w) (fun i _ => N - (intOf i).toNat)
  case atStart => exact ⟨0, Nat.zero_le _, rfl, Lib.hid (fun j hj => by omega), rfl⟩
  case round =>
   obtain ⟨k, hk, rfl, HLT, rfl⟩ := hrel
   by_cases hlt : k < N
   ·have ck := HCELL.out k (by rw [HNL.out]; exact hlt)
    obtain ⟨x, hx⟩ : ∃ x, L.getD k 0 = x := ⟨_, rfl⟩
    rw [hx] at ck
    by_cases hxn : x < n
    ·have HLT2 := Lib.hid (show ∀ j, j < k + 1 → L.getD j 0 < n from fun j hj => by
      by_cases e : j = k
      ·subst e; rw [hx]; exact hxn
      ·exact HLT.out j (by omega))
     clear hx
     go_wp2_with fail
     go_roundw
     case rel => exact ⟨k + 1, by omega, rfl, HLT2, by first | trivial | rfl⟩
     case measure => simp [intOf]; omega
    ·by_cases hxe : x = n
     ·have HME := Lib.hid (show n ∈ L from by
       rw [← hxe, ← hx, List.getD_eq_getElem?_getD, List.getElem?_eq_getElem (by rw [HNL.out]; exact hlt)]; exact List.getElem_mem _)
      have hxb : ((x : Int) == (n : Int)) = true := by simp [hxe]
      have HXN := Lib.hid hxn
      have hxl : ((x : Int) < (n : Int)) = False := by simp; omega
      clear hx hxe hxn
      go_wp2_with fail
      go_ret
      exact ⟨_, L, rfl, Or.inr ⟨g, c, by rw [HNL.out]; rfl, by rw [HNL.out]; exact hc, hg, HCELL.out⟩, HS.out, fun y => ⟨Or.inl, fun h => h.elim id (fun e => e ▸ HME.out)⟩, by omega, Below.refl _ _⟩
     ·have hxg : n < x := by omega
      have HGT := Lib.hid (show k < L.length → n < L.getD k 0 from fun _ => by rw [hx]; exact hxg)
      have hxb : ((x : Int) == (n : Int)) = false := by simp; omega
      have hxl : ((x : Int) < (n : Int)) = False := by simp; omega
      clear hx hxe hxn hxg
      have HPL := Lib.hid (ins_plain HS.out (k := k) (n := n) (by rw [HNL.out]; exact hk) HLT.out HGT.out)
      have hkc : ((k : Int) ≤ (c : Int)) = True := by simp; omega
      have HN1 := Lib.hid (show ∀ j u, ((L.take k).map (fun s : Nat => Value.int .u64 (s : Int)))[j]? = some u → wr.cell? ((⟨g, 0, none⟩ : Addr).add j) = some u from fun j u hu => by
       have hj := (List.getElem?_eq_some_iff.1 hu).1
       rw [List.length_map, List.length_take] at hj
       have he : ((⟨g, 0, none⟩ : Addr).add j) = ⟨g, j, none⟩ := by
        unfold Addr.add; split
        ·rename_i hz; subst hz; rfl
        ·simp
       rw [he, HCELL.out j (by omega), ← hu, List.getElem?_map, List.getElem?_take_of_lt (by omega), List.getD_eq_getElem?_getD, List.getElem?_eq_getElem (by omega)]; rfl)
      have HL1 := Lib.hid (show ((L.take k).map (fun s : Nat => Value.int .u64 (s : Int))).length = k * 1 by rw [List.length_map, List.length_take, HNL.out]; omega)
      have HL2 := Lib.hid (show ((L.drop k).map (fun s : Nat => Value.int .u64 (s : Int))).length = (N - k) * 1 by rw [List.length_map, List.length_drop, HNL.out]; omega)
      have HN2 := Lib.hid (show ∀ w', Below wr.heap.size wr w' → ∀ j u, ((L.drop k).map (fun s : Nat => Value.int .u64 (s : Int)))[j]? = some u → w'.cell? ((⟨g, k, none⟩ : Addr).add j) = some u from fun w' hb j u hu => by
       have hj := (List.getElem?_eq_some_iff.1 hu).1
       rw [List.length_map, List.length_drop] at hj
       have he : ((⟨g, k, none⟩ : Addr).add j) = ⟨g, k + j, none⟩ := by
        unfold Addr.add; split
        ·rename_i hz; subst hz; rfl
        ·rfl
       rw [he, (hb.cell (p := ⟨g, k + j, none⟩) hg).trans (HCELL.out (k + j) (by omega)), ← hu, List.getElem?_map, List.getElem?_drop, List.getD_eq_getElem?_getD, List.getElem?_eq_getElem (by omega)]; rfl)
      go_upto_region 8 with (
       at_builtin
       refine wpList_append_own _ rfl (.tmp 34) (.tmp 37) 52 rfl wr.heap.size 25 j0 (.int .u64 0) 1 8 Tryz.underlying52 hj hy0 hy1 hy2 rfl (by decide) (.slice none 0 0) 0 [] rfl (World.ownsRow_nil _ _ _ _) ⟨g, 0, none⟩ k _ ((L.take k).map (fun s : Nat => Value.int .u64 (s : Int))) rfl HL1.out HN1.out (ints1 _) (by unfold maxLen; omega) (by omega) (Nat.le_refl _) ?_
       intro v7 w7 hown7 hg7 _hz7
       have HO7 := Lib.hid (show w7.ownsRow wr.heap.size 25 1 v7 k ((L.take k).map (fun s : Nat => Value.int .u64 (s : Int))) from by rw [Nat.zero_add] at hown7; exact hown7)
       have HB7 := Lib.hid ((Below.refl wr.heap.size wr).grown hg7 (Nat.le_refl _) (fun k hk => by cases hk))
       clear hown7 hg7 _hz7)
      go_upto_region 9 with (
       at_builtin
       refine wpList_append_lies _ rfl (.tmp 39) (.tmp 41) 52 rfl wr.heap.size 25 j0 (.int .u64 0) 1 8 Tryz.underlying52 hj hy0 hy1 hy2 rfl (by decide) _ k ((L.take k).map (fun s : Nat => Value.int .u64 (s : Int))) rfl (HO7.out.alloc _) ⟨w7.heap.size, 0, none⟩ 1 1 [.int .u64 (n : Int)] rfl rfl (cell_one_new _ _ _) (ints1 [n]) (by decide) (by unfold maxLen; omega) (by omega) (by have := HB7.out.size; simp; omega) (w7.heap.size + 1) (by simp) ?_
       intro g8 cp8 w8 hown8 hg8 _hat8 _hlt8
       have HO8 := Lib.hid (show w8.ownsRow wr.heap.size 25 1 (.slice (some ⟨g8, 0, none⟩) (k + 1) cp8) (k + 1) ((L.take k ++ [n]).map (fun s : Nat => Value.int .u64 (s : Int))) from by rw [List.map_append]; exact hown8)
       have HB8 := Lib.hid ((HB7.out.alloc HB7.out.size _).grown hg8 (by have := HB7.out.size; simp; omega) (own_above2 HO7.out))
       clear hown8 hg8 _hat8 _hlt8)
      go_wp2_with (
       at_builtin
       refine wpList_append_own _ rfl (.tmp 43) (.tmp 46) 52 rfl wr.heap.size 25 j0 (.int .u64 0) 1 8 Tryz.underlying52 hj hy0 hy1 hy2 rfl (by decide) _ (k + 1) ((L.take k ++ [n]).map (fun s : Nat => Value.int .u64 (s : Int))) rfl HO8.out ⟨g, k, none⟩ (N - k) _ ((L.drop k).map (fun s : Nat => Value.int .u64 (s : Int))) rfl HL2.out (HN2.out _ HB8.out) (ints1 _) (by unfold maxLen; omega) (by omega) HB8.out.size ?_
       intro v9 w9 hown9 hg9 _hz9
       have HO9 := Lib.hid (show w9.ownsRow wr.heap.size 25 1 v9 (k + 1 + (N - k)) ((L.take k ++ [n] ++ L.drop k).map (fun s : Nat => Value.int .u64 (s : Int))) from by rw [List.map_append (l₁ := L.take k ++ [n])]; exact hown9)
       have HB9 := Lib.hid (HB8.out.grown hg9 HB8.out.size (own_above2 HO8.out))
       clear hown9 hg9 _hz9)
      go_ret
      have hlen : (L.take k ++ [n] ++ L.drop k).length = k + 1 + (N - k) := by rw [List.length_append, List.length_append, List.length_take, List.length_drop, HNL.out]; simp; omega
      obtain ⟨g9, c9, rfl⟩ : ∃ g9 c9, v9 = .slice (some ⟨g9, 0, none⟩) (k + 1 + (N - k)) c9 := by
       rcases HO9.out.2 with ⟨h', hn⟩ | ⟨g, cap, cur, h', _⟩
       ·omega
       ·exact ⟨g, cap, h'⟩
      exact ⟨_, L.take k ++ [n] ++ L.drop k, rfl, U64s.own HO9.out hlen, HPL.out.1, HPL.out.2, by rw [hlen, HNL.out]; omega, HB9.out⟩
   ·have HGT := Lib.hid (show k < L.length → n < L.getD k 0 from fun h => absurd h (by rw [HNL.out]; exact hlt))
    have hkl : ((k : Int) < (N : Int)) = False := by simp; omega
    clear hlt
    by_cases hck : c = k
    ·have hck2 := hck
     have HPL := Lib.hid (ins_plain HS.out (k := k) (n := n) (by rw [HNL.out]; exact hk) HLT.out HGT.out)
     have hkc : ((k : Int) ≤ (c : Int)) = True := by simp; omega
     have HN1 := Lib.hid (show ∀ j u, ((L.take k).map (fun s : Nat => Value.int .u64 (s : Int)))[j]? = some u → wr.cell? ((⟨g, 0, none⟩ : Addr).add j) = some u from fun j u hu => by
      have hj := (List.getElem?_eq_some_iff.1 hu).1
      rw [List.length_map, List.length_take] at hj
      have he : ((⟨g, 0, none⟩ : Addr).add j) = ⟨g, j, none⟩ := by
       unfold Addr.add; split
       ·rename_i hz; subst hz; rfl
       ·simp
      rw [he, HCELL.out j (by omega), ← hu, List.getElem?_map, List.getElem?_take_of_lt (by omega), List.getD_eq_getElem?_getD, List.getElem?_eq_getElem (by omega)]; rfl)
     have HL1 := Lib.hid (show ((L.take k).map (fun s : Nat => Value.int .u64 (s : Int))).length = k * 1 by rw [List.length_map, List.length_take, HNL.out]; omega)
     have HL2 := Lib.hid (show ((L.drop k).map (fun s : Nat => Value.int .u64 (s : Int))).length = (N - k) * 1 by rw [List.length_map, List.length_drop, HNL.out]; omega)
     have HN2 := Lib.hid (show ∀ w', Below wr.heap.size wr w' → ∀ j u, ((L.drop k).map (fun s : Nat => Value.int .u64 (s : Int)))[j]? = some u → w'.cell? ((⟨g, 0, none⟩ : Addr).add j) = some u from fun w' _ j u hu => by
      have hj := (List.getElem?_eq_some_iff.1 hu).1
      rw [List.length_map, List.length_drop] at hj
      have := HNL.out; omega)
     go_upto_region 8 with (
      at_builtin
      refine wpList_append_own _ rfl (.tmp 34) (.tmp 37) 52 rfl wr.heap.size 25 j0 (.int .u64 0) 1 8 Tryz.underlying52 hj hy0 hy1 hy2 rfl (by decide) (.slice none 0 0) 0 [] rfl (World.ownsRow_nil _ _ _ _) ⟨g, 0, none⟩ k _ ((L.take k).map (fun s : Nat => Value.int .u64 (s : Int))) rfl HL1.out HN1.out (ints1 _) (by unfold maxLen; omega) (by omega) (Nat.le_refl _) ?_
      intro v7 w7 hown7 hg7 _hz7
      have HO7 := Lib.hid (show w7.ownsRow wr.heap.size 25 1 v7 k ((L.take k).map (fun s : Nat => Value.int .u64 (s : Int))) from by rw [Nat.zero_add] at hown7; exact hown7)
      have HB7 := Lib.hid ((Below.refl wr.heap.size wr).grown hg7 (Nat.le_refl _) (fun k hk => by cases hk))
      clear hown7 hg7 _hz7)
     go_upto_region 9 with (
      at_builtin
      refine wpList_append_lies _ rfl (.tmp 39) (.tmp 41) 52 rfl wr.heap.size 25 j0 (.int .u64 0) 1 8 Tryz.underlying52 hj hy0 hy1 hy2 rfl (by decide) _ k ((L.take k).map (fun s : Nat => Value.int .u64 (s : Int))) rfl (HO7.out.alloc _) ⟨w7.heap.size, 0, none⟩ 1 1 [.int .u64 (n : Int)] rfl rfl (cell_one_new _ _ _) (ints1 [n]) (by decide) (by unfold maxLen; omega) (by omega) (by have := HB7.out.size; simp; omega) (w7.heap.size + 1) (by simp) ?_
      intro g8 cp8 w8 hown8 hg8 _hat8 _hlt8
      have HO8 := Lib.hid (show w8.ownsRow wr.heap.size 25 1 (.slice (some ⟨g8, 0, none⟩) (k + 1) cp8) (k + 1) ((L.take k ++ [n]).map (fun s : Nat => Value.int .u64 (s : Int))) from by rw [List.map_append]; exact hown8)
      have HB8 := Lib.hid ((HB7.out.alloc HB7.out.size _).grown hg8 (by have := HB7.out.size; simp; omega) (own_above2 HO7.out))
      clear hown8 hg8 _hat8 _hlt8)
     go_wp2_with (
      at_builtin
      refine wpList_append_own _ rfl (.tmp 43) (.tmp 46) 52 rfl wr.heap.size 25 j0 (.int .u64 0) 1 8 Tryz.underlying52 hj hy0 hy1 hy2 rfl (by decide) _ (k + 1) ((L.take k ++ [n]).map (fun s : Nat => Value.int .u64 (s : Int))) rfl HO8.out ⟨g, 0, none⟩ (N - k) _ ((L.drop k).map (fun s : Nat => Value.int .u64 (s : Int))) rfl HL2.out (HN2.out _ HB8.out) (ints1 _) (by unfold maxLen; omega) (by omega) HB8.out.size ?_
      intro v9 w9 hown9 hg9 _hz9
      have HO9 := Lib.hid (show w9.ownsRow wr.heap.size 25 1 v9 (k + 1 + (N - k)) ((L.take k ++ [n] ++ L.drop k).map (fun s : Nat => Value.int .u64 (s : Int))) from by rw [List.map_append (l₁ := L.take k ++ [n])]; exact hown9)
      have HB9 := Lib.hid (HB8.out.grown hg9 HB8.out.size (own_above2 HO8.out))
      clear hown9 hg9 _hz9)
     go_ret
     have hlen : (L.take k ++ [n] ++ L.drop k).length = k + 1 + (N - k) := by rw [List.length_append, List.length_append, List.length_take, List.length_drop, HNL.out]; simp; omega
     obtain ⟨g9, c9, rfl⟩ : ∃ g9 c9, v9 = .slice (some ⟨g9, 0, none⟩) (k + 1 + (N - k)) c9 := by
      rcases HO9.out.2 with ⟨h', hn⟩ | ⟨g, cap, cur, h', _⟩
      ·omega
      ·exact ⟨g, cap, h'⟩
     exact ⟨_, L.take k ++ [n] ++ L.drop k, rfl, U64s.own HO9.out hlen, HPL.out.1, HPL.out.2, by rw [hlen, HNL.out]; omega, HB9.out⟩
    ·have hck' : ¬ k = c := fun e => hck e.symm
     have HPL := Lib.hid (ins_plain HS.out (k := k) (n := n) (by rw [HNL.out]; exact hk) HLT.out HGT.out)
     have hkc : ((k : Int) ≤ (c : Int)) = True := by simp; omega
     have HN1 := Lib.hid (show ∀ j u, ((L.take k).map (fun s : Nat => Value.int .u64 (s : Int)))[j]? = some u → wr.cell? ((⟨g, 0, none⟩ : Addr).add j) = some u from fun j u hu => by
      have hj := (List.getElem?_eq_some_iff.1 hu).1
      rw [List.length_map, List.length_take] at hj
      have he : ((⟨g, 0, none⟩ : Addr).add j) = ⟨g, j, none⟩ := by
       unfold Addr.add; split
       ·rename_i hz; subst hz; rfl
       ·simp
      rw [he, HCELL.out j (by omega), ← hu, List.getElem?_map, List.getElem?_take_of_lt (by omega), List.getD_eq_getElem?_getD, List.getElem?_eq_getElem (by omega)]; rfl)
     have HL1 := Lib.hid (show ((L.take k).map (fun s : Nat => Value.int .u64 (s : Int))).length = k * 1 by rw [List.length_map, List.length_take, HNL.out]; omega)
     have HL2 := Lib.hid (show ((L.drop k).map (fun s : Nat => Value.int .u64 (s : Int))).length = (N - k) * 1 by rw [List.length_map, List.length_drop, HNL.out]; omega)
     have HN2 := Lib.hid (show ∀ w', Below wr.heap.size wr w' → ∀ j u, ((L.drop k).map (fun s : Nat => Value.int .u64 (s : Int)))[j]? = some u → w'.cell? ((⟨g, k, none⟩ : Addr).add j) = some u from fun w' hb j u hu => by
      have hj := (List.getElem?_eq_some_iff.1 hu).1
      rw [List.length_map, List.length_drop] at hj
      have he : ((⟨g, k, none⟩ : Addr).add j) = ⟨g, k + j, none⟩ := by
       unfold Addr.add; split
       ·rename_i hz; subst hz; rfl
       ·rfl
      rw [he, (hb.cell (p := ⟨g, k + j, none⟩) hg).trans (HCELL.out (k + j) (by omega)), ← hu, List.getElem?_map, List.getElem?_drop, List.getD_eq_getElem?_getD, List.getElem?_eq_getElem (by omega)]; rfl)
     go_upto_region 8 with (
      at_builtin
      refine wpList_append_own _ rfl (.tmp 34) (.tmp 37) 52 rfl wr.heap.size 25 j0 (.int .u64 0) 1 8 Tryz.underlying52 hj hy0 hy1 hy2 rfl (by decide) (.slice none 0 0) 0 [] rfl (World.ownsRow_nil _ _ _ _) ⟨g, 0, none⟩ k _ ((L.take k).map (fun s : Nat => Value.int .u64 (s : Int))) rfl HL1.out HN1.out (ints1 _) (by unfold maxLen; omega) (by omega) (Nat.le_refl _) ?_
      intro v7 w7 hown7 hg7 _hz7
      have HO7 := Lib.hid (show w7.ownsRow wr.heap.size 25 1 v7 k ((L.take k).map (fun s : Nat => Value.int .u64 (s : Int))) from by rw [Nat.zero_add] at hown7; exact hown7)
      have HB7 := Lib.hid ((Below.refl wr.heap.size wr).grown hg7 (Nat.le_refl _) (fun k hk => by cases hk))
      clear hown7 hg7 _hz7)
     go_upto_region 9 with (
      at_builtin
      refine wpList_append_lies _ rfl (.tmp 39) (.tmp 41) 52 rfl wr.heap.size 25 j0 (.int .u64 0) 1 8 Tryz.underlying52 hj hy0 hy1 hy2 rfl (by decide) _ k ((L.take k).map (fun s : Nat => Value.int .u64 (s : Int))) rfl (HO7.out.alloc _) ⟨w7.heap.size, 0, none⟩ 1 1 [.int .u64 (n : Int)] rfl rfl (cell_one_new _ _ _) (ints1 [n]) (by decide) (by unfold maxLen; omega) (by omega) (by have := HB7.out.size; simp; omega) (w7.heap.size + 1) (by simp) ?_
      intro g8 cp8 w8 hown8 hg8 _hat8 _hlt8
      have HO8 := Lib.hid (show w8.ownsRow wr.heap.size 25 1 (.slice (some ⟨g8, 0, none⟩) (k + 1) cp8) (k + 1) ((L.take k ++ [n]).map (fun s : Nat => Value.int .u64 (s : Int))) from by rw [List.map_append]; exact hown8)
      have HB8 := Lib.hid ((HB7.out.alloc HB7.out.size _).grown hg8 (by have := HB7.out.size; simp; omega) (own_above2 HO7.out))
      clear hown8 hg8 _hat8 _hlt8)
     go_wp2_with (
      at_builtin
      refine wpList_append_own _ rfl (.tmp 43) (.tmp 46) 52 rfl wr.heap.size 25 j0 (.int .u64 0) 1 8 Tryz.underlying52 hj hy0 hy1 hy2 rfl (by decide) _ (k + 1) ((L.take k ++ [n]).map (fun s : Nat => Value.int .u64 (s : Int))) rfl HO8.out ⟨g, k, none⟩ (N - k) _ ((L.drop k).map (fun s : Nat => Value.int .u64 (s : Int))) rfl HL2.out (HN2.out _ HB8.out) (ints1 _) (by unfold maxLen; omega) (by omega) HB8.out.size ?_
      intro v9 w9 hown9 hg9 _hz9
      have HO9 := Lib.hid (show w9.ownsRow wr.heap.size 25 1 v9 (k + 1 + (N - k)) ((L.take k ++ [n] ++ L.drop k).map (fun s : Nat => Value.int .u64 (s : Int))) from by rw [List.map_append (l₁ := L.take k ++ [n])]; exact hown9)
      have HB9 := Lib.hid (HB8.out.grown hg9 HB8.out.size (own_above2 HO8.out))
      clear hown9 hg9 _hz9)
     go_ret
     have hlen : (L.take k ++ [n] ++ L.drop k).length = k + 1 + (N - k) := by rw [List.length_append, List.length_append, List.length_take, List.length_drop, HNL.out]; simp; omega
     obtain ⟨g9, c9, rfl⟩ : ∃ g9 c9, v9 = .slice (some ⟨g9, 0, none⟩) (k + 1 + (N - k)) c9 := by
      rcases HO9.out.2 with ⟨h', hn⟩ | ⟨g, cap, cur, h', _⟩
      ·omega
      ·exact ⟨g, cap, h'⟩
     exact ⟨_, L.take k ++ [n] ++ L.drop k, rfl, U64s.own HO9.out hlen, HPL.out.1, HPL.out.2, by rw [hlen, HNL.out]; omega, HB9.out⟩
end Go.Proofs.YtggdkfijioeijaaGreatDoor
namespace Go.Proofs.YtggdkfijioeijaaGreatDoor
open Go Go.RowKit Go.Maps
def cndA (A : List Nat) (k : Nat) : Nat := if k < A.length then A.getD k 0 else M64
structure AtOf (A : List Nat) (ps : List (Nat × Nat)) (n : Nat) : Prop where
 rise : A.Pairwise (· < ·)
 mem : ∀ x, x ∈ A ↔ x = 0 ∨ ∃ j, j < n ∧ x = ((ps.getD j d0).1 + 1) % M64
theorem getD_in_list {A : List Nat} {j : Nat} (h : j < A.length) : A.getD j 0 ∈ A := by rw [List.getD_eq_getElem?_getD, List.getElem?_eq_getElem h]; exact List.getElem_mem _
theorem AtOf.lt64 {A : List Nat} {ps : List (Nat × Nat)} {n : Nat} (h : AtOf A ps n) : ∀ x ∈ A, x < M64 := fun x hx => by
 rcases (h.mem x).1 hx with rfl | ⟨j, _, rfl⟩
 ·decide
 ·exact Nat.mod_lt _ (by decide)
theorem AtOf.zero {A : List Nat} {ps : List (Nat × Nat)} {n : Nat} (h : AtOf A ps n) : 0 < A.length ∧ A.getD 0 0 = 0 := by
 obtain ⟨j, hj, e⟩ := List.mem_iff_getElem.1 ((h.mem 0).2 (Or.inl rfl))
 refine ⟨by omega, ?_⟩
 rw [List.getD_eq_getElem?_getD, List.getElem?_eq_getElem (by omega)]
 show A[0] = 0
 by_cases e0 : j = 0
 ·subst e0; exact e
 ·have := List.pairwise_iff_getElem.1 h.rise 0 j (by omega) hj (by omega)
  omega
theorem AtOf.step {A : List Nat} {ps : List (Nat × Nat)} {n k : Nat} (h : AtOf A ps n) (hk : k < A.length) : A.getD k 0 < cndA A (k + 1) ∧ cndA A (k + 1) ≤ M64 ∧ cndA A k = A.getD k 0 := by
 have hg : A.getD k 0 = A[k] := by rw [List.getD_eq_getElem?_getD, List.getElem?_eq_getElem hk]; rfl
 refine ⟨?_, ?_, if_pos hk⟩
 ·unfold cndA
  split
  ·rename_i h2
   rw [hg, List.getD_eq_getElem?_getD, List.getElem?_eq_getElem h2]
   exact List.pairwise_iff_getElem.1 h.rise k (k + 1) hk h2 (by omega)
  ·exact h.lt64 _ (getD_in_list hk)
 ·unfold cndA
  split
  ·rename_i h2; exact Nat.le_of_lt (h.lt64 _ (getD_in_list h2))
  ·exact Nat.le_refl _
theorem AtOf.const {A : List Nat} {ps : List (Nat × Nat)} (h : AtOf A ps ps.length) (hB : InB ps) (hne : ps ≠ []) (k : Nat) (hk : k < A.length) (u : Nat) (h1 : A.getD k 0 ≤ u) (h2 : u < cndA A (k + 1)) : ownF ps u = ownF ps (A.getD k 0) := by
 obtain ⟨s1, s2, _⟩ := h.step hk
 refine ownF_const hB hne h1 (Nat.lt_of_lt_of_le h2 s2) (fun y hy ⟨a, b⟩ => ?_)
 obtain ⟨j, hj, e⟩ := List.mem_iff_getElem.1 hy
 have hm : y.1 + 1 ∈ A := (h.mem _).2 (Or.inr ⟨j, hj, by
  rw [List.getD_eq_getElem?_getD, List.getElem?_eq_getElem hj]
  show y.1 + 1 = (ps[j].1 + 1) % M64
  rw [e, Nat.mod_eq_of_lt (by omega)]⟩)
 obtain ⟨i, hi, ei⟩ := List.mem_iff_getElem.1 hm
 have hgk : A.getD k 0 = A[k] := by rw [List.getD_eq_getElem?_getD, List.getElem?_eq_getElem hk]; rfl
 have hr := List.pairwise_iff_getElem.1 h.rise
 have hik : k < i := by
  rcases Nat.lt_trichotomy i k with e1 | e1 | e1
  ·have := hr i k hi hk e1; omega
  ·subst e1; omega
  ·exact e1
 unfold cndA at h2
 split at h2
 ·rename_i h3
  rw [List.getD_eq_getElem?_getD, List.getElem?_eq_getElem h3] at h2
  simp only [Option.getD_some] at h2
  by_cases e4 : i = k + 1
  ·subst e4; omega
  ·have := hr (k + 1) i h3 hi (by omega); omega
 ·omega
theorem U64s.some {v : Value} {L : List Nat} {w : World} (h : U64s v L w) (hl : 0 < L.length) : ∃ g c, v = .slice (Option.some ⟨g, 0, none⟩) L.length c ∧ g < w.heap.size ∧ ∀ i, i < L.length → w.cell? ⟨g, i, none⟩ = Option.some (.int .u64 ((L.getD i 0 : Nat) : Int)) := by
 rcases h with ⟨_, h⟩ | ⟨g, c, h1, _, h3, h4⟩
 ·rw [h] at hl; simp at hl
 ·exact ⟨g, c, h1, h3, h4⟩
set_option maxRecDepth 100000 in
set_option maxHeartbeats 8000000 in
theorem ref26_Spans (ps : List (Nat × Nat)) (g cap : Nat) (w : World) (hB : InB ps) (hl : 1 ≤ ps.length) (hl2 : ps.length ≤ 2000) (hc : ∀ i, i < ps.length → w.cell? ⟨g, i * 2, none⟩ = some (.int .u64 ((ps.getD i d0).1 : Int)) ∧ w.cell? ⟨g, i * 2 + 1, none⟩ = some (.int .u32 ((ps.getD i d0).2 : Int))) :
  Calls Tryz.prog 26 #[.slice (some ⟨g, 0, none⟩) ps.length cap] w (fun e w' => ∃ g' c' sp, e = .returned (.slice (some ⟨g', 0, none⟩) sp.length c') ∧ w'.ownsRow w.heap.size 99 2 (.slice (some ⟨g', 0, none⟩) sp.length c') sp.length (spV sp) ∧ SpI (ownF ps) sp M64 ∧ sp.length ≤ ps.length + 1 ∧ Below w.heap.size w w') := by
 obtain ⟨i0, hi, hz0, hz1, hz2⟩ := info_parts infoSpan
 obtain ⟨L, hL⟩ : ∃ L, ps.length = L := ⟨_, rfl⟩
 have hne : ps ≠ [] := fun e => by rw [e] at hl; simp at hl
 have hcw := fun w' (hb : Below w.heap.size w w') i (hi : i < L) => show w'.cell? ⟨g, i * 2, none⟩ = some (.int .u64 ((ps.getD i d0).1 : Int)) ∧ w'.cell? ⟨g, i * 2 + 1, none⟩ = some (.int .u32 ((ps.getD i d0).2 : Int)) from ⟨(hb.cell (p := ⟨g, i * 2, none⟩) (block_lt_of_cell (hc i (by omega)).1)).trans (hc i (by omega)).1, (hb.cell (p := ⟨g, i * 2 + 1, none⟩) (block_lt_of_cell (hc i (by omega)).2)).trans (hc i (by omega)).2⟩
 have hown := fun (h : Nat) (hh : h < M64) w' (hb : Below w.heap.size w w') => ref26_Owner ps g cap h w' hh hB hl (by omega) (fun i hi => hcw w' hb i (by omega))
 rw [hL] at hown hl hl2 ⊢
 have HCW := Lib.hid hcw; have HOWN := Lib.hid hown; have HL := Lib.hid hL; have HB := Lib.hid hB; have HNE := Lib.hid hne
 clear hc hcw hown hL hB hne
 go_enter Tryz.func26, Tryz.ntmps26
 go_wp2_with fail
 refine (ref26_put _ [] 0 w (Or.inl ⟨rfl, rfl⟩) (by simp) (by simp)).mono ?_
 rintro e w1 ⟨v1, A1, rfl, hu1, hr1, hm1, hl1, hb1⟩
 have HAT1 := Lib.hid (show AtOf A1 ps 0 from ⟨hr1, fun x => by rw [hm1 x]; simp⟩)
 have HU1 := Lib.hid hu1; have HB1 := Lib.hid hb1
 clear hu1 hr1 hm1 hb1
 go_wp2_with fail
 go_loopw [3, 4] (fun v i wr => ∃ (q : Nat) (A : List Nat), q ≤ L ∧ i = .int .i64 q ∧ A.length ≤ q + 1 ∧ Hid (U64s v A wr) ∧ Hid (AtOf A ps q) ∧ Hid (Below w.heap.size w wr)) (fun _ i _ => L - (intOf i).toNat)
 case atStart => exact ⟨0, A1, Nat.zero_le _, rfl, by simpa using hl1, HU1, HAT1, HB1⟩
 case round =>
  clear HU1 HAT1 HB1 hl1
  obtain ⟨q, A, hq, rfl, hAl, HU, HAT, HBw⟩ := hrel
  by_cases hlt : q < L
  ·obtain ⟨e0, e1⟩ := HCW.out wr HBw.out q hlt
   obtain ⟨x, hx⟩ : ∃ x, (ps.getD q d0).1 = x := ⟨_, rfl⟩
   have hxm : x < M64 := by
    rw [← hx]; refine (HB.out _ ?_).1
    rw [List.getD_eq_getElem?_getD, List.getElem?_eq_getElem (by rw [HL.out]; exact hlt)]; exact List.getElem_mem _
   rw [hx] at e0
   obtain ⟨y, hy⟩ : ∃ y, (x + 1) % M64 = y := ⟨_, rfl⟩
   have hwy : IntKind.u64.wrap ((x : Int) + 1) = (y : Int) := by rw [IntKind.wrap_u64]; simp only [M64] at *; omega
   have hput := ref26_put _ A y wr HU.out HAT.out.rise (by omega)
   have HX := Lib.hid (show ((ps.getD q d0).1 + 1) % M64 = y by rw [hx, hy])
   have HPUT := Lib.hid hput
   have hql : ((q : Int) < (L : Int)) = True := by simp; omega
   clear hx hxm hy hput e1
   go_wp2_with fail
   refine HPUT.out.mono ?_
   rintro e w2 ⟨v2, A2, rfl, hu2, hr2, hm2, hl2', hb2⟩
   have HAT2 := Lib.hid (show AtOf A2 ps (q + 1) from ⟨hr2, fun z => by
    rw [hm2 z, HAT.out.mem z]
    constructor
    ·rintro ((h | ⟨j, a, b⟩) | h)
     ·exact Or.inl h
     ·exact Or.inr ⟨j, by omega, b⟩
     ·exact Or.inr ⟨q, by omega, by rw [h, HX.out]⟩
    ·rintro (h | ⟨j, a, b⟩)
     ·exact Or.inl (Or.inl h)
     ·by_cases e : j = q
      ·subst e; exact Or.inr (by rw [b, HX.out])
      ·exact Or.inl (Or.inr ⟨j, by omega, b⟩)⟩)
   have HU2 := Lib.hid hu2; have HB2 := Lib.hid (HBw.out.trans (hb2.mono HBw.out.size))
   clear hu2 hr2 hm2 hb2
   go_wp2_with fail
   go_roundw
   case rel => exact ⟨q + 1, A2, by omega, rfl, by omega, HU2, HAT2, HB2⟩
   case measure => simp [intOf]; omega
  ·have hqe : q = L := by omega
   have HATL := HAT.out
   rw [hqe, ← HL.out] at HATL
   have HATF := Lib.hid HATL
   obtain ⟨hA0, hA00⟩ := HATF.out.zero
   have hql : ((q : Int) < (L : Int)) = False := by simp; omega
   obtain ⟨wS, hwS⟩ : ∃ x, x = wr := ⟨_, rfl⟩
   rw [← hwS] at HU HBw ⊢
   clear hwS HATL hqe HAT hlt
   obtain ⟨ga, ca, rfl, hga, hca⟩ := HU.out.some hA0
   obtain ⟨M, hM⟩ : ∃ M, A.length = M := ⟨_, rfl⟩
   rw [hM] at hca ⊢
   have HCA := Lib.hid (fun w' (h : Below wS.heap.size wS w') i (hi : i < M) => show w'.cell? ⟨ga, i, none⟩ = some (.int .u64 ((A.getD i 0 : Nat) : Int)) from (h.cell (p := ⟨ga, i, none⟩) hga).trans (hca i hi))
   have HOW2 := Lib.hid (fun (h : Nat) (hh : h < M64) w' (hb : Below wS.heap.size wS w') => HOWN.out h hh w' (HBw.out.trans (hb.mono HBw.out.size)))
   have HMM := Lib.hid hM
   have hM1 : 1 ≤ M := by omega
   have hMl : M ≤ 2001 := by omega
   rw [hM] at hAl
   clear hca hA0 hM HU HCW HOWN
   go_wp2_with fail
   go_loopw [5, 6] (fun v i wx => ∃ (k n : Nat) (sp : List (Nat × Nat)), k ≤ M ∧ i = .int .i64 k ∧ (∃ a c, v = .slice a n c) ∧ n ≤ k ∧ Hid (sp.length = n) ∧ Hid (wx.ownsRow wS.heap.size 99 2 v n (spV sp)) ∧ Hid ((k = 0 ∧ sp = []) ∨ (1 ≤ k ∧ SpI (ownF ps) sp (cndA A k))) ∧ Hid (Below wS.heap.size wS wx)) (fun _ i _ => M - (intOf i).toNat)
   case atStart => exact ⟨0, 0, [], Nat.zero_le _, rfl, ⟨none, 0, rfl⟩, Nat.le_refl _, Lib.hid rfl, Lib.hid (World.ownsRow_nil _ _ _ _), Lib.hid (Or.inl ⟨rfl, rfl⟩), Lib.hid (Below.refl _ _)⟩
   case round =>
    obtain ⟨k, n, sp, hk, rfl, ⟨av, cv, rfl⟩, hn, HSL, HROW, HSI, HB2⟩ := hrel
    by_cases hlt : k < M
    ·obtain ⟨st1, st2, st3⟩ := HATF.out.step (k := k) (by rw [HMM.out]; exact hlt)
     have hcst := fun u => HATF.out.const HB.out HNE.out k (by rw [HMM.out]; exact hlt) u
     have hx64 : A.getD k 0 < M64 := by omega
     have hx00 : k = 0 → A.getD k 0 = 0 := fun e => by rw [e]; exact hA00
     have hcx := HCA.out wr HB2.out k hlt
     obtain ⟨x, hx⟩ : ∃ x, A.getD k 0 = x := ⟨_, rfl⟩
     rw [hx] at st1 st3 hcst hx64 hx00 hcx
     have hown := HOW2.out x hx64 wr HB2.out
     obtain ⟨s, hs⟩ : ∃ s, ownF ps x = s := ⟨_, rfl⟩
     rw [hs] at hown
     have HO := Lib.hid hown; have HST := Lib.hid (And.intro st1 (And.intro st2 (And.intro st3 (And.intro hx00 hs)))); have HCST := Lib.hid hcst
     have HCX := Lib.hid (fun w' (h : Below wr.heap.size wr w') => show w'.cell? ⟨ga, k, none⟩ = some (.int .u64 (x : Int)) from HCA.out w' (HB2.out.trans (h.mono HB2.out.size)) k hlt |>.trans (by rw [hx]))
     have hkm : ((k : Int) < (M : Int)) = True := by simp; omega
     have hkm' : (k : Int) < (M : Int) := by omega
     clear hown st1 st2 st3 hx00 hs hcst hx hx64
     go_wp2_with fail
     refine HO.out.mono ?_
     rintro e w3 ⟨rfl, hb3⟩
     have c3 := HCX.out w3 hb3
     have HB3 := Lib.hid (HB2.out.trans (hb3.mono HB2.out.size))
     have HR3 := Lib.hid (rowBelow HROW.out hb3)
     clear hb3 hcx
     by_cases hn0 : n = 0
     ·have hn0b : ((n : Int) == 0) = true := by simp [hn0]
      have hsp0 : sp = [] := List.length_eq_zero_iff.1 (by rw [HSL.out]; exact hn0)
      have HSN := Lib.hid (show (k + 1 = 0 ∧ sp ++ [(x, s)] = []) ∨ (1 ≤ k + 1 ∧ SpI (ownF ps) (sp ++ [(x, s)]) (cndA A (k + 1))) from Or.inr ⟨by omega, by
       have hk0 : k = 0 := by
        rcases HSI.out with ⟨h, _⟩ | ⟨_, h⟩
        ·exact h
        ·exact absurd hsp0 h.ne
       have hx0 := HST.out.2.2.2.1 hk0
       have hs0 := HST.out.2.2.2.2
       rw [hsp0, List.nil_append, ← hs0, hx0]
       rw [hx0] at HCST HST
       exact SpI.start (by have := HST.out.1; omega) (fun u hu => HCST.out u (Nat.zero_le _) hu)⟩)
      clear hn0 hsp0
      go_wp2_with (
       at_builtin
       refine wpList_append_lies _ rfl (.tmp 50) (.tmp 57) 83 rfl wS.heap.size 99 i0 (.agg #[.int .u64 0, .int .u32 0]) 2 16 Tryz.underlying83 hi hz0 hz1 hz2 rfl (by decide) _ n (spV sp) rfl (HR3.out.alloc _) ⟨w3.heap.size, 0, none⟩ 1 1 [.int .u64 (x : Int), .int .u32 (s : Int)] rfl rfl (World.news_of_block (MapKept.heap_alloc _ _).1) (two_one (x, s)) (by decide) (by unfold maxLen; omega) (by omega) (by have := HB3.out.size; simp; omega) (w3.heap.size + 1) (by simp) ?_
       intro g8 cp8 w8 hown8 hg8 _hat8 _hlt8
       have HO8 := Lib.hid (show w8.ownsRow wS.heap.size 99 2 (.slice (some ⟨g8, 0, none⟩) (n + 1) cp8) (n + 1) (spV (sp ++ [(x, s)])) from by rw [spV_snoc]; exact hown8)
       have HB8 := Lib.hid ((HB3.out.alloc HB3.out.size _).grown hg8 (by have := HB3.out.size; simp; omega) (own_above2 HR3.out))
       clear hown8 hg8 _hat8 _hlt8)
      go_roundw
      case rel => exact ⟨k + 1, n + 1, sp ++ [(x, s)], by omega, rfl, ⟨_, _, rfl⟩, by omega, Lib.hid (by rw [List.length_append, HSL.out]; rfl), HO8, HSN, HB8⟩
      case measure => simp [intOf]; omega
     ·obtain ⟨nl, hnl⟩ : ∃ nl, n - 1 = nl := ⟨_, rfl⟩
      have hn0b : ((n : Int) == 0) = false := by simp; omega
      have hnli : (n : Int) - 1 = (nl : Int) := by omega
      have hnln : (nl : Int) < (n : Int) := by omega
      obtain ⟨s0, hs0⟩ : ∃ s0, (sp.getD (sp.length - 1) d0).2 = s0 := ⟨_, rfl⟩
      obtain ⟨gv, rfl⟩ : ∃ gv, av = some ⟨gv, 0, none⟩ := by
       rcases HROW.out.2 with ⟨h', hn'⟩ | ⟨g', cap', cur, h', _⟩
       ·omega
       ·simp only [Value.slice.injEq] at h'
        exact ⟨g', h'.1⟩
      have hlast : w3.cell? ⟨gv, nl * 2 + 1, none⟩ = some (.int .u32 (s0 : Int)) := by
       rw [World.ownsRow.cellAt HR3.out (nl * 2 + 1) (by omega), (spV_at sp nl (by rw [HSL.out]; omega)).2, ← hs0, HSL.out, hnl]
      have hsi : SpI (ownF ps) sp x ∧ 1 ≤ k := by
       rcases HSI.out with ⟨_, h⟩ | ⟨h1, h⟩
       ·have := HSL.out; rw [h] at this; simp at this; omega
       ·rw [HST.out.2.2.1] at h; exact ⟨h, h1⟩
      have hos := HST.out.2.2.2.2
      by_cases hss : s0 = s
      ·have hsb : ((s0 : Int) != (s : Int)) = false := by simp [hss]
       have HSN := Lib.hid (show (k + 1 = 0 ∧ sp = []) ∨ (1 ≤ k + 1 ∧ SpI (ownF ps) sp (cndA A (k + 1))) from Or.inr ⟨by omega, hsi.1.skip (Nat.le_of_lt HST.out.1) HCST.out (by rw [hs0, hss, hos])⟩)
       clear hnl hs0 hsi hos hss hn0
       go_wp2_with fail
       go_roundw
       case rel => exact ⟨k + 1, n, sp, by omega, rfl, ⟨_, _, rfl⟩, by omega, HSL, HR3, HSN, HB3⟩
       case measure => simp [intOf]; omega
      ·have hsb : ((s0 : Int) != (s : Int)) = true := by simp; omega
       have HSN := Lib.hid (show (k + 1 = 0 ∧ sp ++ [(x, s)] = []) ∨ (1 ≤ k + 1 ∧ SpI (ownF ps) (sp ++ [(x, s)]) (cndA A (k + 1))) from Or.inr ⟨by omega, by
        have h := hsi.1.add HST.out.1 HCST.out (by rw [hs0, hos]; exact hss)
        rwa [hos] at h⟩)
       clear hnl hs0 hsi hos hss hn0
       go_wp2_with (
        at_builtin
        refine wpList_append_lies _ rfl (.tmp 50) (.tmp 57) 83 rfl wS.heap.size 99 i0 (.agg #[.int .u64 0, .int .u32 0]) 2 16 Tryz.underlying83 hi hz0 hz1 hz2 rfl (by decide) _ n (spV sp) rfl (HR3.out.alloc _) ⟨w3.heap.size, 0, none⟩ 1 1 [.int .u64 (x : Int), .int .u32 (s : Int)] rfl rfl (World.news_of_block (MapKept.heap_alloc _ _).1) (two_one (x, s)) (by decide) (by unfold maxLen; omega) (by omega) (by have := HB3.out.size; simp; omega) (w3.heap.size + 1) (by simp) ?_
        intro g8 cp8 w8 hown8 hg8 _hat8 _hlt8
        have HO8 := Lib.hid (show w8.ownsRow wS.heap.size 99 2 (.slice (some ⟨g8, 0, none⟩) (n + 1) cp8) (n + 1) (spV (sp ++ [(x, s)])) from by rw [spV_snoc]; exact hown8)
        have HB8 := Lib.hid ((HB3.out.alloc HB3.out.size _).grown hg8 (by have := HB3.out.size; simp; omega) (own_above2 HR3.out))
        clear hown8 hg8 _hat8 _hlt8)
       go_roundw
       case rel => exact ⟨k + 1, n + 1, sp ++ [(x, s)], by omega, rfl, ⟨_, _, rfl⟩, by omega, Lib.hid (by rw [List.length_append, HSL.out]; rfl), HO8, HSN, HB8⟩
       case measure => simp [intOf]; omega
    ·have hke : k = M := by omega
     have hkf : ((k : Int) < (M : Int)) = False := by simp; omega
     have hsp : SpI (ownF ps) sp M64 := by
      rcases HSI.out with ⟨h, _⟩ | ⟨_, h⟩
      ·omega
      ·rw [hke] at h
       unfold cndA at h
       rwa [if_neg (by rw [HMM.out]; omega)] at h
     have hnp : 1 ≤ n := by rw [← HSL.out]; exact List.length_pos_iff.2 hsp.ne
     obtain ⟨gv, rfl⟩ : ∃ gv, av = some ⟨gv, 0, none⟩ := by
      rcases HROW.out.2 with ⟨h', hn'⟩ | ⟨g', cap', cur, h', _⟩
      ·omega
      ·simp only [Value.slice.injEq] at h'
       exact ⟨g', h'.1⟩
     have HSP := Lib.hid hsp
     have HBE := Lib.hid (HBw.out.trans (HB2.out.mono HBw.out.size))
     have hbz := HBw.out.size
     clear hke hsp hlt
     go_wp2_with fail
     go_ret
     exact ⟨gv, cv, sp, by rw [HSL.out]; rfl, by rw [HSL.out]; exact ownsRow_lower HROW.out hbz, HSP.out, by rw [HSL.out]; omega, HBE.out⟩
end Go.Proofs.YtggdkfijioeijaaGreatDoor
