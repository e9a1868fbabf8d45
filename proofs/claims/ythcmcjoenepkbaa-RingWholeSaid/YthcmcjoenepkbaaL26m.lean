/- Law 26: RingMore, the walk. -/
import Derived.Test.YthcmcjoenepkbaaL26w
import Derived.Test.YthcmcjoenepkbaaRingH
namespace Go.Proofs.Ythcmcjoenepkbaa
open Go Go.RowKit Go.Maps

theorem infoU64 : (Try.prog.info? 32).map (fun i => (i.zero, i.size, i.bytes)) = some (some (.int .u64 0), 1, 8) := by kernel_rfl
theorem row_news {w : World} {B e g n c : Nat} {S : List Nat} {K : IntKind} (h : w.ownsRow B e 1 (.slice (some ⟨g, 0, none⟩) n c) n (S.map (fun s : Nat => Value.int K (s : Int)))) : ∀ j u, (S.map (fun s : Nat => Value.int K (s : Int)))[j]? = some u → w.cell? ((⟨g, 0, none⟩ : Addr).add j) = some u := by
  intro j u hu
  have hj := (List.getElem?_eq_some_iff.1 hu).1
  have hl := h.1
  have he : ((⟨g, 0, none⟩ : Addr).add j) = ⟨g, j, none⟩ := by
    unfold Addr.add; split
    · rename_i hz; subst hz; rfl
    · simp
  rw [he, World.ownsRow.cellAt h j (by omega), hu]
theorem ints_one {K : IntKind} (S : List Nat) : ∀ u ∈ S.map (fun s : Nat => Value.int K (s : Int)), u.oneCell' = true := by
  intro u hu
  obtain ⟨s, _, rfl⟩ := List.mem_map.1 hu
  rfl

theorem ringNewRow (S : List Nat) (n k g c B : Nat) (w : World) (hn : S.length = n) (hrow : w.ownsRow B 27 1 (.slice (some ⟨g, 0, none⟩) n c) n (S.map (fun s : Nat => Value.int .u32 (s : Int))))
    (hk : 1 ≤ k ∧ k ≤ 12) (hl : 1 ≤ n) (hl2 : n ≤ 16) (hnd : S.Nodup) (h0 : ∀ s ∈ S, 0 < s ∧ s < 4294967296) :
    Calls Try.prog 7 #[.int .i64 (k : Int), .slice (some ⟨g, 0, none⟩) n c] w fun e w' => ∃ r, e = .returned (.tuple #[.pointer (some ⟨r, 0, none⟩), .int .i64 0]) ∧ IsRing w' r S k ∧ Below w.heap.size w w' := by
  subst hn
  rcases (NumV.own hrow rfl) with ⟨a', c', h, h2, h3⟩ | ⟨b, off, cap, hv, hlt, hc⟩
  · rw [h3] at hl; simp at hl
  · simp only [Value.slice.injEq, Option.some.injEq, Addr.mk.injEq, and_true, true_and] at hv
    obtain ⟨⟨rfl, rfl⟩, rfl⟩ := hv
    exact ringNew S k g 0 c w hlt hc hk.1 (by omega) hl hl2 hnd h0
theorem Few.facts {S : List Nat} {n : Nat} (h : Few S) (hn : n % 2 = 0 ∧ 0 < n ∧ n < 300) : (∀ s ∈ S, 0 < s ∧ s < 4294967296) ∧ (n :: S).Nodup ∧ ∀ s ∈ n :: S, 0 < s ∧ s < 4294967296 := by
  have h1 : ∀ s ∈ S, 0 < s ∧ s < 4294967296 := fun s hs => by have := h.odd s hs; omega
  refine ⟨h1, List.nodup_cons.2 ⟨fun hm => by have := (h.odd n hm).1; omega, h.nd⟩, fun s hs => ?_⟩
  rcases List.mem_cons.1 hs with rfl | hs
  · omega
  · exact h1 s hs

set_option maxRecDepth 100000 in
set_option maxHeartbeats 4000000 in
theorem law26_more (l : List Nat) (v0 : Value) (o p : Nat) (al : List Nat) (v3 : Value) (w : World) (h0 : NumV .u8 v0 l w) (hl : ∀ z ∈ l, z < 256) (ho : o < 256) (hp : p < 256) (h3 : NumV .u64 v3 al w) (hal : ∀ z ∈ al, z < M64) :
    Calls Try.prog 3 #[v0, .int .u8 (o : Int), .int .u8 (p : Int), v3] w fun e w' => e = .returned (.bool true) ∧ Below w.heap.size w w' := by
  obtain ⟨a0, c0, rfl⟩ := h0.shape
  obtain ⟨a3, c3, rfl⟩ := h3.shape
  obtain ⟨N0, hN0⟩ : ∃ N, l.length = N := ⟨_, rfl⟩
  obtain ⟨N3, hN3⟩ : ∃ N, al.length = N := ⟨_, rfl⟩
  rw [hN0] at h0 ⊢; rw [hN3] at h3 ⊢
  by_cases hA : 40 < N0 ∨ 100 < N3
  · by_cases hA0 : 40 < N0
    · have hA1 : ((40 : Int) < (N0 : Int)) = True := by simp; omega
      go_enter Try.func3, Try.ntmps3
      go_wp2_with fail
      refine (law26_works w).mono ?_
      rintro e w1 ⟨rfl, hb1⟩
      go_wp2_with fail
      go_ret
      exact ⟨rfl, hb1⟩
    · have hA1 : ((40 : Int) < (N0 : Int)) = False := by simp; omega
      have hA2 : ((100 : Int) < (N3 : Int)) = True := by simp; omega
      go_enter Try.func3, Try.ntmps3
      go_wp2_with fail
      refine (law26_works w).mono ?_
      rintro e w1 ⟨rfl, hb1⟩
      go_wp2_with fail
      go_ret
      exact ⟨rfl, hb1⟩
  · have hA1 : ((40 : Int) < (N0 : Int)) = False := by simp; omega
    have hA2 : ((100 : Int) < (N3 : Int)) = False := by simp; omega
    have hfew := law26_few _ l w h0 hl (by omega)
    obtain ⟨i0, hi, hz0, hz1, hz2⟩ := info_parts infoW32
    obtain ⟨j0, hj, hy0, hy1, hy2⟩ := info_parts infoU64
    have HFEW := Lib.hid hfew; have H3 := Lib.hid h3; have HAL := Lib.hid hal; have HN3 := Lib.hid hN3
    obtain ⟨n, hn⟩ : ∃ n, o - o % 2 + 2 = n := ⟨_, rfl⟩
    have hn1 := even_of ⟨o, ho⟩
    simp only at hn1
    have hn2 : IntKind.u32.wrap (((o - o % 2 : Nat) : Int) + 2) = (n : Int) := by rw [IntKind.wrap_u32]; omega
    obtain ⟨k, hk⟩ : ∃ k, 1 + p % 12 = k := ⟨_, rfl⟩
    have hne : Hid (n % 2 = 0 ∧ 0 < n ∧ n < 300) := Lib.hid (by omega)
    have hkk : Hid (1 ≤ k ∧ k ≤ 12) := Lib.hid (by omega)
    have hk2 : (1 : Int) + (p : Int) % 12 = (k : Int) := by omega
    have hN3l : N3 ≤ 100 := by omega
    clear hfew h0 hl hN0 h3 hal hN3 hA hn hk
    go_enter Try.func3, Try.ntmps3
    go_wp2_with fail
    refine HFEW.out.mono ?_
    rintro e w1 ⟨g1, c1, S, rfl, hF, hS1, hrow1, hb1⟩
    obtain ⟨m, hm⟩ : ∃ m, S.length = m := ⟨_, rfl⟩
    rw [hm] at hrow1 hS1 ⊢
    have hm5 : m ≤ 5 := hm ▸ hF.le
    have HF := Lib.hid hF; have HM := Lib.hid hm; have HR1 := Lib.hid hrow1; have HB1 := Lib.hid hb1
    clear hF hm hrow1 hb1
    go_wp2_with fail
    refine (ringNewRow S m k g1 c1 _ w1 HM.out HR1.out hkk.out hS1 (by omega) HF.out.nd (HF.out.facts hne.out).1).mono ?_
    rintro e w2 ⟨ra, rfl, hRa, hb2⟩
    have HRa := Lib.hid hRa; have HB2 := Lib.hid hb2
    have hs12 := hb2.size
    have hs01 := HB1.out.size
    have hrow2 := ownBelow HR1.out hb2
    have HR2 := Lib.hid hrow2
    clear hRa hb2 hrow2
    have hlit := World.ownsRow_lit (e := 27) (size := 1) w2 #[.int .u32 (n : Int)] 1 (Nat.le_refl w2.heap.size) (by decide) rfl
    have HLIT := Lib.hid hlit
    clear hlit
    go_wp2_with (
      at_builtin
      refine wpList_append_lies _ rfl (.tmp 55) (.tmp 56) 25 rfl w2.heap.size 27 i0 (.int .u32 0) 1 4 Try.underlying25 hi hz0 hz1 hz2 rfl (by decide) _ 1 [.int .u32 (n : Int)] rfl HLIT.out ⟨g1, 0, none⟩ m c1 (S.map (fun s : Nat => Value.int .u32 (s : Int))) rfl (by rw [List.length_map, HM.out, Nat.mul_one]) (row_news (HR2.out.alloc _)) (ints_one S) (by omega) (by unfold maxLen; omega) (by omega) (by simp) (w2.heap.size + 1) (by simp) ?goa
      intro g3 c3' w3 hown3 hg3 _hat3 _hlt3
      replace hown3 : w3.ownsRow w2.heap.size 27 1 (.slice (some ⟨g3, 0, none⟩) (1 + m) c3') (1 + m) ((n :: S).map (fun s : Nat => Value.int .u32 (s : Int))) := hown3
      have hb3 : Below w2.heap.size w2 w3 := ((Below.refl _ _).alloc (Nat.le_refl _) _).grown hg3 (by simp) (fun k hk => by cases hk; exact Nat.le_refl _)
      have HR3 := Lib.hid hown3; have HB3 := Lib.hid hb3
      clear hown3 hg3 _hat3 _hlt3 hb3)
    refine (ringNewRow (n :: S) (1 + m) k g3 c3' _ w3 (by rw [List.length_cons, HM.out]; omega) HR3.out hkk.out (by omega) (by omega) (HF.out.facts hne.out).2.1 (HF.out.facts hne.out).2.2).mono ?_
    rintro e w4 ⟨rb, rfl, hRb, hb4⟩
    have HB24 := Lib.hid (HB3.out.trans (hb4.mono HB3.out.size))
    have HRb := Lib.hid hRb
    have hs24 := HB24.out.size
    have HRa4 := Lib.hid (HRa.out.below HB24.out)
    have HR4 := Lib.hid (ownBelow HR2.out HB24.out)
    have HB4 := Lib.hid ((HB1.out.trans (HB2.out.mono hs01)).trans (HB24.out.mono (Nat.le_trans hs01 hs12)))
    clear hRb hb4 HLIT HR3 HB3 HR2 HRa HR1 HB1 HB2
    go_wp2_with fail
    go_loopw [16, 17] (fun v i wr => ∃ (z : Int) (q tt : Nat) (T : List Nat), i = .int .i64 z ∧ (∃ a c, v = .slice a tt c) ∧ Hid (z = (q : Int) - 1) ∧ tt ≤ 5 ∧ Hid (tt + q = m) ∧ Hid (T = (S.drop q).reverse ∧ T.length = tt) ∧ Hid (wr.ownsRow w4.heap.size 27 1 v tt (T.map (fun s : Nat => Value.int .u32 (s : Int)))) ∧ Hid (Below w4.heap.size w4 wr)) (fun _ i _ => (intOf i + 1).toNat)
    case atStart => exact ⟨_, m, 0, [], rfl, ⟨none, 0, rfl⟩, Lib.hid rfl, by omega, Lib.hid (by omega), Lib.hid ⟨by rw [List.drop_eq_nil_of_le (by rw [HM.out]; exact Nat.le_refl _)]; rfl, rfl⟩, Lib.hid (World.ownsRow_nil _ _ _ _), Lib.hid (Below.refl _ _)⟩
    case round =>
      obtain ⟨z, q, tt, T, rfl, ⟨av, cv, rfl⟩, HZ, htt, HTQ, HT, HROW, HB⟩ := hrel
      by_cases hq : q = 0
      · have hz : z = -1 := by have := HZ.out; omega
        subst hz
        subst hq
        have htm : tt = m := by have := HTQ.out; omega
        subst htm
        have hTr : T = S.reverse := by rw [HT.out.1, List.drop_zero]
        subst hTr
        have hg6 : ∃ g, av = some ⟨g, 0, none⟩ := by
          rcases HROW.out.2 with ⟨h', hn⟩ | ⟨g, cap, cur, h', _⟩
          · omega
          · simp only [Value.slice.injEq] at h'
            exact ⟨g, h'.1⟩
        obtain ⟨g6, rfl⟩ := hg6
        have hnewc := ringNewRow S.reverse tt k g6 cv _ wr (by rw [List.length_reverse]; exact HM.out) HROW.out hkk.out hS1 (by omega) (List.pairwise_reverse.2 (List.Pairwise.imp (fun h => Ne.symm h) HF.out.nd)) (fun s hs => (HF.out.facts hne.out).1 s (List.mem_reverse.1 hs))
        have HNC := Lib.hid hnewc
        clear hnewc HZ HTQ HT HROW
        go_wp2_with fail
        refine HNC.out.mono ?_
        rintro e w5 ⟨rc, rfl, hRc, hb5⟩
        have hs45 := HB.out.size
        have hb45 := HB.out.trans (hb5.mono HB.out.size)
        have hs5 := hb45.size
        have HRG := Lib.hid (fun w' (h : Below w5.heap.size w5 w') => show IsRing w' ra S k ∧ IsRing w' rb (n :: S) k ∧ IsRing w' rc S.reverse k from ⟨(HRa4.out.below hb45).below h, (HRb.out.below hb45).below h, hRc.below h⟩)
        have hs04 := HB4.out.size
        have HB5 := Lib.hid (HB4.out.trans (hb45.mono HB4.out.size))
        clear hRc hb5 hb45 HNC HB HRa4 HRb HR4 HB24
        go_wp2_with fail
        go_loopw [3, 20] (fun v i wr => ∃ (j M : Nat) (al' : List Nat), j ≤ k ∧ i = .int .i64 j ∧ (∃ a c, v = .slice a M c) ∧ M ≤ 100 + 3 * j ∧ Hid (al'.length = M) ∧ Hid (NumV .u64 v al' wr) ∧ Hid (∀ z ∈ al', z < M64) ∧ Hid (Below w5.heap.size w5 wr)) (fun _ i _ => k - (intOf i).toNat)
        case atStart => exact ⟨0, N3, al, Nat.zero_le _, rfl, ⟨_, _, rfl⟩, by omega, HN3, Lib.hid (H3.out.below HB5.out), HAL, Lib.hid (Below.refl _ _)⟩
        case round =>
          obtain ⟨j, M, al', hj', rfl, ⟨av, cv2, rfl⟩, hM, HM', HNV, HAL', HBr⟩ := hrel
          by_cases hlt : j < k
          · obtain ⟨q, hq⟩ : ∃ q, Sh.point n j = q := ⟨_, rfl⟩
            have hqm : q < M64 := hq ▸ point_lt n j
            have hpt := ring_Point n j (by have := hne.out; omega) (by have := hkk.out; omega) wr
            rw [hq] at hpt
            obtain ⟨q1, hq1⟩ : ∃ q1, (q + 1) % M64 = q1 := ⟨_, rfl⟩
            obtain ⟨q2, hq2⟩ : ∃ q2, (q + M64 - 1) % M64 = q2 := ⟨_, rfl⟩
            have hw1 : IntKind.u64.wrap ((q : Int) + 1) = (q1 : Int) := by rw [IntKind.wrap_u64]; simp only [M64] at *; omega
            have hw2 : IntKind.u64.wrap ((q : Int) - 1) = (q2 : Int) := by rw [IntKind.wrap_u64]; simp only [M64] at *; omega
            have HQ := Lib.hid (show (∀ z ∈ [q, q1, q2], z < M64) from fun z hz => by simp only [M64, List.mem_cons, List.mem_nil_iff, or_false] at *; omega)
            have HPT := Lib.hid hpt; have HQE := Lib.hid hq; have HQM := Lib.hid hqm
            clear hpt hq hqm hq1 hq2
            go_wp2_with fail
            refine HPT.out.mono ?_
            rintro e w6 ⟨rfl, hb6⟩
            have HNV6 := Lib.hid (HNV.out.below hb6)
            have HB6 := Lib.hid (HBr.out.trans (hb6.mono HBr.out.size))
            clear hb6 HPT HNV HBr
            go_upto_region 20 with fail
            go_cut [3] (fun s wx => (∃ g c, s = .slice (some ⟨g, 0, none⟩) (M + 3) c) ∧ Hid (NumV .u64 s (al' ++ [q, q1, q2]) wx) ∧ Hid (Below w5.heap.size w5 wx))
            case first =>
              have hs5r := HB6.out.size
              rcases HNV6.out.src with ⟨rfl, rfl, rfl, rfl⟩ | ⟨ad, rfl, hnews⟩
              · have HON := Lib.hid (World.ownsRow_nil w6 w5.heap.size 32 1)
                go_wp2_with (
                  at_builtin
                  refine wpList_append_lies _ rfl (.tmp 112) (.tmp 118) 23 rfl w5.heap.size 32 j0 (.int .u64 0) 1 8 Try.underlying23 hj hy0 hy1 hy2 rfl (by decide) _ 0 [] rfl (HON.out.alloc _) ⟨w6.heap.size, 0, none⟩ 3 3 [.int .u64 (q : Int), .int .u64 (q1 : Int), .int .u64 (q2 : Int)] rfl rfl (World.news_of_block (MapKept.heap_alloc _ _).1) (ints_one [q, q1, q2]) (by decide) (by unfold maxLen; omega) (by omega) (by have := HB6.out.size; simp; omega) (w6.heap.size + 1) (by simp) ?goc
                  intro g8 cp8 w8 hown8 hg8 _hat8 _hlt8
                  replace hown8 : w8.ownsRow w5.heap.size 32 1 (.slice (some ⟨g8, 0, none⟩) (3) cp8) (3) ((([] : List Nat) ++ [q, q1, q2]).map (fun s : Nat => Value.int .u64 (s : Int))) := (by rw [List.map_append]; exact hown8)
                  have hB8 : Below w5.heap.size w5 w8 := (HB6.out.alloc HB6.out.size _).grown hg8 (by have := HB6.out.size; simp; omega) (own_above HON.out)
                  have HB8 := Lib.hid hB8; have HO8 := Lib.hid hown8
                  clear hown8 hg8 _hat8 _hlt8 hB8)
                go_meet
                case rel => exact ⟨⟨_, _, rfl⟩, Lib.hid (NumV.own HO8.out rfl), HB8⟩
              · have HNW := Lib.hid hnews
                have HML := Lib.hid (show (al'.map (fun s : Nat => Value.int .u64 (s : Int))).length = M * 1 by rw [List.length_map, HM'.out, Nat.mul_one])
                have HON := Lib.hid (World.ownsRow_nil w6 w5.heap.size 32 1)
                clear hnews
                go_wp2_with (first
                  | (at_builtin
                     refine wpList_append_own _ rfl (.const (.slice none 0 0)) (.tmp 111) 23 rfl w5.heap.size 32 j0 (.int .u64 0) 1 8 Try.underlying23 hj hy0 hy1 hy2 rfl (by decide) (.slice none 0 0) 0 [] rfl HON.out ad M _ (al'.map (fun s : Nat => Value.int .u64 (s : Int))) rfl HML.out HNW.out (ints_one al') (by unfold maxLen; omega) (by omega) hs5r ?_
                     intro v7 w7 hown7 hg7 _hz7
                     replace hown7 : w7.ownsRow w5.heap.size 32 1 v7 M (al'.map (fun s : Nat => Value.int .u64 (s : Int))) := (by rw [Nat.zero_add] at hown7; exact hown7)
                     have HO7 := Lib.hid hown7
                     have HB7 := Lib.hid (HB6.out.grown hg7 hs5r (fun k hk => by cases hk))
                     clear hown7 hg7 _hz7)
                  | (at_builtin
                     refine wpList_append_lies _ rfl (.tmp 112) (.tmp 118) 23 rfl w5.heap.size 32 j0 (.int .u64 0) 1 8 Try.underlying23 hj hy0 hy1 hy2 rfl (by decide) _ M (al'.map (fun s : Nat => Value.int .u64 (s : Int))) rfl (HO7.out.alloc _) ⟨w7.heap.size, 0, none⟩ 3 3 [.int .u64 (q : Int), .int .u64 (q1 : Int), .int .u64 (q2 : Int)] rfl rfl (World.news_of_block (MapKept.heap_alloc _ _).1) (ints_one [q, q1, q2]) (by decide) (by unfold maxLen; omega) (by omega) (by have := HB7.out.size; simp; omega) (w7.heap.size + 1) (by simp) ?god
                     intro g8 cp8 w8 hown8 hg8 _hat8 _hlt8
                     replace hown8 : w8.ownsRow w5.heap.size 32 1 (.slice (some ⟨g8, 0, none⟩) (M + 3) cp8) (M + 3) ((al' ++ [q, q1, q2]).map (fun s : Nat => Value.int .u64 (s : Int))) := (by rw [List.map_append]; exact hown8)
                     have hB8 : Below w5.heap.size w5 w8 := (HB7.out.alloc HB7.out.size _).grown hg8 (by have := HB7.out.size; simp; omega) (own_above HO7.out)
                     have HB8 := Lib.hid hB8; have HO8 := Lib.hid hown8
                     clear hown8 hg8 _hat8 _hlt8 hB8))
                go_meet
                case rel => exact ⟨⟨_, _, rfl⟩, Lib.hid (NumV.own HO8.out (by rw [List.length_append, HM'.out]; rfl)), HB8⟩
            case rest =>
              obtain ⟨⟨g7, c7, rfl⟩, HNV7, HB7⟩ := hcut
              have hno := fun w' (h : Below wc.heap.size wc w') => ringOwner rb (n :: S) k q HQM.out w' (HRG.out w' (HB7.out.trans (h.mono HB7.out.size))).2.1
              have hnl := fun w' (h : Below wc.heap.size wc w') => ringLen rb (n :: S) k w' (HRG.out w' (HB7.out.trans (h.mono HB7.out.size))).2.1
              obtain ⟨y, hy⟩ : ∃ y, ownS (n :: S) k q = y := ⟨_, rfl⟩
              rw [hy] at hno
              have HNO := Lib.hid hno; have HNL := Lib.hid hnl; have HY := Lib.hid hy
              clear hno hnl hy
              have HAL8 := Lib.hid (show ∀ z ∈ al' ++ [q, q1, q2], z < M64 from fun z hz => (List.mem_append.1 hz).elim (HAL'.out z) (HQ.out z))
              by_cases hyn : y = n
              · have hyb : ((y : Int) != (n : Int)) = false := by simp [hyn]
                go_wp2_with fail
                refine (HNO.out wc (Below.refl _ _)).mono ?_
                rintro e w8 ⟨rfl, hb8⟩
                have HB8 := Lib.hid (HB7.out.trans (hb8.mono HB7.out.size))
                have HNV8 := Lib.hid (HNV7.out.below hb8)
                clear hb8
                go_wp2_with fail
                go_roundw
                case rel => exact ⟨j + 1, M + 3, al' ++ [q, q1, q2], by omega, rfl, ⟨_, _, rfl⟩, by omega, Lib.hid (by rw [List.length_append, HM'.out]; rfl), HNV8, HAL8, HB8⟩
                case measure => simp [intOf]; omega
              · have hyb : ((y : Int) != (n : Int)) = true := by simp; omega
                go_wp2_with fail
                refine (HNO.out wc (Below.refl _ _)).mono ?_
                rintro e w8 ⟨rfl, hb8⟩
                have HB8 := Lib.hid hb8
                clear hb8
                go_wp2_with fail
                refine (HNL.out w8 HB8.out).mono ?_
                rintro e w9 ⟨cnt, rfl, hc1, hc2, hc3, _, hb9⟩
                have HB9 := Lib.hid (HB7.out.trans ((HB8.out.trans (hb9.mono HB8.out.size)).mono HB7.out.size))
                have HNV9 := Lib.hid (HNV7.out.below (HB8.out.trans (hb9.mono HB8.out.size)))
                have hcne : ((cnt : Int) == (k : Int) * ((tt : Int) + 1)) = false := by
                  rw [beq_eq_false_iff_ne]
                  intro e
                  have e2 : cnt = (n :: S).length * k := by
                    rw [List.length_cons, HM.out, Nat.mul_comm]
                    exact_mod_cast e
                  exact hyn (HY.out.symm.trans (HQE.out ▸ ownS_own (by simp) hlt (HF.out.facts hne.out).2.2 (hc3 e2)))
                have hkt : (k : Int) * ((tt : Int) + 1) = ((k * (tt + 1) : Nat) : Int) := by push_cast; rfl
                have hktl : k * (tt + 1) ≤ 12 * 6 := Nat.mul_le_mul hkk.out.2 (by omega)
                have hwk : wrap64 ((k : Int) * ((tt : Int) + 1)) = (k : Int) * ((tt : Int) + 1) := by
                  rw [hkt]; unfold wrap64; omega
                clear hc1 hc2 hc3 hb9 hkt hktl
                go_wp2_with fail
                go_roundw
                case rel => exact ⟨j + 1, M + 3, al' ++ [q, q1, q2], by omega, rfl, ⟨_, _, rfl⟩, by omega, Lib.hid (by rw [List.length_append, HM'.out]; rfl), HNV9, HAL8, HB9⟩
                case measure => simp [intOf]; omega
          · obtain rfl : j = k := by omega
            have hNV := HNV.out
            have HSPN := Lib.hid (ringSpans ra S j wr (HRG.out wr HBr.out).1)
            go_wp2_with fail
            refine HSPN.out.mono ?_
            rintro e w6 ⟨gs, cs, sp, rfl, hrows, hsp, hlsp, hb6⟩
            obtain ⟨L, hL⟩ : ∃ L, sp.length = L := ⟨_, rfl⟩
            have hgs : ∀ i, i < L → w6.cell? ⟨gs, i * 2, none⟩ = some (.int .u64 ((sp.getD i d0).1 : Int)) ∧ w6.cell? ⟨gs, i * 2 + 1, none⟩ = some (.int .u32 ((sp.getD i d0).2 : Int)) := fun i hi => by
              obtain ⟨s1, s2⟩ := spV_at sp i (by omega)
              exact ⟨(World.ownsRow.cellAt hrows (i * 2) (by omega)).trans s1, (World.ownsRow.cellAt hrows (i * 2 + 1) (by omega)).trans s2⟩
            have hlL : L ≤ 100 := by
              have := Nat.mul_le_mul hm5 hkk.out.2
              rw [HM.out] at hlsp; omega
            have hof := fun (z : Nat) (w' : World) (h : Below w6.heap.size w6 w') => law26_of gs cs z sp w' (by omega) (fun i hi => ⟨(h.cell (p := ⟨gs, i * 2, none⟩) (block_lt_of_cell (hgs i (by omega)).1)).trans (hgs i (by omega)).1, (h.cell (p := ⟨gs, i * 2 + 1, none⟩) (block_lt_of_cell (hgs i (by omega)).2)).trans (hgs i (by omega)).2⟩)
            have his : ∀ z, z < M64 → ofP sp z = ownS S j z := fun z hz => hsp.is z hz
            rw [hL] at hof ⊢
            have HOFA := Lib.hid hof; have HIS := Lib.hid his
            have HNV6 := Lib.hid (hNV.below hb6)
            have HRG6 := Lib.hid (fun w' (h : Below w6.heap.size w6 w') => HRG.out w' (HBr.out.trans ((hb6.trans (h.mono hb6.size)).mono HBr.out.size)))
            have HB6 := Lib.hid (HB5.out.trans ((HBr.out.trans (hb6.mono HBr.out.size)).mono HB5.out.size))
            clear hof his hNV hgs hrows hsp hlsp hL hb6 HNV HBr HRG HSPN
            go_wp2_with fail
            go_loopw [23] (fun i wx => ∃ u : Nat, u ≤ M ∧ i = .int .i64 u ∧ Hid (Below w6.heap.size w6 wx)) (fun i _ => M - (intOf i).toNat)
            case atStart => exact ⟨0, Nat.zero_le _, rfl, Lib.hid (Below.refl _ _)⟩
            case round =>
              obtain ⟨u, hu, rfl, HBx⟩ := hrel
              by_cases hlt2 : u < M
              · obtain ⟨bz, oz, rfl, hbz, hcz⟩ := (HNV6.out.below HBx.out).at u (by rw [HM'.out]; exact hlt2)
                obtain ⟨z, hz⟩ : ∃ z, al'.getD u 0 = z := ⟨_, rfl⟩
                have hzm : z < M64 := by
                  rw [← hz]; refine HAL'.out _ ?_
                  rw [List.getD_eq_getElem?_getD, List.getElem?_eq_getElem (by rw [HM'.out]; exact hlt2)]; exact List.getElem_mem _
                rw [hz] at hcz
                obtain ⟨x, hx⟩ : ∃ x, ownS S j z = x := ⟨_, rfl⟩
                obtain ⟨y, hy⟩ : ∃ y, ownS (n :: S) j z = y := ⟨_, rfl⟩
                have hyx : y = x ∨ y = n := by
                  rw [← hx, ← hy]; exact ownS_more (by rw [HM.out]; exact hS1) hkk.out.1 (HF.out.facts hne.out).2.2
                have hrx : ownS S.reverse j z = x := by
                  rw [← hx]; exact ownS_perm (fun s => (List.mem_reverse).symm) (by rw [HM.out]; exact hS1) hkk.out.1 (fun s hs => (HF.out.facts hne.out).1 s (List.mem_reverse.1 hs))
                have hring := fun w' (h : Below wr.heap.size wr w') => HRG6.out w' (HBx.out.trans (h.mono HBx.out.size))
                have hxa := fun w' (h : Below wr.heap.size wr w') => ringOwner ra S j z hzm w' (hring w' h).1
                have hyb := fun w' (h : Below wr.heap.size wr w') => ringOwner rb (n :: S) j z hzm w' (hring w' h).2.1
                have hxc := fun w' (h : Below wr.heap.size wr w') => ringOwner rc S.reverse j z hzm w' (hring w' h).2.2
                have hof2 := fun w' (h : Below wr.heap.size wr w') => HOFA.out z w' (HBx.out.trans (h.mono HBx.out.size))
                rw [hx] at hxa; rw [hy] at hyb; rw [hrx] at hxc; rw [HIS.out z hzm, hx] at hof2
                have HXA := Lib.hid hxa; have HYB := Lib.hid hyb; have HXC := Lib.hid hxc; have HOF := Lib.hid hof2
                have KEEP := Lib.hid (fun w' (h : Below wr.heap.size wr w') => show w'.cell? ⟨bz, oz + u, none⟩ = some (.int .u64 (z : Int)) ∧ Hid (Below wr.heap.size wr w') from ⟨(h.cell (p := ⟨bz, oz + u, none⟩) hbz).trans hcz, Lib.hid h⟩)
                clear hring hxa hyb hxc hof2 hx hy hrx hz hzm hcz
                have hbz' := hbz
                clear hbz
                go_wp2_with fail
                refine wp_region_quiet (C := fun w' => w'.cell? ⟨bz, oz + u, none⟩ = some (.int .u64 (z : Int)) ∧ Hid (Below wr.heap.size wr w')) (by kernel_rfl) (by kernel_rfl) (KEEP.out _ (Below.drew (Below.refl _ _))) ?_
                refine quiet_plain rfl (Value.pointer (some ⟨ra, 0, none⟩)) (fun w' hw' => ?_) ?_
                · obtain ⟨f1, f2⟩ := hw'
                  go_simp
                go_frame
                refine quiet_plain rfl (Value.slice (some ⟨bz, oz, none⟩) M cv2) (fun w' hw' => ?_) ?_
                · obtain ⟨f1, f2⟩ := hw'
                  go_simp
                go_frame
                refine quiet_plain rfl (Value.int .i64 u) (fun w' hw' => ?_) ?_
                · obtain ⟨f1, f2⟩ := hw'
                  go_simp
                go_frame
                refine quiet_plain rfl (Value.pointer (some ⟨bz, oz + u, none⟩)) (fun w' hw' => ?_) ?_
                · obtain ⟨f1, f2⟩ := hw'
                  go_simp
                go_frame
                refine quiet_plain rfl (Value.int .u64 (z : Int)) (fun w' hw' => ?_) ?_
                · obtain ⟨f1, f2⟩ := hw'
                  go_simp
                go_frame
                refine quiet_call rfl (Value.int .u32 (x : Int)) 9 #[.pointer (some ⟨ra, 0, none⟩), .int .u64 (z : Int)] (fun w' hw' => ⟨?_, ?_⟩) ?_
                · obtain ⟨f1, f2⟩ := hw'
                  go_simp
                · exact (HXA.out w' hw'.2.out).mono (fun e w6 ⟨he, hb⟩ => ⟨he, KEEP.out _ (hw'.2.out.trans (hb.mono hw'.2.out.size))⟩)
                go_frame
                refine quiet_plain rfl (Value.pointer (some ⟨rb, 0, none⟩)) (fun w' hw' => ?_) ?_
                · obtain ⟨f1, f2⟩ := hw'
                  go_simp
                go_frame
                refine quiet_plain rfl (Value.slice (some ⟨bz, oz, none⟩) M cv2) (fun w' hw' => ?_) ?_
                · obtain ⟨f1, f2⟩ := hw'
                  go_simp
                go_frame
                refine quiet_plain rfl (Value.int .i64 u) (fun w' hw' => ?_) ?_
                · obtain ⟨f1, f2⟩ := hw'
                  go_simp
                go_frame
                refine quiet_plain rfl (Value.pointer (some ⟨bz, oz + u, none⟩)) (fun w' hw' => ?_) ?_
                · obtain ⟨f1, f2⟩ := hw'
                  go_simp
                go_frame
                refine quiet_plain rfl (Value.int .u64 (z : Int)) (fun w' hw' => ?_) ?_
                · obtain ⟨f1, f2⟩ := hw'
                  go_simp
                go_frame
                refine quiet_call rfl (Value.int .u32 (y : Int)) 9 #[.pointer (some ⟨rb, 0, none⟩), .int .u64 (z : Int)] (fun w' hw' => ⟨?_, ?_⟩) ?_
                · obtain ⟨f1, f2⟩ := hw'
                  go_simp
                · exact (HYB.out w' hw'.2.out).mono (fun e w6 ⟨he, hb⟩ => ⟨he, KEEP.out _ (hw'.2.out.trans (hb.mono hw'.2.out.size))⟩)
                go_frame
                refine quiet_plain rfl (Value.int .u32 (x : Int)) (fun w' hw' => ?_) ?_
                · obtain ⟨f1, f2⟩ := hw'
                  go_simp
                go_frame
                refine quiet_plain rfl (Value.int .u32 (y : Int)) (fun w' hw' => ?_) ?_
                · obtain ⟨f1, f2⟩ := hw'
                  go_simp
                go_frame
                refine wpQuiet_nil ?_
                intro wq hwq
                obtain ⟨f1, HWQ⟩ := hwq
                by_cases he : y = x
                · have hy1 : ((y : Int) != (x : Int)) = false := by simp [he]
                  go_wp2_with fail
                  refine (HXC.out wq HWQ.out).mono ?_
                  rintro e w8 ⟨rfl, hb8⟩
                  have HB8 := Lib.hid (HWQ.out.trans (hb8.mono HWQ.out.size))
                  have f8 := (hb8.cell (p := ⟨bz, oz + u, none⟩) (block_lt_of_cell f1)).trans f1
                  clear hb8
                  go_wp2_with fail
                  refine (HOF.out w8 HB8.out).mono ?_
                  rintro e w9 ⟨rfl, hb9⟩
                  have HB9 := Lib.hid (HBx.out.trans ((HB8.out.trans (hb9.mono HB8.out.size)).mono HBx.out.size))
                  clear hb9
                  go_wp2_with fail
                  go_roundw
                  case rel => exact ⟨u + 1, by omega, rfl, HB9⟩
                  case measure => simp [intOf]; omega
                · have hy1 : ((y : Int) != (x : Int)) = true := by simp; omega
                  have hy2 : ((y : Int) != (n : Int)) = false := by
                    have h := hyx.resolve_left he
                    simp [h]
                  go_wp2_with fail
                  refine (HXC.out wq HWQ.out).mono ?_
                  rintro e w8 ⟨rfl, hb8⟩
                  have HB8 := Lib.hid (HWQ.out.trans (hb8.mono HWQ.out.size))
                  have f8 := (hb8.cell (p := ⟨bz, oz + u, none⟩) (block_lt_of_cell f1)).trans f1
                  clear hb8
                  go_wp2_with fail
                  refine (HOF.out w8 HB8.out).mono ?_
                  rintro e w9 ⟨rfl, hb9⟩
                  have HB9 := Lib.hid (HBx.out.trans ((HB8.out.trans (hb9.mono HB8.out.size)).mono HBx.out.size))
                  clear hb9
                  go_wp2_with fail
                  go_roundw
                  case rel => exact ⟨u + 1, by omega, rfl, HB9⟩
                  case measure => simp [intOf]; omega
              · obtain rfl : u = M := by omega
                have HBE := Lib.hid (HB6.out.trans (HBx.out.mono HB6.out.size))
                go_wp2_with fail
                refine (ring_Owner_nil 1 wr).mono ?_
                rintro e y1 ⟨rfl, hb1⟩
                go_wp2_with fail
                refine (ring_Len_nil y1).mono ?_
                rintro e y2 ⟨rfl, hb2⟩
                go_wp2_with fail
                refine (ring_Spans_nil y2).mono ?_
                rintro e y3 ⟨rfl, hb3⟩
                go_wp2_with fail
                refine (ring_Shards_nil y3).mono ?_
                rintro e y4 ⟨rfl, hb4⟩
                go_wp2_with fail
                refine (law26_works y4).mono ?_
                rintro e y5 ⟨rfl, hb5⟩
                go_wp2_with fail
                go_ret
                have h2 := hb1.trans (hb2.mono hb1.size)
                have h3 := h2.trans (hb3.mono h2.size)
                have h4 := h3.trans (hb4.mono h3.size)
                have h5 := h4.trans (hb5.mono h4.size)
                exact ⟨rfl, HBE.out.trans (h5.mono HBE.out.size)⟩
      · obtain ⟨q, rfl⟩ : ∃ q', q = q' + 1 := ⟨q - 1, by omega⟩
        have hz : z = (q : Int) := by have := HZ.out; omega
        subst hz
        have hql : q < m := by have := HTQ.out; omega
        obtain ⟨x, hx⟩ : ∃ x, S.getD q 0 = x := ⟨_, rfl⟩
        have hxm : S[q]? = some x := by
          rw [← hx, List.getD_eq_getElem?_getD, List.getElem?_eq_getElem (by rw [HM.out]; exact hql)]; rfl
        have hcx : wr.cell? ⟨g1, q, none⟩ = some (.int .u32 (x : Int)) := by
          rw [World.ownsRow.cellAt (ownBelow HR4.out HB.out) q (by omega), List.getElem?_map, hxm]; rfl
        have hT2 : T ++ [x] = (S.drop q).reverse := by
          have hd : S.drop q = x :: S.drop (q + 1) := by
            rw [List.drop_eq_getElem_cons (by rw [HM.out]; exact hql)]
            rw [List.getElem?_eq_getElem (by rw [HM.out]; exact hql)] at hxm
            cases hxm; rfl
          rw [HT.out.1, hd, List.reverse_cons]
        have HT2 := Lib.hid hT2
        clear hT2 hx hxm hq
        go_wp2_with (
          at_builtin
          refine wpList_append_lies _ rfl (.tmp 68) (.tmp 73) 25 rfl w4.heap.size 27 i0 (.int .u32 0) 1 4 Try.underlying25 hi hz0 hz1 hz2 rfl (by decide) _ tt (T.map (fun s : Nat => Value.int .u32 (s : Int))) rfl (HROW.out.alloc _) ⟨wr.heap.size, 0, none⟩ 1 1 [.int .u32 (x : Int)] rfl rfl (cell_one_new _ _ _) (few_one _) (by decide) (by unfold maxLen; omega) (by omega) (by have := HB.out.size; simp; omega) (wr.heap.size + 1) (by simp) ?gob
          intro g8 cp8 w8 hown8 hg8 _hat8 _hlt8
          replace hown8 : w8.ownsRow w4.heap.size 27 1 (.slice (some ⟨g8, 0, none⟩) (tt + 1) cp8) (tt + 1) ((T ++ [x]).map (fun s : Nat => Value.int .u32 (s : Int))) := (by rw [List.map_append]; exact hown8)
          have hB8 : Below w4.heap.size w4 w8 := (HB.out.alloc HB.out.size _).grown hg8 (by have := HB.out.size; simp; omega) (own_above HROW.out)
          have HB8 := Lib.hid hB8; have HO8 := Lib.hid hown8
          clear hown8 hg8 _hat8 _hlt8 hB8)
        go_roundw
        case rel => exact ⟨_, q, tt + 1, T ++ [x], rfl, ⟨_, _, rfl⟩, Lib.hid rfl, by have := HTQ.out; omega, Lib.hid (by have := HTQ.out; omega), Lib.hid ⟨HT2.out, by rw [List.length_append, HT.out.2]; rfl⟩, HO8, HB8⟩
        case measure => simp [intOf]
end Go.Proofs.Ythcmcjoenepkbaa
