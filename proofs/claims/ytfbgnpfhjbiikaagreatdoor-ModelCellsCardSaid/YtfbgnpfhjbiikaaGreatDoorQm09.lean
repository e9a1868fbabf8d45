/- Contract: scriniumlaw31.ModelCells. -/
import Derived.Test.YtfbgnpfhjbiikaaGreatDoorQm07
import Derived.Test.YtfbgnpfhjbiikaaGreatDoorQm08
namespace Go.Proofs.YtfbgnpfhjbiikaaGreatDoor
open Go Go.RowKit
open Pth
open Go.Maps (has size Canon CanonK Tidy IsMap KeysOf Keyed Merged)
theorem field_vd (b : Bool) (i n : Int) (w : World) : (Instr.field 72 (.agg #[.bool b, .int .i64 i, .int .u8 n]) 0).run Tryz.prog w = .ok (.bool b) w := by kernel_rfl
set_option maxRecDepth 100000 in
set_option maxHeartbeats 8000000 in
theorem law_cells (p s t : ByteArray) (want : Nat) (w : World) (hp : p.size ≤ 140737488355328) (hs : s.size ≤ 140737488355328) (ht : t.size ≤ 140737488355328) (hm : MX w) : Calls Tryz.prog 7 #[.string p, .string s, .string t, .int .u64 want] w fun e w' => e = .returned (.bool true) ∧ Below w.heap.size w w' := by
  have HM := Lib.hid hm; clear hm
  have hPut := Lib.hid (law_put p t w)
  go_enter Tryz.func7, Tryz.ntmps7
  by_cases hg : p.size ≤ 128 ∧ s.size + t.size ≤ 4096
  · obtain ⟨hp1, hst⟩ := hg
    have hpI : ¬ ((128 : Int) < (p.size : Int)) := by omega
    have hstI : ¬ ((4096 : Int) < (s.size : Int) + (t.size : Int)) := by omega
    go_wp2_with fail
    refine hPut.out.mono ?_
    rintro e w1 ⟨g1, rfl, hg1, hO1, hb1⟩
    have HO1 := Lib.hid hO1; have HB1 := Lib.hid hb1; have HG1 := Lib.hid hg1
    clear hO1 hb1 hg1 hPut
    unfold calVal putL
    go_upto_region 4 with fail
    refine wp_abs (F := fun W => One w1.heap.size #[.int .u8 1, .slice none 0 0, .slice (some ⟨g1, 0, none⟩) 1 1, .string ByteArray.empty, .int .u64 0, .int .u64 0, .int .u32 0] W ∧ One g1 #[.int .u8 1, .string p, .bool true, .int .u64 0, .int .u64 0, .string t] W ∧ Below w.heap.size w W) ⟨One.of _ _ _, HO1.out.step ((Below.refl _ _).alloc (Nat.le_refl _) _), HB1.out.alloc HB1.out.size _⟩ ?_
    rintro W1 ⟨hC, hE, hb⟩
    have hne : g1 ≠ w1.heap.size := by have := HO1.out.lt; omega
    have HC := Lib.hid hC; have HE := Lib.hid hE; have HB := Lib.hid hb; have HNE := Lib.hid hne
    obtain ⟨n9, hn9⟩ : ∃ n9, w1.heap.size = n9 := ⟨_, rfl⟩
    have hlt9 : w.heap.size ≤ n9 := by rw [← hn9]; exact HB1.out.size
    have HLT := Lib.hid hlt9
    rw [hn9] at HC HNE ⊢
    have q2 := HC.out.c 2; have e2 := HE.out.c 2; have k2 := HE.out.f 2
    simp at q2 e2
    clear hC hE hb hne HO1 HB1 hlt9
    go_upto_region 5 with fail
    clear q2 e2 k2
    refine wp_abs (F := fun W => One n9 #[.int .u8 1, .slice none 0 0, .slice (some ⟨g1, 0, none⟩) 1 1, .string ByteArray.empty, .int .u64 0, .int .u64 0, .int .u32 0] W ∧ One g1 #[.int .u8 1, .string p, .bool false, .int .u64 0, .int .u64 0, .string t] W ∧ Below w.heap.size w W) ⟨HC.out.far (by simpa using HNE.out) _, HE.out.set (i := 2) (by simp) _, HB.out.setCell HG1.out _⟩ ?_
    rintro W2 ⟨hC, hE, hb⟩
    have HC2 := Lib.hid hC; have HE2 := Lib.hid hE; have HB2 := Lib.hid hb
    clear hC hE hb HC HE HB
    have q2 := HC2.out.c 2; have e3 := HE2.out.c 3; have k3 := HE2.out.f 3
    simp at q2 e3
    go_upto_region 6 with fail
    clear q2 e3 k3
    refine wp_abs (F := fun W => One n9 #[.int .u8 1, .slice none 0 0, .slice (some ⟨g1, 0, none⟩) 1 1, .string ByteArray.empty, .int .u64 0, .int .u64 0, .int .u32 0] W ∧ One g1 #[.int .u8 1, .string p, .bool false, .int .u64 want, .int .u64 0, .string t] W ∧ Below w.heap.size w W) ⟨HC2.out.far (by simpa using HNE.out) _, HE2.out.set (i := 3) (by simp) _, HB2.out.setCell HG1.out _⟩ ?_
    rintro W3 ⟨hC, hE, hb⟩
    have HC3 := Lib.hid hC; have HE3 := Lib.hid hE; have HB3 := Lib.hid hb
    clear hC hE hb HC2 HE2 HB2
    refine wp_region_held_drew (S := fun w' => Hid (Below W3.heap.size W3 w')) (by kernel_rfl) (Lib.hid (Below.drew (Below.refl _ _))) (fun hS => ?_)
    refine wpAnyH_take (i := 0) (oi := { dst := some 40, op := Op.move (Operand.tmp 0), type := 9, pos := "law.go:174", after := #[], guard := none }) (v := .string p) rfl (by kernel_rfl) (by kernel_rfl) (by kernel_rfl) (fun _ _ _ h => h) (Or.inl ⟨by rfl, fun w' hw => ?_⟩) hS ?_
    · go_simp
    try simp only [Act.put, List.setIfInBounds_toArray, List.set_cons_zero, List.set_cons_succ]
    refine wpAnyH_take (i := 1) (oi := { dst := some 41, op := Op.move (Operand.tmp 1), type := 9, pos := "law.go:174", after := #[], guard := none }) (v := .string s) rfl (by kernel_rfl) (by kernel_rfl) (by kernel_rfl) (fun _ _ _ h => h) (Or.inl ⟨by rfl, fun w' hw => ?_⟩) hS ?_
    · go_simp
    try simp only [Act.put, List.setIfInBounds_toArray, List.set_cons_zero, List.set_cons_succ]
    refine wpAnyH_take (i := 4) (oi := { dst := some 44, op := Op.load 80 (Operand.tmp 9), type := 80, pos := "law.go:174", after := #[], guard := none }) (v := .agg #[.int .u8 1, .slice none 0 0, .slice (some ⟨g1, 0, none⟩) 1 1, .string ByteArray.empty, .int .u64 0, .int .u64 0, .int .u32 0]) rfl (by kernel_rfl) (by kernel_rfl) (by kernel_rfl) (fun _ _ _ h => h) (Or.inl ⟨by rfl, fun w' hw => ?_⟩) hS ?_
    · have hO := HC3.out.step hw.out
      have c0 := hO.c 0; have c1 := hO.c 1; have c2 := hO.c 2; have c3 := hO.c 3; have c4 := hO.c 4; have c5 := hO.c 5; have c6 := hO.c 6
      simp at c0 c1 c2 c3 c4 c5 c6
      go_simp
    try simp only [Act.put, List.setIfInBounds_toArray, List.set_cons_zero, List.set_cons_succ]
    refine wpAnyH_take (i := 5) (oi := { dst := some 45, op := Op.build 87 #[(1, Operand.tmp 44), (2, Operand.const (Value.int IntKind.i64 2)), (6, Operand.const (Value.int IntKind.i64 2))], type := 87, pos := "law.go:174", after := #[{ on := 4, ground := Ground.data }], guard := none }) (v := .agg (stoCells ⟨.slice none 0 0, .slice (some ⟨g1, 0, none⟩) 1 1, .slice none 0 0, .slice none 0 0, .slice none 0 0⟩ (sQ p t want)).toArray) rfl (by kernel_rfl) (by kernel_rfl) (by kernel_rfl) (fun _ _ _ h => h) (yields_build_s (by rfl) _ rfl ⟨.slice none 0 0, .slice (some ⟨g1, 0, none⟩) 1 1, .slice none 0 0, .slice none 0 0, .slice none 0 0⟩ (sQ p t want) (by kernel_rfl)) hS ?_
    try simp only [Act.put, List.setIfInBounds_toArray, List.set_cons_zero, List.set_cons_succ]
    refine wpAnyH_ready (rs := [2]) (by kernel_rfl) (by simp) ?_
    refine AllReadyH.cons (o := { dst := some 42, op := Op.call { callee := Callee.value (Operand.func 36), args := #[Operand.tmp 40, Operand.tmp 41], argTypes := #[9, 9] }, type := 80, pos := "law.go:174", after := #[{ on := 0, ground := Ground.data }, { on := 1, ground := Ground.data }], guard := none }) rfl (fun K hK => ?_) AllReadyH.nil
    rw [if_pos (by rfl)]
    go_simp
    refine (law_put p s W3.drew).mono ?_
    rintro e w4 ⟨g2, rfl, hg2, hO4, hb4⟩
    have HO4 := Lib.hid hO4
    have HB4 : Hid (Below W3.heap.size W3 w4) := Lib.hid ((Below.drew (Below.refl _ _)).trans hb4)
    clear hg2 hO4 hb4
    unfold calVal putL
    go_wp2_with fail
    refine hK.out _ _ HB4 (fun hS => ?_)
    clear hK
    try simp only [Act.put, List.setIfInBounds_toArray, List.set_cons_zero, List.set_cons_succ]
    refine wpAnyH_take (i := 3) (oi := { dst := some 43, op := Op.build 87 #[(1, Operand.tmp 42), (2, Operand.const (Value.int IntKind.i64 1)), (6, Operand.const (Value.int IntKind.i64 1))], type := 87, pos := "law.go:174", after := #[{ on := 2, ground := Ground.data }], guard := none }) (v := .agg (stoCells ⟨.slice none 0 0, .slice (some ⟨g2, 0, none⟩) 1 1, .slice none 0 0, .slice none 0 0, .slice none 0 0⟩ (sP p s)).toArray) rfl (by kernel_rfl) (by kernel_rfl) (by kernel_rfl) (fun _ _ _ h => h) (yields_build_s (by rfl) _ rfl ⟨.slice none 0 0, .slice (some ⟨g2, 0, none⟩) 1 1, .slice none 0 0, .slice none 0 0, .slice none 0 0⟩ (sP p s) (by kernel_rfl)) hS ?_
    try simp only [Act.put, List.setIfInBounds_toArray, List.set_cons_zero, List.set_cons_succ]
    refine wpAnyH_ready (rs := [6]) (by kernel_rfl) (by simp) ?_
    refine AllReadyH.cons (o := { dst := some 46, op := Op.buildSlice 68 2 #[(0, Operand.tmp 43), (1, Operand.tmp 45)], type := 68, pos := "law.go:174", after := #[{ on := 3, ground := Ground.data }, { on := 5, ground := Ground.data }], guard := none }) rfl (fun K hK => ?_) AllReadyH.nil
    rw [if_pos (by rfl)]
    refine wp_build_sto2 (.tmp 43) (.tmp 45) rfl rfl rfl ?_
    refine hK.out _ _ (Lib.hid (HB4.out.alloc HB4.out.size _)) (fun hS => ?_)
    clear hK
    try simp only [Act.put, List.setIfInBounds_toArray, List.set_cons_zero, List.set_cons_succ]
    refine wpAnyH_take (i := 7) (oi := { dst := some 10, op := Op.assign (Operand.tmp 46), type := 68, pos := "law.go:174", after := #[{ on := 6, ground := Ground.data }, { on := 2, ground := Ground.chain }, { on := 0, ground := Ground.phase }, { on := 1, ground := Ground.phase }, { on := 2, ground := Ground.phase }, { on := 3, ground := Ground.phase }, { on := 4, ground := Ground.phase }, { on := 5, ground := Ground.phase }, { on := 6, ground := Ground.phase }], guard := none }) (v := .slice (some ⟨w4.heap.size, 0, none⟩) 2 2) rfl (by kernel_rfl) (by kernel_rfl) (by kernel_rfl) (fun _ _ _ h => h) (Or.inl ⟨by rfl, fun w' hw => ?_⟩) hS ?_
    · go_simp
    try simp only [Act.put, List.setIfInBounds_toArray, List.set_cons_zero, List.set_cons_succ]
    refine wpAnyH_done (by kernel_rfl) ?_ _
    clear hS
    go_upto_region 7 with fail
    refine wp_abs (F := fun W => IsStos W (.slice (some ⟨w4.heap.size, 0, none⟩) 2 2) [sP p s, sQ p t want] ∧ Below w.heap.size w W) ⟨?_, ?_⟩ ?_
    · refine IsStos.rowN w4 [(⟨.slice none 0 0, .slice (some ⟨g2, 0, none⟩) 1 1, .slice none 0 0, .slice none 0 0, .slice none 0 0⟩, sP p s), (⟨.slice none 0 0, .slice (some ⟨g1, 0, none⟩) 1 1, .slice none 0 0, .slice none 0 0, .slice none 0 0⟩, sQ p t want)] _ ?_
      intro x hx
      simp only [List.mem_cons, List.not_mem_nil, or_false] at hx
      rcases hx with rfl | rfl
      · exact ⟨⟨IsRds.nil _, IsEdts.one HO4.out 1⟩, ⟨none, 0, rfl, Or.inl rfl⟩, IsNums.none _, IsStrs.nil _⟩
      · exact ⟨⟨IsRds.nil _, IsEdts.one (HE3.out.step HB4.out) 1⟩, ⟨none, 0, rfl, Or.inl rfl⟩, IsNums.none _, IsStrs.nil _⟩
    · exact HB3.out.trans ((HB4.out.alloc HB4.out.size _).mono HB3.out.size)
    rintro W5 ⟨hs5, hb5⟩
    obtain ⟨hs1, hlt5, f1, hf1, hf2⟩ := hs5.first
    have HS5 := Lib.hid hs5; have HB5 := Lib.hid hb5; have H1 := Lib.hid hs1; have HLT5 := Lib.hid hlt5; have HF1 := Lib.hid hf1; have HF2 := Lib.hid hf2
    clear hs5 hb5 hs1 hlt5 hf1 hf2 HC3 HE3 HB3 HO4 HB4 HG1 HNE HLT
    obtain ⟨b5, hb5⟩ : ∃ b5, w4.heap.size = b5 := ⟨_, rfl⟩
    rw [hb5] at HS5 H1 HLT5 HF2 ⊢
    clear hb5
    have hs2 : s.size ≤ 4096 := by omega
    have ht2 : t.size ≤ 4096 := by omega
    have HZ1 := Lib.hid (StosSz.one (szP (p := p) (s := s) hp1 hs2))
    have HZ2 := Lib.hid (StosSz.two (szP (p := p) (s := s) hp1 hs2) (szQ (want := want) hp1 ht2))
    have HZ4 := Lib.hid (StosSz.four (szP (p := p) (s := s) hp1 hs2) (szDl hp1) (szG hp1) szL)
    go_wp2_with fail
    refine (rows_any [sP p s] _ _ H1.out (by simp) HZ1.out (HM.out.below HB5.out (Nat.le_refl _))).mono ?_
    rintro e w6 ⟨v6, rfl, hr6, hb6⟩
    cases hmp : mayP p with
    | false =>
      rw [rows_Pbad hmp] at hr6
      obtain ⟨a6, c6, rfl⟩ := hr6.none0
      have HB6 := Lib.hid hb6
      have HMP := Lib.hid hmp
      clear hr6 hb6 hmp
      go_wp2_with fail
      refine (check_any [sP p s] _ w6 (H1.out.below HB6.out (Nat.le_refl _)) (by simp) HZ1.out (HM.out.below (HB5.out.trans (HB6.out.mono HB5.out.size)) (Nat.le_refl _))).mono ?_
      rintro e w7 ⟨rfl, hb7⟩
      rw [check_Pbad HMP.out]
      have HB7 : Hid (Below w.heap.size w w7) := Lib.hid (HB5.out.trans ((HB6.out.trans (hb7.mono HB6.out.size)).mono HB5.out.size))
      clear hb7
      unfold vdVal
      dsimp only
      have hfd := field_vd
      go_wp2_with fail
      refine (law_alive w7 (HM.out.below HB7.out (Nat.le_refl _))).mono ?_
      rintro e w8 ⟨rfl, hb8⟩
      have HB8 := Lib.hid (HB7.out.trans (hb8.mono HB7.out.size))
      clear hb8
      go_wp2_with fail
      exact bodyPost_ret (v := .bool true) (by simp [results, Tryz.results7, go_sem]) rfl ⟨rfl, HB8.out⟩
    | true =>
      rw [rows_P hmp hs2] at hr6
      obtain ⟨b6, o6, c6, rfl, hlt6, r60, r61⟩ := hr6.two
      have HB6 := Lib.hid hb6; have HMP := Lib.hid hmp; have HLT6 := Lib.hid hlt6; have R61 := Lib.hid r61
      clear hr6 hb6 hmp hlt6 r60 r61
      have HS6 := Lib.hid (HS5.out.below HB6.out (Nat.le_refl _))
      have HB56 := Lib.hid (HB5.out.trans (HB6.out.mono HB5.out.size))
      go_wp2_with fail
      refine (check_any [sP p s, sQ p t want] _ w6 HS6.out (by simp) HZ2.out (HM.out.below HB56.out (Nat.le_refl _))).mono ?_
      rintro e w7 ⟨rfl, hb7⟩
      have hck := check_PQ (want := want) HMP.out hs2 ht2
      have HB7 := Lib.hid hb7
      clear hb7
      by_cases h : want = 1
      · rw [if_pos h] at hck
        have hwI : (want : Int) = 1 := by omega
        rw [hck]
        unfold vdVal
        dsimp only
        clear hck
        go_upto_region 11 with fail
        refine wp_abs (F := fun W => One w7.heap.size #[.bool true, .int .i64 0, .int .u8 0] W ∧ Below w6.heap.size w6 W) ⟨One.of _ _ _, HB7.out.alloc HB7.out.size _⟩ ?_
        rintro W7 ⟨hv7, hb7⟩
        have HV7 := Lib.hid hv7; have HBW7 := Lib.hid hb7
        clear hv7 hb7 HB7
        obtain ⟨n12, hn12⟩ : ∃ n12, w7.heap.size = n12 := ⟨_, rfl⟩
        rw [hn12] at HV7 ⊢
        go_wp2_with fail
        refine (rows_any [sP p s, sQ p t want] _ W7 (HS6.out.below HBW7.out (Nat.le_refl _)) (by simp) HZ2.out (HM.out.below (HB56.out.trans (HBW7.out.mono HB56.out.size)) (Nat.le_refl _))).mono ?_
        rintro e w8 ⟨v8, rfl, hr8, hb8⟩
        rw [rows_PQ HMP.out hs2 ht2, if_pos h] at hr8
        obtain ⟨b8, o8, c8, rfl, hlt8, _, r81⟩ := hr8.two
        have HB8 := Lib.hid hb8
        have x6 := (((HBW7.out.trans (hb8.mono HBW7.out.size)).cell (p := ⟨b6, o6 + 1, none⟩) HLT6.out).trans R61.out)
        have hV := HV7.out.step hb8
        have x7 := hV.c 0
        simp at x7
        simp [c1, c2] at x6 r81
        clear hr8 hb8 hV hlt8
        go_upto_region 14 with fail
        -- TAIL
        go_upto_region 15 with fail
        refine wp_abs (F := fun W => One (w8.heap.size + 1) #[.int .u8 1, .slice none 0 0, .slice (some ⟨w8.heap.size, 0, none⟩) 1 1, .string ByteArray.empty, .int .u64 0, .int .u64 0, .int .u32 0] W ∧ One w8.heap.size #[.int .u8 2, .string p, .bool true, .int .u64 0, .int .u64 0, .string ByteArray.empty] W ∧ Below w8.heap.size w8 W) ⟨?_, ?_, ?_⟩ ?_
        · have h := One.of (w8.alloc (.cells #[.int .u8 2, .string p, .bool true, .int .u64 0, .int .u64 0, .string ByteArray.empty] 55)) #[.int .u8 1, .slice none 0 0, .slice (some ⟨w8.heap.size, 0, none⟩) 1 1, .string ByteArray.empty, .int .u64 0, .int .u64 0, .int .u32 0] 80
          rw [show (w8.alloc (.cells #[.int .u8 2, .string p, .bool true, .int .u64 0, .int .u64 0, .string ByteArray.empty] 55)).heap.size = w8.heap.size + 1 by simp] at h
          exact h
        · exact (One.of w8 _ _).step ((Below.refl _ _).alloc (Nat.le_refl _) _)
        · exact ((Below.refl _ _).alloc (Nat.le_refl _) _).alloc (by simp) _
        rintro W9 ⟨hC, hE, hb9⟩
        have HC := Lib.hid hC; have HED := Lib.hid hE
        have HB9 : Hid (Below W5.heap.size W5 W9) := Lib.hid (HB6.out.trans (((HBW7.out.trans (HB8.out.mono HBW7.out.size)).trans (hb9.mono (HBW7.out.trans (HB8.out.mono HBW7.out.size)).size)).mono HB6.out.size))
        have HBW9 : Hid (Below w.heap.size w W9) := Lib.hid (HB5.out.trans (HB9.out.mono HB5.out.size))
        have hat := HF2.out.below HB9.out HLT5.out
        have HAT := Lib.hid hat
        have hb5n : b5 < W9.heap.size := by have h1 := HB9.out.size; have h2 := HLT5.out; omega
        have HB5N := Lib.hid hb5n
        clear hC hE hb9 hat hb5n x6 x7 r81
        obtain ⟨n14, hn14⟩ : ∃ n14, w8.heap.size + 1 = n14 := ⟨_, rfl⟩
        obtain ⟨eD, heD⟩ : ∃ eD, w8.heap.size = eD := ⟨_, rfl⟩
        rw [hn14] at HC ⊢
        rw [heD] at HED ⊢
        have HS0 : Hid (Below W9.heap.size W9 W9.drew) := Lib.hid (Below.drew (Below.refl _ _))
        generalize hX0 : W9.drew = X0 at HS0
        refine wp_region_held_drew (S := fun w' => Hid (Below W9.heap.size W9 w')) (by kernel_rfl) (by rw [hX0]; exact HS0) (fun hS => ?_)
        rw [hX0] at hS ⊢
        refine wpAnyH_take (i := 1) (oi := { dst := some 104, op := Op.move (Operand.tmp 10), type := 68, pos := "law.go:185", after := #[], guard := none }) (v := .slice (some ⟨b5, 0, none⟩) 2 2) rfl (by kernel_rfl) (by kernel_rfl) (by kernel_rfl) (fun _ _ _ h => h) (Or.inl ⟨by rfl, fun w' hw => ?_⟩) hS ?_
        · go_simp
        try simp only [Act.put, List.setIfInBounds_toArray, List.set_cons_zero, List.set_cons_succ]
        refine wpAnyH_take (i := 2) (oi := { dst := some 105, op := Op.indexAddr 68 (Operand.tmp 104) (Operand.const (Value.int IntKind.i64 0)), type := 0, pos := "law.go:185", after := #[{ on := 1, ground := Ground.data }], guard := none }) (v := .pointer (some ⟨b5, 0, none⟩)) rfl (by kernel_rfl) (by kernel_rfl) (by kernel_rfl) (fun _ _ _ h => h) (Or.inl ⟨by rfl, fun w' hw => ?_⟩) hS ?_
        · go_simp
        try simp only [Act.put, List.setIfInBounds_toArray, List.set_cons_zero, List.set_cons_succ]
        refine wpAnyH_take (i := 3) (oi := { dst := some 106, op := Op.load 87 (Operand.tmp 105), type := 87, pos := "law.go:185", after := #[{ on := 2, ground := Ground.data }], guard := none }) (v := .agg (stoCells f1 (sP p s)).toArray) rfl (by kernel_rfl) (by kernel_rfl) (by kernel_rfl) (fun _ _ _ h => h) (yields_load_s (by rfl) _ rfl b5 0 rfl f1 (sP p s) (fun W hW => HAT.out.below hW.out HB5N.out)) hS ?_
        try simp only [Act.put, List.setIfInBounds_toArray, List.set_cons_zero, List.set_cons_succ]
        refine wpAnyH_take (i := 4) (oi := { dst := some 107, op := Op.load 80 (Operand.tmp 14), type := 80, pos := "law.go:185", after := #[], guard := none }) (v := .agg #[.int .u8 1, .slice none 0 0, .slice (some ⟨eD, 0, none⟩) 1 1, .string ByteArray.empty, .int .u64 0, .int .u64 0, .int .u32 0]) rfl (by kernel_rfl) (by kernel_rfl) (by kernel_rfl) (fun _ _ _ h => h) (Or.inl ⟨by rfl, fun w' hw => ?_⟩) hS ?_
        · have hO := HC.out.step hw.out
          have c0 := hO.c 0; have c1 := hO.c 1; have c2 := hO.c 2; have c3 := hO.c 3; have c4 := hO.c 4; have c5 := hO.c 5; have c6 := hO.c 6
          simp at c0 c1 c2 c3 c4 c5 c6
          go_simp
        try simp only [Act.put, List.setIfInBounds_toArray, List.set_cons_zero, List.set_cons_succ]
        refine wpAnyH_take (i := 5) (oi := { dst := some 108, op := Op.build 87 #[(1, Operand.tmp 107), (2, Operand.const (Value.int IntKind.i64 3)), (6, Operand.const (Value.int IntKind.i64 3))], type := 87, pos := "law.go:185", after := #[{ on := 4, ground := Ground.data }], guard := none }) (v := .agg (stoCells ⟨.slice none 0 0, .slice (some ⟨eD, 0, none⟩) 1 1, .slice none 0 0, .slice none 0 0, .slice none 0 0⟩ (sDl p)).toArray) rfl (by kernel_rfl) (by kernel_rfl) (by kernel_rfl) (fun _ _ _ h => h) (yields_build_s (by rfl) _ rfl ⟨.slice none 0 0, .slice (some ⟨eD, 0, none⟩) 1 1, .slice none 0 0, .slice none 0 0, .slice none 0 0⟩ (sDl p) (by kernel_rfl)) hS ?_
        try simp only [Act.put, List.setIfInBounds_toArray, List.set_cons_zero, List.set_cons_succ]
        refine wpAnyH_take (i := 6) (oi := { dst := some 109, op := Op.move (Operand.tmp 0), type := 9, pos := "law.go:185", after := #[], guard := none }) (v := .string p) rfl (by kernel_rfl) (by kernel_rfl) (by kernel_rfl) (fun _ _ _ h => h) (Or.inl ⟨by rfl, fun w' hw => ?_⟩) hS ?_
        · go_simp
        try simp only [Act.put, List.setIfInBounds_toArray, List.set_cons_zero, List.set_cons_succ]
        refine wpAnyH_take (i := 8) (oi := { dst := some 111, op := Op.build 97 #[(1, Operand.const (Value.int IntKind.i64 3))], type := 97, pos := "law.go:185", after := #[], guard := none }) (v := .agg #[.int .u64 0, .int .u8 0, .string ⟨#[]⟩, .int .i64 3]) rfl (by kernel_rfl) (by kernel_rfl) (by kernel_rfl) (fun _ _ _ h => h) (Or.inl ⟨by rfl, fun w' hw => ?_⟩) hS ?_
        · go_simp
        try simp only [Act.put, List.setIfInBounds_toArray, List.set_cons_zero, List.set_cons_succ]
        refine wpAnyH_take (i := 12) (oi := { dst := some 115, op := Op.build 80 #[(0, Operand.const (Value.int IntKind.u8 2))], type := 80, pos := "law.go:185", after := #[], guard := none }) (v := .agg #[.int .u8 2, .slice none 0 0, .slice none 0 0, .string ByteArray.empty, .int .u64 0, .int .u64 0, .int .u32 0]) rfl (by kernel_rfl) (by kernel_rfl) (by kernel_rfl) (fun _ _ _ h => h) (Or.inl ⟨by rfl, fun w' hw => ?_⟩) hS ?_
        · (go_simp; rfl)
        try simp only [Act.put, List.setIfInBounds_toArray, List.set_cons_zero, List.set_cons_succ]
        refine wpAnyH_take (i := 13) (oi := { dst := some 116, op := Op.build 87 #[(1, Operand.tmp 115), (2, Operand.const (Value.int IntKind.i64 6)), (3, Operand.const (Value.int IntKind.i64 7)), (6, Operand.const (Value.int IntKind.i64 5))], type := 87, pos := "law.go:185", after := #[{ on := 12, ground := Ground.data }], guard := none }) (v := .agg (stoCells ⟨.slice none 0 0, .slice none 0 0, .slice none 0 0, .slice none 0 0, .slice none 0 0⟩ sL).toArray) rfl (by kernel_rfl) (by kernel_rfl) (by kernel_rfl) (fun _ _ _ h => h) (yields_build_s (by rfl) _ rfl ⟨.slice none 0 0, .slice none 0 0, .slice none 0 0, .slice none 0 0, .slice none 0 0⟩ sL (by kernel_rfl)) hS ?_
        try simp only [Act.put, List.setIfInBounds_toArray, List.set_cons_zero, List.set_cons_succ]
        refine wpAnyH_ready (rs := [0, 7, 9]) (by kernel_rfl) (by simp) ?_
        refine AllReadyH.cons (o := { dst := some 103, op := Op.buildSlice 68 0 #[], type := 68, pos := "law.go:185", after := #[], guard := none }) rfl (fun K hK => ?_) ?_
        · rw [if_pos (by rfl)]
          refine wp_build_sto0 rfl ?_
          have hbn : Below X0.heap.size X0 (X0.alloc (.cells #[] 87)) := (Below.refl _ _).alloc (Nat.le_refl _) _
          generalize X0.alloc (.cells #[] 87) = X1 at hbn ⊢
          have HS1 := Lib.hid (HS0.out.trans (hbn.mono HS0.out.size))
          refine hK.out _ _ HS1 (fun hS => ?_)
          clear hK hbn K
          try simp only [Act.put, List.setIfInBounds_toArray, List.set_cons_zero, List.set_cons_succ]
          refine wpAnyH_ready (rs := [7, 9]) (by kernel_rfl) (by simp) ?_
          refine AllReadyH.cons (o := { dst := some 110, op := Op.call { callee := Callee.value (Operand.func 37), args := #[Operand.tmp 109], argTypes := #[9] }, type := 80, pos := "law.go:185", after := #[{ on := 6, ground := Ground.data }], guard := none }) rfl (fun K hK => ?_) ?_
          · rw [if_pos (by rfl)]
            go_simp
            refine (law_get p X1).mono ?_
            rintro e X2 ⟨vR, rfl, hR, hbn⟩
            unfold calVal getL
            go_wp2_with fail
            have HS2 := Lib.hid (HS1.out.trans (hbn.mono HS1.out.size))
            have HR := Lib.hid hR
            clear hR
            refine hK.out _ _ HS2 (fun hS => ?_)
            clear hK hbn K
            try simp only [Act.put, List.setIfInBounds_toArray, List.set_cons_zero, List.set_cons_succ]
            refine wpAnyH_ready (rs := [9]) (by kernel_rfl) (by simp) ?_
            refine AllReadyH.cons (o := { dst := some 112, op := Op.buildSlice 83 1 #[(0, Operand.tmp 111)], type := 83, pos := "law.go:185", after := #[{ on := 8, ground := Ground.data }], guard := none }) rfl (fun K hK => ?_) AllReadyH.nil
            rw [if_pos (by rfl)]
            go_simp
            have hbn : Below X2.heap.size X2 (X2.alloc (.cells #[.int .u64 0, .int .u8 0, .string ⟨#[]⟩, .int .i64 3] 97)) := (Below.refl _ _).alloc (Nat.le_refl _) _
            have hon : One X2.heap.size #[.int .u64 0, .int .u8 0, .string ⟨#[]⟩, .int .i64 3] (X2.alloc (.cells #[.int .u64 0, .int .u8 0, .string ⟨#[]⟩, .int .i64 3] 97)) := One.of _ _ _
            generalize X2.alloc (.cells #[.int .u64 0, .int .u8 0, .string ⟨#[]⟩, .int .i64 3] 97) = X3 at hbn hon ⊢
            have HS3 := Lib.hid (HS2.out.trans (hbn.mono HS2.out.size))
            replace HR := Lib.hid (HR.out.below hbn (Nat.le_refl _))
            have HG := Lib.hid hon
            clear hon
            refine hK.out _ _ HS3 (fun hS => ?_)
            clear hK hbn K
            try simp only [Act.put, List.setIfInBounds_toArray, List.set_cons_zero, List.set_cons_succ]
            refine wpAnyH_take (i := 10) (oi := { dst := some 113, op := Op.build 85 #[(0, Operand.tmp 112)], type := 85, pos := "law.go:185", after := #[{ on := 9, ground := Ground.data }], guard := none }) (v := .agg #[.slice (some ⟨X2.heap.size, 0, none⟩) 1 1, .slice none 0 0, .slice none 0 0]) rfl (by kernel_rfl) (by kernel_rfl) (by kernel_rfl) (fun _ _ _ h => h) (Or.inl ⟨by rfl, fun w' hw => ?_⟩) hS ?_
            · go_simp
            try simp only [Act.put, List.setIfInBounds_toArray, List.set_cons_zero, List.set_cons_succ]
            refine wpAnyH_take (i := 11) (oi := { dst := some 114, op := Op.build 87 #[(1, Operand.tmp 110), (2, Operand.const (Value.int IntKind.i64 4)), (3, Operand.const (Value.int IntKind.i64 5)), (6, Operand.const (Value.int IntKind.i64 4)), (8, Operand.tmp 113)], type := 87, pos := "law.go:185", after := #[{ on := 7, ground := Ground.data }, { on := 10, ground := Ground.data }], guard := none }) (v := .agg (stoCells ⟨vR, .slice none 0 0, .slice (some ⟨X2.heap.size, 0, none⟩) 1 1, .slice none 0 0, .slice none 0 0⟩ (sG p)).toArray) rfl (by kernel_rfl) (by kernel_rfl) (by kernel_rfl) (fun _ _ _ h => h) (yields_build_s (by rfl) _ rfl ⟨vR, .slice none 0 0, .slice (some ⟨X2.heap.size, 0, none⟩) 1 1, .slice none 0 0, .slice none 0 0⟩ (sG p) (by kernel_rfl)) hS ?_
            try simp only [Act.put, List.setIfInBounds_toArray, List.set_cons_zero, List.set_cons_succ]
            refine wpAnyH_ready (rs := [14]) (by kernel_rfl) (by simp) ?_
            refine AllReadyH.cons (o := { dst := some 117, op := Op.buildSlice 68 4 #[(0, Operand.tmp 106), (1, Operand.tmp 108), (2, Operand.tmp 114), (3, Operand.tmp 116)], type := 68, pos := "law.go:185", after := #[{ on := 3, ground := Ground.data }, { on := 5, ground := Ground.data }, { on := 11, ground := Ground.data }, { on := 13, ground := Ground.data }], guard := none }) rfl (fun K hK => ?_) AllReadyH.nil
            rw [if_pos (by rfl)]
            refine wp_build_sto4 (.tmp 106) (.tmp 108) (.tmp 114) (.tmp 116) rfl rfl rfl rfl rfl ?_
            have hbn : Below X3.heap.size X3 (X3.alloc (.cells (stoFlat [(f1, sP p s), (⟨.slice none 0 0, .slice (some ⟨eD, 0, none⟩) 1 1, .slice none 0 0, .slice none 0 0, .slice none 0 0⟩, sDl p), (⟨vR, .slice none 0 0, .slice (some ⟨X2.heap.size, 0, none⟩) 1 1, .slice none 0 0, .slice none 0 0⟩, sG p), (⟨.slice none 0 0, .slice none 0 0, .slice none 0 0, .slice none 0 0, .slice none 0 0⟩, sL)]).toArray 87)) := (Below.refl _ _).alloc (Nat.le_refl _) _
            have hon : One X3.heap.size (stoFlat [(f1, sP p s), (⟨.slice none 0 0, .slice (some ⟨eD, 0, none⟩) 1 1, .slice none 0 0, .slice none 0 0, .slice none 0 0⟩, sDl p), (⟨vR, .slice none 0 0, .slice (some ⟨X2.heap.size, 0, none⟩) 1 1, .slice none 0 0, .slice none 0 0⟩, sG p), (⟨.slice none 0 0, .slice none 0 0, .slice none 0 0, .slice none 0 0, .slice none 0 0⟩, sL)]).toArray (X3.alloc (.cells (stoFlat [(f1, sP p s), (⟨.slice none 0 0, .slice (some ⟨eD, 0, none⟩) 1 1, .slice none 0 0, .slice none 0 0, .slice none 0 0⟩, sDl p), (⟨vR, .slice none 0 0, .slice (some ⟨X2.heap.size, 0, none⟩) 1 1, .slice none 0 0, .slice none 0 0⟩, sG p), (⟨.slice none 0 0, .slice none 0 0, .slice none 0 0, .slice none 0 0, .slice none 0 0⟩, sL)]).toArray 87)) := One.of _ _ _
            generalize X3.alloc (.cells (stoFlat [(f1, sP p s), (⟨.slice none 0 0, .slice (some ⟨eD, 0, none⟩) 1 1, .slice none 0 0, .slice none 0 0, .slice none 0 0⟩, sDl p), (⟨vR, .slice none 0 0, .slice (some ⟨X2.heap.size, 0, none⟩) 1 1, .slice none 0 0, .slice none 0 0⟩, sG p), (⟨.slice none 0 0, .slice none 0 0, .slice none 0 0, .slice none 0 0, .slice none 0 0⟩, sL)]).toArray 87) = X4 at hbn hon ⊢
            have HS4 := Lib.hid (HS3.out.trans (hbn.mono HS3.out.size))
            replace HR := Lib.hid (HR.out.below hbn (Nat.le_refl _))
            replace HG := Lib.hid (HG.out.step hbn)
            have HO14 := Lib.hid hon
            clear hon
            refine hK.out _ _ HS4 (fun hS => ?_)
            clear hK hbn K
            try simp only [Act.put, List.setIfInBounds_toArray, List.set_cons_zero, List.set_cons_succ]
            refine wpAnyH_ready (rs := [15]) (by kernel_rfl) (by simp) ?_
            refine AllReadyH.cons (o := { dst := some 118, op := Op.call { callee := Callee.builtin Builtin.append, args := #[Operand.tmp 103, Operand.tmp 117], argTypes := #[68, 68] }, type := 68, pos := "law.go:185", after := #[{ on := 0, ground := Ground.data }, { on := 14, ground := Ground.data }, { on := 7, ground := Ground.chain }], guard := none }) rfl (fun K hK => ?_) AllReadyH.nil
            rw [if_pos (by rfl)]
            refine wp_append_sto4 (.tmp 103) (.tmp 117) rfl (X0.heap.size) (X3.heap.size) rfl [(f1, sP p s), (⟨.slice none 0 0, .slice (some ⟨eD, 0, none⟩) 1 1, .slice none 0 0, .slice none 0 0, .slice none 0 0⟩, sDl p), (⟨vR, .slice none 0 0, .slice (some ⟨X2.heap.size, 0, none⟩) 1 1, .slice none 0 0, .slice none 0 0⟩, sG p), (⟨.slice none 0 0, .slice none 0 0, .slice none 0 0, .slice none 0 0, .slice none 0 0⟩, sL)] rfl rfl HO14.out ?_ ?_
            · intro x hx
              simp only [List.mem_cons, List.not_mem_nil, or_false] at hx
              rcases hx with rfl | rfl | rfl | rfl
              · exact (HF1.out.below HB9.out (Nat.le_refl _)).below HS4.out (Nat.le_refl _)
              · exact ⟨⟨IsRds.nil _, IsEdts.one (HED.out.step HS4.out) 1⟩, ⟨none, 0, rfl, Or.inl rfl⟩, IsNums.none _, IsStrs.nil _⟩
              · exact ⟨⟨HR.out, ⟨none, 0, rfl, Or.inl rfl⟩⟩, IsGots.one (g := ⟨dV, 3⟩) HG.out, IsNums.none _, IsStrs.nil _⟩
              · exact ⟨⟨IsRds.nil _, ⟨none, 0, rfl, Or.inl rfl⟩⟩, ⟨none, 0, rfl, Or.inl rfl⟩, IsNums.none _, IsStrs.nil _⟩
            intro vX X5 hX hbn
            have HS5 := Lib.hid (HS4.out.trans (hbn.mono HS4.out.size))
            have HX := Lib.hid hX
            clear hX
            refine hK.out _ _ HS5 (fun hS => ?_)
            clear hK hbn K
            try simp only [Act.put, List.setIfInBounds_toArray, List.set_cons_zero, List.set_cons_succ]
            refine wpAnyH_take (i := 16) (oi := { dst := some 15, op := Op.assign (Operand.tmp 118), type := 68, pos := "law.go:185", after := #[{ on := 15, ground := Ground.data }, { on := 15, ground := Ground.chain }, { on := 0, ground := Ground.phase }, { on := 1, ground := Ground.phase }, { on := 2, ground := Ground.phase }, { on := 3, ground := Ground.phase }, { on := 4, ground := Ground.phase }, { on := 5, ground := Ground.phase }, { on := 6, ground := Ground.phase }, { on := 7, ground := Ground.phase }, { on := 8, ground := Ground.phase }, { on := 9, ground := Ground.phase }, { on := 10, ground := Ground.phase }, { on := 11, ground := Ground.phase }, { on := 12, ground := Ground.phase }, { on := 13, ground := Ground.phase }, { on := 14, ground := Ground.phase }, { on := 15, ground := Ground.phase }], guard := none }) (v := vX) rfl (by kernel_rfl) (by kernel_rfl) (by kernel_rfl) (fun _ _ _ h => h) (Or.inl ⟨by rfl, fun w' hw => ?_⟩) hS ?_
            · go_simp
            try simp only [Act.put, List.setIfInBounds_toArray, List.set_cons_zero, List.set_cons_succ]
            refine wpAnyH_done (by kernel_rfl) ?_ _
            clear hS
            have HBX : Hid (Below w.heap.size w X5) := Lib.hid (HBW9.out.trans (HS5.out.mono HBW9.out.size))
            go_wp2_with fail
            refine (check_any [sP p s, sDl p, sG p, sL] vX X5 HX.out (by simp) HZ4.out (HM.out.below HBX.out (Nat.le_refl _))).mono ?_
            rintro e wY ⟨rfl, hbY⟩
            rw [check_four HMP.out hs2]
            have HBY := Lib.hid (HBX.out.trans (hbY.mono HBX.out.size))
            clear hbY
            unfold vdVal
            dsimp only
            have hfd := field_vd
            go_wp2_with fail
            refine (law_alive wY (HM.out.below HBY.out (Nat.le_refl _))).mono ?_
            rintro e wZ ⟨rfl, hbZ⟩
            have HBZ := Lib.hid (HBY.out.trans (hbZ.mono HBY.out.size))
            clear hbZ
            go_wp2_with fail
            exact bodyPost_ret (v := .bool true) (by simp [results, Tryz.results7, go_sem]) rfl ⟨rfl, HBZ.out⟩
          refine AllReadyH.cons (o := { dst := some 112, op := Op.buildSlice 83 1 #[(0, Operand.tmp 111)], type := 83, pos := "law.go:185", after := #[{ on := 8, ground := Ground.data }], guard := none }) rfl (fun K hK => ?_) AllReadyH.nil
          rw [if_pos (by rfl)]
          go_simp
          have hbn : Below X1.heap.size X1 (X1.alloc (.cells #[.int .u64 0, .int .u8 0, .string ⟨#[]⟩, .int .i64 3] 97)) := (Below.refl _ _).alloc (Nat.le_refl _) _
          have hon : One X1.heap.size #[.int .u64 0, .int .u8 0, .string ⟨#[]⟩, .int .i64 3] (X1.alloc (.cells #[.int .u64 0, .int .u8 0, .string ⟨#[]⟩, .int .i64 3] 97)) := One.of _ _ _
          generalize X1.alloc (.cells #[.int .u64 0, .int .u8 0, .string ⟨#[]⟩, .int .i64 3] 97) = X2 at hbn hon ⊢
          have HS2 := Lib.hid (HS1.out.trans (hbn.mono HS1.out.size))
          have HG := Lib.hid hon
          clear hon
          refine hK.out _ _ HS2 (fun hS => ?_)
          clear hK hbn K
          try simp only [Act.put, List.setIfInBounds_toArray, List.set_cons_zero, List.set_cons_succ]
          refine wpAnyH_take (i := 10) (oi := { dst := some 113, op := Op.build 85 #[(0, Operand.tmp 112)], type := 85, pos := "law.go:185", after := #[{ on := 9, ground := Ground.data }], guard := none }) (v := .agg #[.slice (some ⟨X1.heap.size, 0, none⟩) 1 1, .slice none 0 0, .slice none 0 0]) rfl (by kernel_rfl) (by kernel_rfl) (by kernel_rfl) (fun _ _ _ h => h) (Or.inl ⟨by rfl, fun w' hw => ?_⟩) hS ?_
          · go_simp
          try simp only [Act.put, List.setIfInBounds_toArray, List.set_cons_zero, List.set_cons_succ]
          refine wpAnyH_ready (rs := [7]) (by kernel_rfl) (by simp) ?_
          refine AllReadyH.cons (o := { dst := some 110, op := Op.call { callee := Callee.value (Operand.func 37), args := #[Operand.tmp 109], argTypes := #[9] }, type := 80, pos := "law.go:185", after := #[{ on := 6, ground := Ground.data }], guard := none }) rfl (fun K hK => ?_) AllReadyH.nil
          rw [if_pos (by rfl)]
          go_simp
          refine (law_get p X2).mono ?_
          rintro e X3 ⟨vR, rfl, hR, hbn⟩
          unfold calVal getL
          go_wp2_with fail
          have HS3 := Lib.hid (HS2.out.trans (hbn.mono HS2.out.size))
          replace HG := Lib.hid (HG.out.step hbn)
          have HR := Lib.hid hR
          clear hR
          refine hK.out _ _ HS3 (fun hS => ?_)
          clear hK hbn K
          try simp only [Act.put, List.setIfInBounds_toArray, List.set_cons_zero, List.set_cons_succ]
          refine wpAnyH_take (i := 11) (oi := { dst := some 114, op := Op.build 87 #[(1, Operand.tmp 110), (2, Operand.const (Value.int IntKind.i64 4)), (3, Operand.const (Value.int IntKind.i64 5)), (6, Operand.const (Value.int IntKind.i64 4)), (8, Operand.tmp 113)], type := 87, pos := "law.go:185", after := #[{ on := 7, ground := Ground.data }, { on := 10, ground := Ground.data }], guard := none }) (v := .agg (stoCells ⟨vR, .slice none 0 0, .slice (some ⟨X1.heap.size, 0, none⟩) 1 1, .slice none 0 0, .slice none 0 0⟩ (sG p)).toArray) rfl (by kernel_rfl) (by kernel_rfl) (by kernel_rfl) (fun _ _ _ h => h) (yields_build_s (by rfl) _ rfl ⟨vR, .slice none 0 0, .slice (some ⟨X1.heap.size, 0, none⟩) 1 1, .slice none 0 0, .slice none 0 0⟩ (sG p) (by kernel_rfl)) hS ?_
          try simp only [Act.put, List.setIfInBounds_toArray, List.set_cons_zero, List.set_cons_succ]
          refine wpAnyH_ready (rs := [14]) (by kernel_rfl) (by simp) ?_
          refine AllReadyH.cons (o := { dst := some 117, op := Op.buildSlice 68 4 #[(0, Operand.tmp 106), (1, Operand.tmp 108), (2, Operand.tmp 114), (3, Operand.tmp 116)], type := 68, pos := "law.go:185", after := #[{ on := 3, ground := Ground.data }, { on := 5, ground := Ground.data }, { on := 11, ground := Ground.data }, { on := 13, ground := Ground.data }], guard := none }) rfl (fun K hK => ?_) AllReadyH.nil
          rw [if_pos (by rfl)]
          refine wp_build_sto4 (.tmp 106) (.tmp 108) (.tmp 114) (.tmp 116) rfl rfl rfl rfl rfl ?_
          have hbn : Below X3.heap.size X3 (X3.alloc (.cells (stoFlat [(f1, sP p s), (⟨.slice none 0 0, .slice (some ⟨eD, 0, none⟩) 1 1, .slice none 0 0, .slice none 0 0, .slice none 0 0⟩, sDl p), (⟨vR, .slice none 0 0, .slice (some ⟨X1.heap.size, 0, none⟩) 1 1, .slice none 0 0, .slice none 0 0⟩, sG p), (⟨.slice none 0 0, .slice none 0 0, .slice none 0 0, .slice none 0 0, .slice none 0 0⟩, sL)]).toArray 87)) := (Below.refl _ _).alloc (Nat.le_refl _) _
          have hon : One X3.heap.size (stoFlat [(f1, sP p s), (⟨.slice none 0 0, .slice (some ⟨eD, 0, none⟩) 1 1, .slice none 0 0, .slice none 0 0, .slice none 0 0⟩, sDl p), (⟨vR, .slice none 0 0, .slice (some ⟨X1.heap.size, 0, none⟩) 1 1, .slice none 0 0, .slice none 0 0⟩, sG p), (⟨.slice none 0 0, .slice none 0 0, .slice none 0 0, .slice none 0 0, .slice none 0 0⟩, sL)]).toArray (X3.alloc (.cells (stoFlat [(f1, sP p s), (⟨.slice none 0 0, .slice (some ⟨eD, 0, none⟩) 1 1, .slice none 0 0, .slice none 0 0, .slice none 0 0⟩, sDl p), (⟨vR, .slice none 0 0, .slice (some ⟨X1.heap.size, 0, none⟩) 1 1, .slice none 0 0, .slice none 0 0⟩, sG p), (⟨.slice none 0 0, .slice none 0 0, .slice none 0 0, .slice none 0 0, .slice none 0 0⟩, sL)]).toArray 87)) := One.of _ _ _
          generalize X3.alloc (.cells (stoFlat [(f1, sP p s), (⟨.slice none 0 0, .slice (some ⟨eD, 0, none⟩) 1 1, .slice none 0 0, .slice none 0 0, .slice none 0 0⟩, sDl p), (⟨vR, .slice none 0 0, .slice (some ⟨X1.heap.size, 0, none⟩) 1 1, .slice none 0 0, .slice none 0 0⟩, sG p), (⟨.slice none 0 0, .slice none 0 0, .slice none 0 0, .slice none 0 0, .slice none 0 0⟩, sL)]).toArray 87) = X4 at hbn hon ⊢
          have HS4 := Lib.hid (HS3.out.trans (hbn.mono HS3.out.size))
          replace HG := Lib.hid (HG.out.step hbn)
          replace HR := Lib.hid (HR.out.below hbn (Nat.le_refl _))
          have HO14 := Lib.hid hon
          clear hon
          refine hK.out _ _ HS4 (fun hS => ?_)
          clear hK hbn K
          try simp only [Act.put, List.setIfInBounds_toArray, List.set_cons_zero, List.set_cons_succ]
          refine wpAnyH_ready (rs := [15]) (by kernel_rfl) (by simp) ?_
          refine AllReadyH.cons (o := { dst := some 118, op := Op.call { callee := Callee.builtin Builtin.append, args := #[Operand.tmp 103, Operand.tmp 117], argTypes := #[68, 68] }, type := 68, pos := "law.go:185", after := #[{ on := 0, ground := Ground.data }, { on := 14, ground := Ground.data }, { on := 7, ground := Ground.chain }], guard := none }) rfl (fun K hK => ?_) AllReadyH.nil
          rw [if_pos (by rfl)]
          refine wp_append_sto4 (.tmp 103) (.tmp 117) rfl (X0.heap.size) (X3.heap.size) rfl [(f1, sP p s), (⟨.slice none 0 0, .slice (some ⟨eD, 0, none⟩) 1 1, .slice none 0 0, .slice none 0 0, .slice none 0 0⟩, sDl p), (⟨vR, .slice none 0 0, .slice (some ⟨X1.heap.size, 0, none⟩) 1 1, .slice none 0 0, .slice none 0 0⟩, sG p), (⟨.slice none 0 0, .slice none 0 0, .slice none 0 0, .slice none 0 0, .slice none 0 0⟩, sL)] rfl rfl HO14.out ?_ ?_
          · intro x hx
            simp only [List.mem_cons, List.not_mem_nil, or_false] at hx
            rcases hx with rfl | rfl | rfl | rfl
            · exact (HF1.out.below HB9.out (Nat.le_refl _)).below HS4.out (Nat.le_refl _)
            · exact ⟨⟨IsRds.nil _, IsEdts.one (HED.out.step HS4.out) 1⟩, ⟨none, 0, rfl, Or.inl rfl⟩, IsNums.none _, IsStrs.nil _⟩
            · exact ⟨⟨HR.out, ⟨none, 0, rfl, Or.inl rfl⟩⟩, IsGots.one (g := ⟨dV, 3⟩) HG.out, IsNums.none _, IsStrs.nil _⟩
            · exact ⟨⟨IsRds.nil _, ⟨none, 0, rfl, Or.inl rfl⟩⟩, ⟨none, 0, rfl, Or.inl rfl⟩, IsNums.none _, IsStrs.nil _⟩
          intro vX X5 hX hbn
          have HS5 := Lib.hid (HS4.out.trans (hbn.mono HS4.out.size))
          have HX := Lib.hid hX
          clear hX
          refine hK.out _ _ HS5 (fun hS => ?_)
          clear hK hbn K
          try simp only [Act.put, List.setIfInBounds_toArray, List.set_cons_zero, List.set_cons_succ]
          refine wpAnyH_take (i := 16) (oi := { dst := some 15, op := Op.assign (Operand.tmp 118), type := 68, pos := "law.go:185", after := #[{ on := 15, ground := Ground.data }, { on := 15, ground := Ground.chain }, { on := 0, ground := Ground.phase }, { on := 1, ground := Ground.phase }, { on := 2, ground := Ground.phase }, { on := 3, ground := Ground.phase }, { on := 4, ground := Ground.phase }, { on := 5, ground := Ground.phase }, { on := 6, ground := Ground.phase }, { on := 7, ground := Ground.phase }, { on := 8, ground := Ground.phase }, { on := 9, ground := Ground.phase }, { on := 10, ground := Ground.phase }, { on := 11, ground := Ground.phase }, { on := 12, ground := Ground.phase }, { on := 13, ground := Ground.phase }, { on := 14, ground := Ground.phase }, { on := 15, ground := Ground.phase }], guard := none }) (v := vX) rfl (by kernel_rfl) (by kernel_rfl) (by kernel_rfl) (fun _ _ _ h => h) (Or.inl ⟨by rfl, fun w' hw => ?_⟩) hS ?_
          · go_simp
          try simp only [Act.put, List.setIfInBounds_toArray, List.set_cons_zero, List.set_cons_succ]
          refine wpAnyH_done (by kernel_rfl) ?_ _
          clear hS
          have HBX : Hid (Below w.heap.size w X5) := Lib.hid (HBW9.out.trans (HS5.out.mono HBW9.out.size))
          go_wp2_with fail
          refine (check_any [sP p s, sDl p, sG p, sL] vX X5 HX.out (by simp) HZ4.out (HM.out.below HBX.out (Nat.le_refl _))).mono ?_
          rintro e wY ⟨rfl, hbY⟩
          rw [check_four HMP.out hs2]
          have HBY := Lib.hid (HBX.out.trans (hbY.mono HBX.out.size))
          clear hbY
          unfold vdVal
          dsimp only
          have hfd := field_vd
          go_wp2_with fail
          refine (law_alive wY (HM.out.below HBY.out (Nat.le_refl _))).mono ?_
          rintro e wZ ⟨rfl, hbZ⟩
          have HBZ := Lib.hid (HBY.out.trans (hbZ.mono HBY.out.size))
          clear hbZ
          go_wp2_with fail
          exact bodyPost_ret (v := .bool true) (by simp [results, Tryz.results7, go_sem]) rfl ⟨rfl, HBZ.out⟩
        refine AllReadyH.cons (o := { dst := some 110, op := Op.call { callee := Callee.value (Operand.func 37), args := #[Operand.tmp 109], argTypes := #[9] }, type := 80, pos := "law.go:185", after := #[{ on := 6, ground := Ground.data }], guard := none }) rfl (fun K hK => ?_) ?_
        · rw [if_pos (by rfl)]
          go_simp
          refine (law_get p X0).mono ?_
          rintro e X1 ⟨vR, rfl, hR, hbn⟩
          unfold calVal getL
          go_wp2_with fail
          have HS1 := Lib.hid (HS0.out.trans (hbn.mono HS0.out.size))
          have HR := Lib.hid hR
          clear hR
          refine hK.out _ _ HS1 (fun hS => ?_)
          clear hK hbn K
          try simp only [Act.put, List.setIfInBounds_toArray, List.set_cons_zero, List.set_cons_succ]
          refine wpAnyH_ready (rs := [0, 9]) (by kernel_rfl) (by simp) ?_
          refine AllReadyH.cons (o := { dst := some 103, op := Op.buildSlice 68 0 #[], type := 68, pos := "law.go:185", after := #[], guard := none }) rfl (fun K hK => ?_) ?_
          · rw [if_pos (by rfl)]
            refine wp_build_sto0 rfl ?_
            have hbn : Below X1.heap.size X1 (X1.alloc (.cells #[] 87)) := (Below.refl _ _).alloc (Nat.le_refl _) _
            generalize X1.alloc (.cells #[] 87) = X2 at hbn ⊢
            have HS2 := Lib.hid (HS1.out.trans (hbn.mono HS1.out.size))
            replace HR := Lib.hid (HR.out.below hbn (Nat.le_refl _))
            refine hK.out _ _ HS2 (fun hS => ?_)
            clear hK hbn K
            try simp only [Act.put, List.setIfInBounds_toArray, List.set_cons_zero, List.set_cons_succ]
            refine wpAnyH_ready (rs := [9]) (by kernel_rfl) (by simp) ?_
            refine AllReadyH.cons (o := { dst := some 112, op := Op.buildSlice 83 1 #[(0, Operand.tmp 111)], type := 83, pos := "law.go:185", after := #[{ on := 8, ground := Ground.data }], guard := none }) rfl (fun K hK => ?_) AllReadyH.nil
            rw [if_pos (by rfl)]
            go_simp
            have hbn : Below X2.heap.size X2 (X2.alloc (.cells #[.int .u64 0, .int .u8 0, .string ⟨#[]⟩, .int .i64 3] 97)) := (Below.refl _ _).alloc (Nat.le_refl _) _
            have hon : One X2.heap.size #[.int .u64 0, .int .u8 0, .string ⟨#[]⟩, .int .i64 3] (X2.alloc (.cells #[.int .u64 0, .int .u8 0, .string ⟨#[]⟩, .int .i64 3] 97)) := One.of _ _ _
            generalize X2.alloc (.cells #[.int .u64 0, .int .u8 0, .string ⟨#[]⟩, .int .i64 3] 97) = X3 at hbn hon ⊢
            have HS3 := Lib.hid (HS2.out.trans (hbn.mono HS2.out.size))
            replace HR := Lib.hid (HR.out.below hbn (Nat.le_refl _))
            have HG := Lib.hid hon
            clear hon
            refine hK.out _ _ HS3 (fun hS => ?_)
            clear hK hbn K
            try simp only [Act.put, List.setIfInBounds_toArray, List.set_cons_zero, List.set_cons_succ]
            refine wpAnyH_take (i := 10) (oi := { dst := some 113, op := Op.build 85 #[(0, Operand.tmp 112)], type := 85, pos := "law.go:185", after := #[{ on := 9, ground := Ground.data }], guard := none }) (v := .agg #[.slice (some ⟨X2.heap.size, 0, none⟩) 1 1, .slice none 0 0, .slice none 0 0]) rfl (by kernel_rfl) (by kernel_rfl) (by kernel_rfl) (fun _ _ _ h => h) (Or.inl ⟨by rfl, fun w' hw => ?_⟩) hS ?_
            · go_simp
            try simp only [Act.put, List.setIfInBounds_toArray, List.set_cons_zero, List.set_cons_succ]
            refine wpAnyH_take (i := 11) (oi := { dst := some 114, op := Op.build 87 #[(1, Operand.tmp 110), (2, Operand.const (Value.int IntKind.i64 4)), (3, Operand.const (Value.int IntKind.i64 5)), (6, Operand.const (Value.int IntKind.i64 4)), (8, Operand.tmp 113)], type := 87, pos := "law.go:185", after := #[{ on := 7, ground := Ground.data }, { on := 10, ground := Ground.data }], guard := none }) (v := .agg (stoCells ⟨vR, .slice none 0 0, .slice (some ⟨X2.heap.size, 0, none⟩) 1 1, .slice none 0 0, .slice none 0 0⟩ (sG p)).toArray) rfl (by kernel_rfl) (by kernel_rfl) (by kernel_rfl) (fun _ _ _ h => h) (yields_build_s (by rfl) _ rfl ⟨vR, .slice none 0 0, .slice (some ⟨X2.heap.size, 0, none⟩) 1 1, .slice none 0 0, .slice none 0 0⟩ (sG p) (by kernel_rfl)) hS ?_
            try simp only [Act.put, List.setIfInBounds_toArray, List.set_cons_zero, List.set_cons_succ]
            refine wpAnyH_ready (rs := [14]) (by kernel_rfl) (by simp) ?_
            refine AllReadyH.cons (o := { dst := some 117, op := Op.buildSlice 68 4 #[(0, Operand.tmp 106), (1, Operand.tmp 108), (2, Operand.tmp 114), (3, Operand.tmp 116)], type := 68, pos := "law.go:185", after := #[{ on := 3, ground := Ground.data }, { on := 5, ground := Ground.data }, { on := 11, ground := Ground.data }, { on := 13, ground := Ground.data }], guard := none }) rfl (fun K hK => ?_) AllReadyH.nil
            rw [if_pos (by rfl)]
            refine wp_build_sto4 (.tmp 106) (.tmp 108) (.tmp 114) (.tmp 116) rfl rfl rfl rfl rfl ?_
            have hbn : Below X3.heap.size X3 (X3.alloc (.cells (stoFlat [(f1, sP p s), (⟨.slice none 0 0, .slice (some ⟨eD, 0, none⟩) 1 1, .slice none 0 0, .slice none 0 0, .slice none 0 0⟩, sDl p), (⟨vR, .slice none 0 0, .slice (some ⟨X2.heap.size, 0, none⟩) 1 1, .slice none 0 0, .slice none 0 0⟩, sG p), (⟨.slice none 0 0, .slice none 0 0, .slice none 0 0, .slice none 0 0, .slice none 0 0⟩, sL)]).toArray 87)) := (Below.refl _ _).alloc (Nat.le_refl _) _
            have hon : One X3.heap.size (stoFlat [(f1, sP p s), (⟨.slice none 0 0, .slice (some ⟨eD, 0, none⟩) 1 1, .slice none 0 0, .slice none 0 0, .slice none 0 0⟩, sDl p), (⟨vR, .slice none 0 0, .slice (some ⟨X2.heap.size, 0, none⟩) 1 1, .slice none 0 0, .slice none 0 0⟩, sG p), (⟨.slice none 0 0, .slice none 0 0, .slice none 0 0, .slice none 0 0, .slice none 0 0⟩, sL)]).toArray (X3.alloc (.cells (stoFlat [(f1, sP p s), (⟨.slice none 0 0, .slice (some ⟨eD, 0, none⟩) 1 1, .slice none 0 0, .slice none 0 0, .slice none 0 0⟩, sDl p), (⟨vR, .slice none 0 0, .slice (some ⟨X2.heap.size, 0, none⟩) 1 1, .slice none 0 0, .slice none 0 0⟩, sG p), (⟨.slice none 0 0, .slice none 0 0, .slice none 0 0, .slice none 0 0, .slice none 0 0⟩, sL)]).toArray 87)) := One.of _ _ _
            generalize X3.alloc (.cells (stoFlat [(f1, sP p s), (⟨.slice none 0 0, .slice (some ⟨eD, 0, none⟩) 1 1, .slice none 0 0, .slice none 0 0, .slice none 0 0⟩, sDl p), (⟨vR, .slice none 0 0, .slice (some ⟨X2.heap.size, 0, none⟩) 1 1, .slice none 0 0, .slice none 0 0⟩, sG p), (⟨.slice none 0 0, .slice none 0 0, .slice none 0 0, .slice none 0 0, .slice none 0 0⟩, sL)]).toArray 87) = X4 at hbn hon ⊢
            have HS4 := Lib.hid (HS3.out.trans (hbn.mono HS3.out.size))
            replace HR := Lib.hid (HR.out.below hbn (Nat.le_refl _))
            replace HG := Lib.hid (HG.out.step hbn)
            have HO14 := Lib.hid hon
            clear hon
            refine hK.out _ _ HS4 (fun hS => ?_)
            clear hK hbn K
            try simp only [Act.put, List.setIfInBounds_toArray, List.set_cons_zero, List.set_cons_succ]
            refine wpAnyH_ready (rs := [15]) (by kernel_rfl) (by simp) ?_
            refine AllReadyH.cons (o := { dst := some 118, op := Op.call { callee := Callee.builtin Builtin.append, args := #[Operand.tmp 103, Operand.tmp 117], argTypes := #[68, 68] }, type := 68, pos := "law.go:185", after := #[{ on := 0, ground := Ground.data }, { on := 14, ground := Ground.data }, { on := 7, ground := Ground.chain }], guard := none }) rfl (fun K hK => ?_) AllReadyH.nil
            rw [if_pos (by rfl)]
            refine wp_append_sto4 (.tmp 103) (.tmp 117) rfl (X1.heap.size) (X3.heap.size) rfl [(f1, sP p s), (⟨.slice none 0 0, .slice (some ⟨eD, 0, none⟩) 1 1, .slice none 0 0, .slice none 0 0, .slice none 0 0⟩, sDl p), (⟨vR, .slice none 0 0, .slice (some ⟨X2.heap.size, 0, none⟩) 1 1, .slice none 0 0, .slice none 0 0⟩, sG p), (⟨.slice none 0 0, .slice none 0 0, .slice none 0 0, .slice none 0 0, .slice none 0 0⟩, sL)] rfl rfl HO14.out ?_ ?_
            · intro x hx
              simp only [List.mem_cons, List.not_mem_nil, or_false] at hx
              rcases hx with rfl | rfl | rfl | rfl
              · exact (HF1.out.below HB9.out (Nat.le_refl _)).below HS4.out (Nat.le_refl _)
              · exact ⟨⟨IsRds.nil _, IsEdts.one (HED.out.step HS4.out) 1⟩, ⟨none, 0, rfl, Or.inl rfl⟩, IsNums.none _, IsStrs.nil _⟩
              · exact ⟨⟨HR.out, ⟨none, 0, rfl, Or.inl rfl⟩⟩, IsGots.one (g := ⟨dV, 3⟩) HG.out, IsNums.none _, IsStrs.nil _⟩
              · exact ⟨⟨IsRds.nil _, ⟨none, 0, rfl, Or.inl rfl⟩⟩, ⟨none, 0, rfl, Or.inl rfl⟩, IsNums.none _, IsStrs.nil _⟩
            intro vX X5 hX hbn
            have HS5 := Lib.hid (HS4.out.trans (hbn.mono HS4.out.size))
            have HX := Lib.hid hX
            clear hX
            refine hK.out _ _ HS5 (fun hS => ?_)
            clear hK hbn K
            try simp only [Act.put, List.setIfInBounds_toArray, List.set_cons_zero, List.set_cons_succ]
            refine wpAnyH_take (i := 16) (oi := { dst := some 15, op := Op.assign (Operand.tmp 118), type := 68, pos := "law.go:185", after := #[{ on := 15, ground := Ground.data }, { on := 15, ground := Ground.chain }, { on := 0, ground := Ground.phase }, { on := 1, ground := Ground.phase }, { on := 2, ground := Ground.phase }, { on := 3, ground := Ground.phase }, { on := 4, ground := Ground.phase }, { on := 5, ground := Ground.phase }, { on := 6, ground := Ground.phase }, { on := 7, ground := Ground.phase }, { on := 8, ground := Ground.phase }, { on := 9, ground := Ground.phase }, { on := 10, ground := Ground.phase }, { on := 11, ground := Ground.phase }, { on := 12, ground := Ground.phase }, { on := 13, ground := Ground.phase }, { on := 14, ground := Ground.phase }, { on := 15, ground := Ground.phase }], guard := none }) (v := vX) rfl (by kernel_rfl) (by kernel_rfl) (by kernel_rfl) (fun _ _ _ h => h) (Or.inl ⟨by rfl, fun w' hw => ?_⟩) hS ?_
            · go_simp
            try simp only [Act.put, List.setIfInBounds_toArray, List.set_cons_zero, List.set_cons_succ]
            refine wpAnyH_done (by kernel_rfl) ?_ _
            clear hS
            have HBX : Hid (Below w.heap.size w X5) := Lib.hid (HBW9.out.trans (HS5.out.mono HBW9.out.size))
            go_wp2_with fail
            refine (check_any [sP p s, sDl p, sG p, sL] vX X5 HX.out (by simp) HZ4.out (HM.out.below HBX.out (Nat.le_refl _))).mono ?_
            rintro e wY ⟨rfl, hbY⟩
            rw [check_four HMP.out hs2]
            have HBY := Lib.hid (HBX.out.trans (hbY.mono HBX.out.size))
            clear hbY
            unfold vdVal
            dsimp only
            have hfd := field_vd
            go_wp2_with fail
            refine (law_alive wY (HM.out.below HBY.out (Nat.le_refl _))).mono ?_
            rintro e wZ ⟨rfl, hbZ⟩
            have HBZ := Lib.hid (HBY.out.trans (hbZ.mono HBY.out.size))
            clear hbZ
            go_wp2_with fail
            exact bodyPost_ret (v := .bool true) (by simp [results, Tryz.results7, go_sem]) rfl ⟨rfl, HBZ.out⟩
          refine AllReadyH.cons (o := { dst := some 112, op := Op.buildSlice 83 1 #[(0, Operand.tmp 111)], type := 83, pos := "law.go:185", after := #[{ on := 8, ground := Ground.data }], guard := none }) rfl (fun K hK => ?_) AllReadyH.nil
          rw [if_pos (by rfl)]
          go_simp
          have hbn : Below X1.heap.size X1 (X1.alloc (.cells #[.int .u64 0, .int .u8 0, .string ⟨#[]⟩, .int .i64 3] 97)) := (Below.refl _ _).alloc (Nat.le_refl _) _
          have hon : One X1.heap.size #[.int .u64 0, .int .u8 0, .string ⟨#[]⟩, .int .i64 3] (X1.alloc (.cells #[.int .u64 0, .int .u8 0, .string ⟨#[]⟩, .int .i64 3] 97)) := One.of _ _ _
          generalize X1.alloc (.cells #[.int .u64 0, .int .u8 0, .string ⟨#[]⟩, .int .i64 3] 97) = X2 at hbn hon ⊢
          have HS2 := Lib.hid (HS1.out.trans (hbn.mono HS1.out.size))
          replace HR := Lib.hid (HR.out.below hbn (Nat.le_refl _))
          have HG := Lib.hid hon
          clear hon
          refine hK.out _ _ HS2 (fun hS => ?_)
          clear hK hbn K
          try simp only [Act.put, List.setIfInBounds_toArray, List.set_cons_zero, List.set_cons_succ]
          refine wpAnyH_take (i := 10) (oi := { dst := some 113, op := Op.build 85 #[(0, Operand.tmp 112)], type := 85, pos := "law.go:185", after := #[{ on := 9, ground := Ground.data }], guard := none }) (v := .agg #[.slice (some ⟨X1.heap.size, 0, none⟩) 1 1, .slice none 0 0, .slice none 0 0]) rfl (by kernel_rfl) (by kernel_rfl) (by kernel_rfl) (fun _ _ _ h => h) (Or.inl ⟨by rfl, fun w' hw => ?_⟩) hS ?_
          · go_simp
          try simp only [Act.put, List.setIfInBounds_toArray, List.set_cons_zero, List.set_cons_succ]
          refine wpAnyH_take (i := 11) (oi := { dst := some 114, op := Op.build 87 #[(1, Operand.tmp 110), (2, Operand.const (Value.int IntKind.i64 4)), (3, Operand.const (Value.int IntKind.i64 5)), (6, Operand.const (Value.int IntKind.i64 4)), (8, Operand.tmp 113)], type := 87, pos := "law.go:185", after := #[{ on := 7, ground := Ground.data }, { on := 10, ground := Ground.data }], guard := none }) (v := .agg (stoCells ⟨vR, .slice none 0 0, .slice (some ⟨X1.heap.size, 0, none⟩) 1 1, .slice none 0 0, .slice none 0 0⟩ (sG p)).toArray) rfl (by kernel_rfl) (by kernel_rfl) (by kernel_rfl) (fun _ _ _ h => h) (yields_build_s (by rfl) _ rfl ⟨vR, .slice none 0 0, .slice (some ⟨X1.heap.size, 0, none⟩) 1 1, .slice none 0 0, .slice none 0 0⟩ (sG p) (by kernel_rfl)) hS ?_
          try simp only [Act.put, List.setIfInBounds_toArray, List.set_cons_zero, List.set_cons_succ]
          refine wpAnyH_ready (rs := [0, 14]) (by kernel_rfl) (by simp) ?_
          refine AllReadyH.cons (o := { dst := some 103, op := Op.buildSlice 68 0 #[], type := 68, pos := "law.go:185", after := #[], guard := none }) rfl (fun K hK => ?_) ?_
          · rw [if_pos (by rfl)]
            refine wp_build_sto0 rfl ?_
            have hbn : Below X2.heap.size X2 (X2.alloc (.cells #[] 87)) := (Below.refl _ _).alloc (Nat.le_refl _) _
            generalize X2.alloc (.cells #[] 87) = X3 at hbn ⊢
            have HS3 := Lib.hid (HS2.out.trans (hbn.mono HS2.out.size))
            replace HR := Lib.hid (HR.out.below hbn (Nat.le_refl _))
            replace HG := Lib.hid (HG.out.step hbn)
            refine hK.out _ _ HS3 (fun hS => ?_)
            clear hK hbn K
            try simp only [Act.put, List.setIfInBounds_toArray, List.set_cons_zero, List.set_cons_succ]
            refine wpAnyH_ready (rs := [14]) (by kernel_rfl) (by simp) ?_
            refine AllReadyH.cons (o := { dst := some 117, op := Op.buildSlice 68 4 #[(0, Operand.tmp 106), (1, Operand.tmp 108), (2, Operand.tmp 114), (3, Operand.tmp 116)], type := 68, pos := "law.go:185", after := #[{ on := 3, ground := Ground.data }, { on := 5, ground := Ground.data }, { on := 11, ground := Ground.data }, { on := 13, ground := Ground.data }], guard := none }) rfl (fun K hK => ?_) AllReadyH.nil
            rw [if_pos (by rfl)]
            refine wp_build_sto4 (.tmp 106) (.tmp 108) (.tmp 114) (.tmp 116) rfl rfl rfl rfl rfl ?_
            have hbn : Below X3.heap.size X3 (X3.alloc (.cells (stoFlat [(f1, sP p s), (⟨.slice none 0 0, .slice (some ⟨eD, 0, none⟩) 1 1, .slice none 0 0, .slice none 0 0, .slice none 0 0⟩, sDl p), (⟨vR, .slice none 0 0, .slice (some ⟨X1.heap.size, 0, none⟩) 1 1, .slice none 0 0, .slice none 0 0⟩, sG p), (⟨.slice none 0 0, .slice none 0 0, .slice none 0 0, .slice none 0 0, .slice none 0 0⟩, sL)]).toArray 87)) := (Below.refl _ _).alloc (Nat.le_refl _) _
            have hon : One X3.heap.size (stoFlat [(f1, sP p s), (⟨.slice none 0 0, .slice (some ⟨eD, 0, none⟩) 1 1, .slice none 0 0, .slice none 0 0, .slice none 0 0⟩, sDl p), (⟨vR, .slice none 0 0, .slice (some ⟨X1.heap.size, 0, none⟩) 1 1, .slice none 0 0, .slice none 0 0⟩, sG p), (⟨.slice none 0 0, .slice none 0 0, .slice none 0 0, .slice none 0 0, .slice none 0 0⟩, sL)]).toArray (X3.alloc (.cells (stoFlat [(f1, sP p s), (⟨.slice none 0 0, .slice (some ⟨eD, 0, none⟩) 1 1, .slice none 0 0, .slice none 0 0, .slice none 0 0⟩, sDl p), (⟨vR, .slice none 0 0, .slice (some ⟨X1.heap.size, 0, none⟩) 1 1, .slice none 0 0, .slice none 0 0⟩, sG p), (⟨.slice none 0 0, .slice none 0 0, .slice none 0 0, .slice none 0 0, .slice none 0 0⟩, sL)]).toArray 87)) := One.of _ _ _
            generalize X3.alloc (.cells (stoFlat [(f1, sP p s), (⟨.slice none 0 0, .slice (some ⟨eD, 0, none⟩) 1 1, .slice none 0 0, .slice none 0 0, .slice none 0 0⟩, sDl p), (⟨vR, .slice none 0 0, .slice (some ⟨X1.heap.size, 0, none⟩) 1 1, .slice none 0 0, .slice none 0 0⟩, sG p), (⟨.slice none 0 0, .slice none 0 0, .slice none 0 0, .slice none 0 0, .slice none 0 0⟩, sL)]).toArray 87) = X4 at hbn hon ⊢
            have HS4 := Lib.hid (HS3.out.trans (hbn.mono HS3.out.size))
            replace HR := Lib.hid (HR.out.below hbn (Nat.le_refl _))
            replace HG := Lib.hid (HG.out.step hbn)
            have HO14 := Lib.hid hon
            clear hon
            refine hK.out _ _ HS4 (fun hS => ?_)
            clear hK hbn K
            try simp only [Act.put, List.setIfInBounds_toArray, List.set_cons_zero, List.set_cons_succ]
            refine wpAnyH_ready (rs := [15]) (by kernel_rfl) (by simp) ?_
            refine AllReadyH.cons (o := { dst := some 118, op := Op.call { callee := Callee.builtin Builtin.append, args := #[Operand.tmp 103, Operand.tmp 117], argTypes := #[68, 68] }, type := 68, pos := "law.go:185", after := #[{ on := 0, ground := Ground.data }, { on := 14, ground := Ground.data }, { on := 7, ground := Ground.chain }], guard := none }) rfl (fun K hK => ?_) AllReadyH.nil
            rw [if_pos (by rfl)]
            refine wp_append_sto4 (.tmp 103) (.tmp 117) rfl (X2.heap.size) (X3.heap.size) rfl [(f1, sP p s), (⟨.slice none 0 0, .slice (some ⟨eD, 0, none⟩) 1 1, .slice none 0 0, .slice none 0 0, .slice none 0 0⟩, sDl p), (⟨vR, .slice none 0 0, .slice (some ⟨X1.heap.size, 0, none⟩) 1 1, .slice none 0 0, .slice none 0 0⟩, sG p), (⟨.slice none 0 0, .slice none 0 0, .slice none 0 0, .slice none 0 0, .slice none 0 0⟩, sL)] rfl rfl HO14.out ?_ ?_
            · intro x hx
              simp only [List.mem_cons, List.not_mem_nil, or_false] at hx
              rcases hx with rfl | rfl | rfl | rfl
              · exact (HF1.out.below HB9.out (Nat.le_refl _)).below HS4.out (Nat.le_refl _)
              · exact ⟨⟨IsRds.nil _, IsEdts.one (HED.out.step HS4.out) 1⟩, ⟨none, 0, rfl, Or.inl rfl⟩, IsNums.none _, IsStrs.nil _⟩
              · exact ⟨⟨HR.out, ⟨none, 0, rfl, Or.inl rfl⟩⟩, IsGots.one (g := ⟨dV, 3⟩) HG.out, IsNums.none _, IsStrs.nil _⟩
              · exact ⟨⟨IsRds.nil _, ⟨none, 0, rfl, Or.inl rfl⟩⟩, ⟨none, 0, rfl, Or.inl rfl⟩, IsNums.none _, IsStrs.nil _⟩
            intro vX X5 hX hbn
            have HS5 := Lib.hid (HS4.out.trans (hbn.mono HS4.out.size))
            have HX := Lib.hid hX
            clear hX
            refine hK.out _ _ HS5 (fun hS => ?_)
            clear hK hbn K
            try simp only [Act.put, List.setIfInBounds_toArray, List.set_cons_zero, List.set_cons_succ]
            refine wpAnyH_take (i := 16) (oi := { dst := some 15, op := Op.assign (Operand.tmp 118), type := 68, pos := "law.go:185", after := #[{ on := 15, ground := Ground.data }, { on := 15, ground := Ground.chain }, { on := 0, ground := Ground.phase }, { on := 1, ground := Ground.phase }, { on := 2, ground := Ground.phase }, { on := 3, ground := Ground.phase }, { on := 4, ground := Ground.phase }, { on := 5, ground := Ground.phase }, { on := 6, ground := Ground.phase }, { on := 7, ground := Ground.phase }, { on := 8, ground := Ground.phase }, { on := 9, ground := Ground.phase }, { on := 10, ground := Ground.phase }, { on := 11, ground := Ground.phase }, { on := 12, ground := Ground.phase }, { on := 13, ground := Ground.phase }, { on := 14, ground := Ground.phase }, { on := 15, ground := Ground.phase }], guard := none }) (v := vX) rfl (by kernel_rfl) (by kernel_rfl) (by kernel_rfl) (fun _ _ _ h => h) (Or.inl ⟨by rfl, fun w' hw => ?_⟩) hS ?_
            · go_simp
            try simp only [Act.put, List.setIfInBounds_toArray, List.set_cons_zero, List.set_cons_succ]
            refine wpAnyH_done (by kernel_rfl) ?_ _
            clear hS
            have HBX : Hid (Below w.heap.size w X5) := Lib.hid (HBW9.out.trans (HS5.out.mono HBW9.out.size))
            go_wp2_with fail
            refine (check_any [sP p s, sDl p, sG p, sL] vX X5 HX.out (by simp) HZ4.out (HM.out.below HBX.out (Nat.le_refl _))).mono ?_
            rintro e wY ⟨rfl, hbY⟩
            rw [check_four HMP.out hs2]
            have HBY := Lib.hid (HBX.out.trans (hbY.mono HBX.out.size))
            clear hbY
            unfold vdVal
            dsimp only
            have hfd := field_vd
            go_wp2_with fail
            refine (law_alive wY (HM.out.below HBY.out (Nat.le_refl _))).mono ?_
            rintro e wZ ⟨rfl, hbZ⟩
            have HBZ := Lib.hid (HBY.out.trans (hbZ.mono HBY.out.size))
            clear hbZ
            go_wp2_with fail
            exact bodyPost_ret (v := .bool true) (by simp [results, Tryz.results7, go_sem]) rfl ⟨rfl, HBZ.out⟩
          refine AllReadyH.cons (o := { dst := some 117, op := Op.buildSlice 68 4 #[(0, Operand.tmp 106), (1, Operand.tmp 108), (2, Operand.tmp 114), (3, Operand.tmp 116)], type := 68, pos := "law.go:185", after := #[{ on := 3, ground := Ground.data }, { on := 5, ground := Ground.data }, { on := 11, ground := Ground.data }, { on := 13, ground := Ground.data }], guard := none }) rfl (fun K hK => ?_) AllReadyH.nil
          rw [if_pos (by rfl)]
          refine wp_build_sto4 (.tmp 106) (.tmp 108) (.tmp 114) (.tmp 116) rfl rfl rfl rfl rfl ?_
          have hbn : Below X2.heap.size X2 (X2.alloc (.cells (stoFlat [(f1, sP p s), (⟨.slice none 0 0, .slice (some ⟨eD, 0, none⟩) 1 1, .slice none 0 0, .slice none 0 0, .slice none 0 0⟩, sDl p), (⟨vR, .slice none 0 0, .slice (some ⟨X1.heap.size, 0, none⟩) 1 1, .slice none 0 0, .slice none 0 0⟩, sG p), (⟨.slice none 0 0, .slice none 0 0, .slice none 0 0, .slice none 0 0, .slice none 0 0⟩, sL)]).toArray 87)) := (Below.refl _ _).alloc (Nat.le_refl _) _
          have hon : One X2.heap.size (stoFlat [(f1, sP p s), (⟨.slice none 0 0, .slice (some ⟨eD, 0, none⟩) 1 1, .slice none 0 0, .slice none 0 0, .slice none 0 0⟩, sDl p), (⟨vR, .slice none 0 0, .slice (some ⟨X1.heap.size, 0, none⟩) 1 1, .slice none 0 0, .slice none 0 0⟩, sG p), (⟨.slice none 0 0, .slice none 0 0, .slice none 0 0, .slice none 0 0, .slice none 0 0⟩, sL)]).toArray (X2.alloc (.cells (stoFlat [(f1, sP p s), (⟨.slice none 0 0, .slice (some ⟨eD, 0, none⟩) 1 1, .slice none 0 0, .slice none 0 0, .slice none 0 0⟩, sDl p), (⟨vR, .slice none 0 0, .slice (some ⟨X1.heap.size, 0, none⟩) 1 1, .slice none 0 0, .slice none 0 0⟩, sG p), (⟨.slice none 0 0, .slice none 0 0, .slice none 0 0, .slice none 0 0, .slice none 0 0⟩, sL)]).toArray 87)) := One.of _ _ _
          generalize X2.alloc (.cells (stoFlat [(f1, sP p s), (⟨.slice none 0 0, .slice (some ⟨eD, 0, none⟩) 1 1, .slice none 0 0, .slice none 0 0, .slice none 0 0⟩, sDl p), (⟨vR, .slice none 0 0, .slice (some ⟨X1.heap.size, 0, none⟩) 1 1, .slice none 0 0, .slice none 0 0⟩, sG p), (⟨.slice none 0 0, .slice none 0 0, .slice none 0 0, .slice none 0 0, .slice none 0 0⟩, sL)]).toArray 87) = X3 at hbn hon ⊢
          have HS3 := Lib.hid (HS2.out.trans (hbn.mono HS2.out.size))
          replace HR := Lib.hid (HR.out.below hbn (Nat.le_refl _))
          replace HG := Lib.hid (HG.out.step hbn)
          have HO14 := Lib.hid hon
          clear hon
          refine hK.out _ _ HS3 (fun hS => ?_)
          clear hK hbn K
          try simp only [Act.put, List.setIfInBounds_toArray, List.set_cons_zero, List.set_cons_succ]
          refine wpAnyH_ready (rs := [0]) (by kernel_rfl) (by simp) ?_
          refine AllReadyH.cons (o := { dst := some 103, op := Op.buildSlice 68 0 #[], type := 68, pos := "law.go:185", after := #[], guard := none }) rfl (fun K hK => ?_) AllReadyH.nil
          rw [if_pos (by rfl)]
          refine wp_build_sto0 rfl ?_
          have hbn : Below X3.heap.size X3 (X3.alloc (.cells #[] 87)) := (Below.refl _ _).alloc (Nat.le_refl _) _
          generalize X3.alloc (.cells #[] 87) = X4 at hbn ⊢
          have HS4 := Lib.hid (HS3.out.trans (hbn.mono HS3.out.size))
          replace HR := Lib.hid (HR.out.below hbn (Nat.le_refl _))
          replace HG := Lib.hid (HG.out.step hbn)
          replace HO14 := Lib.hid (HO14.out.step hbn)
          refine hK.out _ _ HS4 (fun hS => ?_)
          clear hK hbn K
          try simp only [Act.put, List.setIfInBounds_toArray, List.set_cons_zero, List.set_cons_succ]
          refine wpAnyH_ready (rs := [15]) (by kernel_rfl) (by simp) ?_
          refine AllReadyH.cons (o := { dst := some 118, op := Op.call { callee := Callee.builtin Builtin.append, args := #[Operand.tmp 103, Operand.tmp 117], argTypes := #[68, 68] }, type := 68, pos := "law.go:185", after := #[{ on := 0, ground := Ground.data }, { on := 14, ground := Ground.data }, { on := 7, ground := Ground.chain }], guard := none }) rfl (fun K hK => ?_) AllReadyH.nil
          rw [if_pos (by rfl)]
          refine wp_append_sto4 (.tmp 103) (.tmp 117) rfl (X3.heap.size) (X2.heap.size) rfl [(f1, sP p s), (⟨.slice none 0 0, .slice (some ⟨eD, 0, none⟩) 1 1, .slice none 0 0, .slice none 0 0, .slice none 0 0⟩, sDl p), (⟨vR, .slice none 0 0, .slice (some ⟨X1.heap.size, 0, none⟩) 1 1, .slice none 0 0, .slice none 0 0⟩, sG p), (⟨.slice none 0 0, .slice none 0 0, .slice none 0 0, .slice none 0 0, .slice none 0 0⟩, sL)] rfl rfl HO14.out ?_ ?_
          · intro x hx
            simp only [List.mem_cons, List.not_mem_nil, or_false] at hx
            rcases hx with rfl | rfl | rfl | rfl
            · exact (HF1.out.below HB9.out (Nat.le_refl _)).below HS4.out (Nat.le_refl _)
            · exact ⟨⟨IsRds.nil _, IsEdts.one (HED.out.step HS4.out) 1⟩, ⟨none, 0, rfl, Or.inl rfl⟩, IsNums.none _, IsStrs.nil _⟩
            · exact ⟨⟨HR.out, ⟨none, 0, rfl, Or.inl rfl⟩⟩, IsGots.one (g := ⟨dV, 3⟩) HG.out, IsNums.none _, IsStrs.nil _⟩
            · exact ⟨⟨IsRds.nil _, ⟨none, 0, rfl, Or.inl rfl⟩⟩, ⟨none, 0, rfl, Or.inl rfl⟩, IsNums.none _, IsStrs.nil _⟩
          intro vX X5 hX hbn
          have HS5 := Lib.hid (HS4.out.trans (hbn.mono HS4.out.size))
          have HX := Lib.hid hX
          clear hX
          refine hK.out _ _ HS5 (fun hS => ?_)
          clear hK hbn K
          try simp only [Act.put, List.setIfInBounds_toArray, List.set_cons_zero, List.set_cons_succ]
          refine wpAnyH_take (i := 16) (oi := { dst := some 15, op := Op.assign (Operand.tmp 118), type := 68, pos := "law.go:185", after := #[{ on := 15, ground := Ground.data }, { on := 15, ground := Ground.chain }, { on := 0, ground := Ground.phase }, { on := 1, ground := Ground.phase }, { on := 2, ground := Ground.phase }, { on := 3, ground := Ground.phase }, { on := 4, ground := Ground.phase }, { on := 5, ground := Ground.phase }, { on := 6, ground := Ground.phase }, { on := 7, ground := Ground.phase }, { on := 8, ground := Ground.phase }, { on := 9, ground := Ground.phase }, { on := 10, ground := Ground.phase }, { on := 11, ground := Ground.phase }, { on := 12, ground := Ground.phase }, { on := 13, ground := Ground.phase }, { on := 14, ground := Ground.phase }, { on := 15, ground := Ground.phase }], guard := none }) (v := vX) rfl (by kernel_rfl) (by kernel_rfl) (by kernel_rfl) (fun _ _ _ h => h) (Or.inl ⟨by rfl, fun w' hw => ?_⟩) hS ?_
          · go_simp
          try simp only [Act.put, List.setIfInBounds_toArray, List.set_cons_zero, List.set_cons_succ]
          refine wpAnyH_done (by kernel_rfl) ?_ _
          clear hS
          have HBX : Hid (Below w.heap.size w X5) := Lib.hid (HBW9.out.trans (HS5.out.mono HBW9.out.size))
          go_wp2_with fail
          refine (check_any [sP p s, sDl p, sG p, sL] vX X5 HX.out (by simp) HZ4.out (HM.out.below HBX.out (Nat.le_refl _))).mono ?_
          rintro e wY ⟨rfl, hbY⟩
          rw [check_four HMP.out hs2]
          have HBY := Lib.hid (HBX.out.trans (hbY.mono HBX.out.size))
          clear hbY
          unfold vdVal
          dsimp only
          have hfd := field_vd
          go_wp2_with fail
          refine (law_alive wY (HM.out.below HBY.out (Nat.le_refl _))).mono ?_
          rintro e wZ ⟨rfl, hbZ⟩
          have HBZ := Lib.hid (HBY.out.trans (hbZ.mono HBY.out.size))
          clear hbZ
          go_wp2_with fail
          exact bodyPost_ret (v := .bool true) (by simp [results, Tryz.results7, go_sem]) rfl ⟨rfl, HBZ.out⟩
        refine AllReadyH.cons (o := { dst := some 112, op := Op.buildSlice 83 1 #[(0, Operand.tmp 111)], type := 83, pos := "law.go:185", after := #[{ on := 8, ground := Ground.data }], guard := none }) rfl (fun K hK => ?_) AllReadyH.nil
        rw [if_pos (by rfl)]
        go_simp
        have hbn : Below X0.heap.size X0 (X0.alloc (.cells #[.int .u64 0, .int .u8 0, .string ⟨#[]⟩, .int .i64 3] 97)) := (Below.refl _ _).alloc (Nat.le_refl _) _
        have hon : One X0.heap.size #[.int .u64 0, .int .u8 0, .string ⟨#[]⟩, .int .i64 3] (X0.alloc (.cells #[.int .u64 0, .int .u8 0, .string ⟨#[]⟩, .int .i64 3] 97)) := One.of _ _ _
        generalize X0.alloc (.cells #[.int .u64 0, .int .u8 0, .string ⟨#[]⟩, .int .i64 3] 97) = X1 at hbn hon ⊢
        have HS1 := Lib.hid (HS0.out.trans (hbn.mono HS0.out.size))
        have HG := Lib.hid hon
        clear hon
        refine hK.out _ _ HS1 (fun hS => ?_)
        clear hK hbn K
        try simp only [Act.put, List.setIfInBounds_toArray, List.set_cons_zero, List.set_cons_succ]
        refine wpAnyH_take (i := 10) (oi := { dst := some 113, op := Op.build 85 #[(0, Operand.tmp 112)], type := 85, pos := "law.go:185", after := #[{ on := 9, ground := Ground.data }], guard := none }) (v := .agg #[.slice (some ⟨X0.heap.size, 0, none⟩) 1 1, .slice none 0 0, .slice none 0 0]) rfl (by kernel_rfl) (by kernel_rfl) (by kernel_rfl) (fun _ _ _ h => h) (Or.inl ⟨by rfl, fun w' hw => ?_⟩) hS ?_
        · go_simp
        try simp only [Act.put, List.setIfInBounds_toArray, List.set_cons_zero, List.set_cons_succ]
        refine wpAnyH_ready (rs := [0, 7]) (by kernel_rfl) (by simp) ?_
        refine AllReadyH.cons (o := { dst := some 103, op := Op.buildSlice 68 0 #[], type := 68, pos := "law.go:185", after := #[], guard := none }) rfl (fun K hK => ?_) ?_
        · rw [if_pos (by rfl)]
          refine wp_build_sto0 rfl ?_
          have hbn : Below X1.heap.size X1 (X1.alloc (.cells #[] 87)) := (Below.refl _ _).alloc (Nat.le_refl _) _
          generalize X1.alloc (.cells #[] 87) = X2 at hbn ⊢
          have HS2 := Lib.hid (HS1.out.trans (hbn.mono HS1.out.size))
          replace HG := Lib.hid (HG.out.step hbn)
          refine hK.out _ _ HS2 (fun hS => ?_)
          clear hK hbn K
          try simp only [Act.put, List.setIfInBounds_toArray, List.set_cons_zero, List.set_cons_succ]
          refine wpAnyH_ready (rs := [7]) (by kernel_rfl) (by simp) ?_
          refine AllReadyH.cons (o := { dst := some 110, op := Op.call { callee := Callee.value (Operand.func 37), args := #[Operand.tmp 109], argTypes := #[9] }, type := 80, pos := "law.go:185", after := #[{ on := 6, ground := Ground.data }], guard := none }) rfl (fun K hK => ?_) AllReadyH.nil
          rw [if_pos (by rfl)]
          go_simp
          refine (law_get p X2).mono ?_
          rintro e X3 ⟨vR, rfl, hR, hbn⟩
          unfold calVal getL
          go_wp2_with fail
          have HS3 := Lib.hid (HS2.out.trans (hbn.mono HS2.out.size))
          replace HG := Lib.hid (HG.out.step hbn)
          have HR := Lib.hid hR
          clear hR
          refine hK.out _ _ HS3 (fun hS => ?_)
          clear hK hbn K
          try simp only [Act.put, List.setIfInBounds_toArray, List.set_cons_zero, List.set_cons_succ]
          refine wpAnyH_take (i := 11) (oi := { dst := some 114, op := Op.build 87 #[(1, Operand.tmp 110), (2, Operand.const (Value.int IntKind.i64 4)), (3, Operand.const (Value.int IntKind.i64 5)), (6, Operand.const (Value.int IntKind.i64 4)), (8, Operand.tmp 113)], type := 87, pos := "law.go:185", after := #[{ on := 7, ground := Ground.data }, { on := 10, ground := Ground.data }], guard := none }) (v := .agg (stoCells ⟨vR, .slice none 0 0, .slice (some ⟨X0.heap.size, 0, none⟩) 1 1, .slice none 0 0, .slice none 0 0⟩ (sG p)).toArray) rfl (by kernel_rfl) (by kernel_rfl) (by kernel_rfl) (fun _ _ _ h => h) (yields_build_s (by rfl) _ rfl ⟨vR, .slice none 0 0, .slice (some ⟨X0.heap.size, 0, none⟩) 1 1, .slice none 0 0, .slice none 0 0⟩ (sG p) (by kernel_rfl)) hS ?_
          try simp only [Act.put, List.setIfInBounds_toArray, List.set_cons_zero, List.set_cons_succ]
          refine wpAnyH_ready (rs := [14]) (by kernel_rfl) (by simp) ?_
          refine AllReadyH.cons (o := { dst := some 117, op := Op.buildSlice 68 4 #[(0, Operand.tmp 106), (1, Operand.tmp 108), (2, Operand.tmp 114), (3, Operand.tmp 116)], type := 68, pos := "law.go:185", after := #[{ on := 3, ground := Ground.data }, { on := 5, ground := Ground.data }, { on := 11, ground := Ground.data }, { on := 13, ground := Ground.data }], guard := none }) rfl (fun K hK => ?_) AllReadyH.nil
          rw [if_pos (by rfl)]
          refine wp_build_sto4 (.tmp 106) (.tmp 108) (.tmp 114) (.tmp 116) rfl rfl rfl rfl rfl ?_
          have hbn : Below X3.heap.size X3 (X3.alloc (.cells (stoFlat [(f1, sP p s), (⟨.slice none 0 0, .slice (some ⟨eD, 0, none⟩) 1 1, .slice none 0 0, .slice none 0 0, .slice none 0 0⟩, sDl p), (⟨vR, .slice none 0 0, .slice (some ⟨X0.heap.size, 0, none⟩) 1 1, .slice none 0 0, .slice none 0 0⟩, sG p), (⟨.slice none 0 0, .slice none 0 0, .slice none 0 0, .slice none 0 0, .slice none 0 0⟩, sL)]).toArray 87)) := (Below.refl _ _).alloc (Nat.le_refl _) _
          have hon : One X3.heap.size (stoFlat [(f1, sP p s), (⟨.slice none 0 0, .slice (some ⟨eD, 0, none⟩) 1 1, .slice none 0 0, .slice none 0 0, .slice none 0 0⟩, sDl p), (⟨vR, .slice none 0 0, .slice (some ⟨X0.heap.size, 0, none⟩) 1 1, .slice none 0 0, .slice none 0 0⟩, sG p), (⟨.slice none 0 0, .slice none 0 0, .slice none 0 0, .slice none 0 0, .slice none 0 0⟩, sL)]).toArray (X3.alloc (.cells (stoFlat [(f1, sP p s), (⟨.slice none 0 0, .slice (some ⟨eD, 0, none⟩) 1 1, .slice none 0 0, .slice none 0 0, .slice none 0 0⟩, sDl p), (⟨vR, .slice none 0 0, .slice (some ⟨X0.heap.size, 0, none⟩) 1 1, .slice none 0 0, .slice none 0 0⟩, sG p), (⟨.slice none 0 0, .slice none 0 0, .slice none 0 0, .slice none 0 0, .slice none 0 0⟩, sL)]).toArray 87)) := One.of _ _ _
          generalize X3.alloc (.cells (stoFlat [(f1, sP p s), (⟨.slice none 0 0, .slice (some ⟨eD, 0, none⟩) 1 1, .slice none 0 0, .slice none 0 0, .slice none 0 0⟩, sDl p), (⟨vR, .slice none 0 0, .slice (some ⟨X0.heap.size, 0, none⟩) 1 1, .slice none 0 0, .slice none 0 0⟩, sG p), (⟨.slice none 0 0, .slice none 0 0, .slice none 0 0, .slice none 0 0, .slice none 0 0⟩, sL)]).toArray 87) = X4 at hbn hon ⊢
          have HS4 := Lib.hid (HS3.out.trans (hbn.mono HS3.out.size))
          replace HG := Lib.hid (HG.out.step hbn)
          replace HR := Lib.hid (HR.out.below hbn (Nat.le_refl _))
          have HO14 := Lib.hid hon
          clear hon
          refine hK.out _ _ HS4 (fun hS => ?_)
          clear hK hbn K
          try simp only [Act.put, List.setIfInBounds_toArray, List.set_cons_zero, List.set_cons_succ]
          refine wpAnyH_ready (rs := [15]) (by kernel_rfl) (by simp) ?_
          refine AllReadyH.cons (o := { dst := some 118, op := Op.call { callee := Callee.builtin Builtin.append, args := #[Operand.tmp 103, Operand.tmp 117], argTypes := #[68, 68] }, type := 68, pos := "law.go:185", after := #[{ on := 0, ground := Ground.data }, { on := 14, ground := Ground.data }, { on := 7, ground := Ground.chain }], guard := none }) rfl (fun K hK => ?_) AllReadyH.nil
          rw [if_pos (by rfl)]
          refine wp_append_sto4 (.tmp 103) (.tmp 117) rfl (X1.heap.size) (X3.heap.size) rfl [(f1, sP p s), (⟨.slice none 0 0, .slice (some ⟨eD, 0, none⟩) 1 1, .slice none 0 0, .slice none 0 0, .slice none 0 0⟩, sDl p), (⟨vR, .slice none 0 0, .slice (some ⟨X0.heap.size, 0, none⟩) 1 1, .slice none 0 0, .slice none 0 0⟩, sG p), (⟨.slice none 0 0, .slice none 0 0, .slice none 0 0, .slice none 0 0, .slice none 0 0⟩, sL)] rfl rfl HO14.out ?_ ?_
          · intro x hx
            simp only [List.mem_cons, List.not_mem_nil, or_false] at hx
            rcases hx with rfl | rfl | rfl | rfl
            · exact (HF1.out.below HB9.out (Nat.le_refl _)).below HS4.out (Nat.le_refl _)
            · exact ⟨⟨IsRds.nil _, IsEdts.one (HED.out.step HS4.out) 1⟩, ⟨none, 0, rfl, Or.inl rfl⟩, IsNums.none _, IsStrs.nil _⟩
            · exact ⟨⟨HR.out, ⟨none, 0, rfl, Or.inl rfl⟩⟩, IsGots.one (g := ⟨dV, 3⟩) HG.out, IsNums.none _, IsStrs.nil _⟩
            · exact ⟨⟨IsRds.nil _, ⟨none, 0, rfl, Or.inl rfl⟩⟩, ⟨none, 0, rfl, Or.inl rfl⟩, IsNums.none _, IsStrs.nil _⟩
          intro vX X5 hX hbn
          have HS5 := Lib.hid (HS4.out.trans (hbn.mono HS4.out.size))
          have HX := Lib.hid hX
          clear hX
          refine hK.out _ _ HS5 (fun hS => ?_)
          clear hK hbn K
          try simp only [Act.put, List.setIfInBounds_toArray, List.set_cons_zero, List.set_cons_succ]
          refine wpAnyH_take (i := 16) (oi := { dst := some 15, op := Op.assign (Operand.tmp 118), type := 68, pos := "law.go:185", after := #[{ on := 15, ground := Ground.data }, { on := 15, ground := Ground.chain }, { on := 0, ground := Ground.phase }, { on := 1, ground := Ground.phase }, { on := 2, ground := Ground.phase }, { on := 3, ground := Ground.phase }, { on := 4, ground := Ground.phase }, { on := 5, ground := Ground.phase }, { on := 6, ground := Ground.phase }, { on := 7, ground := Ground.phase }, { on := 8, ground := Ground.phase }, { on := 9, ground := Ground.phase }, { on := 10, ground := Ground.phase }, { on := 11, ground := Ground.phase }, { on := 12, ground := Ground.phase }, { on := 13, ground := Ground.phase }, { on := 14, ground := Ground.phase }, { on := 15, ground := Ground.phase }], guard := none }) (v := vX) rfl (by kernel_rfl) (by kernel_rfl) (by kernel_rfl) (fun _ _ _ h => h) (Or.inl ⟨by rfl, fun w' hw => ?_⟩) hS ?_
          · go_simp
          try simp only [Act.put, List.setIfInBounds_toArray, List.set_cons_zero, List.set_cons_succ]
          refine wpAnyH_done (by kernel_rfl) ?_ _
          clear hS
          have HBX : Hid (Below w.heap.size w X5) := Lib.hid (HBW9.out.trans (HS5.out.mono HBW9.out.size))
          go_wp2_with fail
          refine (check_any [sP p s, sDl p, sG p, sL] vX X5 HX.out (by simp) HZ4.out (HM.out.below HBX.out (Nat.le_refl _))).mono ?_
          rintro e wY ⟨rfl, hbY⟩
          rw [check_four HMP.out hs2]
          have HBY := Lib.hid (HBX.out.trans (hbY.mono HBX.out.size))
          clear hbY
          unfold vdVal
          dsimp only
          have hfd := field_vd
          go_wp2_with fail
          refine (law_alive wY (HM.out.below HBY.out (Nat.le_refl _))).mono ?_
          rintro e wZ ⟨rfl, hbZ⟩
          have HBZ := Lib.hid (HBY.out.trans (hbZ.mono HBY.out.size))
          clear hbZ
          go_wp2_with fail
          exact bodyPost_ret (v := .bool true) (by simp [results, Tryz.results7, go_sem]) rfl ⟨rfl, HBZ.out⟩
        refine AllReadyH.cons (o := { dst := some 110, op := Op.call { callee := Callee.value (Operand.func 37), args := #[Operand.tmp 109], argTypes := #[9] }, type := 80, pos := "law.go:185", after := #[{ on := 6, ground := Ground.data }], guard := none }) rfl (fun K hK => ?_) AllReadyH.nil
        rw [if_pos (by rfl)]
        go_simp
        refine (law_get p X1).mono ?_
        rintro e X2 ⟨vR, rfl, hR, hbn⟩
        unfold calVal getL
        go_wp2_with fail
        have HS2 := Lib.hid (HS1.out.trans (hbn.mono HS1.out.size))
        replace HG := Lib.hid (HG.out.step hbn)
        have HR := Lib.hid hR
        clear hR
        refine hK.out _ _ HS2 (fun hS => ?_)
        clear hK hbn K
        try simp only [Act.put, List.setIfInBounds_toArray, List.set_cons_zero, List.set_cons_succ]
        refine wpAnyH_take (i := 11) (oi := { dst := some 114, op := Op.build 87 #[(1, Operand.tmp 110), (2, Operand.const (Value.int IntKind.i64 4)), (3, Operand.const (Value.int IntKind.i64 5)), (6, Operand.const (Value.int IntKind.i64 4)), (8, Operand.tmp 113)], type := 87, pos := "law.go:185", after := #[{ on := 7, ground := Ground.data }, { on := 10, ground := Ground.data }], guard := none }) (v := .agg (stoCells ⟨vR, .slice none 0 0, .slice (some ⟨X0.heap.size, 0, none⟩) 1 1, .slice none 0 0, .slice none 0 0⟩ (sG p)).toArray) rfl (by kernel_rfl) (by kernel_rfl) (by kernel_rfl) (fun _ _ _ h => h) (yields_build_s (by rfl) _ rfl ⟨vR, .slice none 0 0, .slice (some ⟨X0.heap.size, 0, none⟩) 1 1, .slice none 0 0, .slice none 0 0⟩ (sG p) (by kernel_rfl)) hS ?_
        try simp only [Act.put, List.setIfInBounds_toArray, List.set_cons_zero, List.set_cons_succ]
        refine wpAnyH_ready (rs := [0, 14]) (by kernel_rfl) (by simp) ?_
        refine AllReadyH.cons (o := { dst := some 103, op := Op.buildSlice 68 0 #[], type := 68, pos := "law.go:185", after := #[], guard := none }) rfl (fun K hK => ?_) ?_
        · rw [if_pos (by rfl)]
          refine wp_build_sto0 rfl ?_
          have hbn : Below X2.heap.size X2 (X2.alloc (.cells #[] 87)) := (Below.refl _ _).alloc (Nat.le_refl _) _
          generalize X2.alloc (.cells #[] 87) = X3 at hbn ⊢
          have HS3 := Lib.hid (HS2.out.trans (hbn.mono HS2.out.size))
          replace HG := Lib.hid (HG.out.step hbn)
          replace HR := Lib.hid (HR.out.below hbn (Nat.le_refl _))
          refine hK.out _ _ HS3 (fun hS => ?_)
          clear hK hbn K
          try simp only [Act.put, List.setIfInBounds_toArray, List.set_cons_zero, List.set_cons_succ]
          refine wpAnyH_ready (rs := [14]) (by kernel_rfl) (by simp) ?_
          refine AllReadyH.cons (o := { dst := some 117, op := Op.buildSlice 68 4 #[(0, Operand.tmp 106), (1, Operand.tmp 108), (2, Operand.tmp 114), (3, Operand.tmp 116)], type := 68, pos := "law.go:185", after := #[{ on := 3, ground := Ground.data }, { on := 5, ground := Ground.data }, { on := 11, ground := Ground.data }, { on := 13, ground := Ground.data }], guard := none }) rfl (fun K hK => ?_) AllReadyH.nil
          rw [if_pos (by rfl)]
          refine wp_build_sto4 (.tmp 106) (.tmp 108) (.tmp 114) (.tmp 116) rfl rfl rfl rfl rfl ?_
          have hbn : Below X3.heap.size X3 (X3.alloc (.cells (stoFlat [(f1, sP p s), (⟨.slice none 0 0, .slice (some ⟨eD, 0, none⟩) 1 1, .slice none 0 0, .slice none 0 0, .slice none 0 0⟩, sDl p), (⟨vR, .slice none 0 0, .slice (some ⟨X0.heap.size, 0, none⟩) 1 1, .slice none 0 0, .slice none 0 0⟩, sG p), (⟨.slice none 0 0, .slice none 0 0, .slice none 0 0, .slice none 0 0, .slice none 0 0⟩, sL)]).toArray 87)) := (Below.refl _ _).alloc (Nat.le_refl _) _
          have hon : One X3.heap.size (stoFlat [(f1, sP p s), (⟨.slice none 0 0, .slice (some ⟨eD, 0, none⟩) 1 1, .slice none 0 0, .slice none 0 0, .slice none 0 0⟩, sDl p), (⟨vR, .slice none 0 0, .slice (some ⟨X0.heap.size, 0, none⟩) 1 1, .slice none 0 0, .slice none 0 0⟩, sG p), (⟨.slice none 0 0, .slice none 0 0, .slice none 0 0, .slice none 0 0, .slice none 0 0⟩, sL)]).toArray (X3.alloc (.cells (stoFlat [(f1, sP p s), (⟨.slice none 0 0, .slice (some ⟨eD, 0, none⟩) 1 1, .slice none 0 0, .slice none 0 0, .slice none 0 0⟩, sDl p), (⟨vR, .slice none 0 0, .slice (some ⟨X0.heap.size, 0, none⟩) 1 1, .slice none 0 0, .slice none 0 0⟩, sG p), (⟨.slice none 0 0, .slice none 0 0, .slice none 0 0, .slice none 0 0, .slice none 0 0⟩, sL)]).toArray 87)) := One.of _ _ _
          generalize X3.alloc (.cells (stoFlat [(f1, sP p s), (⟨.slice none 0 0, .slice (some ⟨eD, 0, none⟩) 1 1, .slice none 0 0, .slice none 0 0, .slice none 0 0⟩, sDl p), (⟨vR, .slice none 0 0, .slice (some ⟨X0.heap.size, 0, none⟩) 1 1, .slice none 0 0, .slice none 0 0⟩, sG p), (⟨.slice none 0 0, .slice none 0 0, .slice none 0 0, .slice none 0 0, .slice none 0 0⟩, sL)]).toArray 87) = X4 at hbn hon ⊢
          have HS4 := Lib.hid (HS3.out.trans (hbn.mono HS3.out.size))
          replace HG := Lib.hid (HG.out.step hbn)
          replace HR := Lib.hid (HR.out.below hbn (Nat.le_refl _))
          have HO14 := Lib.hid hon
          clear hon
          refine hK.out _ _ HS4 (fun hS => ?_)
          clear hK hbn K
          try simp only [Act.put, List.setIfInBounds_toArray, List.set_cons_zero, List.set_cons_succ]
          refine wpAnyH_ready (rs := [15]) (by kernel_rfl) (by simp) ?_
          refine AllReadyH.cons (o := { dst := some 118, op := Op.call { callee := Callee.builtin Builtin.append, args := #[Operand.tmp 103, Operand.tmp 117], argTypes := #[68, 68] }, type := 68, pos := "law.go:185", after := #[{ on := 0, ground := Ground.data }, { on := 14, ground := Ground.data }, { on := 7, ground := Ground.chain }], guard := none }) rfl (fun K hK => ?_) AllReadyH.nil
          rw [if_pos (by rfl)]
          refine wp_append_sto4 (.tmp 103) (.tmp 117) rfl (X2.heap.size) (X3.heap.size) rfl [(f1, sP p s), (⟨.slice none 0 0, .slice (some ⟨eD, 0, none⟩) 1 1, .slice none 0 0, .slice none 0 0, .slice none 0 0⟩, sDl p), (⟨vR, .slice none 0 0, .slice (some ⟨X0.heap.size, 0, none⟩) 1 1, .slice none 0 0, .slice none 0 0⟩, sG p), (⟨.slice none 0 0, .slice none 0 0, .slice none 0 0, .slice none 0 0, .slice none 0 0⟩, sL)] rfl rfl HO14.out ?_ ?_
          · intro x hx
            simp only [List.mem_cons, List.not_mem_nil, or_false] at hx
            rcases hx with rfl | rfl | rfl | rfl
            · exact (HF1.out.below HB9.out (Nat.le_refl _)).below HS4.out (Nat.le_refl _)
            · exact ⟨⟨IsRds.nil _, IsEdts.one (HED.out.step HS4.out) 1⟩, ⟨none, 0, rfl, Or.inl rfl⟩, IsNums.none _, IsStrs.nil _⟩
            · exact ⟨⟨HR.out, ⟨none, 0, rfl, Or.inl rfl⟩⟩, IsGots.one (g := ⟨dV, 3⟩) HG.out, IsNums.none _, IsStrs.nil _⟩
            · exact ⟨⟨IsRds.nil _, ⟨none, 0, rfl, Or.inl rfl⟩⟩, ⟨none, 0, rfl, Or.inl rfl⟩, IsNums.none _, IsStrs.nil _⟩
          intro vX X5 hX hbn
          have HS5 := Lib.hid (HS4.out.trans (hbn.mono HS4.out.size))
          have HX := Lib.hid hX
          clear hX
          refine hK.out _ _ HS5 (fun hS => ?_)
          clear hK hbn K
          try simp only [Act.put, List.setIfInBounds_toArray, List.set_cons_zero, List.set_cons_succ]
          refine wpAnyH_take (i := 16) (oi := { dst := some 15, op := Op.assign (Operand.tmp 118), type := 68, pos := "law.go:185", after := #[{ on := 15, ground := Ground.data }, { on := 15, ground := Ground.chain }, { on := 0, ground := Ground.phase }, { on := 1, ground := Ground.phase }, { on := 2, ground := Ground.phase }, { on := 3, ground := Ground.phase }, { on := 4, ground := Ground.phase }, { on := 5, ground := Ground.phase }, { on := 6, ground := Ground.phase }, { on := 7, ground := Ground.phase }, { on := 8, ground := Ground.phase }, { on := 9, ground := Ground.phase }, { on := 10, ground := Ground.phase }, { on := 11, ground := Ground.phase }, { on := 12, ground := Ground.phase }, { on := 13, ground := Ground.phase }, { on := 14, ground := Ground.phase }, { on := 15, ground := Ground.phase }], guard := none }) (v := vX) rfl (by kernel_rfl) (by kernel_rfl) (by kernel_rfl) (fun _ _ _ h => h) (Or.inl ⟨by rfl, fun w' hw => ?_⟩) hS ?_
          · go_simp
          try simp only [Act.put, List.setIfInBounds_toArray, List.set_cons_zero, List.set_cons_succ]
          refine wpAnyH_done (by kernel_rfl) ?_ _
          clear hS
          have HBX : Hid (Below w.heap.size w X5) := Lib.hid (HBW9.out.trans (HS5.out.mono HBW9.out.size))
          go_wp2_with fail
          refine (check_any [sP p s, sDl p, sG p, sL] vX X5 HX.out (by simp) HZ4.out (HM.out.below HBX.out (Nat.le_refl _))).mono ?_
          rintro e wY ⟨rfl, hbY⟩
          rw [check_four HMP.out hs2]
          have HBY := Lib.hid (HBX.out.trans (hbY.mono HBX.out.size))
          clear hbY
          unfold vdVal
          dsimp only
          have hfd := field_vd
          go_wp2_with fail
          refine (law_alive wY (HM.out.below HBY.out (Nat.le_refl _))).mono ?_
          rintro e wZ ⟨rfl, hbZ⟩
          have HBZ := Lib.hid (HBY.out.trans (hbZ.mono HBY.out.size))
          clear hbZ
          go_wp2_with fail
          exact bodyPost_ret (v := .bool true) (by simp [results, Tryz.results7, go_sem]) rfl ⟨rfl, HBZ.out⟩
        refine AllReadyH.cons (o := { dst := some 117, op := Op.buildSlice 68 4 #[(0, Operand.tmp 106), (1, Operand.tmp 108), (2, Operand.tmp 114), (3, Operand.tmp 116)], type := 68, pos := "law.go:185", after := #[{ on := 3, ground := Ground.data }, { on := 5, ground := Ground.data }, { on := 11, ground := Ground.data }, { on := 13, ground := Ground.data }], guard := none }) rfl (fun K hK => ?_) AllReadyH.nil
        rw [if_pos (by rfl)]
        refine wp_build_sto4 (.tmp 106) (.tmp 108) (.tmp 114) (.tmp 116) rfl rfl rfl rfl rfl ?_
        have hbn : Below X2.heap.size X2 (X2.alloc (.cells (stoFlat [(f1, sP p s), (⟨.slice none 0 0, .slice (some ⟨eD, 0, none⟩) 1 1, .slice none 0 0, .slice none 0 0, .slice none 0 0⟩, sDl p), (⟨vR, .slice none 0 0, .slice (some ⟨X0.heap.size, 0, none⟩) 1 1, .slice none 0 0, .slice none 0 0⟩, sG p), (⟨.slice none 0 0, .slice none 0 0, .slice none 0 0, .slice none 0 0, .slice none 0 0⟩, sL)]).toArray 87)) := (Below.refl _ _).alloc (Nat.le_refl _) _
        have hon : One X2.heap.size (stoFlat [(f1, sP p s), (⟨.slice none 0 0, .slice (some ⟨eD, 0, none⟩) 1 1, .slice none 0 0, .slice none 0 0, .slice none 0 0⟩, sDl p), (⟨vR, .slice none 0 0, .slice (some ⟨X0.heap.size, 0, none⟩) 1 1, .slice none 0 0, .slice none 0 0⟩, sG p), (⟨.slice none 0 0, .slice none 0 0, .slice none 0 0, .slice none 0 0, .slice none 0 0⟩, sL)]).toArray (X2.alloc (.cells (stoFlat [(f1, sP p s), (⟨.slice none 0 0, .slice (some ⟨eD, 0, none⟩) 1 1, .slice none 0 0, .slice none 0 0, .slice none 0 0⟩, sDl p), (⟨vR, .slice none 0 0, .slice (some ⟨X0.heap.size, 0, none⟩) 1 1, .slice none 0 0, .slice none 0 0⟩, sG p), (⟨.slice none 0 0, .slice none 0 0, .slice none 0 0, .slice none 0 0, .slice none 0 0⟩, sL)]).toArray 87)) := One.of _ _ _
        generalize X2.alloc (.cells (stoFlat [(f1, sP p s), (⟨.slice none 0 0, .slice (some ⟨eD, 0, none⟩) 1 1, .slice none 0 0, .slice none 0 0, .slice none 0 0⟩, sDl p), (⟨vR, .slice none 0 0, .slice (some ⟨X0.heap.size, 0, none⟩) 1 1, .slice none 0 0, .slice none 0 0⟩, sG p), (⟨.slice none 0 0, .slice none 0 0, .slice none 0 0, .slice none 0 0, .slice none 0 0⟩, sL)]).toArray 87) = X3 at hbn hon ⊢
        have HS3 := Lib.hid (HS2.out.trans (hbn.mono HS2.out.size))
        replace HG := Lib.hid (HG.out.step hbn)
        replace HR := Lib.hid (HR.out.below hbn (Nat.le_refl _))
        have HO14 := Lib.hid hon
        clear hon
        refine hK.out _ _ HS3 (fun hS => ?_)
        clear hK hbn K
        try simp only [Act.put, List.setIfInBounds_toArray, List.set_cons_zero, List.set_cons_succ]
        refine wpAnyH_ready (rs := [0]) (by kernel_rfl) (by simp) ?_
        refine AllReadyH.cons (o := { dst := some 103, op := Op.buildSlice 68 0 #[], type := 68, pos := "law.go:185", after := #[], guard := none }) rfl (fun K hK => ?_) AllReadyH.nil
        rw [if_pos (by rfl)]
        refine wp_build_sto0 rfl ?_
        have hbn : Below X3.heap.size X3 (X3.alloc (.cells #[] 87)) := (Below.refl _ _).alloc (Nat.le_refl _) _
        generalize X3.alloc (.cells #[] 87) = X4 at hbn ⊢
        have HS4 := Lib.hid (HS3.out.trans (hbn.mono HS3.out.size))
        replace HG := Lib.hid (HG.out.step hbn)
        replace HR := Lib.hid (HR.out.below hbn (Nat.le_refl _))
        replace HO14 := Lib.hid (HO14.out.step hbn)
        refine hK.out _ _ HS4 (fun hS => ?_)
        clear hK hbn K
        try simp only [Act.put, List.setIfInBounds_toArray, List.set_cons_zero, List.set_cons_succ]
        refine wpAnyH_ready (rs := [15]) (by kernel_rfl) (by simp) ?_
        refine AllReadyH.cons (o := { dst := some 118, op := Op.call { callee := Callee.builtin Builtin.append, args := #[Operand.tmp 103, Operand.tmp 117], argTypes := #[68, 68] }, type := 68, pos := "law.go:185", after := #[{ on := 0, ground := Ground.data }, { on := 14, ground := Ground.data }, { on := 7, ground := Ground.chain }], guard := none }) rfl (fun K hK => ?_) AllReadyH.nil
        rw [if_pos (by rfl)]
        refine wp_append_sto4 (.tmp 103) (.tmp 117) rfl (X3.heap.size) (X2.heap.size) rfl [(f1, sP p s), (⟨.slice none 0 0, .slice (some ⟨eD, 0, none⟩) 1 1, .slice none 0 0, .slice none 0 0, .slice none 0 0⟩, sDl p), (⟨vR, .slice none 0 0, .slice (some ⟨X0.heap.size, 0, none⟩) 1 1, .slice none 0 0, .slice none 0 0⟩, sG p), (⟨.slice none 0 0, .slice none 0 0, .slice none 0 0, .slice none 0 0, .slice none 0 0⟩, sL)] rfl rfl HO14.out ?_ ?_
        · intro x hx
          simp only [List.mem_cons, List.not_mem_nil, or_false] at hx
          rcases hx with rfl | rfl | rfl | rfl
          · exact (HF1.out.below HB9.out (Nat.le_refl _)).below HS4.out (Nat.le_refl _)
          · exact ⟨⟨IsRds.nil _, IsEdts.one (HED.out.step HS4.out) 1⟩, ⟨none, 0, rfl, Or.inl rfl⟩, IsNums.none _, IsStrs.nil _⟩
          · exact ⟨⟨HR.out, ⟨none, 0, rfl, Or.inl rfl⟩⟩, IsGots.one (g := ⟨dV, 3⟩) HG.out, IsNums.none _, IsStrs.nil _⟩
          · exact ⟨⟨IsRds.nil _, ⟨none, 0, rfl, Or.inl rfl⟩⟩, ⟨none, 0, rfl, Or.inl rfl⟩, IsNums.none _, IsStrs.nil _⟩
        intro vX X5 hX hbn
        have HS5 := Lib.hid (HS4.out.trans (hbn.mono HS4.out.size))
        have HX := Lib.hid hX
        clear hX
        refine hK.out _ _ HS5 (fun hS => ?_)
        clear hK hbn K
        try simp only [Act.put, List.setIfInBounds_toArray, List.set_cons_zero, List.set_cons_succ]
        refine wpAnyH_take (i := 16) (oi := { dst := some 15, op := Op.assign (Operand.tmp 118), type := 68, pos := "law.go:185", after := #[{ on := 15, ground := Ground.data }, { on := 15, ground := Ground.chain }, { on := 0, ground := Ground.phase }, { on := 1, ground := Ground.phase }, { on := 2, ground := Ground.phase }, { on := 3, ground := Ground.phase }, { on := 4, ground := Ground.phase }, { on := 5, ground := Ground.phase }, { on := 6, ground := Ground.phase }, { on := 7, ground := Ground.phase }, { on := 8, ground := Ground.phase }, { on := 9, ground := Ground.phase }, { on := 10, ground := Ground.phase }, { on := 11, ground := Ground.phase }, { on := 12, ground := Ground.phase }, { on := 13, ground := Ground.phase }, { on := 14, ground := Ground.phase }, { on := 15, ground := Ground.phase }], guard := none }) (v := vX) rfl (by kernel_rfl) (by kernel_rfl) (by kernel_rfl) (fun _ _ _ h => h) (Or.inl ⟨by rfl, fun w' hw => ?_⟩) hS ?_
        · go_simp
        try simp only [Act.put, List.setIfInBounds_toArray, List.set_cons_zero, List.set_cons_succ]
        refine wpAnyH_done (by kernel_rfl) ?_ _
        clear hS
        have HBX : Hid (Below w.heap.size w X5) := Lib.hid (HBW9.out.trans (HS5.out.mono HBW9.out.size))
        go_wp2_with fail
        refine (check_any [sP p s, sDl p, sG p, sL] vX X5 HX.out (by simp) HZ4.out (HM.out.below HBX.out (Nat.le_refl _))).mono ?_
        rintro e wY ⟨rfl, hbY⟩
        rw [check_four HMP.out hs2]
        have HBY := Lib.hid (HBX.out.trans (hbY.mono HBX.out.size))
        clear hbY
        unfold vdVal
        dsimp only
        have hfd := field_vd
        go_wp2_with fail
        refine (law_alive wY (HM.out.below HBY.out (Nat.le_refl _))).mono ?_
        rintro e wZ ⟨rfl, hbZ⟩
        have HBZ := Lib.hid (HBY.out.trans (hbZ.mono HBY.out.size))
        clear hbZ
        go_wp2_with fail
        exact bodyPost_ret (v := .bool true) (by simp [results, Tryz.results7, go_sem]) rfl ⟨rfl, HBZ.out⟩
        -- END
      · rw [if_neg h] at hck
        have hwI : ¬ ((want : Int) = 1) := by omega
        rw [hck]
        unfold vdVal
        dsimp only
        clear hck
        go_upto_region 11 with fail
        refine wp_abs (F := fun W => One w7.heap.size #[.bool false, .int .i64 1, .int .u8 3] W ∧ Below w6.heap.size w6 W) ⟨One.of _ _ _, HB7.out.alloc HB7.out.size _⟩ ?_
        rintro W7 ⟨hv7, hb7⟩
        have HV7 := Lib.hid hv7; have HBW7 := Lib.hid hb7
        clear hv7 hb7 HB7
        obtain ⟨n12, hn12⟩ : ∃ n12, w7.heap.size = n12 := ⟨_, rfl⟩
        rw [hn12] at HV7 ⊢
        go_wp2_with fail
        refine (rows_any [sP p s, sQ p t want] _ W7 (HS6.out.below HBW7.out (Nat.le_refl _)) (by simp) HZ2.out (HM.out.below (HB56.out.trans (HBW7.out.mono HB56.out.size)) (Nat.le_refl _))).mono ?_
        rintro e w8 ⟨v8, rfl, hr8, hb8⟩
        rw [rows_PQ HMP.out hs2 ht2, if_neg h] at hr8
        obtain ⟨b8, o8, c8, rfl, hlt8, _, r81⟩ := hr8.two
        have HB8 := Lib.hid hb8
        have x6 := (((HBW7.out.trans (hb8.mono HBW7.out.size)).cell (p := ⟨b6, o6 + 1, none⟩) HLT6.out).trans R61.out)
        have hV := HV7.out.step hb8
        have x7 := hV.c 0
        simp at x7
        simp [c1] at x6 r81
        clear hr8 hb8 hV hlt8
        go_upto_region 14 with fail
        -- TAIL
        go_upto_region 15 with fail
        refine wp_abs (F := fun W => One (w8.heap.size + 1) #[.int .u8 1, .slice none 0 0, .slice (some ⟨w8.heap.size, 0, none⟩) 1 1, .string ByteArray.empty, .int .u64 0, .int .u64 0, .int .u32 0] W ∧ One w8.heap.size #[.int .u8 2, .string p, .bool true, .int .u64 0, .int .u64 0, .string ByteArray.empty] W ∧ Below w8.heap.size w8 W) ⟨?_, ?_, ?_⟩ ?_
        · have h := One.of (w8.alloc (.cells #[.int .u8 2, .string p, .bool true, .int .u64 0, .int .u64 0, .string ByteArray.empty] 55)) #[.int .u8 1, .slice none 0 0, .slice (some ⟨w8.heap.size, 0, none⟩) 1 1, .string ByteArray.empty, .int .u64 0, .int .u64 0, .int .u32 0] 80
          rw [show (w8.alloc (.cells #[.int .u8 2, .string p, .bool true, .int .u64 0, .int .u64 0, .string ByteArray.empty] 55)).heap.size = w8.heap.size + 1 by simp] at h
          exact h
        · exact (One.of w8 _ _).step ((Below.refl _ _).alloc (Nat.le_refl _) _)
        · exact ((Below.refl _ _).alloc (Nat.le_refl _) _).alloc (by simp) _
        rintro W9 ⟨hC, hE, hb9⟩
        have HC := Lib.hid hC; have HED := Lib.hid hE
        have HB9 : Hid (Below W5.heap.size W5 W9) := Lib.hid (HB6.out.trans (((HBW7.out.trans (HB8.out.mono HBW7.out.size)).trans (hb9.mono (HBW7.out.trans (HB8.out.mono HBW7.out.size)).size)).mono HB6.out.size))
        have HBW9 : Hid (Below w.heap.size w W9) := Lib.hid (HB5.out.trans (HB9.out.mono HB5.out.size))
        have hat := HF2.out.below HB9.out HLT5.out
        have HAT := Lib.hid hat
        have hb5n : b5 < W9.heap.size := by have h1 := HB9.out.size; have h2 := HLT5.out; omega
        have HB5N := Lib.hid hb5n
        clear hC hE hb9 hat hb5n x6 x7 r81
        obtain ⟨n14, hn14⟩ : ∃ n14, w8.heap.size + 1 = n14 := ⟨_, rfl⟩
        obtain ⟨eD, heD⟩ : ∃ eD, w8.heap.size = eD := ⟨_, rfl⟩
        rw [hn14] at HC ⊢
        rw [heD] at HED ⊢
        have HS0 : Hid (Below W9.heap.size W9 W9.drew) := Lib.hid (Below.drew (Below.refl _ _))
        generalize hX0 : W9.drew = X0 at HS0
        refine wp_region_held_drew (S := fun w' => Hid (Below W9.heap.size W9 w')) (by kernel_rfl) (by rw [hX0]; exact HS0) (fun hS => ?_)
        rw [hX0] at hS ⊢
        refine wpAnyH_take (i := 1) (oi := { dst := some 104, op := Op.move (Operand.tmp 10), type := 68, pos := "law.go:185", after := #[], guard := none }) (v := .slice (some ⟨b5, 0, none⟩) 2 2) rfl (by kernel_rfl) (by kernel_rfl) (by kernel_rfl) (fun _ _ _ h => h) (Or.inl ⟨by rfl, fun w' hw => ?_⟩) hS ?_
        · go_simp
        try simp only [Act.put, List.setIfInBounds_toArray, List.set_cons_zero, List.set_cons_succ]
        refine wpAnyH_take (i := 2) (oi := { dst := some 105, op := Op.indexAddr 68 (Operand.tmp 104) (Operand.const (Value.int IntKind.i64 0)), type := 0, pos := "law.go:185", after := #[{ on := 1, ground := Ground.data }], guard := none }) (v := .pointer (some ⟨b5, 0, none⟩)) rfl (by kernel_rfl) (by kernel_rfl) (by kernel_rfl) (fun _ _ _ h => h) (Or.inl ⟨by rfl, fun w' hw => ?_⟩) hS ?_
        · go_simp
        try simp only [Act.put, List.setIfInBounds_toArray, List.set_cons_zero, List.set_cons_succ]
        refine wpAnyH_take (i := 3) (oi := { dst := some 106, op := Op.load 87 (Operand.tmp 105), type := 87, pos := "law.go:185", after := #[{ on := 2, ground := Ground.data }], guard := none }) (v := .agg (stoCells f1 (sP p s)).toArray) rfl (by kernel_rfl) (by kernel_rfl) (by kernel_rfl) (fun _ _ _ h => h) (yields_load_s (by rfl) _ rfl b5 0 rfl f1 (sP p s) (fun W hW => HAT.out.below hW.out HB5N.out)) hS ?_
        try simp only [Act.put, List.setIfInBounds_toArray, List.set_cons_zero, List.set_cons_succ]
        refine wpAnyH_take (i := 4) (oi := { dst := some 107, op := Op.load 80 (Operand.tmp 14), type := 80, pos := "law.go:185", after := #[], guard := none }) (v := .agg #[.int .u8 1, .slice none 0 0, .slice (some ⟨eD, 0, none⟩) 1 1, .string ByteArray.empty, .int .u64 0, .int .u64 0, .int .u32 0]) rfl (by kernel_rfl) (by kernel_rfl) (by kernel_rfl) (fun _ _ _ h => h) (Or.inl ⟨by rfl, fun w' hw => ?_⟩) hS ?_
        · have hO := HC.out.step hw.out
          have c0 := hO.c 0; have c1 := hO.c 1; have c2 := hO.c 2; have c3 := hO.c 3; have c4 := hO.c 4; have c5 := hO.c 5; have c6 := hO.c 6
          simp at c0 c1 c2 c3 c4 c5 c6
          go_simp
        try simp only [Act.put, List.setIfInBounds_toArray, List.set_cons_zero, List.set_cons_succ]
        refine wpAnyH_take (i := 5) (oi := { dst := some 108, op := Op.build 87 #[(1, Operand.tmp 107), (2, Operand.const (Value.int IntKind.i64 3)), (6, Operand.const (Value.int IntKind.i64 3))], type := 87, pos := "law.go:185", after := #[{ on := 4, ground := Ground.data }], guard := none }) (v := .agg (stoCells ⟨.slice none 0 0, .slice (some ⟨eD, 0, none⟩) 1 1, .slice none 0 0, .slice none 0 0, .slice none 0 0⟩ (sDl p)).toArray) rfl (by kernel_rfl) (by kernel_rfl) (by kernel_rfl) (fun _ _ _ h => h) (yields_build_s (by rfl) _ rfl ⟨.slice none 0 0, .slice (some ⟨eD, 0, none⟩) 1 1, .slice none 0 0, .slice none 0 0, .slice none 0 0⟩ (sDl p) (by kernel_rfl)) hS ?_
        try simp only [Act.put, List.setIfInBounds_toArray, List.set_cons_zero, List.set_cons_succ]
        refine wpAnyH_take (i := 6) (oi := { dst := some 109, op := Op.move (Operand.tmp 0), type := 9, pos := "law.go:185", after := #[], guard := none }) (v := .string p) rfl (by kernel_rfl) (by kernel_rfl) (by kernel_rfl) (fun _ _ _ h => h) (Or.inl ⟨by rfl, fun w' hw => ?_⟩) hS ?_
        · go_simp
        try simp only [Act.put, List.setIfInBounds_toArray, List.set_cons_zero, List.set_cons_succ]
        refine wpAnyH_take (i := 8) (oi := { dst := some 111, op := Op.build 97 #[(1, Operand.const (Value.int IntKind.i64 3))], type := 97, pos := "law.go:185", after := #[], guard := none }) (v := .agg #[.int .u64 0, .int .u8 0, .string ⟨#[]⟩, .int .i64 3]) rfl (by kernel_rfl) (by kernel_rfl) (by kernel_rfl) (fun _ _ _ h => h) (Or.inl ⟨by rfl, fun w' hw => ?_⟩) hS ?_
        · go_simp
        try simp only [Act.put, List.setIfInBounds_toArray, List.set_cons_zero, List.set_cons_succ]
        refine wpAnyH_take (i := 12) (oi := { dst := some 115, op := Op.build 80 #[(0, Operand.const (Value.int IntKind.u8 2))], type := 80, pos := "law.go:185", after := #[], guard := none }) (v := .agg #[.int .u8 2, .slice none 0 0, .slice none 0 0, .string ByteArray.empty, .int .u64 0, .int .u64 0, .int .u32 0]) rfl (by kernel_rfl) (by kernel_rfl) (by kernel_rfl) (fun _ _ _ h => h) (Or.inl ⟨by rfl, fun w' hw => ?_⟩) hS ?_
        · (go_simp; rfl)
        try simp only [Act.put, List.setIfInBounds_toArray, List.set_cons_zero, List.set_cons_succ]
        refine wpAnyH_take (i := 13) (oi := { dst := some 116, op := Op.build 87 #[(1, Operand.tmp 115), (2, Operand.const (Value.int IntKind.i64 6)), (3, Operand.const (Value.int IntKind.i64 7)), (6, Operand.const (Value.int IntKind.i64 5))], type := 87, pos := "law.go:185", after := #[{ on := 12, ground := Ground.data }], guard := none }) (v := .agg (stoCells ⟨.slice none 0 0, .slice none 0 0, .slice none 0 0, .slice none 0 0, .slice none 0 0⟩ sL).toArray) rfl (by kernel_rfl) (by kernel_rfl) (by kernel_rfl) (fun _ _ _ h => h) (yields_build_s (by rfl) _ rfl ⟨.slice none 0 0, .slice none 0 0, .slice none 0 0, .slice none 0 0, .slice none 0 0⟩ sL (by kernel_rfl)) hS ?_
        try simp only [Act.put, List.setIfInBounds_toArray, List.set_cons_zero, List.set_cons_succ]
        refine wpAnyH_ready (rs := [0, 7, 9]) (by kernel_rfl) (by simp) ?_
        refine AllReadyH.cons (o := { dst := some 103, op := Op.buildSlice 68 0 #[], type := 68, pos := "law.go:185", after := #[], guard := none }) rfl (fun K hK => ?_) ?_
        · rw [if_pos (by rfl)]
          refine wp_build_sto0 rfl ?_
          have hbn : Below X0.heap.size X0 (X0.alloc (.cells #[] 87)) := (Below.refl _ _).alloc (Nat.le_refl _) _
          generalize X0.alloc (.cells #[] 87) = X1 at hbn ⊢
          have HS1 := Lib.hid (HS0.out.trans (hbn.mono HS0.out.size))
          refine hK.out _ _ HS1 (fun hS => ?_)
          clear hK hbn K
          try simp only [Act.put, List.setIfInBounds_toArray, List.set_cons_zero, List.set_cons_succ]
          refine wpAnyH_ready (rs := [7, 9]) (by kernel_rfl) (by simp) ?_
          refine AllReadyH.cons (o := { dst := some 110, op := Op.call { callee := Callee.value (Operand.func 37), args := #[Operand.tmp 109], argTypes := #[9] }, type := 80, pos := "law.go:185", after := #[{ on := 6, ground := Ground.data }], guard := none }) rfl (fun K hK => ?_) ?_
          · rw [if_pos (by rfl)]
            go_simp
            refine (law_get p X1).mono ?_
            rintro e X2 ⟨vR, rfl, hR, hbn⟩
            unfold calVal getL
            go_wp2_with fail
            have HS2 := Lib.hid (HS1.out.trans (hbn.mono HS1.out.size))
            have HR := Lib.hid hR
            clear hR
            refine hK.out _ _ HS2 (fun hS => ?_)
            clear hK hbn K
            try simp only [Act.put, List.setIfInBounds_toArray, List.set_cons_zero, List.set_cons_succ]
            refine wpAnyH_ready (rs := [9]) (by kernel_rfl) (by simp) ?_
            refine AllReadyH.cons (o := { dst := some 112, op := Op.buildSlice 83 1 #[(0, Operand.tmp 111)], type := 83, pos := "law.go:185", after := #[{ on := 8, ground := Ground.data }], guard := none }) rfl (fun K hK => ?_) AllReadyH.nil
            rw [if_pos (by rfl)]
            go_simp
            have hbn : Below X2.heap.size X2 (X2.alloc (.cells #[.int .u64 0, .int .u8 0, .string ⟨#[]⟩, .int .i64 3] 97)) := (Below.refl _ _).alloc (Nat.le_refl _) _
            have hon : One X2.heap.size #[.int .u64 0, .int .u8 0, .string ⟨#[]⟩, .int .i64 3] (X2.alloc (.cells #[.int .u64 0, .int .u8 0, .string ⟨#[]⟩, .int .i64 3] 97)) := One.of _ _ _
            generalize X2.alloc (.cells #[.int .u64 0, .int .u8 0, .string ⟨#[]⟩, .int .i64 3] 97) = X3 at hbn hon ⊢
            have HS3 := Lib.hid (HS2.out.trans (hbn.mono HS2.out.size))
            replace HR := Lib.hid (HR.out.below hbn (Nat.le_refl _))
            have HG := Lib.hid hon
            clear hon
            refine hK.out _ _ HS3 (fun hS => ?_)
            clear hK hbn K
            try simp only [Act.put, List.setIfInBounds_toArray, List.set_cons_zero, List.set_cons_succ]
            refine wpAnyH_take (i := 10) (oi := { dst := some 113, op := Op.build 85 #[(0, Operand.tmp 112)], type := 85, pos := "law.go:185", after := #[{ on := 9, ground := Ground.data }], guard := none }) (v := .agg #[.slice (some ⟨X2.heap.size, 0, none⟩) 1 1, .slice none 0 0, .slice none 0 0]) rfl (by kernel_rfl) (by kernel_rfl) (by kernel_rfl) (fun _ _ _ h => h) (Or.inl ⟨by rfl, fun w' hw => ?_⟩) hS ?_
            · go_simp
            try simp only [Act.put, List.setIfInBounds_toArray, List.set_cons_zero, List.set_cons_succ]
            refine wpAnyH_take (i := 11) (oi := { dst := some 114, op := Op.build 87 #[(1, Operand.tmp 110), (2, Operand.const (Value.int IntKind.i64 4)), (3, Operand.const (Value.int IntKind.i64 5)), (6, Operand.const (Value.int IntKind.i64 4)), (8, Operand.tmp 113)], type := 87, pos := "law.go:185", after := #[{ on := 7, ground := Ground.data }, { on := 10, ground := Ground.data }], guard := none }) (v := .agg (stoCells ⟨vR, .slice none 0 0, .slice (some ⟨X2.heap.size, 0, none⟩) 1 1, .slice none 0 0, .slice none 0 0⟩ (sG p)).toArray) rfl (by kernel_rfl) (by kernel_rfl) (by kernel_rfl) (fun _ _ _ h => h) (yields_build_s (by rfl) _ rfl ⟨vR, .slice none 0 0, .slice (some ⟨X2.heap.size, 0, none⟩) 1 1, .slice none 0 0, .slice none 0 0⟩ (sG p) (by kernel_rfl)) hS ?_
            try simp only [Act.put, List.setIfInBounds_toArray, List.set_cons_zero, List.set_cons_succ]
            refine wpAnyH_ready (rs := [14]) (by kernel_rfl) (by simp) ?_
            refine AllReadyH.cons (o := { dst := some 117, op := Op.buildSlice 68 4 #[(0, Operand.tmp 106), (1, Operand.tmp 108), (2, Operand.tmp 114), (3, Operand.tmp 116)], type := 68, pos := "law.go:185", after := #[{ on := 3, ground := Ground.data }, { on := 5, ground := Ground.data }, { on := 11, ground := Ground.data }, { on := 13, ground := Ground.data }], guard := none }) rfl (fun K hK => ?_) AllReadyH.nil
            rw [if_pos (by rfl)]
            refine wp_build_sto4 (.tmp 106) (.tmp 108) (.tmp 114) (.tmp 116) rfl rfl rfl rfl rfl ?_
            have hbn : Below X3.heap.size X3 (X3.alloc (.cells (stoFlat [(f1, sP p s), (⟨.slice none 0 0, .slice (some ⟨eD, 0, none⟩) 1 1, .slice none 0 0, .slice none 0 0, .slice none 0 0⟩, sDl p), (⟨vR, .slice none 0 0, .slice (some ⟨X2.heap.size, 0, none⟩) 1 1, .slice none 0 0, .slice none 0 0⟩, sG p), (⟨.slice none 0 0, .slice none 0 0, .slice none 0 0, .slice none 0 0, .slice none 0 0⟩, sL)]).toArray 87)) := (Below.refl _ _).alloc (Nat.le_refl _) _
            have hon : One X3.heap.size (stoFlat [(f1, sP p s), (⟨.slice none 0 0, .slice (some ⟨eD, 0, none⟩) 1 1, .slice none 0 0, .slice none 0 0, .slice none 0 0⟩, sDl p), (⟨vR, .slice none 0 0, .slice (some ⟨X2.heap.size, 0, none⟩) 1 1, .slice none 0 0, .slice none 0 0⟩, sG p), (⟨.slice none 0 0, .slice none 0 0, .slice none 0 0, .slice none 0 0, .slice none 0 0⟩, sL)]).toArray (X3.alloc (.cells (stoFlat [(f1, sP p s), (⟨.slice none 0 0, .slice (some ⟨eD, 0, none⟩) 1 1, .slice none 0 0, .slice none 0 0, .slice none 0 0⟩, sDl p), (⟨vR, .slice none 0 0, .slice (some ⟨X2.heap.size, 0, none⟩) 1 1, .slice none 0 0, .slice none 0 0⟩, sG p), (⟨.slice none 0 0, .slice none 0 0, .slice none 0 0, .slice none 0 0, .slice none 0 0⟩, sL)]).toArray 87)) := One.of _ _ _
            generalize X3.alloc (.cells (stoFlat [(f1, sP p s), (⟨.slice none 0 0, .slice (some ⟨eD, 0, none⟩) 1 1, .slice none 0 0, .slice none 0 0, .slice none 0 0⟩, sDl p), (⟨vR, .slice none 0 0, .slice (some ⟨X2.heap.size, 0, none⟩) 1 1, .slice none 0 0, .slice none 0 0⟩, sG p), (⟨.slice none 0 0, .slice none 0 0, .slice none 0 0, .slice none 0 0, .slice none 0 0⟩, sL)]).toArray 87) = X4 at hbn hon ⊢
            have HS4 := Lib.hid (HS3.out.trans (hbn.mono HS3.out.size))
            replace HR := Lib.hid (HR.out.below hbn (Nat.le_refl _))
            replace HG := Lib.hid (HG.out.step hbn)
            have HO14 := Lib.hid hon
            clear hon
            refine hK.out _ _ HS4 (fun hS => ?_)
            clear hK hbn K
            try simp only [Act.put, List.setIfInBounds_toArray, List.set_cons_zero, List.set_cons_succ]
            refine wpAnyH_ready (rs := [15]) (by kernel_rfl) (by simp) ?_
            refine AllReadyH.cons (o := { dst := some 118, op := Op.call { callee := Callee.builtin Builtin.append, args := #[Operand.tmp 103, Operand.tmp 117], argTypes := #[68, 68] }, type := 68, pos := "law.go:185", after := #[{ on := 0, ground := Ground.data }, { on := 14, ground := Ground.data }, { on := 7, ground := Ground.chain }], guard := none }) rfl (fun K hK => ?_) AllReadyH.nil
            rw [if_pos (by rfl)]
            refine wp_append_sto4 (.tmp 103) (.tmp 117) rfl (X0.heap.size) (X3.heap.size) rfl [(f1, sP p s), (⟨.slice none 0 0, .slice (some ⟨eD, 0, none⟩) 1 1, .slice none 0 0, .slice none 0 0, .slice none 0 0⟩, sDl p), (⟨vR, .slice none 0 0, .slice (some ⟨X2.heap.size, 0, none⟩) 1 1, .slice none 0 0, .slice none 0 0⟩, sG p), (⟨.slice none 0 0, .slice none 0 0, .slice none 0 0, .slice none 0 0, .slice none 0 0⟩, sL)] rfl rfl HO14.out ?_ ?_
            · intro x hx
              simp only [List.mem_cons, List.not_mem_nil, or_false] at hx
              rcases hx with rfl | rfl | rfl | rfl
              · exact (HF1.out.below HB9.out (Nat.le_refl _)).below HS4.out (Nat.le_refl _)
              · exact ⟨⟨IsRds.nil _, IsEdts.one (HED.out.step HS4.out) 1⟩, ⟨none, 0, rfl, Or.inl rfl⟩, IsNums.none _, IsStrs.nil _⟩
              · exact ⟨⟨HR.out, ⟨none, 0, rfl, Or.inl rfl⟩⟩, IsGots.one (g := ⟨dV, 3⟩) HG.out, IsNums.none _, IsStrs.nil _⟩
              · exact ⟨⟨IsRds.nil _, ⟨none, 0, rfl, Or.inl rfl⟩⟩, ⟨none, 0, rfl, Or.inl rfl⟩, IsNums.none _, IsStrs.nil _⟩
            intro vX X5 hX hbn
            have HS5 := Lib.hid (HS4.out.trans (hbn.mono HS4.out.size))
            have HX := Lib.hid hX
            clear hX
            refine hK.out _ _ HS5 (fun hS => ?_)
            clear hK hbn K
            try simp only [Act.put, List.setIfInBounds_toArray, List.set_cons_zero, List.set_cons_succ]
            refine wpAnyH_take (i := 16) (oi := { dst := some 15, op := Op.assign (Operand.tmp 118), type := 68, pos := "law.go:185", after := #[{ on := 15, ground := Ground.data }, { on := 15, ground := Ground.chain }, { on := 0, ground := Ground.phase }, { on := 1, ground := Ground.phase }, { on := 2, ground := Ground.phase }, { on := 3, ground := Ground.phase }, { on := 4, ground := Ground.phase }, { on := 5, ground := Ground.phase }, { on := 6, ground := Ground.phase }, { on := 7, ground := Ground.phase }, { on := 8, ground := Ground.phase }, { on := 9, ground := Ground.phase }, { on := 10, ground := Ground.phase }, { on := 11, ground := Ground.phase }, { on := 12, ground := Ground.phase }, { on := 13, ground := Ground.phase }, { on := 14, ground := Ground.phase }, { on := 15, ground := Ground.phase }], guard := none }) (v := vX) rfl (by kernel_rfl) (by kernel_rfl) (by kernel_rfl) (fun _ _ _ h => h) (Or.inl ⟨by rfl, fun w' hw => ?_⟩) hS ?_
            · go_simp
            try simp only [Act.put, List.setIfInBounds_toArray, List.set_cons_zero, List.set_cons_succ]
            refine wpAnyH_done (by kernel_rfl) ?_ _
            clear hS
            have HBX : Hid (Below w.heap.size w X5) := Lib.hid (HBW9.out.trans (HS5.out.mono HBW9.out.size))
            go_wp2_with fail
            refine (check_any [sP p s, sDl p, sG p, sL] vX X5 HX.out (by simp) HZ4.out (HM.out.below HBX.out (Nat.le_refl _))).mono ?_
            rintro e wY ⟨rfl, hbY⟩
            rw [check_four HMP.out hs2]
            have HBY := Lib.hid (HBX.out.trans (hbY.mono HBX.out.size))
            clear hbY
            unfold vdVal
            dsimp only
            have hfd := field_vd
            go_wp2_with fail
            refine (law_alive wY (HM.out.below HBY.out (Nat.le_refl _))).mono ?_
            rintro e wZ ⟨rfl, hbZ⟩
            have HBZ := Lib.hid (HBY.out.trans (hbZ.mono HBY.out.size))
            clear hbZ
            go_wp2_with fail
            exact bodyPost_ret (v := .bool true) (by simp [results, Tryz.results7, go_sem]) rfl ⟨rfl, HBZ.out⟩
          refine AllReadyH.cons (o := { dst := some 112, op := Op.buildSlice 83 1 #[(0, Operand.tmp 111)], type := 83, pos := "law.go:185", after := #[{ on := 8, ground := Ground.data }], guard := none }) rfl (fun K hK => ?_) AllReadyH.nil
          rw [if_pos (by rfl)]
          go_simp
          have hbn : Below X1.heap.size X1 (X1.alloc (.cells #[.int .u64 0, .int .u8 0, .string ⟨#[]⟩, .int .i64 3] 97)) := (Below.refl _ _).alloc (Nat.le_refl _) _
          have hon : One X1.heap.size #[.int .u64 0, .int .u8 0, .string ⟨#[]⟩, .int .i64 3] (X1.alloc (.cells #[.int .u64 0, .int .u8 0, .string ⟨#[]⟩, .int .i64 3] 97)) := One.of _ _ _
          generalize X1.alloc (.cells #[.int .u64 0, .int .u8 0, .string ⟨#[]⟩, .int .i64 3] 97) = X2 at hbn hon ⊢
          have HS2 := Lib.hid (HS1.out.trans (hbn.mono HS1.out.size))
          have HG := Lib.hid hon
          clear hon
          refine hK.out _ _ HS2 (fun hS => ?_)
          clear hK hbn K
          try simp only [Act.put, List.setIfInBounds_toArray, List.set_cons_zero, List.set_cons_succ]
          refine wpAnyH_take (i := 10) (oi := { dst := some 113, op := Op.build 85 #[(0, Operand.tmp 112)], type := 85, pos := "law.go:185", after := #[{ on := 9, ground := Ground.data }], guard := none }) (v := .agg #[.slice (some ⟨X1.heap.size, 0, none⟩) 1 1, .slice none 0 0, .slice none 0 0]) rfl (by kernel_rfl) (by kernel_rfl) (by kernel_rfl) (fun _ _ _ h => h) (Or.inl ⟨by rfl, fun w' hw => ?_⟩) hS ?_
          · go_simp
          try simp only [Act.put, List.setIfInBounds_toArray, List.set_cons_zero, List.set_cons_succ]
          refine wpAnyH_ready (rs := [7]) (by kernel_rfl) (by simp) ?_
          refine AllReadyH.cons (o := { dst := some 110, op := Op.call { callee := Callee.value (Operand.func 37), args := #[Operand.tmp 109], argTypes := #[9] }, type := 80, pos := "law.go:185", after := #[{ on := 6, ground := Ground.data }], guard := none }) rfl (fun K hK => ?_) AllReadyH.nil
          rw [if_pos (by rfl)]
          go_simp
          refine (law_get p X2).mono ?_
          rintro e X3 ⟨vR, rfl, hR, hbn⟩
          unfold calVal getL
          go_wp2_with fail
          have HS3 := Lib.hid (HS2.out.trans (hbn.mono HS2.out.size))
          replace HG := Lib.hid (HG.out.step hbn)
          have HR := Lib.hid hR
          clear hR
          refine hK.out _ _ HS3 (fun hS => ?_)
          clear hK hbn K
          try simp only [Act.put, List.setIfInBounds_toArray, List.set_cons_zero, List.set_cons_succ]
          refine wpAnyH_take (i := 11) (oi := { dst := some 114, op := Op.build 87 #[(1, Operand.tmp 110), (2, Operand.const (Value.int IntKind.i64 4)), (3, Operand.const (Value.int IntKind.i64 5)), (6, Operand.const (Value.int IntKind.i64 4)), (8, Operand.tmp 113)], type := 87, pos := "law.go:185", after := #[{ on := 7, ground := Ground.data }, { on := 10, ground := Ground.data }], guard := none }) (v := .agg (stoCells ⟨vR, .slice none 0 0, .slice (some ⟨X1.heap.size, 0, none⟩) 1 1, .slice none 0 0, .slice none 0 0⟩ (sG p)).toArray) rfl (by kernel_rfl) (by kernel_rfl) (by kernel_rfl) (fun _ _ _ h => h) (yields_build_s (by rfl) _ rfl ⟨vR, .slice none 0 0, .slice (some ⟨X1.heap.size, 0, none⟩) 1 1, .slice none 0 0, .slice none 0 0⟩ (sG p) (by kernel_rfl)) hS ?_
          try simp only [Act.put, List.setIfInBounds_toArray, List.set_cons_zero, List.set_cons_succ]
          refine wpAnyH_ready (rs := [14]) (by kernel_rfl) (by simp) ?_
          refine AllReadyH.cons (o := { dst := some 117, op := Op.buildSlice 68 4 #[(0, Operand.tmp 106), (1, Operand.tmp 108), (2, Operand.tmp 114), (3, Operand.tmp 116)], type := 68, pos := "law.go:185", after := #[{ on := 3, ground := Ground.data }, { on := 5, ground := Ground.data }, { on := 11, ground := Ground.data }, { on := 13, ground := Ground.data }], guard := none }) rfl (fun K hK => ?_) AllReadyH.nil
          rw [if_pos (by rfl)]
          refine wp_build_sto4 (.tmp 106) (.tmp 108) (.tmp 114) (.tmp 116) rfl rfl rfl rfl rfl ?_
          have hbn : Below X3.heap.size X3 (X3.alloc (.cells (stoFlat [(f1, sP p s), (⟨.slice none 0 0, .slice (some ⟨eD, 0, none⟩) 1 1, .slice none 0 0, .slice none 0 0, .slice none 0 0⟩, sDl p), (⟨vR, .slice none 0 0, .slice (some ⟨X1.heap.size, 0, none⟩) 1 1, .slice none 0 0, .slice none 0 0⟩, sG p), (⟨.slice none 0 0, .slice none 0 0, .slice none 0 0, .slice none 0 0, .slice none 0 0⟩, sL)]).toArray 87)) := (Below.refl _ _).alloc (Nat.le_refl _) _
          have hon : One X3.heap.size (stoFlat [(f1, sP p s), (⟨.slice none 0 0, .slice (some ⟨eD, 0, none⟩) 1 1, .slice none 0 0, .slice none 0 0, .slice none 0 0⟩, sDl p), (⟨vR, .slice none 0 0, .slice (some ⟨X1.heap.size, 0, none⟩) 1 1, .slice none 0 0, .slice none 0 0⟩, sG p), (⟨.slice none 0 0, .slice none 0 0, .slice none 0 0, .slice none 0 0, .slice none 0 0⟩, sL)]).toArray (X3.alloc (.cells (stoFlat [(f1, sP p s), (⟨.slice none 0 0, .slice (some ⟨eD, 0, none⟩) 1 1, .slice none 0 0, .slice none 0 0, .slice none 0 0⟩, sDl p), (⟨vR, .slice none 0 0, .slice (some ⟨X1.heap.size, 0, none⟩) 1 1, .slice none 0 0, .slice none 0 0⟩, sG p), (⟨.slice none 0 0, .slice none 0 0, .slice none 0 0, .slice none 0 0, .slice none 0 0⟩, sL)]).toArray 87)) := One.of _ _ _
          generalize X3.alloc (.cells (stoFlat [(f1, sP p s), (⟨.slice none 0 0, .slice (some ⟨eD, 0, none⟩) 1 1, .slice none 0 0, .slice none 0 0, .slice none 0 0⟩, sDl p), (⟨vR, .slice none 0 0, .slice (some ⟨X1.heap.size, 0, none⟩) 1 1, .slice none 0 0, .slice none 0 0⟩, sG p), (⟨.slice none 0 0, .slice none 0 0, .slice none 0 0, .slice none 0 0, .slice none 0 0⟩, sL)]).toArray 87) = X4 at hbn hon ⊢
          have HS4 := Lib.hid (HS3.out.trans (hbn.mono HS3.out.size))
          replace HG := Lib.hid (HG.out.step hbn)
          replace HR := Lib.hid (HR.out.below hbn (Nat.le_refl _))
          have HO14 := Lib.hid hon
          clear hon
          refine hK.out _ _ HS4 (fun hS => ?_)
          clear hK hbn K
          try simp only [Act.put, List.setIfInBounds_toArray, List.set_cons_zero, List.set_cons_succ]
          refine wpAnyH_ready (rs := [15]) (by kernel_rfl) (by simp) ?_
          refine AllReadyH.cons (o := { dst := some 118, op := Op.call { callee := Callee.builtin Builtin.append, args := #[Operand.tmp 103, Operand.tmp 117], argTypes := #[68, 68] }, type := 68, pos := "law.go:185", after := #[{ on := 0, ground := Ground.data }, { on := 14, ground := Ground.data }, { on := 7, ground := Ground.chain }], guard := none }) rfl (fun K hK => ?_) AllReadyH.nil
          rw [if_pos (by rfl)]
          refine wp_append_sto4 (.tmp 103) (.tmp 117) rfl (X0.heap.size) (X3.heap.size) rfl [(f1, sP p s), (⟨.slice none 0 0, .slice (some ⟨eD, 0, none⟩) 1 1, .slice none 0 0, .slice none 0 0, .slice none 0 0⟩, sDl p), (⟨vR, .slice none 0 0, .slice (some ⟨X1.heap.size, 0, none⟩) 1 1, .slice none 0 0, .slice none 0 0⟩, sG p), (⟨.slice none 0 0, .slice none 0 0, .slice none 0 0, .slice none 0 0, .slice none 0 0⟩, sL)] rfl rfl HO14.out ?_ ?_
          · intro x hx
            simp only [List.mem_cons, List.not_mem_nil, or_false] at hx
            rcases hx with rfl | rfl | rfl | rfl
            · exact (HF1.out.below HB9.out (Nat.le_refl _)).below HS4.out (Nat.le_refl _)
            · exact ⟨⟨IsRds.nil _, IsEdts.one (HED.out.step HS4.out) 1⟩, ⟨none, 0, rfl, Or.inl rfl⟩, IsNums.none _, IsStrs.nil _⟩
            · exact ⟨⟨HR.out, ⟨none, 0, rfl, Or.inl rfl⟩⟩, IsGots.one (g := ⟨dV, 3⟩) HG.out, IsNums.none _, IsStrs.nil _⟩
            · exact ⟨⟨IsRds.nil _, ⟨none, 0, rfl, Or.inl rfl⟩⟩, ⟨none, 0, rfl, Or.inl rfl⟩, IsNums.none _, IsStrs.nil _⟩
          intro vX X5 hX hbn
          have HS5 := Lib.hid (HS4.out.trans (hbn.mono HS4.out.size))
          have HX := Lib.hid hX
          clear hX
          refine hK.out _ _ HS5 (fun hS => ?_)
          clear hK hbn K
          try simp only [Act.put, List.setIfInBounds_toArray, List.set_cons_zero, List.set_cons_succ]
          refine wpAnyH_take (i := 16) (oi := { dst := some 15, op := Op.assign (Operand.tmp 118), type := 68, pos := "law.go:185", after := #[{ on := 15, ground := Ground.data }, { on := 15, ground := Ground.chain }, { on := 0, ground := Ground.phase }, { on := 1, ground := Ground.phase }, { on := 2, ground := Ground.phase }, { on := 3, ground := Ground.phase }, { on := 4, ground := Ground.phase }, { on := 5, ground := Ground.phase }, { on := 6, ground := Ground.phase }, { on := 7, ground := Ground.phase }, { on := 8, ground := Ground.phase }, { on := 9, ground := Ground.phase }, { on := 10, ground := Ground.phase }, { on := 11, ground := Ground.phase }, { on := 12, ground := Ground.phase }, { on := 13, ground := Ground.phase }, { on := 14, ground := Ground.phase }, { on := 15, ground := Ground.phase }], guard := none }) (v := vX) rfl (by kernel_rfl) (by kernel_rfl) (by kernel_rfl) (fun _ _ _ h => h) (Or.inl ⟨by rfl, fun w' hw => ?_⟩) hS ?_
          · go_simp
          try simp only [Act.put, List.setIfInBounds_toArray, List.set_cons_zero, List.set_cons_succ]
          refine wpAnyH_done (by kernel_rfl) ?_ _
          clear hS
          have HBX : Hid (Below w.heap.size w X5) := Lib.hid (HBW9.out.trans (HS5.out.mono HBW9.out.size))
          go_wp2_with fail
          refine (check_any [sP p s, sDl p, sG p, sL] vX X5 HX.out (by simp) HZ4.out (HM.out.below HBX.out (Nat.le_refl _))).mono ?_
          rintro e wY ⟨rfl, hbY⟩
          rw [check_four HMP.out hs2]
          have HBY := Lib.hid (HBX.out.trans (hbY.mono HBX.out.size))
          clear hbY
          unfold vdVal
          dsimp only
          have hfd := field_vd
          go_wp2_with fail
          refine (law_alive wY (HM.out.below HBY.out (Nat.le_refl _))).mono ?_
          rintro e wZ ⟨rfl, hbZ⟩
          have HBZ := Lib.hid (HBY.out.trans (hbZ.mono HBY.out.size))
          clear hbZ
          go_wp2_with fail
          exact bodyPost_ret (v := .bool true) (by simp [results, Tryz.results7, go_sem]) rfl ⟨rfl, HBZ.out⟩
        refine AllReadyH.cons (o := { dst := some 110, op := Op.call { callee := Callee.value (Operand.func 37), args := #[Operand.tmp 109], argTypes := #[9] }, type := 80, pos := "law.go:185", after := #[{ on := 6, ground := Ground.data }], guard := none }) rfl (fun K hK => ?_) ?_
        · rw [if_pos (by rfl)]
          go_simp
          refine (law_get p X0).mono ?_
          rintro e X1 ⟨vR, rfl, hR, hbn⟩
          unfold calVal getL
          go_wp2_with fail
          have HS1 := Lib.hid (HS0.out.trans (hbn.mono HS0.out.size))
          have HR := Lib.hid hR
          clear hR
          refine hK.out _ _ HS1 (fun hS => ?_)
          clear hK hbn K
          try simp only [Act.put, List.setIfInBounds_toArray, List.set_cons_zero, List.set_cons_succ]
          refine wpAnyH_ready (rs := [0, 9]) (by kernel_rfl) (by simp) ?_
          refine AllReadyH.cons (o := { dst := some 103, op := Op.buildSlice 68 0 #[], type := 68, pos := "law.go:185", after := #[], guard := none }) rfl (fun K hK => ?_) ?_
          · rw [if_pos (by rfl)]
            refine wp_build_sto0 rfl ?_
            have hbn : Below X1.heap.size X1 (X1.alloc (.cells #[] 87)) := (Below.refl _ _).alloc (Nat.le_refl _) _
            generalize X1.alloc (.cells #[] 87) = X2 at hbn ⊢
            have HS2 := Lib.hid (HS1.out.trans (hbn.mono HS1.out.size))
            replace HR := Lib.hid (HR.out.below hbn (Nat.le_refl _))
            refine hK.out _ _ HS2 (fun hS => ?_)
            clear hK hbn K
            try simp only [Act.put, List.setIfInBounds_toArray, List.set_cons_zero, List.set_cons_succ]
            refine wpAnyH_ready (rs := [9]) (by kernel_rfl) (by simp) ?_
            refine AllReadyH.cons (o := { dst := some 112, op := Op.buildSlice 83 1 #[(0, Operand.tmp 111)], type := 83, pos := "law.go:185", after := #[{ on := 8, ground := Ground.data }], guard := none }) rfl (fun K hK => ?_) AllReadyH.nil
            rw [if_pos (by rfl)]
            go_simp
            have hbn : Below X2.heap.size X2 (X2.alloc (.cells #[.int .u64 0, .int .u8 0, .string ⟨#[]⟩, .int .i64 3] 97)) := (Below.refl _ _).alloc (Nat.le_refl _) _
            have hon : One X2.heap.size #[.int .u64 0, .int .u8 0, .string ⟨#[]⟩, .int .i64 3] (X2.alloc (.cells #[.int .u64 0, .int .u8 0, .string ⟨#[]⟩, .int .i64 3] 97)) := One.of _ _ _
            generalize X2.alloc (.cells #[.int .u64 0, .int .u8 0, .string ⟨#[]⟩, .int .i64 3] 97) = X3 at hbn hon ⊢
            have HS3 := Lib.hid (HS2.out.trans (hbn.mono HS2.out.size))
            replace HR := Lib.hid (HR.out.below hbn (Nat.le_refl _))
            have HG := Lib.hid hon
            clear hon
            refine hK.out _ _ HS3 (fun hS => ?_)
            clear hK hbn K
            try simp only [Act.put, List.setIfInBounds_toArray, List.set_cons_zero, List.set_cons_succ]
            refine wpAnyH_take (i := 10) (oi := { dst := some 113, op := Op.build 85 #[(0, Operand.tmp 112)], type := 85, pos := "law.go:185", after := #[{ on := 9, ground := Ground.data }], guard := none }) (v := .agg #[.slice (some ⟨X2.heap.size, 0, none⟩) 1 1, .slice none 0 0, .slice none 0 0]) rfl (by kernel_rfl) (by kernel_rfl) (by kernel_rfl) (fun _ _ _ h => h) (Or.inl ⟨by rfl, fun w' hw => ?_⟩) hS ?_
            · go_simp
            try simp only [Act.put, List.setIfInBounds_toArray, List.set_cons_zero, List.set_cons_succ]
            refine wpAnyH_take (i := 11) (oi := { dst := some 114, op := Op.build 87 #[(1, Operand.tmp 110), (2, Operand.const (Value.int IntKind.i64 4)), (3, Operand.const (Value.int IntKind.i64 5)), (6, Operand.const (Value.int IntKind.i64 4)), (8, Operand.tmp 113)], type := 87, pos := "law.go:185", after := #[{ on := 7, ground := Ground.data }, { on := 10, ground := Ground.data }], guard := none }) (v := .agg (stoCells ⟨vR, .slice none 0 0, .slice (some ⟨X2.heap.size, 0, none⟩) 1 1, .slice none 0 0, .slice none 0 0⟩ (sG p)).toArray) rfl (by kernel_rfl) (by kernel_rfl) (by kernel_rfl) (fun _ _ _ h => h) (yields_build_s (by rfl) _ rfl ⟨vR, .slice none 0 0, .slice (some ⟨X2.heap.size, 0, none⟩) 1 1, .slice none 0 0, .slice none 0 0⟩ (sG p) (by kernel_rfl)) hS ?_
            try simp only [Act.put, List.setIfInBounds_toArray, List.set_cons_zero, List.set_cons_succ]
            refine wpAnyH_ready (rs := [14]) (by kernel_rfl) (by simp) ?_
            refine AllReadyH.cons (o := { dst := some 117, op := Op.buildSlice 68 4 #[(0, Operand.tmp 106), (1, Operand.tmp 108), (2, Operand.tmp 114), (3, Operand.tmp 116)], type := 68, pos := "law.go:185", after := #[{ on := 3, ground := Ground.data }, { on := 5, ground := Ground.data }, { on := 11, ground := Ground.data }, { on := 13, ground := Ground.data }], guard := none }) rfl (fun K hK => ?_) AllReadyH.nil
            rw [if_pos (by rfl)]
            refine wp_build_sto4 (.tmp 106) (.tmp 108) (.tmp 114) (.tmp 116) rfl rfl rfl rfl rfl ?_
            have hbn : Below X3.heap.size X3 (X3.alloc (.cells (stoFlat [(f1, sP p s), (⟨.slice none 0 0, .slice (some ⟨eD, 0, none⟩) 1 1, .slice none 0 0, .slice none 0 0, .slice none 0 0⟩, sDl p), (⟨vR, .slice none 0 0, .slice (some ⟨X2.heap.size, 0, none⟩) 1 1, .slice none 0 0, .slice none 0 0⟩, sG p), (⟨.slice none 0 0, .slice none 0 0, .slice none 0 0, .slice none 0 0, .slice none 0 0⟩, sL)]).toArray 87)) := (Below.refl _ _).alloc (Nat.le_refl _) _
            have hon : One X3.heap.size (stoFlat [(f1, sP p s), (⟨.slice none 0 0, .slice (some ⟨eD, 0, none⟩) 1 1, .slice none 0 0, .slice none 0 0, .slice none 0 0⟩, sDl p), (⟨vR, .slice none 0 0, .slice (some ⟨X2.heap.size, 0, none⟩) 1 1, .slice none 0 0, .slice none 0 0⟩, sG p), (⟨.slice none 0 0, .slice none 0 0, .slice none 0 0, .slice none 0 0, .slice none 0 0⟩, sL)]).toArray (X3.alloc (.cells (stoFlat [(f1, sP p s), (⟨.slice none 0 0, .slice (some ⟨eD, 0, none⟩) 1 1, .slice none 0 0, .slice none 0 0, .slice none 0 0⟩, sDl p), (⟨vR, .slice none 0 0, .slice (some ⟨X2.heap.size, 0, none⟩) 1 1, .slice none 0 0, .slice none 0 0⟩, sG p), (⟨.slice none 0 0, .slice none 0 0, .slice none 0 0, .slice none 0 0, .slice none 0 0⟩, sL)]).toArray 87)) := One.of _ _ _
            generalize X3.alloc (.cells (stoFlat [(f1, sP p s), (⟨.slice none 0 0, .slice (some ⟨eD, 0, none⟩) 1 1, .slice none 0 0, .slice none 0 0, .slice none 0 0⟩, sDl p), (⟨vR, .slice none 0 0, .slice (some ⟨X2.heap.size, 0, none⟩) 1 1, .slice none 0 0, .slice none 0 0⟩, sG p), (⟨.slice none 0 0, .slice none 0 0, .slice none 0 0, .slice none 0 0, .slice none 0 0⟩, sL)]).toArray 87) = X4 at hbn hon ⊢
            have HS4 := Lib.hid (HS3.out.trans (hbn.mono HS3.out.size))
            replace HR := Lib.hid (HR.out.below hbn (Nat.le_refl _))
            replace HG := Lib.hid (HG.out.step hbn)
            have HO14 := Lib.hid hon
            clear hon
            refine hK.out _ _ HS4 (fun hS => ?_)
            clear hK hbn K
            try simp only [Act.put, List.setIfInBounds_toArray, List.set_cons_zero, List.set_cons_succ]
            refine wpAnyH_ready (rs := [15]) (by kernel_rfl) (by simp) ?_
            refine AllReadyH.cons (o := { dst := some 118, op := Op.call { callee := Callee.builtin Builtin.append, args := #[Operand.tmp 103, Operand.tmp 117], argTypes := #[68, 68] }, type := 68, pos := "law.go:185", after := #[{ on := 0, ground := Ground.data }, { on := 14, ground := Ground.data }, { on := 7, ground := Ground.chain }], guard := none }) rfl (fun K hK => ?_) AllReadyH.nil
            rw [if_pos (by rfl)]
            refine wp_append_sto4 (.tmp 103) (.tmp 117) rfl (X1.heap.size) (X3.heap.size) rfl [(f1, sP p s), (⟨.slice none 0 0, .slice (some ⟨eD, 0, none⟩) 1 1, .slice none 0 0, .slice none 0 0, .slice none 0 0⟩, sDl p), (⟨vR, .slice none 0 0, .slice (some ⟨X2.heap.size, 0, none⟩) 1 1, .slice none 0 0, .slice none 0 0⟩, sG p), (⟨.slice none 0 0, .slice none 0 0, .slice none 0 0, .slice none 0 0, .slice none 0 0⟩, sL)] rfl rfl HO14.out ?_ ?_
            · intro x hx
              simp only [List.mem_cons, List.not_mem_nil, or_false] at hx
              rcases hx with rfl | rfl | rfl | rfl
              · exact (HF1.out.below HB9.out (Nat.le_refl _)).below HS4.out (Nat.le_refl _)
              · exact ⟨⟨IsRds.nil _, IsEdts.one (HED.out.step HS4.out) 1⟩, ⟨none, 0, rfl, Or.inl rfl⟩, IsNums.none _, IsStrs.nil _⟩
              · exact ⟨⟨HR.out, ⟨none, 0, rfl, Or.inl rfl⟩⟩, IsGots.one (g := ⟨dV, 3⟩) HG.out, IsNums.none _, IsStrs.nil _⟩
              · exact ⟨⟨IsRds.nil _, ⟨none, 0, rfl, Or.inl rfl⟩⟩, ⟨none, 0, rfl, Or.inl rfl⟩, IsNums.none _, IsStrs.nil _⟩
            intro vX X5 hX hbn
            have HS5 := Lib.hid (HS4.out.trans (hbn.mono HS4.out.size))
            have HX := Lib.hid hX
            clear hX
            refine hK.out _ _ HS5 (fun hS => ?_)
            clear hK hbn K
            try simp only [Act.put, List.setIfInBounds_toArray, List.set_cons_zero, List.set_cons_succ]
            refine wpAnyH_take (i := 16) (oi := { dst := some 15, op := Op.assign (Operand.tmp 118), type := 68, pos := "law.go:185", after := #[{ on := 15, ground := Ground.data }, { on := 15, ground := Ground.chain }, { on := 0, ground := Ground.phase }, { on := 1, ground := Ground.phase }, { on := 2, ground := Ground.phase }, { on := 3, ground := Ground.phase }, { on := 4, ground := Ground.phase }, { on := 5, ground := Ground.phase }, { on := 6, ground := Ground.phase }, { on := 7, ground := Ground.phase }, { on := 8, ground := Ground.phase }, { on := 9, ground := Ground.phase }, { on := 10, ground := Ground.phase }, { on := 11, ground := Ground.phase }, { on := 12, ground := Ground.phase }, { on := 13, ground := Ground.phase }, { on := 14, ground := Ground.phase }, { on := 15, ground := Ground.phase }], guard := none }) (v := vX) rfl (by kernel_rfl) (by kernel_rfl) (by kernel_rfl) (fun _ _ _ h => h) (Or.inl ⟨by rfl, fun w' hw => ?_⟩) hS ?_
            · go_simp
            try simp only [Act.put, List.setIfInBounds_toArray, List.set_cons_zero, List.set_cons_succ]
            refine wpAnyH_done (by kernel_rfl) ?_ _
            clear hS
            have HBX : Hid (Below w.heap.size w X5) := Lib.hid (HBW9.out.trans (HS5.out.mono HBW9.out.size))
            go_wp2_with fail
            refine (check_any [sP p s, sDl p, sG p, sL] vX X5 HX.out (by simp) HZ4.out (HM.out.below HBX.out (Nat.le_refl _))).mono ?_
            rintro e wY ⟨rfl, hbY⟩
            rw [check_four HMP.out hs2]
            have HBY := Lib.hid (HBX.out.trans (hbY.mono HBX.out.size))
            clear hbY
            unfold vdVal
            dsimp only
            have hfd := field_vd
            go_wp2_with fail
            refine (law_alive wY (HM.out.below HBY.out (Nat.le_refl _))).mono ?_
            rintro e wZ ⟨rfl, hbZ⟩
            have HBZ := Lib.hid (HBY.out.trans (hbZ.mono HBY.out.size))
            clear hbZ
            go_wp2_with fail
            exact bodyPost_ret (v := .bool true) (by simp [results, Tryz.results7, go_sem]) rfl ⟨rfl, HBZ.out⟩
          refine AllReadyH.cons (o := { dst := some 112, op := Op.buildSlice 83 1 #[(0, Operand.tmp 111)], type := 83, pos := "law.go:185", after := #[{ on := 8, ground := Ground.data }], guard := none }) rfl (fun K hK => ?_) AllReadyH.nil
          rw [if_pos (by rfl)]
          go_simp
          have hbn : Below X1.heap.size X1 (X1.alloc (.cells #[.int .u64 0, .int .u8 0, .string ⟨#[]⟩, .int .i64 3] 97)) := (Below.refl _ _).alloc (Nat.le_refl _) _
          have hon : One X1.heap.size #[.int .u64 0, .int .u8 0, .string ⟨#[]⟩, .int .i64 3] (X1.alloc (.cells #[.int .u64 0, .int .u8 0, .string ⟨#[]⟩, .int .i64 3] 97)) := One.of _ _ _
          generalize X1.alloc (.cells #[.int .u64 0, .int .u8 0, .string ⟨#[]⟩, .int .i64 3] 97) = X2 at hbn hon ⊢
          have HS2 := Lib.hid (HS1.out.trans (hbn.mono HS1.out.size))
          replace HR := Lib.hid (HR.out.below hbn (Nat.le_refl _))
          have HG := Lib.hid hon
          clear hon
          refine hK.out _ _ HS2 (fun hS => ?_)
          clear hK hbn K
          try simp only [Act.put, List.setIfInBounds_toArray, List.set_cons_zero, List.set_cons_succ]
          refine wpAnyH_take (i := 10) (oi := { dst := some 113, op := Op.build 85 #[(0, Operand.tmp 112)], type := 85, pos := "law.go:185", after := #[{ on := 9, ground := Ground.data }], guard := none }) (v := .agg #[.slice (some ⟨X1.heap.size, 0, none⟩) 1 1, .slice none 0 0, .slice none 0 0]) rfl (by kernel_rfl) (by kernel_rfl) (by kernel_rfl) (fun _ _ _ h => h) (Or.inl ⟨by rfl, fun w' hw => ?_⟩) hS ?_
          · go_simp
          try simp only [Act.put, List.setIfInBounds_toArray, List.set_cons_zero, List.set_cons_succ]
          refine wpAnyH_take (i := 11) (oi := { dst := some 114, op := Op.build 87 #[(1, Operand.tmp 110), (2, Operand.const (Value.int IntKind.i64 4)), (3, Operand.const (Value.int IntKind.i64 5)), (6, Operand.const (Value.int IntKind.i64 4)), (8, Operand.tmp 113)], type := 87, pos := "law.go:185", after := #[{ on := 7, ground := Ground.data }, { on := 10, ground := Ground.data }], guard := none }) (v := .agg (stoCells ⟨vR, .slice none 0 0, .slice (some ⟨X1.heap.size, 0, none⟩) 1 1, .slice none 0 0, .slice none 0 0⟩ (sG p)).toArray) rfl (by kernel_rfl) (by kernel_rfl) (by kernel_rfl) (fun _ _ _ h => h) (yields_build_s (by rfl) _ rfl ⟨vR, .slice none 0 0, .slice (some ⟨X1.heap.size, 0, none⟩) 1 1, .slice none 0 0, .slice none 0 0⟩ (sG p) (by kernel_rfl)) hS ?_
          try simp only [Act.put, List.setIfInBounds_toArray, List.set_cons_zero, List.set_cons_succ]
          refine wpAnyH_ready (rs := [0, 14]) (by kernel_rfl) (by simp) ?_
          refine AllReadyH.cons (o := { dst := some 103, op := Op.buildSlice 68 0 #[], type := 68, pos := "law.go:185", after := #[], guard := none }) rfl (fun K hK => ?_) ?_
          · rw [if_pos (by rfl)]
            refine wp_build_sto0 rfl ?_
            have hbn : Below X2.heap.size X2 (X2.alloc (.cells #[] 87)) := (Below.refl _ _).alloc (Nat.le_refl _) _
            generalize X2.alloc (.cells #[] 87) = X3 at hbn ⊢
            have HS3 := Lib.hid (HS2.out.trans (hbn.mono HS2.out.size))
            replace HR := Lib.hid (HR.out.below hbn (Nat.le_refl _))
            replace HG := Lib.hid (HG.out.step hbn)
            refine hK.out _ _ HS3 (fun hS => ?_)
            clear hK hbn K
            try simp only [Act.put, List.setIfInBounds_toArray, List.set_cons_zero, List.set_cons_succ]
            refine wpAnyH_ready (rs := [14]) (by kernel_rfl) (by simp) ?_
            refine AllReadyH.cons (o := { dst := some 117, op := Op.buildSlice 68 4 #[(0, Operand.tmp 106), (1, Operand.tmp 108), (2, Operand.tmp 114), (3, Operand.tmp 116)], type := 68, pos := "law.go:185", after := #[{ on := 3, ground := Ground.data }, { on := 5, ground := Ground.data }, { on := 11, ground := Ground.data }, { on := 13, ground := Ground.data }], guard := none }) rfl (fun K hK => ?_) AllReadyH.nil
            rw [if_pos (by rfl)]
            refine wp_build_sto4 (.tmp 106) (.tmp 108) (.tmp 114) (.tmp 116) rfl rfl rfl rfl rfl ?_
            have hbn : Below X3.heap.size X3 (X3.alloc (.cells (stoFlat [(f1, sP p s), (⟨.slice none 0 0, .slice (some ⟨eD, 0, none⟩) 1 1, .slice none 0 0, .slice none 0 0, .slice none 0 0⟩, sDl p), (⟨vR, .slice none 0 0, .slice (some ⟨X1.heap.size, 0, none⟩) 1 1, .slice none 0 0, .slice none 0 0⟩, sG p), (⟨.slice none 0 0, .slice none 0 0, .slice none 0 0, .slice none 0 0, .slice none 0 0⟩, sL)]).toArray 87)) := (Below.refl _ _).alloc (Nat.le_refl _) _
            have hon : One X3.heap.size (stoFlat [(f1, sP p s), (⟨.slice none 0 0, .slice (some ⟨eD, 0, none⟩) 1 1, .slice none 0 0, .slice none 0 0, .slice none 0 0⟩, sDl p), (⟨vR, .slice none 0 0, .slice (some ⟨X1.heap.size, 0, none⟩) 1 1, .slice none 0 0, .slice none 0 0⟩, sG p), (⟨.slice none 0 0, .slice none 0 0, .slice none 0 0, .slice none 0 0, .slice none 0 0⟩, sL)]).toArray (X3.alloc (.cells (stoFlat [(f1, sP p s), (⟨.slice none 0 0, .slice (some ⟨eD, 0, none⟩) 1 1, .slice none 0 0, .slice none 0 0, .slice none 0 0⟩, sDl p), (⟨vR, .slice none 0 0, .slice (some ⟨X1.heap.size, 0, none⟩) 1 1, .slice none 0 0, .slice none 0 0⟩, sG p), (⟨.slice none 0 0, .slice none 0 0, .slice none 0 0, .slice none 0 0, .slice none 0 0⟩, sL)]).toArray 87)) := One.of _ _ _
            generalize X3.alloc (.cells (stoFlat [(f1, sP p s), (⟨.slice none 0 0, .slice (some ⟨eD, 0, none⟩) 1 1, .slice none 0 0, .slice none 0 0, .slice none 0 0⟩, sDl p), (⟨vR, .slice none 0 0, .slice (some ⟨X1.heap.size, 0, none⟩) 1 1, .slice none 0 0, .slice none 0 0⟩, sG p), (⟨.slice none 0 0, .slice none 0 0, .slice none 0 0, .slice none 0 0, .slice none 0 0⟩, sL)]).toArray 87) = X4 at hbn hon ⊢
            have HS4 := Lib.hid (HS3.out.trans (hbn.mono HS3.out.size))
            replace HR := Lib.hid (HR.out.below hbn (Nat.le_refl _))
            replace HG := Lib.hid (HG.out.step hbn)
            have HO14 := Lib.hid hon
            clear hon
            refine hK.out _ _ HS4 (fun hS => ?_)
            clear hK hbn K
            try simp only [Act.put, List.setIfInBounds_toArray, List.set_cons_zero, List.set_cons_succ]
            refine wpAnyH_ready (rs := [15]) (by kernel_rfl) (by simp) ?_
            refine AllReadyH.cons (o := { dst := some 118, op := Op.call { callee := Callee.builtin Builtin.append, args := #[Operand.tmp 103, Operand.tmp 117], argTypes := #[68, 68] }, type := 68, pos := "law.go:185", after := #[{ on := 0, ground := Ground.data }, { on := 14, ground := Ground.data }, { on := 7, ground := Ground.chain }], guard := none }) rfl (fun K hK => ?_) AllReadyH.nil
            rw [if_pos (by rfl)]
            refine wp_append_sto4 (.tmp 103) (.tmp 117) rfl (X2.heap.size) (X3.heap.size) rfl [(f1, sP p s), (⟨.slice none 0 0, .slice (some ⟨eD, 0, none⟩) 1 1, .slice none 0 0, .slice none 0 0, .slice none 0 0⟩, sDl p), (⟨vR, .slice none 0 0, .slice (some ⟨X1.heap.size, 0, none⟩) 1 1, .slice none 0 0, .slice none 0 0⟩, sG p), (⟨.slice none 0 0, .slice none 0 0, .slice none 0 0, .slice none 0 0, .slice none 0 0⟩, sL)] rfl rfl HO14.out ?_ ?_
            · intro x hx
              simp only [List.mem_cons, List.not_mem_nil, or_false] at hx
              rcases hx with rfl | rfl | rfl | rfl
              · exact (HF1.out.below HB9.out (Nat.le_refl _)).below HS4.out (Nat.le_refl _)
              · exact ⟨⟨IsRds.nil _, IsEdts.one (HED.out.step HS4.out) 1⟩, ⟨none, 0, rfl, Or.inl rfl⟩, IsNums.none _, IsStrs.nil _⟩
              · exact ⟨⟨HR.out, ⟨none, 0, rfl, Or.inl rfl⟩⟩, IsGots.one (g := ⟨dV, 3⟩) HG.out, IsNums.none _, IsStrs.nil _⟩
              · exact ⟨⟨IsRds.nil _, ⟨none, 0, rfl, Or.inl rfl⟩⟩, ⟨none, 0, rfl, Or.inl rfl⟩, IsNums.none _, IsStrs.nil _⟩
            intro vX X5 hX hbn
            have HS5 := Lib.hid (HS4.out.trans (hbn.mono HS4.out.size))
            have HX := Lib.hid hX
            clear hX
            refine hK.out _ _ HS5 (fun hS => ?_)
            clear hK hbn K
            try simp only [Act.put, List.setIfInBounds_toArray, List.set_cons_zero, List.set_cons_succ]
            refine wpAnyH_take (i := 16) (oi := { dst := some 15, op := Op.assign (Operand.tmp 118), type := 68, pos := "law.go:185", after := #[{ on := 15, ground := Ground.data }, { on := 15, ground := Ground.chain }, { on := 0, ground := Ground.phase }, { on := 1, ground := Ground.phase }, { on := 2, ground := Ground.phase }, { on := 3, ground := Ground.phase }, { on := 4, ground := Ground.phase }, { on := 5, ground := Ground.phase }, { on := 6, ground := Ground.phase }, { on := 7, ground := Ground.phase }, { on := 8, ground := Ground.phase }, { on := 9, ground := Ground.phase }, { on := 10, ground := Ground.phase }, { on := 11, ground := Ground.phase }, { on := 12, ground := Ground.phase }, { on := 13, ground := Ground.phase }, { on := 14, ground := Ground.phase }, { on := 15, ground := Ground.phase }], guard := none }) (v := vX) rfl (by kernel_rfl) (by kernel_rfl) (by kernel_rfl) (fun _ _ _ h => h) (Or.inl ⟨by rfl, fun w' hw => ?_⟩) hS ?_
            · go_simp
            try simp only [Act.put, List.setIfInBounds_toArray, List.set_cons_zero, List.set_cons_succ]
            refine wpAnyH_done (by kernel_rfl) ?_ _
            clear hS
            have HBX : Hid (Below w.heap.size w X5) := Lib.hid (HBW9.out.trans (HS5.out.mono HBW9.out.size))
            go_wp2_with fail
            refine (check_any [sP p s, sDl p, sG p, sL] vX X5 HX.out (by simp) HZ4.out (HM.out.below HBX.out (Nat.le_refl _))).mono ?_
            rintro e wY ⟨rfl, hbY⟩
            rw [check_four HMP.out hs2]
            have HBY := Lib.hid (HBX.out.trans (hbY.mono HBX.out.size))
            clear hbY
            unfold vdVal
            dsimp only
            have hfd := field_vd
            go_wp2_with fail
            refine (law_alive wY (HM.out.below HBY.out (Nat.le_refl _))).mono ?_
            rintro e wZ ⟨rfl, hbZ⟩
            have HBZ := Lib.hid (HBY.out.trans (hbZ.mono HBY.out.size))
            clear hbZ
            go_wp2_with fail
            exact bodyPost_ret (v := .bool true) (by simp [results, Tryz.results7, go_sem]) rfl ⟨rfl, HBZ.out⟩
          refine AllReadyH.cons (o := { dst := some 117, op := Op.buildSlice 68 4 #[(0, Operand.tmp 106), (1, Operand.tmp 108), (2, Operand.tmp 114), (3, Operand.tmp 116)], type := 68, pos := "law.go:185", after := #[{ on := 3, ground := Ground.data }, { on := 5, ground := Ground.data }, { on := 11, ground := Ground.data }, { on := 13, ground := Ground.data }], guard := none }) rfl (fun K hK => ?_) AllReadyH.nil
          rw [if_pos (by rfl)]
          refine wp_build_sto4 (.tmp 106) (.tmp 108) (.tmp 114) (.tmp 116) rfl rfl rfl rfl rfl ?_
          have hbn : Below X2.heap.size X2 (X2.alloc (.cells (stoFlat [(f1, sP p s), (⟨.slice none 0 0, .slice (some ⟨eD, 0, none⟩) 1 1, .slice none 0 0, .slice none 0 0, .slice none 0 0⟩, sDl p), (⟨vR, .slice none 0 0, .slice (some ⟨X1.heap.size, 0, none⟩) 1 1, .slice none 0 0, .slice none 0 0⟩, sG p), (⟨.slice none 0 0, .slice none 0 0, .slice none 0 0, .slice none 0 0, .slice none 0 0⟩, sL)]).toArray 87)) := (Below.refl _ _).alloc (Nat.le_refl _) _
          have hon : One X2.heap.size (stoFlat [(f1, sP p s), (⟨.slice none 0 0, .slice (some ⟨eD, 0, none⟩) 1 1, .slice none 0 0, .slice none 0 0, .slice none 0 0⟩, sDl p), (⟨vR, .slice none 0 0, .slice (some ⟨X1.heap.size, 0, none⟩) 1 1, .slice none 0 0, .slice none 0 0⟩, sG p), (⟨.slice none 0 0, .slice none 0 0, .slice none 0 0, .slice none 0 0, .slice none 0 0⟩, sL)]).toArray (X2.alloc (.cells (stoFlat [(f1, sP p s), (⟨.slice none 0 0, .slice (some ⟨eD, 0, none⟩) 1 1, .slice none 0 0, .slice none 0 0, .slice none 0 0⟩, sDl p), (⟨vR, .slice none 0 0, .slice (some ⟨X1.heap.size, 0, none⟩) 1 1, .slice none 0 0, .slice none 0 0⟩, sG p), (⟨.slice none 0 0, .slice none 0 0, .slice none 0 0, .slice none 0 0, .slice none 0 0⟩, sL)]).toArray 87)) := One.of _ _ _
          generalize X2.alloc (.cells (stoFlat [(f1, sP p s), (⟨.slice none 0 0, .slice (some ⟨eD, 0, none⟩) 1 1, .slice none 0 0, .slice none 0 0, .slice none 0 0⟩, sDl p), (⟨vR, .slice none 0 0, .slice (some ⟨X1.heap.size, 0, none⟩) 1 1, .slice none 0 0, .slice none 0 0⟩, sG p), (⟨.slice none 0 0, .slice none 0 0, .slice none 0 0, .slice none 0 0, .slice none 0 0⟩, sL)]).toArray 87) = X3 at hbn hon ⊢
          have HS3 := Lib.hid (HS2.out.trans (hbn.mono HS2.out.size))
          replace HR := Lib.hid (HR.out.below hbn (Nat.le_refl _))
          replace HG := Lib.hid (HG.out.step hbn)
          have HO14 := Lib.hid hon
          clear hon
          refine hK.out _ _ HS3 (fun hS => ?_)
          clear hK hbn K
          try simp only [Act.put, List.setIfInBounds_toArray, List.set_cons_zero, List.set_cons_succ]
          refine wpAnyH_ready (rs := [0]) (by kernel_rfl) (by simp) ?_
          refine AllReadyH.cons (o := { dst := some 103, op := Op.buildSlice 68 0 #[], type := 68, pos := "law.go:185", after := #[], guard := none }) rfl (fun K hK => ?_) AllReadyH.nil
          rw [if_pos (by rfl)]
          refine wp_build_sto0 rfl ?_
          have hbn : Below X3.heap.size X3 (X3.alloc (.cells #[] 87)) := (Below.refl _ _).alloc (Nat.le_refl _) _
          generalize X3.alloc (.cells #[] 87) = X4 at hbn ⊢
          have HS4 := Lib.hid (HS3.out.trans (hbn.mono HS3.out.size))
          replace HR := Lib.hid (HR.out.below hbn (Nat.le_refl _))
          replace HG := Lib.hid (HG.out.step hbn)
          replace HO14 := Lib.hid (HO14.out.step hbn)
          refine hK.out _ _ HS4 (fun hS => ?_)
          clear hK hbn K
          try simp only [Act.put, List.setIfInBounds_toArray, List.set_cons_zero, List.set_cons_succ]
          refine wpAnyH_ready (rs := [15]) (by kernel_rfl) (by simp) ?_
          refine AllReadyH.cons (o := { dst := some 118, op := Op.call { callee := Callee.builtin Builtin.append, args := #[Operand.tmp 103, Operand.tmp 117], argTypes := #[68, 68] }, type := 68, pos := "law.go:185", after := #[{ on := 0, ground := Ground.data }, { on := 14, ground := Ground.data }, { on := 7, ground := Ground.chain }], guard := none }) rfl (fun K hK => ?_) AllReadyH.nil
          rw [if_pos (by rfl)]
          refine wp_append_sto4 (.tmp 103) (.tmp 117) rfl (X3.heap.size) (X2.heap.size) rfl [(f1, sP p s), (⟨.slice none 0 0, .slice (some ⟨eD, 0, none⟩) 1 1, .slice none 0 0, .slice none 0 0, .slice none 0 0⟩, sDl p), (⟨vR, .slice none 0 0, .slice (some ⟨X1.heap.size, 0, none⟩) 1 1, .slice none 0 0, .slice none 0 0⟩, sG p), (⟨.slice none 0 0, .slice none 0 0, .slice none 0 0, .slice none 0 0, .slice none 0 0⟩, sL)] rfl rfl HO14.out ?_ ?_
          · intro x hx
            simp only [List.mem_cons, List.not_mem_nil, or_false] at hx
            rcases hx with rfl | rfl | rfl | rfl
            · exact (HF1.out.below HB9.out (Nat.le_refl _)).below HS4.out (Nat.le_refl _)
            · exact ⟨⟨IsRds.nil _, IsEdts.one (HED.out.step HS4.out) 1⟩, ⟨none, 0, rfl, Or.inl rfl⟩, IsNums.none _, IsStrs.nil _⟩
            · exact ⟨⟨HR.out, ⟨none, 0, rfl, Or.inl rfl⟩⟩, IsGots.one (g := ⟨dV, 3⟩) HG.out, IsNums.none _, IsStrs.nil _⟩
            · exact ⟨⟨IsRds.nil _, ⟨none, 0, rfl, Or.inl rfl⟩⟩, ⟨none, 0, rfl, Or.inl rfl⟩, IsNums.none _, IsStrs.nil _⟩
          intro vX X5 hX hbn
          have HS5 := Lib.hid (HS4.out.trans (hbn.mono HS4.out.size))
          have HX := Lib.hid hX
          clear hX
          refine hK.out _ _ HS5 (fun hS => ?_)
          clear hK hbn K
          try simp only [Act.put, List.setIfInBounds_toArray, List.set_cons_zero, List.set_cons_succ]
          refine wpAnyH_take (i := 16) (oi := { dst := some 15, op := Op.assign (Operand.tmp 118), type := 68, pos := "law.go:185", after := #[{ on := 15, ground := Ground.data }, { on := 15, ground := Ground.chain }, { on := 0, ground := Ground.phase }, { on := 1, ground := Ground.phase }, { on := 2, ground := Ground.phase }, { on := 3, ground := Ground.phase }, { on := 4, ground := Ground.phase }, { on := 5, ground := Ground.phase }, { on := 6, ground := Ground.phase }, { on := 7, ground := Ground.phase }, { on := 8, ground := Ground.phase }, { on := 9, ground := Ground.phase }, { on := 10, ground := Ground.phase }, { on := 11, ground := Ground.phase }, { on := 12, ground := Ground.phase }, { on := 13, ground := Ground.phase }, { on := 14, ground := Ground.phase }, { on := 15, ground := Ground.phase }], guard := none }) (v := vX) rfl (by kernel_rfl) (by kernel_rfl) (by kernel_rfl) (fun _ _ _ h => h) (Or.inl ⟨by rfl, fun w' hw => ?_⟩) hS ?_
          · go_simp
          try simp only [Act.put, List.setIfInBounds_toArray, List.set_cons_zero, List.set_cons_succ]
          refine wpAnyH_done (by kernel_rfl) ?_ _
          clear hS
          have HBX : Hid (Below w.heap.size w X5) := Lib.hid (HBW9.out.trans (HS5.out.mono HBW9.out.size))
          go_wp2_with fail
          refine (check_any [sP p s, sDl p, sG p, sL] vX X5 HX.out (by simp) HZ4.out (HM.out.below HBX.out (Nat.le_refl _))).mono ?_
          rintro e wY ⟨rfl, hbY⟩
          rw [check_four HMP.out hs2]
          have HBY := Lib.hid (HBX.out.trans (hbY.mono HBX.out.size))
          clear hbY
          unfold vdVal
          dsimp only
          have hfd := field_vd
          go_wp2_with fail
          refine (law_alive wY (HM.out.below HBY.out (Nat.le_refl _))).mono ?_
          rintro e wZ ⟨rfl, hbZ⟩
          have HBZ := Lib.hid (HBY.out.trans (hbZ.mono HBY.out.size))
          clear hbZ
          go_wp2_with fail
          exact bodyPost_ret (v := .bool true) (by simp [results, Tryz.results7, go_sem]) rfl ⟨rfl, HBZ.out⟩
        refine AllReadyH.cons (o := { dst := some 112, op := Op.buildSlice 83 1 #[(0, Operand.tmp 111)], type := 83, pos := "law.go:185", after := #[{ on := 8, ground := Ground.data }], guard := none }) rfl (fun K hK => ?_) AllReadyH.nil
        rw [if_pos (by rfl)]
        go_simp
        have hbn : Below X0.heap.size X0 (X0.alloc (.cells #[.int .u64 0, .int .u8 0, .string ⟨#[]⟩, .int .i64 3] 97)) := (Below.refl _ _).alloc (Nat.le_refl _) _
        have hon : One X0.heap.size #[.int .u64 0, .int .u8 0, .string ⟨#[]⟩, .int .i64 3] (X0.alloc (.cells #[.int .u64 0, .int .u8 0, .string ⟨#[]⟩, .int .i64 3] 97)) := One.of _ _ _
        generalize X0.alloc (.cells #[.int .u64 0, .int .u8 0, .string ⟨#[]⟩, .int .i64 3] 97) = X1 at hbn hon ⊢
        have HS1 := Lib.hid (HS0.out.trans (hbn.mono HS0.out.size))
        have HG := Lib.hid hon
        clear hon
        refine hK.out _ _ HS1 (fun hS => ?_)
        clear hK hbn K
        try simp only [Act.put, List.setIfInBounds_toArray, List.set_cons_zero, List.set_cons_succ]
        refine wpAnyH_take (i := 10) (oi := { dst := some 113, op := Op.build 85 #[(0, Operand.tmp 112)], type := 85, pos := "law.go:185", after := #[{ on := 9, ground := Ground.data }], guard := none }) (v := .agg #[.slice (some ⟨X0.heap.size, 0, none⟩) 1 1, .slice none 0 0, .slice none 0 0]) rfl (by kernel_rfl) (by kernel_rfl) (by kernel_rfl) (fun _ _ _ h => h) (Or.inl ⟨by rfl, fun w' hw => ?_⟩) hS ?_
        · go_simp
        try simp only [Act.put, List.setIfInBounds_toArray, List.set_cons_zero, List.set_cons_succ]
        refine wpAnyH_ready (rs := [0, 7]) (by kernel_rfl) (by simp) ?_
        refine AllReadyH.cons (o := { dst := some 103, op := Op.buildSlice 68 0 #[], type := 68, pos := "law.go:185", after := #[], guard := none }) rfl (fun K hK => ?_) ?_
        · rw [if_pos (by rfl)]
          refine wp_build_sto0 rfl ?_
          have hbn : Below X1.heap.size X1 (X1.alloc (.cells #[] 87)) := (Below.refl _ _).alloc (Nat.le_refl _) _
          generalize X1.alloc (.cells #[] 87) = X2 at hbn ⊢
          have HS2 := Lib.hid (HS1.out.trans (hbn.mono HS1.out.size))
          replace HG := Lib.hid (HG.out.step hbn)
          refine hK.out _ _ HS2 (fun hS => ?_)
          clear hK hbn K
          try simp only [Act.put, List.setIfInBounds_toArray, List.set_cons_zero, List.set_cons_succ]
          refine wpAnyH_ready (rs := [7]) (by kernel_rfl) (by simp) ?_
          refine AllReadyH.cons (o := { dst := some 110, op := Op.call { callee := Callee.value (Operand.func 37), args := #[Operand.tmp 109], argTypes := #[9] }, type := 80, pos := "law.go:185", after := #[{ on := 6, ground := Ground.data }], guard := none }) rfl (fun K hK => ?_) AllReadyH.nil
          rw [if_pos (by rfl)]
          go_simp
          refine (law_get p X2).mono ?_
          rintro e X3 ⟨vR, rfl, hR, hbn⟩
          unfold calVal getL
          go_wp2_with fail
          have HS3 := Lib.hid (HS2.out.trans (hbn.mono HS2.out.size))
          replace HG := Lib.hid (HG.out.step hbn)
          have HR := Lib.hid hR
          clear hR
          refine hK.out _ _ HS3 (fun hS => ?_)
          clear hK hbn K
          try simp only [Act.put, List.setIfInBounds_toArray, List.set_cons_zero, List.set_cons_succ]
          refine wpAnyH_take (i := 11) (oi := { dst := some 114, op := Op.build 87 #[(1, Operand.tmp 110), (2, Operand.const (Value.int IntKind.i64 4)), (3, Operand.const (Value.int IntKind.i64 5)), (6, Operand.const (Value.int IntKind.i64 4)), (8, Operand.tmp 113)], type := 87, pos := "law.go:185", after := #[{ on := 7, ground := Ground.data }, { on := 10, ground := Ground.data }], guard := none }) (v := .agg (stoCells ⟨vR, .slice none 0 0, .slice (some ⟨X0.heap.size, 0, none⟩) 1 1, .slice none 0 0, .slice none 0 0⟩ (sG p)).toArray) rfl (by kernel_rfl) (by kernel_rfl) (by kernel_rfl) (fun _ _ _ h => h) (yields_build_s (by rfl) _ rfl ⟨vR, .slice none 0 0, .slice (some ⟨X0.heap.size, 0, none⟩) 1 1, .slice none 0 0, .slice none 0 0⟩ (sG p) (by kernel_rfl)) hS ?_
          try simp only [Act.put, List.setIfInBounds_toArray, List.set_cons_zero, List.set_cons_succ]
          refine wpAnyH_ready (rs := [14]) (by kernel_rfl) (by simp) ?_
          refine AllReadyH.cons (o := { dst := some 117, op := Op.buildSlice 68 4 #[(0, Operand.tmp 106), (1, Operand.tmp 108), (2, Operand.tmp 114), (3, Operand.tmp 116)], type := 68, pos := "law.go:185", after := #[{ on := 3, ground := Ground.data }, { on := 5, ground := Ground.data }, { on := 11, ground := Ground.data }, { on := 13, ground := Ground.data }], guard := none }) rfl (fun K hK => ?_) AllReadyH.nil
          rw [if_pos (by rfl)]
          refine wp_build_sto4 (.tmp 106) (.tmp 108) (.tmp 114) (.tmp 116) rfl rfl rfl rfl rfl ?_
          have hbn : Below X3.heap.size X3 (X3.alloc (.cells (stoFlat [(f1, sP p s), (⟨.slice none 0 0, .slice (some ⟨eD, 0, none⟩) 1 1, .slice none 0 0, .slice none 0 0, .slice none 0 0⟩, sDl p), (⟨vR, .slice none 0 0, .slice (some ⟨X0.heap.size, 0, none⟩) 1 1, .slice none 0 0, .slice none 0 0⟩, sG p), (⟨.slice none 0 0, .slice none 0 0, .slice none 0 0, .slice none 0 0, .slice none 0 0⟩, sL)]).toArray 87)) := (Below.refl _ _).alloc (Nat.le_refl _) _
          have hon : One X3.heap.size (stoFlat [(f1, sP p s), (⟨.slice none 0 0, .slice (some ⟨eD, 0, none⟩) 1 1, .slice none 0 0, .slice none 0 0, .slice none 0 0⟩, sDl p), (⟨vR, .slice none 0 0, .slice (some ⟨X0.heap.size, 0, none⟩) 1 1, .slice none 0 0, .slice none 0 0⟩, sG p), (⟨.slice none 0 0, .slice none 0 0, .slice none 0 0, .slice none 0 0, .slice none 0 0⟩, sL)]).toArray (X3.alloc (.cells (stoFlat [(f1, sP p s), (⟨.slice none 0 0, .slice (some ⟨eD, 0, none⟩) 1 1, .slice none 0 0, .slice none 0 0, .slice none 0 0⟩, sDl p), (⟨vR, .slice none 0 0, .slice (some ⟨X0.heap.size, 0, none⟩) 1 1, .slice none 0 0, .slice none 0 0⟩, sG p), (⟨.slice none 0 0, .slice none 0 0, .slice none 0 0, .slice none 0 0, .slice none 0 0⟩, sL)]).toArray 87)) := One.of _ _ _
          generalize X3.alloc (.cells (stoFlat [(f1, sP p s), (⟨.slice none 0 0, .slice (some ⟨eD, 0, none⟩) 1 1, .slice none 0 0, .slice none 0 0, .slice none 0 0⟩, sDl p), (⟨vR, .slice none 0 0, .slice (some ⟨X0.heap.size, 0, none⟩) 1 1, .slice none 0 0, .slice none 0 0⟩, sG p), (⟨.slice none 0 0, .slice none 0 0, .slice none 0 0, .slice none 0 0, .slice none 0 0⟩, sL)]).toArray 87) = X4 at hbn hon ⊢
          have HS4 := Lib.hid (HS3.out.trans (hbn.mono HS3.out.size))
          replace HG := Lib.hid (HG.out.step hbn)
          replace HR := Lib.hid (HR.out.below hbn (Nat.le_refl _))
          have HO14 := Lib.hid hon
          clear hon
          refine hK.out _ _ HS4 (fun hS => ?_)
          clear hK hbn K
          try simp only [Act.put, List.setIfInBounds_toArray, List.set_cons_zero, List.set_cons_succ]
          refine wpAnyH_ready (rs := [15]) (by kernel_rfl) (by simp) ?_
          refine AllReadyH.cons (o := { dst := some 118, op := Op.call { callee := Callee.builtin Builtin.append, args := #[Operand.tmp 103, Operand.tmp 117], argTypes := #[68, 68] }, type := 68, pos := "law.go:185", after := #[{ on := 0, ground := Ground.data }, { on := 14, ground := Ground.data }, { on := 7, ground := Ground.chain }], guard := none }) rfl (fun K hK => ?_) AllReadyH.nil
          rw [if_pos (by rfl)]
          refine wp_append_sto4 (.tmp 103) (.tmp 117) rfl (X1.heap.size) (X3.heap.size) rfl [(f1, sP p s), (⟨.slice none 0 0, .slice (some ⟨eD, 0, none⟩) 1 1, .slice none 0 0, .slice none 0 0, .slice none 0 0⟩, sDl p), (⟨vR, .slice none 0 0, .slice (some ⟨X0.heap.size, 0, none⟩) 1 1, .slice none 0 0, .slice none 0 0⟩, sG p), (⟨.slice none 0 0, .slice none 0 0, .slice none 0 0, .slice none 0 0, .slice none 0 0⟩, sL)] rfl rfl HO14.out ?_ ?_
          · intro x hx
            simp only [List.mem_cons, List.not_mem_nil, or_false] at hx
            rcases hx with rfl | rfl | rfl | rfl
            · exact (HF1.out.below HB9.out (Nat.le_refl _)).below HS4.out (Nat.le_refl _)
            · exact ⟨⟨IsRds.nil _, IsEdts.one (HED.out.step HS4.out) 1⟩, ⟨none, 0, rfl, Or.inl rfl⟩, IsNums.none _, IsStrs.nil _⟩
            · exact ⟨⟨HR.out, ⟨none, 0, rfl, Or.inl rfl⟩⟩, IsGots.one (g := ⟨dV, 3⟩) HG.out, IsNums.none _, IsStrs.nil _⟩
            · exact ⟨⟨IsRds.nil _, ⟨none, 0, rfl, Or.inl rfl⟩⟩, ⟨none, 0, rfl, Or.inl rfl⟩, IsNums.none _, IsStrs.nil _⟩
          intro vX X5 hX hbn
          have HS5 := Lib.hid (HS4.out.trans (hbn.mono HS4.out.size))
          have HX := Lib.hid hX
          clear hX
          refine hK.out _ _ HS5 (fun hS => ?_)
          clear hK hbn K
          try simp only [Act.put, List.setIfInBounds_toArray, List.set_cons_zero, List.set_cons_succ]
          refine wpAnyH_take (i := 16) (oi := { dst := some 15, op := Op.assign (Operand.tmp 118), type := 68, pos := "law.go:185", after := #[{ on := 15, ground := Ground.data }, { on := 15, ground := Ground.chain }, { on := 0, ground := Ground.phase }, { on := 1, ground := Ground.phase }, { on := 2, ground := Ground.phase }, { on := 3, ground := Ground.phase }, { on := 4, ground := Ground.phase }, { on := 5, ground := Ground.phase }, { on := 6, ground := Ground.phase }, { on := 7, ground := Ground.phase }, { on := 8, ground := Ground.phase }, { on := 9, ground := Ground.phase }, { on := 10, ground := Ground.phase }, { on := 11, ground := Ground.phase }, { on := 12, ground := Ground.phase }, { on := 13, ground := Ground.phase }, { on := 14, ground := Ground.phase }, { on := 15, ground := Ground.phase }], guard := none }) (v := vX) rfl (by kernel_rfl) (by kernel_rfl) (by kernel_rfl) (fun _ _ _ h => h) (Or.inl ⟨by rfl, fun w' hw => ?_⟩) hS ?_
          · go_simp
          try simp only [Act.put, List.setIfInBounds_toArray, List.set_cons_zero, List.set_cons_succ]
          refine wpAnyH_done (by kernel_rfl) ?_ _
          clear hS
          have HBX : Hid (Below w.heap.size w X5) := Lib.hid (HBW9.out.trans (HS5.out.mono HBW9.out.size))
          go_wp2_with fail
          refine (check_any [sP p s, sDl p, sG p, sL] vX X5 HX.out (by simp) HZ4.out (HM.out.below HBX.out (Nat.le_refl _))).mono ?_
          rintro e wY ⟨rfl, hbY⟩
          rw [check_four HMP.out hs2]
          have HBY := Lib.hid (HBX.out.trans (hbY.mono HBX.out.size))
          clear hbY
          unfold vdVal
          dsimp only
          have hfd := field_vd
          go_wp2_with fail
          refine (law_alive wY (HM.out.below HBY.out (Nat.le_refl _))).mono ?_
          rintro e wZ ⟨rfl, hbZ⟩
          have HBZ := Lib.hid (HBY.out.trans (hbZ.mono HBY.out.size))
          clear hbZ
          go_wp2_with fail
          exact bodyPost_ret (v := .bool true) (by simp [results, Tryz.results7, go_sem]) rfl ⟨rfl, HBZ.out⟩
        refine AllReadyH.cons (o := { dst := some 110, op := Op.call { callee := Callee.value (Operand.func 37), args := #[Operand.tmp 109], argTypes := #[9] }, type := 80, pos := "law.go:185", after := #[{ on := 6, ground := Ground.data }], guard := none }) rfl (fun K hK => ?_) AllReadyH.nil
        rw [if_pos (by rfl)]
        go_simp
        refine (law_get p X1).mono ?_
        rintro e X2 ⟨vR, rfl, hR, hbn⟩
        unfold calVal getL
        go_wp2_with fail
        have HS2 := Lib.hid (HS1.out.trans (hbn.mono HS1.out.size))
        replace HG := Lib.hid (HG.out.step hbn)
        have HR := Lib.hid hR
        clear hR
        refine hK.out _ _ HS2 (fun hS => ?_)
        clear hK hbn K
        try simp only [Act.put, List.setIfInBounds_toArray, List.set_cons_zero, List.set_cons_succ]
        refine wpAnyH_take (i := 11) (oi := { dst := some 114, op := Op.build 87 #[(1, Operand.tmp 110), (2, Operand.const (Value.int IntKind.i64 4)), (3, Operand.const (Value.int IntKind.i64 5)), (6, Operand.const (Value.int IntKind.i64 4)), (8, Operand.tmp 113)], type := 87, pos := "law.go:185", after := #[{ on := 7, ground := Ground.data }, { on := 10, ground := Ground.data }], guard := none }) (v := .agg (stoCells ⟨vR, .slice none 0 0, .slice (some ⟨X0.heap.size, 0, none⟩) 1 1, .slice none 0 0, .slice none 0 0⟩ (sG p)).toArray) rfl (by kernel_rfl) (by kernel_rfl) (by kernel_rfl) (fun _ _ _ h => h) (yields_build_s (by rfl) _ rfl ⟨vR, .slice none 0 0, .slice (some ⟨X0.heap.size, 0, none⟩) 1 1, .slice none 0 0, .slice none 0 0⟩ (sG p) (by kernel_rfl)) hS ?_
        try simp only [Act.put, List.setIfInBounds_toArray, List.set_cons_zero, List.set_cons_succ]
        refine wpAnyH_ready (rs := [0, 14]) (by kernel_rfl) (by simp) ?_
        refine AllReadyH.cons (o := { dst := some 103, op := Op.buildSlice 68 0 #[], type := 68, pos := "law.go:185", after := #[], guard := none }) rfl (fun K hK => ?_) ?_
        · rw [if_pos (by rfl)]
          refine wp_build_sto0 rfl ?_
          have hbn : Below X2.heap.size X2 (X2.alloc (.cells #[] 87)) := (Below.refl _ _).alloc (Nat.le_refl _) _
          generalize X2.alloc (.cells #[] 87) = X3 at hbn ⊢
          have HS3 := Lib.hid (HS2.out.trans (hbn.mono HS2.out.size))
          replace HG := Lib.hid (HG.out.step hbn)
          replace HR := Lib.hid (HR.out.below hbn (Nat.le_refl _))
          refine hK.out _ _ HS3 (fun hS => ?_)
          clear hK hbn K
          try simp only [Act.put, List.setIfInBounds_toArray, List.set_cons_zero, List.set_cons_succ]
          refine wpAnyH_ready (rs := [14]) (by kernel_rfl) (by simp) ?_
          refine AllReadyH.cons (o := { dst := some 117, op := Op.buildSlice 68 4 #[(0, Operand.tmp 106), (1, Operand.tmp 108), (2, Operand.tmp 114), (3, Operand.tmp 116)], type := 68, pos := "law.go:185", after := #[{ on := 3, ground := Ground.data }, { on := 5, ground := Ground.data }, { on := 11, ground := Ground.data }, { on := 13, ground := Ground.data }], guard := none }) rfl (fun K hK => ?_) AllReadyH.nil
          rw [if_pos (by rfl)]
          refine wp_build_sto4 (.tmp 106) (.tmp 108) (.tmp 114) (.tmp 116) rfl rfl rfl rfl rfl ?_
          have hbn : Below X3.heap.size X3 (X3.alloc (.cells (stoFlat [(f1, sP p s), (⟨.slice none 0 0, .slice (some ⟨eD, 0, none⟩) 1 1, .slice none 0 0, .slice none 0 0, .slice none 0 0⟩, sDl p), (⟨vR, .slice none 0 0, .slice (some ⟨X0.heap.size, 0, none⟩) 1 1, .slice none 0 0, .slice none 0 0⟩, sG p), (⟨.slice none 0 0, .slice none 0 0, .slice none 0 0, .slice none 0 0, .slice none 0 0⟩, sL)]).toArray 87)) := (Below.refl _ _).alloc (Nat.le_refl _) _
          have hon : One X3.heap.size (stoFlat [(f1, sP p s), (⟨.slice none 0 0, .slice (some ⟨eD, 0, none⟩) 1 1, .slice none 0 0, .slice none 0 0, .slice none 0 0⟩, sDl p), (⟨vR, .slice none 0 0, .slice (some ⟨X0.heap.size, 0, none⟩) 1 1, .slice none 0 0, .slice none 0 0⟩, sG p), (⟨.slice none 0 0, .slice none 0 0, .slice none 0 0, .slice none 0 0, .slice none 0 0⟩, sL)]).toArray (X3.alloc (.cells (stoFlat [(f1, sP p s), (⟨.slice none 0 0, .slice (some ⟨eD, 0, none⟩) 1 1, .slice none 0 0, .slice none 0 0, .slice none 0 0⟩, sDl p), (⟨vR, .slice none 0 0, .slice (some ⟨X0.heap.size, 0, none⟩) 1 1, .slice none 0 0, .slice none 0 0⟩, sG p), (⟨.slice none 0 0, .slice none 0 0, .slice none 0 0, .slice none 0 0, .slice none 0 0⟩, sL)]).toArray 87)) := One.of _ _ _
          generalize X3.alloc (.cells (stoFlat [(f1, sP p s), (⟨.slice none 0 0, .slice (some ⟨eD, 0, none⟩) 1 1, .slice none 0 0, .slice none 0 0, .slice none 0 0⟩, sDl p), (⟨vR, .slice none 0 0, .slice (some ⟨X0.heap.size, 0, none⟩) 1 1, .slice none 0 0, .slice none 0 0⟩, sG p), (⟨.slice none 0 0, .slice none 0 0, .slice none 0 0, .slice none 0 0, .slice none 0 0⟩, sL)]).toArray 87) = X4 at hbn hon ⊢
          have HS4 := Lib.hid (HS3.out.trans (hbn.mono HS3.out.size))
          replace HG := Lib.hid (HG.out.step hbn)
          replace HR := Lib.hid (HR.out.below hbn (Nat.le_refl _))
          have HO14 := Lib.hid hon
          clear hon
          refine hK.out _ _ HS4 (fun hS => ?_)
          clear hK hbn K
          try simp only [Act.put, List.setIfInBounds_toArray, List.set_cons_zero, List.set_cons_succ]
          refine wpAnyH_ready (rs := [15]) (by kernel_rfl) (by simp) ?_
          refine AllReadyH.cons (o := { dst := some 118, op := Op.call { callee := Callee.builtin Builtin.append, args := #[Operand.tmp 103, Operand.tmp 117], argTypes := #[68, 68] }, type := 68, pos := "law.go:185", after := #[{ on := 0, ground := Ground.data }, { on := 14, ground := Ground.data }, { on := 7, ground := Ground.chain }], guard := none }) rfl (fun K hK => ?_) AllReadyH.nil
          rw [if_pos (by rfl)]
          refine wp_append_sto4 (.tmp 103) (.tmp 117) rfl (X2.heap.size) (X3.heap.size) rfl [(f1, sP p s), (⟨.slice none 0 0, .slice (some ⟨eD, 0, none⟩) 1 1, .slice none 0 0, .slice none 0 0, .slice none 0 0⟩, sDl p), (⟨vR, .slice none 0 0, .slice (some ⟨X0.heap.size, 0, none⟩) 1 1, .slice none 0 0, .slice none 0 0⟩, sG p), (⟨.slice none 0 0, .slice none 0 0, .slice none 0 0, .slice none 0 0, .slice none 0 0⟩, sL)] rfl rfl HO14.out ?_ ?_
          · intro x hx
            simp only [List.mem_cons, List.not_mem_nil, or_false] at hx
            rcases hx with rfl | rfl | rfl | rfl
            · exact (HF1.out.below HB9.out (Nat.le_refl _)).below HS4.out (Nat.le_refl _)
            · exact ⟨⟨IsRds.nil _, IsEdts.one (HED.out.step HS4.out) 1⟩, ⟨none, 0, rfl, Or.inl rfl⟩, IsNums.none _, IsStrs.nil _⟩
            · exact ⟨⟨HR.out, ⟨none, 0, rfl, Or.inl rfl⟩⟩, IsGots.one (g := ⟨dV, 3⟩) HG.out, IsNums.none _, IsStrs.nil _⟩
            · exact ⟨⟨IsRds.nil _, ⟨none, 0, rfl, Or.inl rfl⟩⟩, ⟨none, 0, rfl, Or.inl rfl⟩, IsNums.none _, IsStrs.nil _⟩
          intro vX X5 hX hbn
          have HS5 := Lib.hid (HS4.out.trans (hbn.mono HS4.out.size))
          have HX := Lib.hid hX
          clear hX
          refine hK.out _ _ HS5 (fun hS => ?_)
          clear hK hbn K
          try simp only [Act.put, List.setIfInBounds_toArray, List.set_cons_zero, List.set_cons_succ]
          refine wpAnyH_take (i := 16) (oi := { dst := some 15, op := Op.assign (Operand.tmp 118), type := 68, pos := "law.go:185", after := #[{ on := 15, ground := Ground.data }, { on := 15, ground := Ground.chain }, { on := 0, ground := Ground.phase }, { on := 1, ground := Ground.phase }, { on := 2, ground := Ground.phase }, { on := 3, ground := Ground.phase }, { on := 4, ground := Ground.phase }, { on := 5, ground := Ground.phase }, { on := 6, ground := Ground.phase }, { on := 7, ground := Ground.phase }, { on := 8, ground := Ground.phase }, { on := 9, ground := Ground.phase }, { on := 10, ground := Ground.phase }, { on := 11, ground := Ground.phase }, { on := 12, ground := Ground.phase }, { on := 13, ground := Ground.phase }, { on := 14, ground := Ground.phase }, { on := 15, ground := Ground.phase }], guard := none }) (v := vX) rfl (by kernel_rfl) (by kernel_rfl) (by kernel_rfl) (fun _ _ _ h => h) (Or.inl ⟨by rfl, fun w' hw => ?_⟩) hS ?_
          · go_simp
          try simp only [Act.put, List.setIfInBounds_toArray, List.set_cons_zero, List.set_cons_succ]
          refine wpAnyH_done (by kernel_rfl) ?_ _
          clear hS
          have HBX : Hid (Below w.heap.size w X5) := Lib.hid (HBW9.out.trans (HS5.out.mono HBW9.out.size))
          go_wp2_with fail
          refine (check_any [sP p s, sDl p, sG p, sL] vX X5 HX.out (by simp) HZ4.out (HM.out.below HBX.out (Nat.le_refl _))).mono ?_
          rintro e wY ⟨rfl, hbY⟩
          rw [check_four HMP.out hs2]
          have HBY := Lib.hid (HBX.out.trans (hbY.mono HBX.out.size))
          clear hbY
          unfold vdVal
          dsimp only
          have hfd := field_vd
          go_wp2_with fail
          refine (law_alive wY (HM.out.below HBY.out (Nat.le_refl _))).mono ?_
          rintro e wZ ⟨rfl, hbZ⟩
          have HBZ := Lib.hid (HBY.out.trans (hbZ.mono HBY.out.size))
          clear hbZ
          go_wp2_with fail
          exact bodyPost_ret (v := .bool true) (by simp [results, Tryz.results7, go_sem]) rfl ⟨rfl, HBZ.out⟩
        refine AllReadyH.cons (o := { dst := some 117, op := Op.buildSlice 68 4 #[(0, Operand.tmp 106), (1, Operand.tmp 108), (2, Operand.tmp 114), (3, Operand.tmp 116)], type := 68, pos := "law.go:185", after := #[{ on := 3, ground := Ground.data }, { on := 5, ground := Ground.data }, { on := 11, ground := Ground.data }, { on := 13, ground := Ground.data }], guard := none }) rfl (fun K hK => ?_) AllReadyH.nil
        rw [if_pos (by rfl)]
        refine wp_build_sto4 (.tmp 106) (.tmp 108) (.tmp 114) (.tmp 116) rfl rfl rfl rfl rfl ?_
        have hbn : Below X2.heap.size X2 (X2.alloc (.cells (stoFlat [(f1, sP p s), (⟨.slice none 0 0, .slice (some ⟨eD, 0, none⟩) 1 1, .slice none 0 0, .slice none 0 0, .slice none 0 0⟩, sDl p), (⟨vR, .slice none 0 0, .slice (some ⟨X0.heap.size, 0, none⟩) 1 1, .slice none 0 0, .slice none 0 0⟩, sG p), (⟨.slice none 0 0, .slice none 0 0, .slice none 0 0, .slice none 0 0, .slice none 0 0⟩, sL)]).toArray 87)) := (Below.refl _ _).alloc (Nat.le_refl _) _
        have hon : One X2.heap.size (stoFlat [(f1, sP p s), (⟨.slice none 0 0, .slice (some ⟨eD, 0, none⟩) 1 1, .slice none 0 0, .slice none 0 0, .slice none 0 0⟩, sDl p), (⟨vR, .slice none 0 0, .slice (some ⟨X0.heap.size, 0, none⟩) 1 1, .slice none 0 0, .slice none 0 0⟩, sG p), (⟨.slice none 0 0, .slice none 0 0, .slice none 0 0, .slice none 0 0, .slice none 0 0⟩, sL)]).toArray (X2.alloc (.cells (stoFlat [(f1, sP p s), (⟨.slice none 0 0, .slice (some ⟨eD, 0, none⟩) 1 1, .slice none 0 0, .slice none 0 0, .slice none 0 0⟩, sDl p), (⟨vR, .slice none 0 0, .slice (some ⟨X0.heap.size, 0, none⟩) 1 1, .slice none 0 0, .slice none 0 0⟩, sG p), (⟨.slice none 0 0, .slice none 0 0, .slice none 0 0, .slice none 0 0, .slice none 0 0⟩, sL)]).toArray 87)) := One.of _ _ _
        generalize X2.alloc (.cells (stoFlat [(f1, sP p s), (⟨.slice none 0 0, .slice (some ⟨eD, 0, none⟩) 1 1, .slice none 0 0, .slice none 0 0, .slice none 0 0⟩, sDl p), (⟨vR, .slice none 0 0, .slice (some ⟨X0.heap.size, 0, none⟩) 1 1, .slice none 0 0, .slice none 0 0⟩, sG p), (⟨.slice none 0 0, .slice none 0 0, .slice none 0 0, .slice none 0 0, .slice none 0 0⟩, sL)]).toArray 87) = X3 at hbn hon ⊢
        have HS3 := Lib.hid (HS2.out.trans (hbn.mono HS2.out.size))
        replace HG := Lib.hid (HG.out.step hbn)
        replace HR := Lib.hid (HR.out.below hbn (Nat.le_refl _))
        have HO14 := Lib.hid hon
        clear hon
        refine hK.out _ _ HS3 (fun hS => ?_)
        clear hK hbn K
        try simp only [Act.put, List.setIfInBounds_toArray, List.set_cons_zero, List.set_cons_succ]
        refine wpAnyH_ready (rs := [0]) (by kernel_rfl) (by simp) ?_
        refine AllReadyH.cons (o := { dst := some 103, op := Op.buildSlice 68 0 #[], type := 68, pos := "law.go:185", after := #[], guard := none }) rfl (fun K hK => ?_) AllReadyH.nil
        rw [if_pos (by rfl)]
        refine wp_build_sto0 rfl ?_
        have hbn : Below X3.heap.size X3 (X3.alloc (.cells #[] 87)) := (Below.refl _ _).alloc (Nat.le_refl _) _
        generalize X3.alloc (.cells #[] 87) = X4 at hbn ⊢
        have HS4 := Lib.hid (HS3.out.trans (hbn.mono HS3.out.size))
        replace HG := Lib.hid (HG.out.step hbn)
        replace HR := Lib.hid (HR.out.below hbn (Nat.le_refl _))
        replace HO14 := Lib.hid (HO14.out.step hbn)
        refine hK.out _ _ HS4 (fun hS => ?_)
        clear hK hbn K
        try simp only [Act.put, List.setIfInBounds_toArray, List.set_cons_zero, List.set_cons_succ]
        refine wpAnyH_ready (rs := [15]) (by kernel_rfl) (by simp) ?_
        refine AllReadyH.cons (o := { dst := some 118, op := Op.call { callee := Callee.builtin Builtin.append, args := #[Operand.tmp 103, Operand.tmp 117], argTypes := #[68, 68] }, type := 68, pos := "law.go:185", after := #[{ on := 0, ground := Ground.data }, { on := 14, ground := Ground.data }, { on := 7, ground := Ground.chain }], guard := none }) rfl (fun K hK => ?_) AllReadyH.nil
        rw [if_pos (by rfl)]
        refine wp_append_sto4 (.tmp 103) (.tmp 117) rfl (X3.heap.size) (X2.heap.size) rfl [(f1, sP p s), (⟨.slice none 0 0, .slice (some ⟨eD, 0, none⟩) 1 1, .slice none 0 0, .slice none 0 0, .slice none 0 0⟩, sDl p), (⟨vR, .slice none 0 0, .slice (some ⟨X0.heap.size, 0, none⟩) 1 1, .slice none 0 0, .slice none 0 0⟩, sG p), (⟨.slice none 0 0, .slice none 0 0, .slice none 0 0, .slice none 0 0, .slice none 0 0⟩, sL)] rfl rfl HO14.out ?_ ?_
        · intro x hx
          simp only [List.mem_cons, List.not_mem_nil, or_false] at hx
          rcases hx with rfl | rfl | rfl | rfl
          · exact (HF1.out.below HB9.out (Nat.le_refl _)).below HS4.out (Nat.le_refl _)
          · exact ⟨⟨IsRds.nil _, IsEdts.one (HED.out.step HS4.out) 1⟩, ⟨none, 0, rfl, Or.inl rfl⟩, IsNums.none _, IsStrs.nil _⟩
          · exact ⟨⟨HR.out, ⟨none, 0, rfl, Or.inl rfl⟩⟩, IsGots.one (g := ⟨dV, 3⟩) HG.out, IsNums.none _, IsStrs.nil _⟩
          · exact ⟨⟨IsRds.nil _, ⟨none, 0, rfl, Or.inl rfl⟩⟩, ⟨none, 0, rfl, Or.inl rfl⟩, IsNums.none _, IsStrs.nil _⟩
        intro vX X5 hX hbn
        have HS5 := Lib.hid (HS4.out.trans (hbn.mono HS4.out.size))
        have HX := Lib.hid hX
        clear hX
        refine hK.out _ _ HS5 (fun hS => ?_)
        clear hK hbn K
        try simp only [Act.put, List.setIfInBounds_toArray, List.set_cons_zero, List.set_cons_succ]
        refine wpAnyH_take (i := 16) (oi := { dst := some 15, op := Op.assign (Operand.tmp 118), type := 68, pos := "law.go:185", after := #[{ on := 15, ground := Ground.data }, { on := 15, ground := Ground.chain }, { on := 0, ground := Ground.phase }, { on := 1, ground := Ground.phase }, { on := 2, ground := Ground.phase }, { on := 3, ground := Ground.phase }, { on := 4, ground := Ground.phase }, { on := 5, ground := Ground.phase }, { on := 6, ground := Ground.phase }, { on := 7, ground := Ground.phase }, { on := 8, ground := Ground.phase }, { on := 9, ground := Ground.phase }, { on := 10, ground := Ground.phase }, { on := 11, ground := Ground.phase }, { on := 12, ground := Ground.phase }, { on := 13, ground := Ground.phase }, { on := 14, ground := Ground.phase }, { on := 15, ground := Ground.phase }], guard := none }) (v := vX) rfl (by kernel_rfl) (by kernel_rfl) (by kernel_rfl) (fun _ _ _ h => h) (Or.inl ⟨by rfl, fun w' hw => ?_⟩) hS ?_
        · go_simp
        try simp only [Act.put, List.setIfInBounds_toArray, List.set_cons_zero, List.set_cons_succ]
        refine wpAnyH_done (by kernel_rfl) ?_ _
        clear hS
        have HBX : Hid (Below w.heap.size w X5) := Lib.hid (HBW9.out.trans (HS5.out.mono HBW9.out.size))
        go_wp2_with fail
        refine (check_any [sP p s, sDl p, sG p, sL] vX X5 HX.out (by simp) HZ4.out (HM.out.below HBX.out (Nat.le_refl _))).mono ?_
        rintro e wY ⟨rfl, hbY⟩
        rw [check_four HMP.out hs2]
        have HBY := Lib.hid (HBX.out.trans (hbY.mono HBX.out.size))
        clear hbY
        unfold vdVal
        dsimp only
        have hfd := field_vd
        go_wp2_with fail
        refine (law_alive wY (HM.out.below HBY.out (Nat.le_refl _))).mono ?_
        rintro e wZ ⟨rfl, hbZ⟩
        have HBZ := Lib.hid (HBY.out.trans (hbZ.mono HBY.out.size))
        clear hbZ
        go_wp2_with fail
        exact bodyPost_ret (v := .bool true) (by simp [results, Tryz.results7, go_sem]) rfl ⟨rfl, HBZ.out⟩
        -- END
  · have hgI : ((128 : Int) < (p.size : Int)) ∨ ((4096 : Int) < (s.size : Int) + (t.size : Int)) := by omega
    by_cases hp1 : p.size ≤ 128
    · have hpI : ¬ ((128 : Int) < (p.size : Int)) := by omega
      have hstI : ((4096 : Int) < (s.size : Int) + (t.size : Int)) := by omega
      clear hgI
      go_wp2_with fail
      refine (law_alive w HM.out).mono ?_
      rintro e w8 ⟨rfl, hb8⟩
      have HB8 := Lib.hid hb8
      clear hb8
      go_wp2_with fail
      exact bodyPost_ret (v := .bool true) (by simp [results, Tryz.results7, go_sem]) rfl ⟨rfl, HB8.out⟩
    · have hpI : ((128 : Int) < (p.size : Int)) := by omega
      clear hgI
      go_wp2_with fail
      refine (law_alive w HM.out).mono ?_
      rintro e w8 ⟨rfl, hb8⟩
      have HB8 := Lib.hid hb8
      clear hb8
      go_wp2_with fail
      exact bodyPost_ret (v := .bool true) (by simp [results, Tryz.results7, go_sem]) rfl ⟨rfl, HB8.out⟩
end Go.Proofs.YtfbgnpfhjbiikaaGreatDoor
