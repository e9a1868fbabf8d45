/- Contract: scriniumlaw31.alive. -/
import Derived.Test.YtfbgnpfhjbiikaaGreatDoorQm07
namespace Go.Proofs.YtfbgnpfhjbiikaaGreatDoor
open Go Go.RowKit
open Pth
open Go.Maps (has size Canon CanonK Tidy IsMap KeysOf Keyed Merged)
theorem szA : StoSz sA := sz_put rfl (by decide) (by decide) (by decide) (by decide) (by decide)
theorem szB : StoSz sB := sz_get rfl (by decide) (by decide) (by decide) (by decide)
theorem szC : StoSz sC := sz_get rfl (by decide) (by decide) (by decide) (by decide)
theorem szD : StoSz sD := sz_put rfl (by decide) (by decide) (by decide) (by decide) (by decide)
theorem vd_eq4 (w : World) : (binOp .eql 72 (.agg #[.bool false, .int .i64 1, .int .u8 4]) (.agg #[.bool false, .int .i64 1, .int .u8 4])).run Tryz.prog w = .ok (.bool true) w := by kernel_rfl
theorem vd_eq1 (w : World) : (binOp .eql 72 (.agg #[.bool false, .int .i64 1, .int .u8 1]) (.agg #[.bool false, .int .i64 1, .int .u8 1])).run Tryz.prog w = .ok (.bool true) w := by kernel_rfl
set_option maxRecDepth 100000 in
set_option maxHeartbeats 8000000 in
theorem law_alive (w : World) (hm : MX w) : Calls Tryz.prog 29 #[] w fun e w' => e = .returned (.bool true) ∧ Below w.heap.size w w' := by
  have HM := Lib.hid hm; clear hm
  have hzs := zeroSto
  have hPut := Lib.hid (law_put tA tX w)
  go_enter Tryz.func29, Tryz.ntmps29
  go_wp2_with fail
  refine hPut.out.mono ?_
  rintro e w1 ⟨g1, rfl, hg1, hO1, hb1⟩
  have HB1 := Lib.hid hb1
  have Hg1O := Lib.hid hO1
  clear hO1 hb1 hg1 hPut
  unfold calVal putL
  go_upto_region 2 with (first
    | (refine wpl_build_s rfl _ rfl ⟨nilV, .slice (some ⟨g1, 0, none⟩) 1 1, nilV, .slice (some ⟨w1.heap.size, 0, none⟩) 1 1, nilV⟩ sA (by kernel_rfl) ?_)
    | (refine wpl_store_stN rfl (.tmp 1) (.tmp 14) rfl (w1.heap.size + 1) (by simp) rfl (f := ⟨nilV, .slice (some ⟨g1, 0, none⟩) 1 1, nilV, .slice (some ⟨w1.heap.size, 0, none⟩) 1 1, nilV⟩) (s := sA) rfl rfl (sto_one5 rfl rfl rfl rfl rfl) ?_)
    | fail)
  refine wp_abs (F := fun W => (∃ f, BoxS (w1.heap.size + 1) f sA W) ∧ Below w.heap.size w W) ⟨⟨⟨nilV, .slice (some ⟨g1, 0, none⟩) 1 1, nilV, .slice (some ⟨w1.heap.size, 0, none⟩) 1 1, nilV⟩, ?_⟩, ?_⟩ ?_
  · have hb : Below w1.heap.size w1 (w1.alloc (.cells #[.int .u64 1] 43)) := (Below.refl _ _).alloc (Nat.le_refl _) _
    have := BoxS.new (w := w1.alloc (.cells #[.int .u64 1] 43)) (f := ⟨nilV, .slice (some ⟨g1, 0, none⟩) 1 1, nilV, .slice (some ⟨w1.heap.size, 0, none⟩) 1 1, nilV⟩) (s := sA) ⟨⟨IsRds.nil _, IsEdts.one (Hg1O.out.step hb) 1⟩, IsGots.nil _, IsNums.new1 _ _ _, IsStrs.nil _⟩
    simpa using this
  · exact ((HB1.out.alloc HB1.out.size _).alloc (by have := HB1.out.size; simp; omega) _)
  rintro W1 ⟨⟨f1, hX1⟩, hb1⟩
  have HX1 := Lib.hid hX1; have Hb1 := Lib.hid hb1
  clear hX1 hb1 Hg1O
  obtain ⟨n1, hn1⟩ : ∃ n1, w1.heap.size + 1 = n1 := ⟨_, rfl⟩
  rw [hn1] at HX1 ⊢
  have hGet := Lib.hid (law_get tA W1)
  go_wp2_with fail
  refine hGet.out.mono ?_
  rintro e w2 ⟨vR, rfl, hR2, hb2⟩
  have HX2 := Lib.hid (HX1.out.step hb2); have HR2 := Lib.hid hR2; have HB2 := Lib.hid (Hb1.out.trans (hb2.mono Hb1.out.size))
  clear hR2 hb2 hGet HX1 Hb1
  unfold calVal getL
  go_upto_region 3 with (first
    | (refine wpl_build_s rfl _ rfl ⟨vR, nilV, .slice (some ⟨w2.heap.size, 0, none⟩) 1 1, nilV, nilV⟩ sB (by kernel_rfl) ?_)
    | (refine wpl_store_stN rfl (.tmp 2) (.tmp 21) rfl (w2.heap.size + 1) (by simp) rfl (f := ⟨vR, nilV, .slice (some ⟨w2.heap.size, 0, none⟩) 1 1, nilV, nilV⟩) (s := sB) rfl rfl (sto_one5 (by obtain ⟨_, _, h, _⟩ := HR2.out; rw [h]; rfl) rfl rfl rfl rfl) ?_)
    | fail)
  refine wp_abs (F := fun W => BoxS n1 f1 sA W ∧ (∃ f, BoxS (w2.heap.size + 1) f sB W) ∧ Below w.heap.size w W) ⟨?_, ⟨⟨vR, nilV, .slice (some ⟨w2.heap.size, 0, none⟩) 1 1, nilV, nilV⟩, ?_⟩, ?_⟩ ?_
  · exact HX2.out.step (((Below.refl _ _).alloc (Nat.le_refl _) _).alloc (by simp) _)
  · have hb : Below w2.heap.size w2 (w2.alloc (.cells #[.int .u64 1, .int .u8 1, .string tX, .int .i64 0] 97)) := (Below.refl _ _).alloc (Nat.le_refl _) _
    have := BoxS.new (w := w2.alloc (.cells #[.int .u64 1, .int .u8 1, .string tX, .int .i64 0] 97)) (f := ⟨vR, nilV, .slice (some ⟨w2.heap.size, 0, none⟩) 1 1, nilV, nilV⟩) (s := sB) ⟨⟨HR2.out.below hb (Nat.le_refl _), ⟨none, 0, rfl, Or.inl rfl⟩⟩, IsGots.new1 _ ⟨⟨1, 1, tX⟩, 0⟩ _, ⟨none, 0, rfl, Or.inl rfl⟩, IsStrs.nil _⟩
    rw [show (w2.alloc (.cells #[.int .u64 1, .int .u8 1, .string tX, .int .i64 0] 97)).heap.size = w2.heap.size + 1 by simp] at this
    exact this
  · exact ((HB2.out.alloc HB2.out.size _).alloc (by have := HB2.out.size; simp; omega) _)
  rintro W2 ⟨hX1, ⟨f2, hX2⟩, hb2⟩
  have HA2 := Lib.hid hX1; have HC2 := Lib.hid hX2; have Hb2 := Lib.hid hb2
  clear hX1 hX2 hb2 HX2 HR2 HB2
  obtain ⟨n2, hn2⟩ : ∃ n2, w2.heap.size + 1 = n2 := ⟨_, rfl⟩
  rw [hn2] at HC2 ⊢
  go_wp2_with (first
    | (refine wpl_load_sto rfl (.tmp 1) rfl rfl HA2.out.at ?_)
    | (refine wpl_load_sto rfl (.tmp 2) rfl rfl HC2.out.at ?_)
    | (refine wpl_build_sto2 rfl (.tmp 22) (.tmp 23) rfl rfl rfl ?_)
    | fail)
  refine (check_two sA sB _ _ (IsStos.rowN W2 [(f1, sA), (f2, sB)] _ ?_) szA szB ?_).mono ?_
  · intro x hx
    simp only [List.mem_cons, List.not_mem_nil, or_false] at hx
    rcases hx with rfl | rfl
    · exact HA2.out.i
    · exact HC2.out.i
  · exact HM.out.below (Hb2.out.alloc Hb2.out.size _) (Nat.le_refl _)
  rintro e w3 ⟨rfl, hb3⟩
  have hb3' : Below W2.heap.size W2 w3 := ((Below.refl _ _).alloc (Nat.le_refl _) _).trans (hb3.mono (by simp))
  have HA3 := Lib.hid (HA2.out.step hb3'); have HC3 := Lib.hid (HC2.out.step hb3'); have HB3 := Lib.hid (Hb2.out.trans (hb3'.mono Hb2.out.size))
  clear HA2 HC2 Hb2 hb3 hb3'
  rw [check_AB]
  unfold vdVal
  go_upto_region 4 with fail
  refine wp_abs (F := fun W => BoxS n1 f1 sA W ∧ BoxS n2 f2 sB W ∧ One w3.heap.size #[.bool true, .int .i64 0, .int .u8 0] W ∧ Below w.heap.size w W) ?_ ?_
  · have hb : Below w3.heap.size w3 (w3.alloc (.cells #[.bool true, .int .i64 0, .int .u8 0] 72)) := (Below.refl _ _).alloc (Nat.le_refl _) _
    exact ⟨HA3.out.step hb, HC3.out.step hb, One.of _ _ _, HB3.out.alloc HB3.out.size _⟩
  rintro W3 ⟨hX1, hX2, hV3, hb3⟩
  have HA4 := Lib.hid hX1; have HC4 := Lib.hid hX2; have HV3 := Lib.hid hV3; have Hb3 := Lib.hid hb3
  clear hX1 hX2 hb3 hV3 HA3 HC3 HB3
  obtain ⟨n3, hn3⟩ : ∃ n3, w3.heap.size = n3 := ⟨_, rfl⟩
  rw [hn3] at HV3 ⊢
  go_upto_region 5 with (first
    | (refine wpl_load_sto rfl (.tmp 2) rfl rfl HC4.out.at ?_)
    | (refine wpl_store_stN rfl (.tmp 4) (.tmp 26) rfl W3.heap.size rfl rfl (f := f2) (s := sB) rfl rfl (five_one HC4.out.i) ?_)
    | fail)
  refine wp_abs (F := fun W => BoxS W3.heap.size f2 sB W ∧ Below W3.heap.size W3 W) ⟨BoxS.new HC4.out.i, (Below.refl _ _).alloc (Nat.le_refl _) _⟩ ?_
  rintro W4 ⟨hX4, hb4⟩
  have HX4 := Lib.hid hX4; have Hb4 := Lib.hid hb4
  clear hX4 hb4
  obtain ⟨n4, hn4⟩ : ∃ n4, W3.heap.size = n4 := ⟨_, rfl⟩
  rw [hn4] at HX4 ⊢
  have hO5 := HX4.out.o.step ((Below.refl _ _).alloc (Nat.le_refl _) (.cells #[.int .u64 0, .int .u8 0, .string ⟨#[]⟩, .int .i64 3] 97))
  have c15 := hO5.c 15; have c16 := hO5.c 16; have c17 := hO5.c 17
  have k15 := hO5.f 15; have k16 := hO5.f 16; have k17 := hO5.f 17
  simp [stoCells] at c15 c16 c17
  go_upto_region 6 with fail
  clear c15 c16 c17 k15 k16 k17
  refine wp_abs (F := fun W => (∃ f, BoxS n4 f sC W) ∧ Below W3.heap.size W3 W) ⟨⟨⟨f2.r, f2.e, .slice (some ⟨W4.heap.size, 0, none⟩) 1 1, nilV, nilV⟩, ?_⟩, ?_⟩ ?_
  · have hb : Below W4.heap.size W4 (W4.alloc (.cells #[.int .u64 0, .int .u8 0, .string ⟨#[]⟩, .int .i64 3] 97)) := (Below.refl _ _).alloc (Nat.le_refl _) _
    have hw : Below W3.heap.size W3 ((((W4.alloc (.cells #[.int .u64 0, .int .u8 0, .string ⟨#[]⟩, .int .i64 3] 97)).setCell ⟨n4, 15, none⟩ (.slice (some ⟨W4.heap.size, 0, none⟩) 1 1)).setCell ⟨n4, 16, none⟩ (.slice none 0 0)).setCell ⟨n4, 17, none⟩ (.slice none 0 0)) :=
      (((Hb4.out.alloc Hb4.out.size _).setCell (Nat.le_of_eq hn4) _).setCell (Nat.le_of_eq hn4) _).setCell (Nat.le_of_eq hn4) _
    refine ⟨((hO5.set (i := 15) (by show 15 < 18; decide) _).set (i := 16) (by simp; show 16 < 18; decide) _).set (i := 17) (by simp; show 17 < 18; decide) _, ⟨HC4.out.i.c.r.below hw (Nat.le_refl _), HC4.out.i.c.e.below hw (Nat.le_refl _)⟩, ?_, IsNums.none _, IsStrs.nil _⟩
    have hlt := HX4.out.o.lt
    exact IsGots.one (g := ⟨dV, 3⟩) ((((One.of W4 _ _).far (by show n4 ≠ _; omega) _).far (by show n4 ≠ _; omega) _).far (by show n4 ≠ _; omega) _)
  · exact (((Hb4.out.alloc Hb4.out.size _).setCell (Nat.le_of_eq hn4) _).setCell (Nat.le_of_eq hn4) _).setCell (Nat.le_of_eq hn4) _
  rintro W5 ⟨⟨f4, hX4⟩, hb5⟩
  have HA5 := Lib.hid (HA4.out.step hb5); have HC5 := Lib.hid (HC4.out.step hb5); have HD5 := Lib.hid hX4; have HV5 := Lib.hid (HV3.out.step hb5); have HB5 := Lib.hid (Hb3.out.trans (hb5.mono Hb3.out.size))
  clear hX4 hb5 HA4 HC4 HV3 Hb3 HX4 Hb4 hO5
  go_wp2_with (first
    | (refine wpl_load_sto rfl (.tmp 1) rfl rfl HA5.out.at ?_)
    | (refine wpl_load_sto rfl (.tmp 4) rfl rfl HD5.out.at ?_)
    | (refine wpl_build_sto2 rfl (.tmp 31) (.tmp 32) rfl rfl rfl ?_)
    | fail)
  refine (check_two sA sC _ _ (IsStos.rowN W5 [(f1, sA), (f4, sC)] _ ?_) szA szC ?_).mono ?_
  · intro x hx
    simp only [List.mem_cons, List.not_mem_nil, or_false] at hx
    rcases hx with rfl | rfl
    · exact HA5.out.i
    · exact HD5.out.i
  · exact HM.out.below (HB5.out.alloc HB5.out.size _) (Nat.le_refl _)
  rintro e w6 ⟨rfl, hb6⟩
  have hb6' : Below W5.heap.size W5 w6 := ((Below.refl _ _).alloc (Nat.le_refl _) _).trans (hb6.mono (by simp))
  have HA6 := Lib.hid (HA5.out.step hb6'); have HC6 := Lib.hid (HC5.out.step hb6'); have HV6 := Lib.hid (HV5.out.step hb6'); have HB6 := Lib.hid (HB5.out.trans (hb6'.mono HB5.out.size))
  clear HA5 HC5 HD5 HV5 HB5 hb6 hb6'
  rw [check_AC]
  unfold vdVal
  go_upto_region 7 with fail
  refine wp_abs (F := fun W => BoxS n1 f1 sA W ∧ BoxS n2 f2 sB W ∧ One n3 #[.bool true, .int .i64 0, .int .u8 0] W ∧ One w6.heap.size #[.bool false, .int .i64 1, .int .u8 4] W ∧ Below w.heap.size w W) ?_ ?_
  · have hb : Below w6.heap.size w6 (w6.alloc (.cells #[.bool false, .int .i64 1, .int .u8 4] 72)) := (Below.refl _ _).alloc (Nat.le_refl _) _
    exact ⟨HA6.out.step hb, HC6.out.step hb, HV6.out.step hb, One.of _ _ _, HB6.out.alloc HB6.out.size _⟩
  rintro W6 ⟨hX1, hX2, hV3, hV5, hb7⟩
  have HA7 := Lib.hid hX1; have HC7 := Lib.hid hX2; have HV7 := Lib.hid hV3; have HU7 := Lib.hid hV5; have HB7 := Lib.hid hb7
  clear hX1 hX2 hb7 hV3 hV5 HA6 HC6 HB6 HV6
  obtain ⟨n5, hn5⟩ : ∃ n5, w6.heap.size = n5 := ⟨_, rfl⟩
  rw [hn5] at HU7 ⊢
  go_upto_region 8 with (first
    | (refine wpl_load_sto rfl (.tmp 1) rfl rfl HA7.out.at ?_)
    | (refine wpl_store_stN rfl (.tmp 6) (.tmp 35) rfl W6.heap.size rfl rfl (f := f1) (s := sA) rfl rfl (five_one HA7.out.i) ?_)
    | fail)
  refine wp_abs (F := fun W => BoxS W6.heap.size f1 sA W ∧ Below W6.heap.size W6 W) ⟨BoxS.new HA7.out.i, (Below.refl _ _).alloc (Nat.le_refl _) _⟩ ?_
  rintro W7 ⟨hX6, hb8⟩
  have HX6 := Lib.hid hX6; have Hb8 := Lib.hid hb8
  clear hX6 hb8
  obtain ⟨n6, hn6⟩ : ∃ n6, W6.heap.size = n6 := ⟨_, rfl⟩
  rw [hn6] at HX6 ⊢
  have c13 := HX6.out.o.c 13; have k13 := HX6.out.o.f 13
  simp [stoCells] at c13
  go_upto_region 9 with fail
  clear c13 k13
  refine wp_abs (F := fun W => BoxS n6 f1 sD W ∧ Below W6.heap.size W6 W) ⟨?_, Hb8.out.setCell (Nat.le_of_eq hn6) _⟩ ?_
  · have hw := Hb8.out.setCell (p := ⟨n6, 13, none⟩) (Nat.le_of_eq hn6) (.int .i64 3)
    have hi := HA7.out.i.below hw (Nat.le_refl _)
    exact ⟨HX6.out.o.set (i := 13) (by show 13 < 18; decide) _, ⟨hi.c, hi.g, hi.n, hi.m⟩⟩
  rintro W8 ⟨hX6, hb9⟩
  have HA9 := Lib.hid (HA7.out.step hb9); have HC9 := Lib.hid (HC7.out.step hb9); have HD9 := Lib.hid hX6; have HV9 := Lib.hid (HV7.out.step hb9); have HU9 := Lib.hid (HU7.out.step hb9); have HB9 := Lib.hid (HB7.out.trans (hb9.mono HB7.out.size))
  clear hX6 hb9 HA7 HC7 HV7 HU7 HB7 HX6 Hb8
  go_wp2_with (first
    | (refine wpl_load_sto rfl (.tmp 6) rfl rfl HD9.out.at ?_)
    | (refine wpl_load_sto rfl (.tmp 2) rfl rfl HC9.out.at ?_)
    | (refine wpl_build_sto2 rfl (.tmp 37) (.tmp 38) rfl rfl rfl ?_)
    | fail)
  refine (check_two sD sB _ _ (IsStos.rowN W8 [(f1, sD), (f2, sB)] _ ?_) szD szB ?_).mono ?_
  · intro x hx
    simp only [List.mem_cons, List.not_mem_nil, or_false] at hx
    rcases hx with rfl | rfl
    · exact HD9.out.i
    · exact HC9.out.i
  · exact HM.out.below (HB9.out.alloc HB9.out.size _) (Nat.le_refl _)
  rintro e wA ⟨rfl, hbA⟩
  have hbA' : Below W8.heap.size W8 wA := ((Below.refl _ _).alloc (Nat.le_refl _) _).trans (hbA.mono (by simp))
  have HAA := Lib.hid (HA9.out.step hbA'); have HCA := Lib.hid (HC9.out.step hbA'); have HVA := Lib.hid (HV9.out.step hbA'); have HUA := Lib.hid (HU9.out.step hbA'); have HBA := Lib.hid (HB9.out.trans (hbA'.mono HB9.out.size))
  clear HA9 HC9 HD9 HV9 HU9 HB9 hbA hbA'
  rw [check_DB]
  unfold vdVal
  go_upto_region 10 with fail
  refine wp_abs (F := fun W => BoxS n1 f1 sA W ∧ BoxS n2 f2 sB W ∧ One n3 #[.bool true, .int .i64 0, .int .u8 0] W ∧ One n5 #[.bool false, .int .i64 1, .int .u8 4] W ∧ One wA.heap.size #[.bool false, .int .i64 1, .int .u8 1] W ∧ Below w.heap.size w W) ?_ ?_
  · have hb : Below wA.heap.size wA (wA.alloc (.cells #[.bool false, .int .i64 1, .int .u8 1] 72)) := (Below.refl _ _).alloc (Nat.le_refl _) _
    exact ⟨HAA.out.step hb, HCA.out.step hb, HVA.out.step hb, HUA.out.step hb, One.of _ _ _, HBA.out.alloc HBA.out.size _⟩
  rintro WA ⟨hX1, hX2, hV3, hV5, hV7, hbB⟩
  have HAB := Lib.hid hX1; have HCB := Lib.hid hX2; have HVB := Lib.hid hV3; have HUB := Lib.hid hV5; have HTB := Lib.hid hV7; have HBB := Lib.hid hbB
  clear hX1 hX2 hbB hV3 hV5 hV7 HAA HCA HVA HUA HBA
  obtain ⟨n7, hn7⟩ : ∃ n7, wA.heap.size = n7 := ⟨_, rfl⟩
  rw [hn7] at HTB ⊢
  have hoA := HAB.out.o.step ((Below.refl _ _).alloc (Nat.le_refl _) (.cells (stoFlat [(f1, sA), (f2, sB)]).toArray 87))
  have c11 := hoA.c 11; have c12 := hoA.c 12
  simp [stoCells] at c11 c12
  go_wp2_with (first
    | (refine wpl_load_sto rfl (.tmp 1) rfl rfl HAB.out.at ?_)
    | (refine wpl_load_sto rfl (.tmp 2) rfl rfl HCB.out.at ?_)
    | (refine wpl_build_sto2 rfl (.tmp 42) (.tmp 43) rfl rfl rfl ?_)
    | fail)
  have hwX : Below WA.heap.size WA ((WA.alloc (.cells (stoFlat [(f1, sA), (f2, sB)]).toArray 87)).alloc (.cells #[.int .u64 sA.life, .int .u64 sA.txn] 82)) := ((Below.refl _ _).alloc (Nat.le_refl _) _).alloc (by simp) _
  refine (model_behind [sA, sB] [(1, 1)] _ _ _ ((IsStos.rowN WA [(f1, sA), (f2, sB)] _ ?_).below ((Below.refl _ _).alloc (Nat.le_refl _) _) (Nat.le_refl _)) ⟨_, 1, rfl, Or.inr ⟨_, 0, rfl, ?_, ?_⟩⟩ (by decide) (by decide) (Nat.le_trans (idxO_le _ _) (by decide)) (StosSz.two szA szB) ?_ ?_ ?_).mono ?_
  · intro x hx
    simp only [List.mem_cons, List.not_mem_nil, or_false] at hx
    rcases hx with rfl | rfl
    · exact HAB.out.i
    · exact HCB.out.i
  · simp
  · intro i hi
    obtain rfl : i = 0 := by simpa using hi
    have h := One.of (WA.alloc (.cells (stoFlat [(f1, sA), (f2, sB)]).toArray 87)) #[.int .u64 sA.life, .int .u64 sA.txn] 82
    have h0 := h.c 0; have h1 := h.c 1
    rw [show (WA.alloc (.cells (stoFlat [(f1, sA), (f2, sB)]).toArray 87)).heap.size = WA.heap.size + 1 by simp] at h0 h1
    exact ⟨h0, h1⟩
  · intro x hx
    obtain rfl : x = (1, 1) := by simpa using hx
    exact ⟨by decide, by decide⟩
  · intro i hi
    have : i = 0 ∨ i = 1 := by have : i < 2 := hi; omega
    rcases this with rfl | rfl
    · exact ⟨by decide, by decide⟩
    · exact ⟨by decide, by decide⟩
  · exact HM.out.below (HBB.out.trans (hwX.mono HBB.out.size)) (Nat.le_refl _)
  rintro e wB ⟨vw, rfl, hrw, hbB⟩
  rw [all_AB]
  rw [some_AB, rows_A, rows_exM] at hrw
  have hbX : Below WA.heap.size WA wB := hwX.trans (hbB.mono hwX.size)
  obtain ⟨aw, cw, rfl, hrw⟩ := hrw
  rcases hrw with h | ⟨br, orr, rfl, hlt, hc⟩
  · cases h
  obtain ⟨hr0, _, _⟩ := hc 0 (by decide)
  have h3 := HVB.out.step hbX; have h5 := HUB.out.step hbX; have h7 := HTB.out.step hbX
  have hBZ := HBB.out.trans (hbX.mono HBB.out.size)
  have a30 := h3.c 0; have a50 := h5.c 0; have a51 := h5.c 1; have a52 := h5.c 2; have a70 := h7.c 0; have a71 := h7.c 1; have a72 := h7.c 2
  simp at a30 a50 a51 a52 a70 a71 a72 hr0
  have HZ := Lib.hid hBZ
  clear hBZ h3 h5 h7 hbX hbB hwX hc HAB HCB HVB HUB HTB HBB hlt c11 c12 hoA
  have hq4 := vd_eq4; have hq1 := vd_eq1
  go_upto_region 11 with fail
  go_wp2_with fail
  have hta : (tA.toList == [97]) = true := by kernel_rfl
  rw [hta]
  exact bodyPost_ret (v := .bool true) (by simp [results, Tryz.results29, go_sem]) rfl ⟨rfl, HZ.out⟩
end Go.Proofs.YtfbgnpfhjbiikaaGreatDoor
