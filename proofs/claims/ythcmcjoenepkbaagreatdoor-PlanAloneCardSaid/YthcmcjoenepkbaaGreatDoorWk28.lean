/- Law 28: works: the document's example. -/
import Derived.Test.YthcmcjoenepkbaaGreatDoorWd
import Derived.Test.YthcmcjoenepkbaaGreatDoorPlC
import Derived.Test.YthcmcjoenepkbaaGreatDoorPlF
namespace Go.Proofs.YthcmcjoenepkbaaGreatDoor
open Go Go.RowKit Go.Maps Pth

theorem one_owner (u : Nat) : ownS (fewS 1) 1 u = 1 := by
  have h := fewS_mem (ownS_mem (S := fewS 1) (k := 1) (h := u) (by rw [fewS_length]; exact Nat.le_refl _) (Nat.le_refl _))
  omega
def exR : List Rd := [⟨⟨#[98]⟩, 0⟩, ⟨⟨#[97]⟩, 0⟩]
theorem exR_own (i : Nat) (O : Nat → Nat) (hO : ∀ u, O u = 1) : ownP O (exR.getD i dRd).path = 1 := hO _
theorem exR_ask (O : Nat → Nat) (hO : ∀ u, O u = 1) : askTo O exR [] 2 0 1 = { Ask.new 1 with reads := exR, readAt := [0, 1] } := by
  have h : ∀ p, (ownP O p == 1) = true := fun p => by unfold ownP; rw [hO]; rfl
  unfold askTo rdsTo rAtTo edsTo eAtTo
  have e1 : (exR.take 2).filter (fun r => ownP O r.path == 1) = exR := List.filter_eq_self.2 (fun r _ => h _)
  have e2 : (List.range 2).filter (fun i => ownP O (exR.getD i dRd).path == 1) = [0, 1] := List.filter_eq_self.2 (fun r _ => h _)
  rw [e1, e2]; rfl
theorem ss_one {ss : List Nat} (h1 : ss.Pairwise (· < ·)) (h2 : ∀ s, s ∈ ss ↔ s = 1) : ss = [1] := by
  match ss, h1, h2 with
  | [], _, h2 => have := (h2 1).2 rfl; cases this
  | [a], _, h2 => have := (h2 a).1 (List.mem_singleton.2 rfl); rw [this]
  | a :: b :: l, h1, h2 =>
    have e1 := (h2 a).1 (by simp); have e2 := (h2 b).1 (by simp)
    have := List.rel_of_pairwise_cons h1 (List.mem_cons_self (a := b) (l := l))
    omega
theorem exR_bad : exR.any badR = false := by decide

def exA : Ask := { Ask.new 1 with reads := exR, readAt := [0, 1] }
def exG0 : Gt := ⟨0, 0, ⟨#[]⟩, 3⟩
def exG1 : Gt := ⟨4, 0, ⟨#[]⟩, 0⟩
def exT : Tl := ⟨1, [exG0, exG1], [], []⟩
theorem ex_at (i : Nat) : ([exA] : List Ask).getD i dAsk = exA ∨ ([exA] : List Ask).getD i dAsk = dAsk := by
  rcases i with _ | i
  · exact Or.inl rfl
  · exact Or.inr rfl
theorem exT_at (i : Nat) : ([exT] : List Tl).getD i dTl = exT ∨ ([exT] : List Tl).getD i dTl = dTl := by
  rcases i with _ | i
  · exact Or.inl rfl
  · exact Or.inr rfl
theorem ex_merge (gR c3 bL oL q : Nat) (W : World) (hA : IsAsks W (.slice (some ⟨bL, oL, none⟩) 1 c3) [exA]) (hT : IsTold W (.slice (some ⟨q, 0, none⟩) 1 1) [exT]) :
    Calls Tryz.prog 18 #[.agg (callC 1 (.slice (some ⟨gR, 0, none⟩) 2 2) (.slice none 0 0) ⟨#[]⟩ 0 0 0), .slice (some ⟨bL, oL, none⟩) 1 c3, .slice (some ⟨q, 0, none⟩) 1 1] W (MergeG 2 0 (fun i => if i = 0 then exG0 else exG1) (fun _ => 0) W) := by
  refine merge_ok 1 0 0 0 2 0 2 0 1 c3 1 _ none _ _ ⟨#[]⟩ [exA] [exT] (fun i => if i = 0 then exG0 else exG1) (fun _ => 0) W hA hT rfl rfl (by decide) (fun i hi => ?_) (fun i => ?_) (fun i => ?_) (fun i => ?_) (fun i x hx => ?_) (fun i x hx => ?_) (fun i x hx => ?_) rfl rfl (fun i hi => ?_) (fun i hi => by omega)
  · obtain rfl : i = 0 := by omega
    exact ⟨rfl, rfl, rfl, rfl, rfl, Or.inr rfl⟩
  · rcases ex_at i with h | h <;> rw [h] <;> decide
  · rcases ex_at i with h | h <;> rw [h] <;> decide
  · rcases exT_at i with h | h <;> rw [h] <;> decide
  · rcases ex_at i with h | h
    · rw [h] at hx
      have : x ∈ [0, 1] := hx
      simp only [List.mem_cons, List.mem_nil_iff, or_false] at this
      omega
    · rw [h] at hx; cases hx
  · rcases ex_at i with h | h <;> (rw [h] at hx; cases hx)
  · rcases exT_at i with h | h <;> (rw [h] at hx; cases hx)
  · rcases i with _ | _ | i
    · rfl
    · rfl
    · omega

set_option maxRecDepth 100000 in
set_option maxHeartbeats 8000000 in
theorem law28_works (w : World) (hm : MX w) : Calls Tryz.prog 8 #[] w fun e w' => e = .returned (.bool true) ∧ Below w.heap.size w w' := by
  have HF := Lib.hid (law28_world 0 0 (by decide) (by decide) w)
  have HM := Lib.hid hm
  clear hm
  go_enter Tryz.func8, Tryz.ntmps8
  go_wp2_with fail
  refine HF.out.mono ?_
  rintro e w1 ⟨m, r, sp, rfl, hMA, _, hS, hl, hb1⟩
  have HMA := Lib.hid hMA; have HS := Lib.hid hS; have HB1 := Lib.hid hb1; have HL := Lib.hid hl
  clear hMA hS hb1 hl HF
  go_upto_region 5 with fail
  obtain ⟨gR, hgR⟩ : ∃ gR, w1.heap.size = gR := ⟨_, rfl⟩
  obtain ⟨W2, hW2⟩ : ∃ W2, (w1.alloc (.cells #[.string ⟨#[98]⟩, .int .u64 0, .string ⟨#[97]⟩, .int .u64 0] 56)).alloc (.cells #[.int .u8 1, .slice (some ⟨w1.heap.size, 0, none⟩) 2 2, .slice none 0 0, .string ⟨#[]⟩, .int .u64 0, .int .u64 0, .int .u32 0] 30) = W2 := ⟨_, rfl⟩
  have hb2 : Below w1.heap.size w1 W2 := by rw [← hW2]; exact ((Below.refl _ _).alloc (Nat.le_refl _) _).alloc (by simp) _
  have hr2 : W2.heap[gR]? = some (.cells #[.string ⟨#[98]⟩, .int .u64 0, .string ⟨#[97]⟩, .int .u64 0] 56 (0, 0)) := by
    rw [← hW2, ← hgR]
    exact (Below.heap_alloc _ _ _ (by simp)).trans (MapKept.heap_alloc _ _).1
  have hc2 : W2.heap[gR + 1]? = some (.cells #[.int .u8 1, .slice (some ⟨gR, 0, none⟩) 2 2, .slice none 0 0, .string ⟨#[]⟩, .int .u64 0, .int .u64 0, .int .u32 0] 30 (0, 0)) := by
    rw [← hW2, ← hgR]
    have h := (MapKept.heap_alloc (w1.alloc (.cells #[.string ⟨#[98]⟩, .int .u64 0, .string ⟨#[97]⟩, .int .u64 0] 56)) (.cells #[.int .u8 1, .slice (some ⟨w1.heap.size, 0, none⟩) 2 2, .slice none 0 0, .string ⟨#[]⟩, .int .u64 0, .int .u64 0, .int .u32 0] 30)).1
    simpa using h
  rw [hW2, hgR]
  have HB2 := Lib.hid hb2; have HR2 := Lib.hid hr2; have HC2 := Lib.hid hc2; have HGR := Lib.hid hgR
  have hO1 : ∀ u, ownS (fewS 1) 1 u = 1 := one_owner
  have hS2 : SpI (ownS (fewS 1) 1) sp M64 := HS.out
  obtain ⟨O, hO⟩ : ∃ O, ownS (fewS 1) 1 = O := ⟨_, rfl⟩
  rw [hO] at hO1 hS2
  have hIR : IsRds W2 (.slice (some ⟨gR, 0, none⟩) 2 2) exR := by
    refine ⟨_, 2, rfl, Or.inr ⟨gR, 0, rfl, (Array.getElem?_eq_some_iff.1 hr2).1, fun i hi j u hu => ?_⟩⟩
    have hj : j < 2 := by have := (List.getElem?_eq_some_iff.1 hu).1; rw [rdC_len] at this; exact this
    have hi' : i < 2 := hi
    rcases i with _ | _ | i
    · rcases j with _ | _ | j
      · exact (cell_of hr2 0).trans hu
      · exact (cell_of hr2 1).trans hu
      · omega
    · rcases j with _ | _ | j
      · exact (cell_of hr2 2).trans hu
      · exact (cell_of hr2 3).trans hu
      · omega
    · omega
  have HASK := Lib.hid (asks_ops m 1 sp O exR [] (.slice (some ⟨gR, 0, none⟩) 2 2) (.slice none 0 0) ⟨#[]⟩ 0 0 0 W2 (HMA.out.below hb2) (by have := HL.out; omega) hS2 (fun u => by rw [hO1]; decide) hIR (IsL.nil _ _ _ _) ((HM.out.below HB1.out (Nat.le_refl _)).below hb2 (Nat.le_refl _))
    (fun r hr => by simp only [exR, List.mem_cons, List.mem_nil_iff, or_false] at hr; rcases hr with rfl | rfl <;> exact ⟨by decide⟩) (fun x hx => by cases hx) (by decide) (by decide) exR_bad rfl rfl (fun r hr => by simp only [exR, List.mem_cons, List.mem_nil_iff, or_false] at hr; rcases hr with rfl | rfl <;> decide) (fun x hx => by cases hx))
  have HO1 := Lib.hid hO1
  have k0 : W2.cell? ⟨gR + 1, 0, none⟩ = some (.int .u8 1) := cell_of hc2 0
  have k1 : W2.cell? ⟨gR + 1, 1, none⟩ = some (.slice (some ⟨gR, 0, none⟩) 2 2) := cell_of hc2 1
  have k2 : W2.cell? ⟨gR + 1, 2, none⟩ = some (.slice none 0 0) := cell_of hc2 2
  have k3 : W2.cell? ⟨gR + 1, 3, none⟩ = some (.string ⟨#[]⟩) := cell_of hc2 3
  have k4 : W2.cell? ⟨gR + 1, 4, none⟩ = some (.int .u64 0) := cell_of hc2 4
  have k5 : W2.cell? ⟨gR + 1, 5, none⟩ = some (.int .u64 0) := cell_of hc2 5
  have k6 : W2.cell? ⟨gR + 1, 6, none⟩ = some (.int .u32 0) := cell_of hc2 6
  clear hb2 hr2 hc2 hgR hW2 hO hO1 hS2 hIR
  go_wp2_with fail
  refine HASK.out.mono ?_
  rintro e w3 ⟨v3, ss, rfl, h1, h2, h3, hb3⟩
  have h2' : ∀ s, s ∈ ss ↔ s = 1 := fun s => (h2 s).trans ⟨fun h => by
      rcases h with ⟨i, _, e⟩ | ⟨i, _, e⟩
      · rw [← e]; exact HO1.out _
      · rw [← e]; exact HO1.out _, fun h => Or.inl ⟨0, by decide, by rw [h]; exact HO1.out _⟩⟩
  obtain rfl := ss_one h1 h2'
  have h4 : IsAsks w3 v3 [{ Ask.new 1 with reads := exR, readAt := [0, 1] }] := by
    have := exR_ask O HO1.out
    rw [show ([1] : List Nat).map (askTo O exR [] exR.length ([] : List Ed).length) = [askTo O exR [] 2 0 1] from rfl, this] at h3
    exact h3
  have H4 := Lib.hid h4
  obtain ⟨a3, c3, rfl, h5⟩ := h4
  obtain ⟨bL, oL, rfl, hbL, hcL⟩ := h5.resolve_left (by simp)
  obtain ⟨u1, u2, u3, u4, hc, i1, i2, i3, i4⟩ := hcL 0 (by decide)
  obtain ⟨e1, d1, rfl, i1⟩ := i1
  obtain ⟨e2, d2, rfl, i2⟩ := i2
  obtain ⟨e3, d3, rfl, _⟩ := i3
  obtain ⟨e4, d4, rfl, _⟩ := i4
  obtain ⟨b1, o1, rfl, _, hc1⟩ := i1.resolve_left (by simp [exR, dAsk, Ask.new])
  obtain ⟨b2, o2, rfl, _, hc2⟩ := i2.resolve_left (by simp)
  have l1 : w3.cell? ⟨bL, oL + 1, none⟩ = some (.slice (some ⟨b1, o1, none⟩) 2 d1) := by have h := hc 1 _ rfl; simp only [Nat.zero_mul, Nat.add_zero] at h; exact h
  have l2 : w3.cell? ⟨bL, oL + 2, none⟩ = some (.slice (some ⟨b2, o2, none⟩) 2 d2) := by have h := hc 2 _ rfl; simp only [Nat.zero_mul, Nat.add_zero] at h; exact h
  have r0 : w3.cell? ⟨b1, o1, none⟩ = some (.string ⟨#[98]⟩) := by have h := hc1 0 (by decide) 0 _ rfl; simp only [Nat.zero_mul, Nat.add_zero] at h; exact h
  have x1 : w3.cell? ⟨b2, o2 + 1, none⟩ = some (.int .i64 1) := by have h := hc2 1 (by decide) 0 _ rfl; simp only [Nat.mul_one, Nat.add_zero] at h; exact h
  have HB3 := Lib.hid hb3
  have HKC : Hid (∀ U : World, Below W2.heap.size W2 U → U.heap[gR + 1]? = some (.cells #[.int .u8 1, .slice (some ⟨gR, 0, none⟩) 2 2, .slice none 0 0, .string ⟨#[]⟩, .int .u64 0, .int .u64 0, .int .u32 0] 30 (0, 0))) := Lib.hid (fun U h => (h.block _ (Array.getElem?_eq_some_iff.1 HC2.out).1).trans HC2.out)
  clear h1 h2 h2' h3 h5 hcL hc hc1 hc2 i1 i2 hb3 HASK k0 k1 k2 k3 k4 k5 k6
  go_upto_region 8 with fail
  have hk := HKC.out w3 HB3.out
  have k0 : w3.cell? ⟨gR + 1, 0, none⟩ = some (.int .u8 1) := cell_of hk 0
  have k1 : w3.cell? ⟨gR + 1, 1, none⟩ = some (.slice (some ⟨gR, 0, none⟩) 2 2) := cell_of hk 1
  have k2 : w3.cell? ⟨gR + 1, 2, none⟩ = some (.slice none 0 0) := cell_of hk 2
  have k3 : w3.cell? ⟨gR + 1, 3, none⟩ = some (.string ⟨#[]⟩) := cell_of hk 3
  have k4 : w3.cell? ⟨gR + 1, 4, none⟩ = some (.int .u64 0) := cell_of hk 4
  have k5 : w3.cell? ⟨gR + 1, 5, none⟩ = some (.int .u64 0) := cell_of hk 5
  have k6 : w3.cell? ⟨gR + 1, 6, none⟩ = some (.int .u32 0) := cell_of hk 6
  obtain ⟨W4, hW4⟩ : ∃ W4, (w3.alloc (.cells #[.int .u64 0, .int .u8 0, .string ⟨#[]⟩, .int .i64 3, .int .u64 4, .int .u8 0, .string ⟨#[]⟩, .int .i64 0] 61)).alloc (.cells #[.int .u32 1, .slice (some ⟨w3.heap.size, 0, none⟩) 2 2, .slice none 0 0, .slice none 0 0] 54) = W4 := ⟨_, rfl⟩
  have hb4 : Below w3.heap.size w3 W4 := by rw [← hW4]; exact ((Below.refl _ _).alloc (Nat.le_refl _) _).alloc (by simp) _
  have hg4 : W4.heap[w3.heap.size]? = some (.cells #[.int .u64 0, .int .u8 0, .string ⟨#[]⟩, .int .i64 3, .int .u64 4, .int .u8 0, .string ⟨#[]⟩, .int .i64 0] 61 (0, 0)) := by
    rw [← hW4]; exact (Below.heap_alloc _ _ _ (by simp)).trans (MapKept.heap_alloc _ _).1
  have ht4 : W4.heap[w3.heap.size + 1]? = some (.cells #[.int .u32 1, .slice (some ⟨w3.heap.size, 0, none⟩) 2 2, .slice none 0 0, .slice none 0 0] 54 (0, 0)) := by
    rw [← hW4]
    have h := (MapKept.heap_alloc (w3.alloc (.cells #[.int .u64 0, .int .u8 0, .string ⟨#[]⟩, .int .i64 3, .int .u64 4, .int .u8 0, .string ⟨#[]⟩, .int .i64 0] 61)) (.cells #[.int .u32 1, .slice (some ⟨w3.heap.size, 0, none⟩) 2 2, .slice none 0 0, .slice none 0 0] 54)).1
    simpa using h
  have hT4 : IsTold W4 (.slice (some ⟨w3.heap.size + 1, 0, none⟩) 1 1) [exT] := by
    refine ⟨_, 1, rfl, Or.inr ⟨_, 0, rfl, (Array.getElem?_eq_some_iff.1 ht4).1, fun i hi => ?_⟩⟩
    obtain rfl : i = 0 := by have : i < 1 := hi; omega
    refine ⟨.slice (some ⟨w3.heap.size, 0, none⟩) 2 2, .slice none 0 0, .slice none 0 0, fun j u hu => ?_, ?_, IsL.nil _ _ _ _, IsL.nil _ _ _ _⟩
    · simp only [Nat.zero_mul, Nat.zero_add]
      exact (cell_of ht4 j).trans hu
    · refine ⟨_, 2, rfl, Or.inr ⟨_, 0, rfl, (Array.getElem?_eq_some_iff.1 hg4).1, fun i hi j u hu => ?_⟩⟩
      have hj : j < 4 := by have := (List.getElem?_eq_some_iff.1 hu).1; rw [gtC_len] at this; exact this
      have hi' : i < 2 := hi
      rcases i with _ | _ | i
      · rcases j with _ | _ | _ | _ | j
        · exact (cell_of hg4 0).trans hu
        · exact (cell_of hg4 1).trans hu
        · exact (cell_of hg4 2).trans hu
        · exact (cell_of hg4 3).trans hu
        · omega
      · rcases j with _ | _ | _ | _ | j
        · exact (cell_of hg4 4).trans hu
        · exact (cell_of hg4 5).trans hu
        · exact (cell_of hg4 6).trans hu
        · exact (cell_of hg4 7).trans hu
        · omega
      · omega
  have HMG := Lib.hid (ex_merge gR c3 bL oL (w3.heap.size + 1) W4 (H4.out.below hb4 (Nat.le_refl _)) hT4)
  have HB4 : Hid (Below w.heap.size w W4) := Lib.hid (by
    have h12 : Below w.heap.size w W2 := HB1.out.trans (HB2.out.mono HB1.out.size)
    have h13 := h12.trans (HB3.out.mono h12.size)
    exact h13.trans (hb4.mono h13.size))
  clear hk l1 l2 r0 x1 hb4 hg4 ht4 hT4 H4
  go_wp2_with fail
  refine HMG.out.mono ?_
  rintro e w5 ⟨u5, u6, u7, nm5, rfl, hg5, hn5, hs5, _, hb5⟩
  obtain ⟨a5, c5, rfl, hg5⟩ := hg5
  obtain ⟨a6, c6, rfl, _⟩ := hn5
  obtain ⟨a7, c7, rfl, _⟩ := hs5
  obtain ⟨b5, o5, rfl, hl5, hc5⟩ := hg5.resolve_left (by simp)
  have z1 : w5.cell? ⟨b5, o5 + 4, none⟩ = some (.int .u64 4) := by have h := hc5 1 (by decide) 0 _ rfl; simp only [Nat.one_mul, Nat.add_zero] at h; exact h
  have HB5 : Hid (Below w.heap.size w w5) := Lib.hid (HB4.out.trans (hb5.mono HB4.out.size))
  have HMAY := Lib.hid (fun (W : World) (hW : Below w.heap.size w W) => may_list (.slice none 0 0) (.slice none 0 0) ⟨#[47, 47]⟩ 0 0 0 W (HM.out.below hW (Nat.le_refl _)) (by decide) rfl rfl)
  clear hb5 hc5 hg5 k0 k1 k2 k3 k4 k5 k6 HMG
  go_wp2_with fail
  have hb6 : Below w.heap.size w (w5.alloc (.cells #[.slice (some ⟨b5, o5, none⟩) 2 c5, .slice a6 0 c6, .slice a7 nm5.length c7] 67)) := HB5.out.alloc HB5.out.size _
  refine (HMAY.out _ hb6).mono ?_
  rintro e w6 ⟨rfl, hb7⟩
  have HB7 := Lib.hid (hb6.trans (hb7.mono hb6.size))
  rw [show (if prefL (⟨#[47, 47]⟩ : ByteArray).data.toList = true then (0 : Int) else 2) = 2 from by decide]
  clear hb6 hb7 HMAY
  go_wp2_with fail
  go_ret
  exact ⟨rfl, HB7.out⟩
end Go.Proofs.YthcmcjoenepkbaaGreatDoor
