/- Contract: scriniumlaw18.Heavy: where it answers false, there is not much. -/
import Derived.Test.YtbmmabpglkojkaaDoorTabC
namespace Go.Proofs.YtbmmabpglkojkaaDoor
open Go Go.RowKit

structure Actm where
  es : List Edt
  rs : List (ByteArray × Cel)
  ps : Nat
def dA : Actm := ⟨[], [], 0⟩
def IsAct (w : World) (b off : Nat) (a : Actm) : Prop :=
  ∃ ve vr pa pc, w.cell? ⟨b, off + 1, none⟩ = some ve ∧ IsEdts w ve a.es ∧ w.cell? ⟨b, off + 2, none⟩ = some vr ∧ IsRows w vr a.rs ∧ w.cell? ⟨b, off + 3, none⟩ = some (.slice pa a.ps pc)
/-- v is a slice whose elements read as the acts l. -/
def IsActs (w : World) (v : Value) (l : List Actm) : Prop :=
  ∃ a cap, v = .slice a l.length cap ∧ (l = [] ∨ ∃ b off, a = some ⟨b, off, none⟩ ∧ b < w.heap.size ∧ ∀ i, i < l.length → IsAct w b (off + i * 4) (l.getD i dA))
theorem IsAct.below {w w' : World} {b off : Nat} {a : Actm} (h : IsAct w b off a) (hb : Below w.heap.size w w') (hlt : b < w.heap.size) : IsAct w' b off a := by
  obtain ⟨ve, vr, pa, pc, h1, h2, h3, h4, h5⟩ := h
  exact ⟨ve, vr, pa, pc, (hb.cell hlt).trans h1, h2.below hb (Nat.le_refl _), (hb.cell hlt).trans h3, h4.below hb (Nat.le_refl _), (hb.cell hlt).trans h5⟩
def Light (S : Nat) (a : Actm) : Prop := a.es.length ≤ S ∧ a.rs.length ≤ S ∧ a.ps ≤ S ∧ (∀ i, i < a.es.length → (a.es.getD i dE).path.size ≤ S ∧ (a.es.getD i dE).text.size ≤ S) ∧
  (∀ i, i < a.rs.length → (a.rs.getD i dR).2.l.length ≤ S ∧ ∀ j, j < (a.rs.getD i dR).2.l.length → ((a.rs.getD i dR).2.l.getD j dV).tx.size ≤ S)
def totW : List Actm → Nat
  | [] => 0
  | a :: t => 8 * (a.es.length + a.rs.length + a.ps) + totW t
theorem totW_append (a b : List Actm) : totW (a ++ b) = totW a + totW b := by
  induction a with
  | nil => simp [totW]
  | cons v t ih => simp only [List.cons_append, totW, ih]; omega
theorem totW_snoc {l : List Actm} {k : Nat} (hk : k < l.length) : totW (l.take (k + 1)) = totW (l.take k) + 8 * ((l.getD k dA).es.length + (l.getD k dA).rs.length + (l.getD k dA).ps) := by
  rw [List.take_succ_eq_append_getElem hk, totW_append, List.getD_eq_getElem?_getD, List.getElem?_eq_getElem hk]; simp [totW]

def HeavyGives (l : List Actm) (w : World) (e : Ending) (w' : World) : Prop := ∃ x, e = .returned (.bool x) ∧ (x = false → totW l ≤ 8192 ∧ l.length ≤ 40) ∧ Below w.heap.size w w'
set_option maxRecDepth 100000 in
set_option maxHeartbeats 4000000 in
theorem law_heavy (S : Nat) (l : List Actm) (v : Value) (w : World) (hv : IsActs w v l) (hS : S ≤ 140737488351232) (hlS : l.length * (6000 * S) ≤ 4611686018427387904) (hl : l.length ≤ 1099511627776) (hL : ∀ i, i < l.length → Light S (l.getD i dA)) :
    Calls Tryd.prog 6 #[v] w (HeavyGives l w) := by
  obtain ⟨a, cap, rfl, hc⟩ := hv
  have HC := Lib.hid hc; have HL := Lib.hid hL; clear hc hL
  go_enter Tryd.func6, Tryd.ntmps6
  go_wp2_with fail
  go_loopw [3, 4] (fun s3 i wr => ∃ k n : Nat, k ≤ l.length ∧ k ≤ 100 ∧ i = .int .i64 k ∧ s3 = .int .i64 n ∧ Hid (totW (l.take k) ≤ n ∧ n ≤ k * (6000 * S)) ∧ Hid (Below w.heap.size w wr)) (fun _ i _ => l.length - (intOf i).toNat)
  case atStart => exact ⟨0, 0, Nat.zero_le _, by omega, rfl, rfl, Lib.hid ⟨Nat.le_refl _, by omega⟩, Lib.hid (Below.refl _ _)⟩
  case round =>
    obtain ⟨k, n, hk, hk1, rfl, rfl, hn, hbw⟩ := hrel
    by_cases hlt : k < l.length
    · by_cases h100 : k < 100
      · rcases HC.out with hn' | ⟨b, off, rfl, hblt, hcc⟩
        · subst hn'; simp at hlt
        have hact := hcc k hlt
        have hlight := HL.out k hlt
        obtain ⟨ac, hac⟩ : ∃ ac, ac = l.getD k dA := ⟨_, rfl⟩
        rw [← hac] at hact hlight
        have Hac := Lib.hid hac; clear hac hcc
        obtain ⟨es, rs, ps⟩ := ac
        obtain ⟨ve, vr, pa, pc, k1, he, k2, hr, k3⟩ := hact
        obtain ⟨l1, l2, l3, l4, l5⟩ := hlight
        simp only at he hr k3 l1 l2 l3 l4 l5
        obtain ⟨ea, ec, rfl, hec⟩ := he
        obtain ⟨ra, rc, rfl, hrc⟩ := hr
        have Hec := Lib.hid hec; have Hrc := Lib.hid hrc; have L4 := Lib.hid l4; have L5 := Lib.hid l5; clear hec hrc l4 l5
        have hn2 := hn.out.2
        have hk2 : (k + 1) * (6000 * S) ≤ l.length * (6000 * S) := Nat.mul_le_mul_right _ hlt
        have hk3 : (k + 1) * (6000 * S) = k * (6000 * S) + 6000 * S := by rw [Nat.add_mul, Nat.one_mul]
        have hN : n + 6000 * S ≤ 4611686018427387904 := by omega
        have Hk3 := Lib.hid hk3
        clear hn2 hk2 hk3
        have hltI : (k : Int) < (l.length : Int) := by omega
        have h100I : (k : Int) < 100 := by omega
        obtain ⟨E, hE⟩ : ∃ E, E = es.length := ⟨_, rfl⟩
        obtain ⟨R, hR⟩ : ∃ R, R = rs.length := ⟨_, rfl⟩
        rw [← hE] at k1 l1
        rw [← hR] at k2 l2
        have HE := Lib.hid hE; have HR := Lib.hid hR; clear hE hR
        have HK : Hid (∀ W, Below w.heap.size w W → W.cell? ⟨b, off + k * 4 + 1, none⟩ = some (.slice ea E ec) ∧ W.cell? ⟨b, off + k * 4 + 2, none⟩ = some (.slice ra R rc) ∧ W.cell? ⟨b, off + k * 4 + 3, none⟩ = some (.slice pa ps pc)) := Lib.hid (fun W hW => ⟨(hW.cell hblt).trans k1, (hW.cell hblt).trans k2, (hW.cell hblt).trans k3⟩)
        clear k1 k2 k3
        have hm1 : 8 * (E + R + ps) ≤ 9223372036854775807 := by omega
        have hm2 : n + 8 * (E + R + ps) ≤ 9223372036854775807 := by omega
        obtain ⟨k1, k2, k3⟩ := HK.out wr hbw.out
        go_wp2_with fail
        go_quiet (fail)
        go_wp2_with fail
        obtain ⟨n1, hn1⟩ : ∃ n1, n1 = n + 8 * (E + R + ps) := ⟨_, rfl⟩
        have hn1I : (n : Int) + 8 * ((E : Int) + (R : Int) + (ps : Int)) = (n1 : Int) := by omega
        rw [hn1I]
        have hN1 : n1 + 5900 * S ≤ 4611686018427387904 := by omega
        have Hn1 := Lib.hid hn1
        clear hn1 hn1I hm1 hm2 k1 k2 k3
        go_loopw [3, 5] (fun s3 s5 wx => ∃ k2 n2 : Nat, k2 ≤ E ∧ k2 ≤ 100 ∧ s5 = .int .i64 k2 ∧ s3 = .int .i64 n2 ∧ Hid (n1 ≤ n2 ∧ n2 ≤ n1 + k2 * (2 * S)) ∧ Hid (Below w.heap.size w wx)) (fun _ i _ => E - (intOf i).toNat)
        case atStart => exact ⟨0, n1, Nat.zero_le _, by omega, rfl, rfl, Lib.hid ⟨Nat.le_refl _, by omega⟩, Lib.hid (below_dr hbw.out _)⟩
        case round =>
          obtain ⟨k2, n2, hk2, hk2h, rfl, rfl, hn2, hbx⟩ := hrel
          obtain ⟨c1, c2, c3⟩ := HK.out wr hbx.out
          by_cases hlt2 : k2 < E
          · by_cases h1002 : k2 < 100
            · have hlt2I : (k2 : Int) < (E : Int) := by omega
              have h1002I : (k2 : Int) < 100 := by omega
              rcases Hec.out with hnil | ⟨be, oe, rfl, hble, hee⟩
              · have := HE.out; rw [hnil] at this; simp at this; omega
              obtain ⟨_, g1, _, _, _, g5⟩ := hee k2 (by have := HE.out; omega)
              have e1 := (hbx.out.cell (p := ⟨be, oe + k2 * 6 + 1, none⟩) hble).trans g1
              have e5 := (hbx.out.cell (p := ⟨be, oe + k2 * 6 + 5, none⟩) hble).trans g5
              obtain ⟨z1, z2⟩ := L4.out k2 (by have := HE.out; omega)
              obtain ⟨x, hx⟩ : ∃ x, x = es.getD k2 dE := ⟨_, rfl⟩
              rw [← hx] at e1 e5 z1 z2
              clear hx g1 g5 hee
              have hb2 := hn2.out.2
              have hm : k2 * (2 * S) ≤ 100 * (2 * S) := Nat.mul_le_mul_right _ (by omega)
              have hs : (k2 + 1) * (2 * S) = k2 * (2 * S) + 2 * S := by rw [Nat.add_mul, Nat.one_mul]
              have hq1 : n2 + x.text.size ≤ 9223372036854775807 := by omega
              have hq2 : n2 + x.text.size + x.path.size ≤ 9223372036854775807 := by omega
              have Hnx : Hid (n1 ≤ n2 + x.text.size + x.path.size ∧ n2 + x.text.size + x.path.size ≤ n1 + (k2 + 1) * (2 * S)) := Lib.hid (by have := hn2.out.1; constructor <;> omega)
              clear hb2 hm hs z1 z2
              go_wp2_with fail
              go_quiet (fail)
              go_wp2_with fail
              go_roundw
              case rel => exact ⟨k2 + 1, n2 + x.text.size + x.path.size, by omega, by omega, by go_num, by push_cast; rfl, Hnx, Lib.hid (below_dr hbx.out _)⟩
              case measure => simp [intOf]; omega
            · have hlt2I : (k2 : Int) < (E : Int) := by omega
              have h1002I : ¬ (k2 : Int) < 100 := by omega
              have hb2 := hn2.out.2
              have hm2 : k2 * (2 * S) ≤ 100 * (2 * S) := Nat.mul_le_mul_right _ hk2h
              have hN2 : n2 + 5700 * S ≤ 4611686018427387904 := by omega
              have Hn2 : Hid (n1 ≤ n2 ∧ n2 ≤ n1 + 200 * S) := Lib.hid (by have := hn2.out.1; constructor <;> omega)
              clear hb2 hm2
              go_wp2_with fail
              clear c1 c2 c3
              go_loopw [3, 6] (fun s3 s6 wx => ∃ k3 n3 : Nat, k3 ≤ R ∧ k3 ≤ 100 ∧ s6 = .int .i64 k3 ∧ s3 = .int .i64 n3 ∧ Hid (n2 ≤ n3 ∧ n3 ≤ n2 + k3 * (48 * S)) ∧ Hid (Below w.heap.size w wx)) (fun _ i _ => R - (intOf i).toNat)
              case atStart => exact ⟨0, n2, Nat.zero_le _, by omega, rfl, rfl, Lib.hid ⟨Nat.le_refl _, by omega⟩, hbx⟩
              case round =>
                clear hbx hn2
                obtain ⟨k3, n3, hk3, hk3h, rfl, rfl, hn3, hbx⟩ := hrel
                obtain ⟨c1, c2, c3⟩ := HK.out wr hbx.out
                by_cases hlt3 : k3 < R
                · by_cases h1003 : k3 < 100
                  · have hlt3I : (k3 : Int) < (R : Int) := by omega
                    have h1003I : (k3 : Int) < 100 := by omega
                    rcases Hrc.out with hnil | ⟨br, or', rfl, hblr, hrr⟩
                    · have := HR.out; rw [hnil] at this; simp at this; omega
                    obtain ⟨g0, g1, s, g2, hs⟩ := hrr k3 (by have := HR.out; omega)
                    have e0 := (hbx.out.cell (p := ⟨br, or' + k3 * 3, none⟩) hblr).trans g0
                    have e1 := (hbx.out.cell (p := ⟨br, or' + k3 * 3 + 1, none⟩) hblr).trans g1
                    have e2 := (hbx.out.cell (p := ⟨br, or' + k3 * 3 + 2, none⟩) hblr).trans g2
                    obtain ⟨z1, z2⟩ := L5.out k3 (by have := HR.out; omega)
                    obtain ⟨xr, hxr⟩ : ∃ xr, xr = rs.getD k3 dR := ⟨_, rfl⟩
                    rw [← hxr] at e0 e1 hs z1 z2
                    obtain ⟨va, vc, rfl, hvs⟩ := hs
                    obtain ⟨LL, hLL⟩ : ∃ LL, LL = xr.2.l.length := ⟨_, rfl⟩
                    rw [← hLL] at e2 z1
                    have hLS : LL ≤ S := z1
                    have Hvs := Lib.hid hvs; have HLL := Lib.hid hLL; have HLS := Lib.hid z2
                    clear hxr g0 g1 g2 hvs hLL z2 hrr z1
                    have hb3 := hn3.out.2
                    have hm3 : k3 * (48 * S) ≤ 100 * (48 * S) := Nat.mul_le_mul_right _ (by omega)
                    have hq1 : 8 * LL ≤ 9223372036854775807 := by omega
                    have hq2 : n3 + 8 * LL ≤ 9223372036854775807 := by omega
                    have HN3 : Hid (n3 + 8 * LL + 40 * S ≤ 4611686018427387904) := Lib.hid (by omega)
                    clear hb3 hm3
                    go_upto_region 14 with fail
                    refine wp_abs (F := fun W => One wr.heap.size #[.int .u64 xr.2.last, .slice va LL vc] W ∧ Below wr.heap.size wr W) ⟨One.of _ _ _, (Below.refl _ _).alloc (Nat.le_refl _) _⟩ ?_
                    rintro WB ⟨hB, hbB⟩
                    have y0 := hB.c 0; have y1 := hB.c 1
                    simp at y0 y1
                    have HB := Lib.hid hB; have HbB := Lib.hid (hbx.out.trans (hbB.mono hbx.out.size)); clear hB hbB
                    go_wp2_with fail
                    obtain ⟨n30, hn30⟩ : ∃ n30, n30 = n3 + 8 * LL := ⟨_, rfl⟩
                    have hN30 : n30 + 40 * S ≤ 4611686018427387904 := by rw [hn30]; exact HN3.out
                    have Hn30 := Lib.hid hn30
                    have hn30I : (n3 : Int) + 8 * (LL : Int) = (n30 : Int) := by omega
                    rw [hn30I]
                    clear hn30 hn30I hq1 hq2 y0 y1 c1 c2 c3 e0 e1 e2
                    go_loopw [3, 8] (fun s3 s8 wx => ∃ k4 n4 : Nat, k4 ≤ LL ∧ k4 ≤ 40 ∧ s8 = .int .i64 k4 ∧ s3 = .int .i64 n4 ∧ Hid (n30 ≤ n4 ∧ n4 ≤ n30 + k4 * S) ∧ Hid (Below WB.heap.size WB wx)) (fun _ i _ => LL - (intOf i).toNat)
                    case atStart => exact ⟨0, n30, Nat.zero_le _, by omega, rfl, rfl, Lib.hid ⟨Nat.le_refl _, by omega⟩, Lib.hid (Below.refl _ _)⟩
                    case round =>
                      obtain ⟨k4, n4, hk4, hk4h, rfl, rfl, hn4, hby⟩ := hrel
                      have hBr := HB.out.step hby.out
                      have y1 := hBr.c 1
                      simp at y1
                      have hBr2 := Lib.hid hBr; clear hBr
                      by_cases hlt4 : k4 < LL
                      · by_cases h1004 : k4 < 40
                        · have hlt4I : (k4 : Int) < (LL : Int) := by omega
                          have h1004I : (k4 : Int) < 40 := by omega
                          rcases Hvs.out with hnil | ⟨bv, ov, rfl, hblv, hvv⟩
                          · have := HLL.out; rw [hnil] at this; simp at this; omega
                          obtain ⟨_, _, g3⟩ := hvv k4 (by have := HLL.out; omega)
                          have hbz : Below w.heap.size w wr := HbB.out.trans (hby.out.mono HbB.out.size)
                          have e3 := (hbz.cell (p := ⟨bv, ov + k4 * 3 + 2, none⟩) hblv).trans g3
                          have z1 := HLS.out k4 (by have := HLL.out; omega)
                          obtain ⟨x4, hx4⟩ : ∃ x4, x4 = xr.2.l.getD k4 dV := ⟨_, rfl⟩
                          rw [← hx4] at e3 z1
                          have hb4 := hn4.out.2
                          have hm4 : k4 * S ≤ 40 * S := Nat.mul_le_mul_right _ (by omega)
                          have hs4 : (k4 + 1) * S = k4 * S + S := by rw [Nat.add_mul, Nat.one_mul]
                          have hq4 : n4 + x4.tx.size ≤ 9223372036854775807 := by omega
                          have Hn4x : Hid (n30 ≤ n4 + x4.tx.size ∧ n4 + x4.tx.size ≤ n30 + (k4 + 1) * S) := Lib.hid (by have := hn4.out.1; constructor <;> omega)
                          clear hx4 g3 hvv hb4 hm4 hs4 z1 hbz
                          go_wp2_with fail
                          go_roundw
                          case rel => exact ⟨k4 + 1, n4 + x4.tx.size, by omega, by omega, by go_num, by push_cast; rfl, Hn4x, hby⟩
                          case measure => simp [intOf]; omega
                        · have hlt4I : (k4 : Int) < (LL : Int) := by omega
                          have h1004I : ¬ (k4 : Int) < 40 := by omega
                          have Hn34 : Hid (n2 ≤ n4 ∧ n4 ≤ n2 + (k3 + 1) * (48 * S)) := Lib.hid (by
                            have f3 := hn3.out; have f4 := hn4.out; have f5 := Hn30.out; have f6 := hLS
                            have f8 : k4 * S ≤ 40 * S := Nat.mul_le_mul_right _ hk4h
                            have f9 : (k3 + 1) * (48 * S) = k3 * (48 * S) + 48 * S := by rw [Nat.add_mul, Nat.one_mul]
                            omega)
                          have hbz : Below w.heap.size w wr := HbB.out.trans (hby.out.mono HbB.out.size)
                          have Hbz := Lib.hid hbz; clear hbz
                          go_wp2_with fail
                          go_roundw
                          case rel => exact ⟨k3 + 1, n4, by omega, by omega, by go_num, rfl, Hn34, Hbz⟩
                          case measure => simp [intOf]; omega
                      · have hge4 : (LL : Int) ≤ (k4 : Int) := by omega
                        have Hn34 : Hid (n2 ≤ n4 ∧ n4 ≤ n2 + (k3 + 1) * (48 * S)) := Lib.hid (by
                          have f3 := hn3.out; have f4 := hn4.out; have f5 := Hn30.out; have f6 := hLS
                          have f8 : k4 * S ≤ 40 * S := Nat.mul_le_mul_right _ hk4h
                          have f9 : (k3 + 1) * (48 * S) = k3 * (48 * S) + 48 * S := by rw [Nat.add_mul, Nat.one_mul]
                          omega)
                        have hbz : Below w.heap.size w wr := HbB.out.trans (hby.out.mono HbB.out.size)
                        have Hbz := Lib.hid hbz; clear hbz
                        go_wp2_with fail
                        go_roundw
                        case rel => exact ⟨k3 + 1, n4, by omega, by omega, by go_num, rfl, Hn34, Hbz⟩
                        case measure => simp [intOf]; omega
                  · have hlt3I : (k3 : Int) < (R : Int) := by omega
                    have h1003I : ¬ (k3 : Int) < 100 := by omega
                    have Hfin : Hid (totW (l.take (k + 1)) ≤ n3 ∧ n3 ≤ (k + 1) * (6000 * S)) := Lib.hid (by
                      have f1 := hn.out; have f2 := Hn1.out; have f3 := Hn2.out; have f4 := hn3.out; have f5 := Hk3.out; have f6 := HE.out; have f7 := HR.out
                      have f8 : k3 * (48 * S) ≤ 100 * (48 * S) := Nat.mul_le_mul_right _ hk3h
                      rw [totW_snoc hlt, ← Hac.out, f5]
                      simp only [← f6, ← f7]
                      omega)
                    go_wp2_with fail
                    go_roundw
                    case rel => exact ⟨k + 1, n3, by omega, by omega, by go_num, rfl, Hfin, hbx⟩
                    case measure => simp [intOf]; omega
                · have hge3 : (R : Int) ≤ (k3 : Int) := by omega
                  have Hfin : Hid (totW (l.take (k + 1)) ≤ n3 ∧ n3 ≤ (k + 1) * (6000 * S)) := Lib.hid (by
                    have f1 := hn.out; have f2 := Hn1.out; have f3 := Hn2.out; have f4 := hn3.out; have f5 := Hk3.out; have f6 := HE.out; have f7 := HR.out
                    have f8 : k3 * (48 * S) ≤ 100 * (48 * S) := Nat.mul_le_mul_right _ hk3h
                    rw [totW_snoc hlt, ← Hac.out, f5]
                    simp only [← f6, ← f7]
                    omega)
                  go_wp2_with fail
                  go_roundw
                  case rel => exact ⟨k + 1, n3, by omega, by omega, by go_num, rfl, Hfin, hbx⟩
                  case measure => simp [intOf]; omega
          · have hge2 : (E : Int) ≤ (k2 : Int) := by omega
            have hb2 := hn2.out.2
            have hm2 : k2 * (2 * S) ≤ 100 * (2 * S) := Nat.mul_le_mul_right _ hk2h
            have hN2 : n2 + 5700 * S ≤ 4611686018427387904 := by omega
            have Hn2 : Hid (n1 ≤ n2 ∧ n2 ≤ n1 + 200 * S) := Lib.hid (by have := hn2.out.1; constructor <;> omega)
            clear hb2 hm2
            go_wp2_with fail
            clear c1 c2 c3
            go_loopw [3, 6] (fun s3 s6 wx => ∃ k3 n3 : Nat, k3 ≤ R ∧ k3 ≤ 100 ∧ s6 = .int .i64 k3 ∧ s3 = .int .i64 n3 ∧ Hid (n2 ≤ n3 ∧ n3 ≤ n2 + k3 * (48 * S)) ∧ Hid (Below w.heap.size w wx)) (fun _ i _ => R - (intOf i).toNat)
            case atStart => exact ⟨0, n2, Nat.zero_le _, by omega, rfl, rfl, Lib.hid ⟨Nat.le_refl _, by omega⟩, hbx⟩
            case round =>
              clear hbx hn2
              obtain ⟨k3, n3, hk3, hk3h, rfl, rfl, hn3, hbx⟩ := hrel
              obtain ⟨c1, c2, c3⟩ := HK.out wr hbx.out
              by_cases hlt3 : k3 < R
              · by_cases h1003 : k3 < 100
                · have hlt3I : (k3 : Int) < (R : Int) := by omega
                  have h1003I : (k3 : Int) < 100 := by omega
                  rcases Hrc.out with hnil | ⟨br, or', rfl, hblr, hrr⟩
                  · have := HR.out; rw [hnil] at this; simp at this; omega
                  obtain ⟨g0, g1, s, g2, hs⟩ := hrr k3 (by have := HR.out; omega)
                  have e0 := (hbx.out.cell (p := ⟨br, or' + k3 * 3, none⟩) hblr).trans g0
                  have e1 := (hbx.out.cell (p := ⟨br, or' + k3 * 3 + 1, none⟩) hblr).trans g1
                  have e2 := (hbx.out.cell (p := ⟨br, or' + k3 * 3 + 2, none⟩) hblr).trans g2
                  obtain ⟨z1, z2⟩ := L5.out k3 (by have := HR.out; omega)
                  obtain ⟨xr, hxr⟩ : ∃ xr, xr = rs.getD k3 dR := ⟨_, rfl⟩
                  rw [← hxr] at e0 e1 hs z1 z2
                  obtain ⟨va, vc, rfl, hvs⟩ := hs
                  obtain ⟨LL, hLL⟩ : ∃ LL, LL = xr.2.l.length := ⟨_, rfl⟩
                  rw [← hLL] at e2 z1
                  have hLS : LL ≤ S := z1
                  have Hvs := Lib.hid hvs; have HLL := Lib.hid hLL; have HLS := Lib.hid z2
                  clear hxr g0 g1 g2 hvs hLL z2 hrr z1
                  have hb3 := hn3.out.2
                  have hm3 : k3 * (48 * S) ≤ 100 * (48 * S) := Nat.mul_le_mul_right _ (by omega)
                  have hq1 : 8 * LL ≤ 9223372036854775807 := by omega
                  have hq2 : n3 + 8 * LL ≤ 9223372036854775807 := by omega
                  have HN3 : Hid (n3 + 8 * LL + 40 * S ≤ 4611686018427387904) := Lib.hid (by omega)
                  clear hb3 hm3
                  go_upto_region 14 with fail
                  refine wp_abs (F := fun W => One wr.heap.size #[.int .u64 xr.2.last, .slice va LL vc] W ∧ Below wr.heap.size wr W) ⟨One.of _ _ _, (Below.refl _ _).alloc (Nat.le_refl _) _⟩ ?_
                  rintro WB ⟨hB, hbB⟩
                  have y0 := hB.c 0; have y1 := hB.c 1
                  simp at y0 y1
                  have HB := Lib.hid hB; have HbB := Lib.hid (hbx.out.trans (hbB.mono hbx.out.size)); clear hB hbB
                  go_wp2_with fail
                  obtain ⟨n30, hn30⟩ : ∃ n30, n30 = n3 + 8 * LL := ⟨_, rfl⟩
                  have hN30 : n30 + 40 * S ≤ 4611686018427387904 := by rw [hn30]; exact HN3.out
                  have Hn30 := Lib.hid hn30
                  have hn30I : (n3 : Int) + 8 * (LL : Int) = (n30 : Int) := by omega
                  rw [hn30I]
                  clear hn30 hn30I hq1 hq2 y0 y1 c1 c2 c3 e0 e1 e2
                  go_loopw [3, 8] (fun s3 s8 wx => ∃ k4 n4 : Nat, k4 ≤ LL ∧ k4 ≤ 40 ∧ s8 = .int .i64 k4 ∧ s3 = .int .i64 n4 ∧ Hid (n30 ≤ n4 ∧ n4 ≤ n30 + k4 * S) ∧ Hid (Below WB.heap.size WB wx)) (fun _ i _ => LL - (intOf i).toNat)
                  case atStart => exact ⟨0, n30, Nat.zero_le _, by omega, rfl, rfl, Lib.hid ⟨Nat.le_refl _, by omega⟩, Lib.hid (Below.refl _ _)⟩
                  case round =>
                    obtain ⟨k4, n4, hk4, hk4h, rfl, rfl, hn4, hby⟩ := hrel
                    have hBr := HB.out.step hby.out
                    have y1 := hBr.c 1
                    simp at y1
                    have hBr2 := Lib.hid hBr; clear hBr
                    by_cases hlt4 : k4 < LL
                    · by_cases h1004 : k4 < 40
                      · have hlt4I : (k4 : Int) < (LL : Int) := by omega
                        have h1004I : (k4 : Int) < 40 := by omega
                        rcases Hvs.out with hnil | ⟨bv, ov, rfl, hblv, hvv⟩
                        · have := HLL.out; rw [hnil] at this; simp at this; omega
                        obtain ⟨_, _, g3⟩ := hvv k4 (by have := HLL.out; omega)
                        have hbz : Below w.heap.size w wr := HbB.out.trans (hby.out.mono HbB.out.size)
                        have e3 := (hbz.cell (p := ⟨bv, ov + k4 * 3 + 2, none⟩) hblv).trans g3
                        have z1 := HLS.out k4 (by have := HLL.out; omega)
                        obtain ⟨x4, hx4⟩ : ∃ x4, x4 = xr.2.l.getD k4 dV := ⟨_, rfl⟩
                        rw [← hx4] at e3 z1
                        have hb4 := hn4.out.2
                        have hm4 : k4 * S ≤ 40 * S := Nat.mul_le_mul_right _ (by omega)
                        have hs4 : (k4 + 1) * S = k4 * S + S := by rw [Nat.add_mul, Nat.one_mul]
                        have hq4 : n4 + x4.tx.size ≤ 9223372036854775807 := by omega
                        have Hn4x : Hid (n30 ≤ n4 + x4.tx.size ∧ n4 + x4.tx.size ≤ n30 + (k4 + 1) * S) := Lib.hid (by have := hn4.out.1; constructor <;> omega)
                        clear hx4 g3 hvv hb4 hm4 hs4 z1 hbz
                        go_wp2_with fail
                        go_roundw
                        case rel => exact ⟨k4 + 1, n4 + x4.tx.size, by omega, by omega, by go_num, by push_cast; rfl, Hn4x, hby⟩
                        case measure => simp [intOf]; omega
                      · have hlt4I : (k4 : Int) < (LL : Int) := by omega
                        have h1004I : ¬ (k4 : Int) < 40 := by omega
                        have Hn34 : Hid (n2 ≤ n4 ∧ n4 ≤ n2 + (k3 + 1) * (48 * S)) := Lib.hid (by
                          have f3 := hn3.out; have f4 := hn4.out; have f5 := Hn30.out; have f6 := hLS
                          have f8 : k4 * S ≤ 40 * S := Nat.mul_le_mul_right _ hk4h
                          have f9 : (k3 + 1) * (48 * S) = k3 * (48 * S) + 48 * S := by rw [Nat.add_mul, Nat.one_mul]
                          omega)
                        have hbz : Below w.heap.size w wr := HbB.out.trans (hby.out.mono HbB.out.size)
                        have Hbz := Lib.hid hbz; clear hbz
                        go_wp2_with fail
                        go_roundw
                        case rel => exact ⟨k3 + 1, n4, by omega, by omega, by go_num, rfl, Hn34, Hbz⟩
                        case measure => simp [intOf]; omega
                    · have hge4 : (LL : Int) ≤ (k4 : Int) := by omega
                      have Hn34 : Hid (n2 ≤ n4 ∧ n4 ≤ n2 + (k3 + 1) * (48 * S)) := Lib.hid (by
                        have f3 := hn3.out; have f4 := hn4.out; have f5 := Hn30.out; have f6 := hLS
                        have f8 : k4 * S ≤ 40 * S := Nat.mul_le_mul_right _ hk4h
                        have f9 : (k3 + 1) * (48 * S) = k3 * (48 * S) + 48 * S := by rw [Nat.add_mul, Nat.one_mul]
                        omega)
                      have hbz : Below w.heap.size w wr := HbB.out.trans (hby.out.mono HbB.out.size)
                      have Hbz := Lib.hid hbz; clear hbz
                      go_wp2_with fail
                      go_roundw
                      case rel => exact ⟨k3 + 1, n4, by omega, by omega, by go_num, rfl, Hn34, Hbz⟩
                      case measure => simp [intOf]; omega
                · have hlt3I : (k3 : Int) < (R : Int) := by omega
                  have h1003I : ¬ (k3 : Int) < 100 := by omega
                  have Hfin : Hid (totW (l.take (k + 1)) ≤ n3 ∧ n3 ≤ (k + 1) * (6000 * S)) := Lib.hid (by
                    have f1 := hn.out; have f2 := Hn1.out; have f3 := Hn2.out; have f4 := hn3.out; have f5 := Hk3.out; have f6 := HE.out; have f7 := HR.out
                    have f8 : k3 * (48 * S) ≤ 100 * (48 * S) := Nat.mul_le_mul_right _ hk3h
                    rw [totW_snoc hlt, ← Hac.out, f5]
                    simp only [← f6, ← f7]
                    omega)
                  go_wp2_with fail
                  go_roundw
                  case rel => exact ⟨k + 1, n3, by omega, by omega, by go_num, rfl, Hfin, hbx⟩
                  case measure => simp [intOf]; omega
              · have hge3 : (R : Int) ≤ (k3 : Int) := by omega
                have Hfin : Hid (totW (l.take (k + 1)) ≤ n3 ∧ n3 ≤ (k + 1) * (6000 * S)) := Lib.hid (by
                  have f1 := hn.out; have f2 := Hn1.out; have f3 := Hn2.out; have f4 := hn3.out; have f5 := Hk3.out; have f6 := HE.out; have f7 := HR.out
                  have f8 : k3 * (48 * S) ≤ 100 * (48 * S) := Nat.mul_le_mul_right _ hk3h
                  rw [totW_snoc hlt, ← Hac.out, f5]
                  simp only [← f6, ← f7]
                  omega)
                go_wp2_with fail
                go_roundw
                case rel => exact ⟨k + 1, n3, by omega, by omega, by go_num, rfl, Hfin, hbx⟩
                case measure => simp [intOf]; omega
      · have h100I : ¬ (k : Int) < 100 := by omega
        have hltI : (k : Int) < (l.length : Int) := by omega
        have hbig : (40 : Int) < (l.length : Int) := by omega
        go_wp2_with fail
        go_ret
        exact ⟨true, rfl, fun h => by simp at h, hbw.out⟩
    · have hge : (l.length : Int) ≤ (k : Int) := by omega
      have Hkl : Hid (k = l.length) := Lib.hid (by omega)
      by_cases h40 : 40 < l.length
      · have h40I : (40 : Int) < (l.length : Int) := by omega
        go_wp2_with fail
        go_ret
        exact ⟨true, rfl, fun h => by simp at h, hbw.out⟩
      · have h40I : ¬ (40 : Int) < (l.length : Int) := by omega
        go_wp2_with fail
        go_ret
        refine ⟨_, rfl, fun h => ?_, hbw.out⟩
        have h1 := hn.out.1
        rw [Hkl.out, List.take_length] at h1
        simp at h
        omega
end Go.Proofs.YtbmmabpglkojkaaDoor
