/- Contract: scriniumlaw18.Heavy: where it answers false, there is not much. Contract: scriniumref18.Same, where both are one. Edits that came in, opened. Apply, told in one; what stays of lists while a table turns. append onto a list of numbers: that its block bears numbers alone. Rows that came in, opened. Contract: scriniumlaw18.copied. Contract: Table.Load: what is there behind it, whatever it answers. -/
import Derived.Test.YtfbgnpfhjbiikaaGreatDoorQl00
import Derived.Test.YtfbgnpfhjbiikaaGreatDoorQl03
import Derived.Lib.SmallJoins
import Derived.Deep.AppendLies
import Derived.Deep.RegionWith
namespace Go.Proofs.YtfbgnpfhjbiikaaGreatDoor
open Go Go.RowKit
structure Actm where
  es : List Edt
  rs : List (ByteArray × Cel)
  ps : Nat
def dA : Actm := ⟨[], [], 0⟩
def IsAct (w : World) (b off : Nat) (a : Actm) : Prop :=
  ∃ ve vr pa pc, w.cell? ⟨b, off + 1, none⟩ = some ve ∧ IsEdts w ve a.es ∧ w.cell? ⟨b, off + 2, none⟩ = some vr ∧ IsRows w vr a.rs ∧ w.cell? ⟨b, off + 3, none⟩ = some (.slice pa a.ps pc)
def IsActs (w : World) (v : Value) (l : List Actm) : Prop :=
  ∃ a cap, v = .slice a l.length cap ∧ (l = [] ∨ ∃ b off, a = some ⟨b, off, none⟩ ∧ b < w.heap.size ∧ ∀ i, i < l.length → IsAct w b (off + i * 4) (l.getD i dA))
theorem IsAct.below {w w' : World} {b off : Nat} {a : Actm} (h : IsAct w b off a) (hb : Below w.heap.size w w') (hlt : b < w.heap.size) : IsAct w' b off a := by
  obtain ⟨ve, vr, pa, pc, h1, h2, h3, h4, h5⟩ := h
  exact ⟨ve, vr, pa, pc, (hb.cell hlt).trans h1, h2.below hb (Nat.le_refl _), (hb.cell hlt).trans h3, h4.below hb (Nat.le_refl _), (hb.cell hlt).trans h5⟩
def Light (S : Nat) (a : Actm) : Prop := a.es.length ≤ S ∧ a.rs.length ≤ S ∧ a.ps ≤ S ∧ (∀ i, i < a.es.length → (a.es.getD i dE).path.size ≤ S ∧ (a.es.getD i dE).text.size ≤ S) ∧
  (∀ i, i < a.rs.length → (a.rs.getD i dR).2.l.length ≤ S ∧ ∀ j, j < (a.rs.getD i dR).2.l.length → ((a.rs.getD i dR).2.l.getD j dV).tx.size ≤ S)
def totW : List Actm → Nat
  | [] => 0
  | a :: t => 8 * (a.es.length + a.rs.length + a.ps) + totW t
theorem totW_append (a b : List Actm) : totW (a ++ b) = totW a + totW b := by
  induction a with
  | nil => simp [totW]
  | cons v t ih => simp only [List.cons_append, totW, ih]; omega
theorem totW_snoc {l : List Actm} {k : Nat} (hk : k < l.length) : totW (l.take (k + 1)) = totW (l.take k) + 8 * ((l.getD k dA).es.length + (l.getD k dA).rs.length + (l.getD k dA).ps) := by
  rw [List.take_succ_eq_append_getElem hk, totW_append, List.getD_eq_getElem?_getD, List.getElem?_eq_getElem hk]; simp [totW]

def HeavyGives (l : List Actm) (w : World) (e : Ending) (w' : World) : Prop := ∃ x, e = .returned (.bool x) ∧ (x = false → totW l ≤ 8192 ∧ l.length ≤ 40) ∧ Below w.heap.size w w'
set_option maxRecDepth 100000 in
set_option maxHeartbeats 4000000 in
theorem law_heavy (S : Nat) (l : List Actm) (v : Value) (w : World) (hv : IsActs w v l) (hS : S ≤ 140737488351232) (hlS : l.length * (6000 * S) ≤ 4611686018427387904) (hl : l.length ≤ 1099511627776) (hL : ∀ i, i < l.length → Light S (l.getD i dA)) :
    Calls Tryz.prog 8 #[v] w (HeavyGives l w) := by
  obtain ⟨a, cap, rfl, hc⟩ := hv
  have HC := Lib.hid hc; have HL := Lib.hid hL; clear hc hL
  go_enter Tryz.func8, Tryz.ntmps8
  go_wp2_with fail
  go_loopw [3, 4] (fun s3 i wr => ∃ k n : Nat, k ≤ l.length ∧ k ≤ 100 ∧ i = .int .i64 k ∧ s3 = .int .i64 n ∧ Hid (totW (l.take k) ≤ n ∧ n ≤ k * (6000 * S)) ∧ Hid (Below w.heap.size w wr)) (fun _ i _ => l.length - (intOf i).toNat)
  case atStart => exact ⟨0, 0, Nat.zero_le _, by omega, rfl, rfl, Lib.hid ⟨Nat.le_refl _, by omega⟩, Lib.hid (Below.refl _ _)⟩
  case round =>
    obtain ⟨k, n, hk, hk1, rfl, rfl, hn, hbw⟩ := hrel
    by_cases hlt : k < l.length
    · by_cases h100 : k < 100
      · rcases HC.out with hn' | ⟨b, off, rfl, hblt, hcc⟩
        · subst hn'; simp at hlt
        have hact := hcc k hlt
        have hlight := HL.out k hlt
        obtain ⟨ac, hac⟩ : ∃ ac, ac = l.getD k dA := ⟨_, rfl⟩
        rw [← hac] at hact hlight
        have Hac := Lib.hid hac; clear hac hcc
        obtain ⟨es, rs, ps⟩ := ac
        obtain ⟨ve, vr, pa, pc, k1, he, k2, hr, k3⟩ := hact
        obtain ⟨l1, l2, l3, l4, l5⟩ := hlight
        simp only at he hr k3 l1 l2 l3 l4 l5
        obtain ⟨ea, ec, rfl, hec⟩ := he
        obtain ⟨ra, rc, rfl, hrc⟩ := hr
        have Hec := Lib.hid hec; have Hrc := Lib.hid hrc; have L4 := Lib.hid l4; have L5 := Lib.hid l5; clear hec hrc l4 l5
        have hn2 := hn.out.2
        have hk2 : (k + 1) * (6000 * S) ≤ l.length * (6000 * S) := Nat.mul_le_mul_right _ hlt
        have hk3 : (k + 1) * (6000 * S) = k * (6000 * S) + 6000 * S := by rw [Nat.add_mul, Nat.one_mul]
        have hN : n + 6000 * S ≤ 4611686018427387904 := by omega
        have Hk3 := Lib.hid hk3
        clear hn2 hk2 hk3
        have hltI : (k : Int) < (l.length : Int) := by omega
        have h100I : (k : Int) < 100 := by omega
        obtain ⟨E, hE⟩ : ∃ E, E = es.length := ⟨_, rfl⟩
        obtain ⟨R, hR⟩ : ∃ R, R = rs.length := ⟨_, rfl⟩
        rw [← hE] at k1 l1
        rw [← hR] at k2 l2
        have HE := Lib.hid hE; have HR := Lib.hid hR; clear hE hR
        have HK : Hid (∀ W, Below w.heap.size w W → W.cell? ⟨b, off + k * 4 + 1, none⟩ = some (.slice ea E ec) ∧ W.cell? ⟨b, off + k * 4 + 2, none⟩ = some (.slice ra R rc) ∧ W.cell? ⟨b, off + k * 4 + 3, none⟩ = some (.slice pa ps pc)) := Lib.hid (fun W hW => ⟨(hW.cell hblt).trans k1, (hW.cell hblt).trans k2, (hW.cell hblt).trans k3⟩)
        clear k1 k2 k3
        have hm1 : 8 * (E + R + ps) ≤ 9223372036854775807 := by omega
        have hm2 : n + 8 * (E + R + ps) ≤ 9223372036854775807 := by omega
        obtain ⟨k1, k2, k3⟩ := HK.out wr hbw.out
        go_wp2_with fail
        go_quiet (fail)
        go_wp2_with fail
        obtain ⟨n1, hn1⟩ : ∃ n1, n1 = n + 8 * (E + R + ps) := ⟨_, rfl⟩
        have hn1I : (n : Int) + 8 * ((E : Int) + (R : Int) + (ps : Int)) = (n1 : Int) := by omega
        rw [hn1I]
        have hN1 : n1 + 5900 * S ≤ 4611686018427387904 := by omega
        have Hn1 := Lib.hid hn1
        clear hn1 hn1I hm1 hm2 k1 k2 k3
        go_loopw [3, 5] (fun s3 s5 wx => ∃ k2 n2 : Nat, k2 ≤ E ∧ k2 ≤ 100 ∧ s5 = .int .i64 k2 ∧ s3 = .int .i64 n2 ∧ Hid (n1 ≤ n2 ∧ n2 ≤ n1 + k2 * (2 * S)) ∧ Hid (Below w.heap.size w wx)) (fun _ i _ => E - (intOf i).toNat)
        case atStart => exact ⟨0, n1, Nat.zero_le _, by omega, rfl, rfl, Lib.hid ⟨Nat.le_refl _, by omega⟩, Lib.hid (below_dr hbw.out _)⟩
        case round =>
          obtain ⟨k2, n2, hk2, hk2h, rfl, rfl, hn2, hbx⟩ := hrel
          obtain ⟨c1, c2, c3⟩ := HK.out wr hbx.out
          by_cases hlt2 : k2 < E
          · by_cases h1002 : k2 < 100
            · have hlt2I : (k2 : Int) < (E : Int) := by omega
              have h1002I : (k2 : Int) < 100 := by omega
              rcases Hec.out with hnil | ⟨be, oe, rfl, hble, hee⟩
              · have := HE.out; rw [hnil] at this; simp at this; omega
              obtain ⟨_, g1, _, _, _, g5⟩ := hee k2 (by have := HE.out; omega)
              have e1 := (hbx.out.cell (p := ⟨be, oe + k2 * 6 + 1, none⟩) hble).trans g1
              have e5 := (hbx.out.cell (p := ⟨be, oe + k2 * 6 + 5, none⟩) hble).trans g5
              obtain ⟨z1, z2⟩ := L4.out k2 (by have := HE.out; omega)
              obtain ⟨x, hx⟩ : ∃ x, x = es.getD k2 dE := ⟨_, rfl⟩
              rw [← hx] at e1 e5 z1 z2
              clear hx g1 g5 hee
              have hb2 := hn2.out.2
              have hm : k2 * (2 * S) ≤ 100 * (2 * S) := Nat.mul_le_mul_right _ (by omega)
              have hs : (k2 + 1) * (2 * S) = k2 * (2 * S) + 2 * S := by rw [Nat.add_mul, Nat.one_mul]
              have hq1 : n2 + x.text.size ≤ 9223372036854775807 := by omega
              have hq2 : n2 + x.text.size + x.path.size ≤ 9223372036854775807 := by omega
              have Hnx : Hid (n1 ≤ n2 + x.text.size + x.path.size ∧ n2 + x.text.size + x.path.size ≤ n1 + (k2 + 1) * (2 * S)) := Lib.hid (by have := hn2.out.1; constructor <;> omega)
              clear hb2 hm hs z1 z2
              go_wp2_with fail
              go_quiet (fail)
              go_wp2_with fail
              go_roundw
              case rel => exact ⟨k2 + 1, n2 + x.text.size + x.path.size, by omega, by omega, by go_num, by push_cast; rfl, Hnx, Lib.hid (below_dr hbx.out _)⟩
              case measure => simp [intOf]; omega
            · have hlt2I : (k2 : Int) < (E : Int) := by omega
              have h1002I : ¬ (k2 : Int) < 100 := by omega
              have hb2 := hn2.out.2
              have hm2 : k2 * (2 * S) ≤ 100 * (2 * S) := Nat.mul_le_mul_right _ hk2h
              have hN2 : n2 + 5700 * S ≤ 4611686018427387904 := by omega
              have Hn2 : Hid (n1 ≤ n2 ∧ n2 ≤ n1 + 200 * S) := Lib.hid (by have := hn2.out.1; constructor <;> omega)
              clear hb2 hm2
              go_wp2_with fail
              clear c1 c2 c3
              go_loopw [3, 6] (fun s3 s6 wx => ∃ k3 n3 : Nat, k3 ≤ R ∧ k3 ≤ 100 ∧ s6 = .int .i64 k3 ∧ s3 = .int .i64 n3 ∧ Hid (n2 ≤ n3 ∧ n3 ≤ n2 + k3 * (48 * S)) ∧ Hid (Below w.heap.size w wx)) (fun _ i _ => R - (intOf i).toNat)
              case atStart => exact ⟨0, n2, Nat.zero_le _, by omega, rfl, rfl, Lib.hid ⟨Nat.le_refl _, by omega⟩, hbx⟩
              case round =>
                clear hbx hn2
                obtain ⟨k3, n3, hk3, hk3h, rfl, rfl, hn3, hbx⟩ := hrel
                obtain ⟨c1, c2, c3⟩ := HK.out wr hbx.out
                by_cases hlt3 : k3 < R
                · by_cases h1003 : k3 < 100
                  · have hlt3I : (k3 : Int) < (R : Int) := by omega
                    have h1003I : (k3 : Int) < 100 := by omega
                    rcases Hrc.out with hnil | ⟨br, or', rfl, hblr, hrr⟩
                    · have := HR.out; rw [hnil] at this; simp at this; omega
                    obtain ⟨g0, g1, s, g2, hs⟩ := hrr k3 (by have := HR.out; omega)
                    have e0 := (hbx.out.cell (p := ⟨br, or' + k3 * 3, none⟩) hblr).trans g0
                    have e1 := (hbx.out.cell (p := ⟨br, or' + k3 * 3 + 1, none⟩) hblr).trans g1
                    have e2 := (hbx.out.cell (p := ⟨br, or' + k3 * 3 + 2, none⟩) hblr).trans g2
                    obtain ⟨z1, z2⟩ := L5.out k3 (by have := HR.out; omega)
                    obtain ⟨xr, hxr⟩ : ∃ xr, xr = rs.getD k3 dR := ⟨_, rfl⟩
                    rw [← hxr] at e0 e1 hs z1 z2
                    obtain ⟨va, vc, rfl, hvs⟩ := hs
                    obtain ⟨LL, hLL⟩ : ∃ LL, LL = xr.2.l.length := ⟨_, rfl⟩
                    rw [← hLL] at e2 z1
                    have hLS : LL ≤ S := z1
                    have Hvs := Lib.hid hvs; have HLL := Lib.hid hLL; have HLS := Lib.hid z2
                    clear hxr g0 g1 g2 hvs hLL z2 hrr z1
                    have hb3 := hn3.out.2
                    have hm3 : k3 * (48 * S) ≤ 100 * (48 * S) := Nat.mul_le_mul_right _ (by omega)
                    have hq1 : 8 * LL ≤ 9223372036854775807 := by omega
                    have hq2 : n3 + 8 * LL ≤ 9223372036854775807 := by omega
                    have HN3 : Hid (n3 + 8 * LL + 40 * S ≤ 4611686018427387904) := Lib.hid (by omega)
                    clear hb3 hm3
                    go_upto_region 14 with fail
                    refine wp_abs (F := fun W => One wr.heap.size #[.int .u64 xr.2.last, .slice va LL vc] W ∧ Below wr.heap.size wr W) ⟨One.of _ _ _, (Below.refl _ _).alloc (Nat.le_refl _) _⟩ ?_
                    rintro WB ⟨hB, hbB⟩
                    have y0 := hB.c 0; have y1 := hB.c 1
                    simp at y0 y1
                    have HB := Lib.hid hB; have HbB := Lib.hid (hbx.out.trans (hbB.mono hbx.out.size)); clear hB hbB
                    go_wp2_with fail
                    obtain ⟨n30, hn30⟩ : ∃ n30, n30 = n3 + 8 * LL := ⟨_, rfl⟩
                    have hN30 : n30 + 40 * S ≤ 4611686018427387904 := by rw [hn30]; exact HN3.out
                    have Hn30 := Lib.hid hn30
                    have hn30I : (n3 : Int) + 8 * (LL : Int) = (n30 : Int) := by omega
                    rw [hn30I]
                    clear hn30 hn30I hq1 hq2 y0 y1 c1 c2 c3 e0 e1 e2
                    go_loopw [3, 8] (fun s3 s8 wx => ∃ k4 n4 : Nat, k4 ≤ LL ∧ k4 ≤ 40 ∧ s8 = .int .i64 k4 ∧ s3 = .int .i64 n4 ∧ Hid (n30 ≤ n4 ∧ n4 ≤ n30 + k4 * S) ∧ Hid (Below WB.heap.size WB wx)) (fun _ i _ => LL - (intOf i).toNat)
                    case atStart => exact ⟨0, n30, Nat.zero_le _, by omega, rfl, rfl, Lib.hid ⟨Nat.le_refl _, by omega⟩, Lib.hid (Below.refl _ _)⟩
                    case round =>
                      obtain ⟨k4, n4, hk4, hk4h, rfl, rfl, hn4, hby⟩ := hrel
                      have hBr := HB.out.step hby.out
                      have y1 := hBr.c 1
                      simp at y1
                      have hBr2 := Lib.hid hBr; clear hBr
                      by_cases hlt4 : k4 < LL
                      · by_cases h1004 : k4 < 40
                        · have hlt4I : (k4 : Int) < (LL : Int) := by omega
                          have h1004I : (k4 : Int) < 40 := by omega
                          rcases Hvs.out with hnil | ⟨bv, ov, rfl, hblv, hvv⟩
                          · have := HLL.out; rw [hnil] at this; simp at this; omega
                          obtain ⟨_, _, g3⟩ := hvv k4 (by have := HLL.out; omega)
                          have hbz : Below w.heap.size w wr := HbB.out.trans (hby.out.mono HbB.out.size)
                          have e3 := (hbz.cell (p := ⟨bv, ov + k4 * 3 + 2, none⟩) hblv).trans g3
                          have z1 := HLS.out k4 (by have := HLL.out; omega)
                          obtain ⟨x4, hx4⟩ : ∃ x4, x4 = xr.2.l.getD k4 dV := ⟨_, rfl⟩
                          rw [← hx4] at e3 z1
                          have hb4 := hn4.out.2
                          have hm4 : k4 * S ≤ 40 * S := Nat.mul_le_mul_right _ (by omega)
                          have hs4 : (k4 + 1) * S = k4 * S + S := by rw [Nat.add_mul, Nat.one_mul]
                          have hq4 : n4 + x4.tx.size ≤ 9223372036854775807 := by omega
                          have Hn4x : Hid (n30 ≤ n4 + x4.tx.size ∧ n4 + x4.tx.size ≤ n30 + (k4 + 1) * S) := Lib.hid (by have := hn4.out.1; constructor <;> omega)
                          clear hx4 g3 hvv hb4 hm4 hs4 z1 hbz
                          go_wp2_with fail
                          go_roundw
                          case rel => exact ⟨k4 + 1, n4 + x4.tx.size, by omega, by omega, by go_num, by push_cast; rfl, Hn4x, hby⟩
                          case measure => simp [intOf]; omega
                        · have hlt4I : (k4 : Int) < (LL : Int) := by omega
                          have h1004I : ¬ (k4 : Int) < 40 := by omega
                          have Hn34 : Hid (n2 ≤ n4 ∧ n4 ≤ n2 + (k3 + 1) * (48 * S)) := Lib.hid (by
                            have f3 := hn3.out; have f4 := hn4.out; have f5 := Hn30.out; have f6 := hLS
                            have f8 : k4 * S ≤ 40 * S := Nat.mul_le_mul_right _ hk4h
                            have f9 : (k3 + 1) * (48 * S) = k3 * (48 * S) + 48 * S := by rw [Nat.add_mul, Nat.one_mul]
                            omega)
                          have hbz : Below w.heap.size w wr := HbB.out.trans (hby.out.mono HbB.out.size)
                          have Hbz := Lib.hid hbz; clear hbz
                          go_wp2_with fail
                          go_roundw
                          case rel => exact ⟨k3 + 1, n4, by omega, by omega, by go_num, rfl, Hn34, Hbz⟩
                          case measure => simp [intOf]; omega
                      · have hge4 : (LL : Int) ≤ (k4 : Int) := by omega
                        have Hn34 : Hid (n2 ≤ n4 ∧ n4 ≤ n2 + (k3 + 1) * (48 * S)) := Lib.hid (by
                          have f3 := hn3.out; have f4 := hn4.out; have f5 := Hn30.out; have f6 := hLS
                          have f8 : k4 * S ≤ 40 * S := Nat.mul_le_mul_right _ hk4h
                          have f9 : (k3 + 1) * (48 * S) = k3 * (48 * S) + 48 * S := by rw [Nat.add_mul, Nat.one_mul]
                          omega)
                        have hbz : Below w.heap.size w wr := HbB.out.trans (hby.out.mono HbB.out.size)
                        have Hbz := Lib.hid hbz; clear hbz
                        go_wp2_with fail
                        go_roundw
                        case rel => exact ⟨k3 + 1, n4, by omega, by omega, by go_num, rfl, Hn34, Hbz⟩
                        case measure => simp [intOf]; omega
                  · have hlt3I : (k3 : Int) < (R : Int) := by omega
                    have h1003I : ¬ (k3 : Int) < 100 := by omega
                    have Hfin : Hid (totW (l.take (k + 1)) ≤ n3 ∧ n3 ≤ (k + 1) * (6000 * S)) := Lib.hid (by
                      have f1 := hn.out; have f2 := Hn1.out; have f3 := Hn2.out; have f4 := hn3.out; have f5 := Hk3.out; have f6 := HE.out; have f7 := HR.out
                      have f8 : k3 * (48 * S) ≤ 100 * (48 * S) := Nat.mul_le_mul_right _ hk3h
                      rw [totW_snoc hlt, ← Hac.out, f5]
                      simp only [← f6, ← f7]
                      omega)
                    go_wp2_with fail
                    go_roundw
                    case rel => exact ⟨k + 1, n3, by omega, by omega, by go_num, rfl, Hfin, hbx⟩
                    case measure => simp [intOf]; omega
                · have hge3 : (R : Int) ≤ (k3 : Int) := by omega
                  have Hfin : Hid (totW (l.take (k + 1)) ≤ n3 ∧ n3 ≤ (k + 1) * (6000 * S)) := Lib.hid (by
                    have f1 := hn.out; have f2 := Hn1.out; have f3 := Hn2.out; have f4 := hn3.out; have f5 := Hk3.out; have f6 := HE.out; have f7 := HR.out
                    have f8 : k3 * (48 * S) ≤ 100 * (48 * S) := Nat.mul_le_mul_right _ hk3h
                    rw [totW_snoc hlt, ← Hac.out, f5]
                    simp only [← f6, ← f7]
                    omega)
                  go_wp2_with fail
                  go_roundw
                  case rel => exact ⟨k + 1, n3, by omega, by omega, by go_num, rfl, Hfin, hbx⟩
                  case measure => simp [intOf]; omega
          · have hge2 : (E : Int) ≤ (k2 : Int) := by omega
            have hb2 := hn2.out.2
            have hm2 : k2 * (2 * S) ≤ 100 * (2 * S) := Nat.mul_le_mul_right _ hk2h
            have hN2 : n2 + 5700 * S ≤ 4611686018427387904 := by omega
            have Hn2 : Hid (n1 ≤ n2 ∧ n2 ≤ n1 + 200 * S) := Lib.hid (by have := hn2.out.1; constructor <;> omega)
            clear hb2 hm2
            go_wp2_with fail
            clear c1 c2 c3
            go_loopw [3, 6] (fun s3 s6 wx => ∃ k3 n3 : Nat, k3 ≤ R ∧ k3 ≤ 100 ∧ s6 = .int .i64 k3 ∧ s3 = .int .i64 n3 ∧ Hid (n2 ≤ n3 ∧ n3 ≤ n2 + k3 * (48 * S)) ∧ Hid (Below w.heap.size w wx)) (fun _ i _ => R - (intOf i).toNat)
            case atStart => exact ⟨0, n2, Nat.zero_le _, by omega, rfl, rfl, Lib.hid ⟨Nat.le_refl _, by omega⟩, hbx⟩
            case round =>
              clear hbx hn2
              obtain ⟨k3, n3, hk3, hk3h, rfl, rfl, hn3, hbx⟩ := hrel
              obtain ⟨c1, c2, c3⟩ := HK.out wr hbx.out
              by_cases hlt3 : k3 < R
              · by_cases h1003 : k3 < 100
                · have hlt3I : (k3 : Int) < (R : Int) := by omega
                  have h1003I : (k3 : Int) < 100 := by omega
                  rcases Hrc.out with hnil | ⟨br, or', rfl, hblr, hrr⟩
                  · have := HR.out; rw [hnil] at this; simp at this; omega
                  obtain ⟨g0, g1, s, g2, hs⟩ := hrr k3 (by have := HR.out; omega)
                  have e0 := (hbx.out.cell (p := ⟨br, or' + k3 * 3, none⟩) hblr).trans g0
                  have e1 := (hbx.out.cell (p := ⟨br, or' + k3 * 3 + 1, none⟩) hblr).trans g1
                  have e2 := (hbx.out.cell (p := ⟨br, or' + k3 * 3 + 2, none⟩) hblr).trans g2
                  obtain ⟨z1, z2⟩ := L5.out k3 (by have := HR.out; omega)
                  obtain ⟨xr, hxr⟩ : ∃ xr, xr = rs.getD k3 dR := ⟨_, rfl⟩
                  rw [← hxr] at e0 e1 hs z1 z2
                  obtain ⟨va, vc, rfl, hvs⟩ := hs
                  obtain ⟨LL, hLL⟩ : ∃ LL, LL = xr.2.l.length := ⟨_, rfl⟩
                  rw [← hLL] at e2 z1
                  have hLS : LL ≤ S := z1
                  have Hvs := Lib.hid hvs; have HLL := Lib.hid hLL; have HLS := Lib.hid z2
                  clear hxr g0 g1 g2 hvs hLL z2 hrr z1
                  have hb3 := hn3.out.2
                  have hm3 : k3 * (48 * S) ≤ 100 * (48 * S) := Nat.mul_le_mul_right _ (by omega)
                  have hq1 : 8 * LL ≤ 9223372036854775807 := by omega
                  have hq2 : n3 + 8 * LL ≤ 9223372036854775807 := by omega
                  have HN3 : Hid (n3 + 8 * LL + 40 * S ≤ 4611686018427387904) := Lib.hid (by omega)
                  clear hb3 hm3
                  go_upto_region 14 with fail
                  refine wp_abs (F := fun W => One wr.heap.size #[.int .u64 xr.2.last, .slice va LL vc] W ∧ Below wr.heap.size wr W) ⟨One.of _ _ _, (Below.refl _ _).alloc (Nat.le_refl _) _⟩ ?_
                  rintro WB ⟨hB, hbB⟩
                  have y0 := hB.c 0; have y1 := hB.c 1
                  simp at y0 y1
                  have HB := Lib.hid hB; have HbB := Lib.hid (hbx.out.trans (hbB.mono hbx.out.size)); clear hB hbB
                  go_wp2_with fail
                  obtain ⟨n30, hn30⟩ : ∃ n30, n30 = n3 + 8 * LL := ⟨_, rfl⟩
                  have hN30 : n30 + 40 * S ≤ 4611686018427387904 := by rw [hn30]; exact HN3.out
                  have Hn30 := Lib.hid hn30
                  have hn30I : (n3 : Int) + 8 * (LL : Int) = (n30 : Int) := by omega
                  rw [hn30I]
                  clear hn30 hn30I hq1 hq2 y0 y1 c1 c2 c3 e0 e1 e2
                  go_loopw [3, 8] (fun s3 s8 wx => ∃ k4 n4 : Nat, k4 ≤ LL ∧ k4 ≤ 40 ∧ s8 = .int .i64 k4 ∧ s3 = .int .i64 n4 ∧ Hid (n30 ≤ n4 ∧ n4 ≤ n30 + k4 * S) ∧ Hid (Below WB.heap.size WB wx)) (fun _ i _ => LL - (intOf i).toNat)
                  case atStart => exact ⟨0, n30, Nat.zero_le _, by omega, rfl, rfl, Lib.hid ⟨Nat.le_refl _, by omega⟩, Lib.hid (Below.refl _ _)⟩
                  case round =>
                    obtain ⟨k4, n4, hk4, hk4h, rfl, rfl, hn4, hby⟩ := hrel
                    have hBr := HB.out.step hby.out
                    have y1 := hBr.c 1
                    simp at y1
                    have hBr2 := Lib.hid hBr; clear hBr
                    by_cases hlt4 : k4 < LL
                    · by_cases h1004 : k4 < 40
                      · have hlt4I : (k4 : Int) < (LL : Int) := by omega
                        have h1004I : (k4 : Int) < 40 := by omega
                        rcases Hvs.out with hnil | ⟨bv, ov, rfl, hblv, hvv⟩
                        · have := HLL.out; rw [hnil] at this; simp at this; omega
                        obtain ⟨_, _, g3⟩ := hvv k4 (by have := HLL.out; omega)
                        have hbz : Below w.heap.size w wr := HbB.out.trans (hby.out.mono HbB.out.size)
                        have e3 := (hbz.cell (p := ⟨bv, ov + k4 * 3 + 2, none⟩) hblv).trans g3
                        have z1 := HLS.out k4 (by have := HLL.out; omega)
                        obtain ⟨x4, hx4⟩ : ∃ x4, x4 = xr.2.l.getD k4 dV := ⟨_, rfl⟩
                        rw [← hx4] at e3 z1
                        have hb4 := hn4.out.2
                        have hm4 : k4 * S ≤ 40 * S := Nat.mul_le_mul_right _ (by omega)
                        have hs4 : (k4 + 1) * S = k4 * S + S := by rw [Nat.add_mul, Nat.one_mul]
                        have hq4 : n4 + x4.tx.size ≤ 9223372036854775807 := by omega
                        have Hn4x : Hid (n30 ≤ n4 + x4.tx.size ∧ n4 + x4.tx.size ≤ n30 + (k4 + 1) * S) := Lib.hid (by have := hn4.out.1; constructor <;> omega)
                        clear hx4 g3 hvv hb4 hm4 hs4 z1 hbz
                        go_wp2_with fail
                        go_roundw
                        case rel => exact ⟨k4 + 1, n4 + x4.tx.size, by omega, by omega, by go_num, by push_cast; rfl, Hn4x, hby⟩
                        case measure => simp [intOf]; omega
                      · have hlt4I : (k4 : Int) < (LL : Int) := by omega
                        have h1004I : ¬ (k4 : Int) < 40 := by omega
                        have Hn34 : Hid (n2 ≤ n4 ∧ n4 ≤ n2 + (k3 + 1) * (48 * S)) := Lib.hid (by
                          have f3 := hn3.out; have f4 := hn4.out; have f5 := Hn30.out; have f6 := hLS
                          have f8 : k4 * S ≤ 40 * S := Nat.mul_le_mul_right _ hk4h
                          have f9 : (k3 + 1) * (48 * S) = k3 * (48 * S) + 48 * S := by rw [Nat.add_mul, Nat.one_mul]
                          omega)
                        have hbz : Below w.heap.size w wr := HbB.out.trans (hby.out.mono HbB.out.size)
                        have Hbz := Lib.hid hbz; clear hbz
                        go_wp2_with fail
                        go_roundw
                        case rel => exact ⟨k3 + 1, n4, by omega, by omega, by go_num, rfl, Hn34, Hbz⟩
                        case measure => simp [intOf]; omega
                    · have hge4 : (LL : Int) ≤ (k4 : Int) := by omega
                      have Hn34 : Hid (n2 ≤ n4 ∧ n4 ≤ n2 + (k3 + 1) * (48 * S)) := Lib.hid (by
                        have f3 := hn3.out; have f4 := hn4.out; have f5 := Hn30.out; have f6 := hLS
                        have f8 : k4 * S ≤ 40 * S := Nat.mul_le_mul_right _ hk4h
                        have f9 : (k3 + 1) * (48 * S) = k3 * (48 * S) + 48 * S := by rw [Nat.add_mul, Nat.one_mul]
                        omega)
                      have hbz : Below w.heap.size w wr := HbB.out.trans (hby.out.mono HbB.out.size)
                      have Hbz := Lib.hid hbz; clear hbz
                      go_wp2_with fail
                      go_roundw
                      case rel => exact ⟨k3 + 1, n4, by omega, by omega, by go_num, rfl, Hn34, Hbz⟩
                      case measure => simp [intOf]; omega
                · have hlt3I : (k3 : Int) < (R : Int) := by omega
                  have h1003I : ¬ (k3 : Int) < 100 := by omega
                  have Hfin : Hid (totW (l.take (k + 1)) ≤ n3 ∧ n3 ≤ (k + 1) * (6000 * S)) := Lib.hid (by
                    have f1 := hn.out; have f2 := Hn1.out; have f3 := Hn2.out; have f4 := hn3.out; have f5 := Hk3.out; have f6 := HE.out; have f7 := HR.out
                    have f8 : k3 * (48 * S) ≤ 100 * (48 * S) := Nat.mul_le_mul_right _ hk3h
                    rw [totW_snoc hlt, ← Hac.out, f5]
                    simp only [← f6, ← f7]
                    omega)
                  go_wp2_with fail
                  go_roundw
                  case rel => exact ⟨k + 1, n3, by omega, by omega, by go_num, rfl, Hfin, hbx⟩
                  case measure => simp [intOf]; omega
              · have hge3 : (R : Int) ≤ (k3 : Int) := by omega
                have Hfin : Hid (totW (l.take (k + 1)) ≤ n3 ∧ n3 ≤ (k + 1) * (6000 * S)) := Lib.hid (by
                  have f1 := hn.out; have f2 := Hn1.out; have f3 := Hn2.out; have f4 := hn3.out; have f5 := Hk3.out; have f6 := HE.out; have f7 := HR.out
                  have f8 : k3 * (48 * S) ≤ 100 * (48 * S) := Nat.mul_le_mul_right _ hk3h
                  rw [totW_snoc hlt, ← Hac.out, f5]
                  simp only [← f6, ← f7]
                  omega)
                go_wp2_with fail
                go_roundw
                case rel => exact ⟨k + 1, n3, by omega, by omega, by go_num, rfl, Hfin, hbx⟩
                case measure => simp [intOf]; omega
      · have h100I : ¬ (k : Int) < 100 := by omega
        have hltI : (k : Int) < (l.length : Int) := by omega
        have hbig : (40 : Int) < (l.length : Int) := by omega
        go_wp2_with fail
        go_ret
        exact ⟨true, rfl, fun h => by simp at h, hbw.out⟩
    · have hge : (l.length : Int) ≤ (k : Int) := by omega
      have Hkl : Hid (k = l.length) := Lib.hid (by omega)
      by_cases h40 : 40 < l.length
      · have h40I : (40 : Int) < (l.length : Int) := by omega
        go_wp2_with fail
        go_ret
        exact ⟨true, rfl, fun h => by simp at h, hbw.out⟩
      · have h40I : ¬ (40 : Int) < (l.length : Int) := by omega
        go_wp2_with fail
        go_ret
        refine ⟨_, rfl, fun h => ?_, hbw.out⟩
        have h1 := hn.out.1
        rw [Hkl.out, List.take_length] at h1
        simp at h
        omega
end Go.Proofs.YtfbgnpfhjbiikaaGreatDoor

namespace Go.Proofs.YtfbgnpfhjbiikaaGreatDoor
open Go Go.RowKit
set_option maxRecDepth 100000 in
set_option maxHeartbeats 2000000 in
theorem ref18_same (m : List (ByteArray × Cel)) (v1 v2 : Value) (w : World) (h1 : IsRows w v1 m) (h2 : IsRows w v2 m) (hl : m.length ≤ 1099511627776) (hc : ∀ i, i < m.length → (m.getD i dR).2.l.length ≤ 65536) :
    Calls Tryz.prog 15 #[v1, v2] w fun e w' => e = .returned (.bool true) ∧ Below w.heap.size w w' := by
  obtain ⟨a1, cap1, rfl, hc1⟩ := h1
  obtain ⟨a2, cap2, rfl, hc2⟩ := h2
  have Hc1 := Lib.hid hc1; have Hc2 := Lib.hid hc2; have Hcl := Lib.hid hc; clear hc1 hc2 hc
  have hLB : ((m.length : Int) != (m.length : Int)) = false := by simp
  go_enter Tryz.func15, Tryz.ntmps15
  go_wp2_with fail
  go_loopw [5] (fun i wr => ∃ k : Nat, k ≤ m.length ∧ i = .int .i64 k ∧ Hid (Below w.heap.size w wr)) (fun i _ => m.length - (intOf i).toNat)
  case atStart => exact ⟨0, Nat.zero_le _, rfl, Lib.hid (Below.refl _ _)⟩
  case round =>
    obtain ⟨k, hk, rfl, Hbw⟩ := hrel
    by_cases hlt : k < m.length
    · rcases Hc1.out with hn | ⟨b1, o1, rfl, hl1, hcc1⟩
      · subst hn; simp at hlt
      rcases Hc2.out with hn | ⟨b2, o2, rfl, hl2, hcc2⟩
      · subst hn; simp at hlt
      have hlt2 : (k : Int) < (m.length : Int) := by omega
      obtain ⟨g1, g2, s1, g3, hs1⟩ := hcc1 k hlt
      obtain ⟨g4, g5, s2, g6, hs2⟩ := hcc2 k hlt
      have hcl := Hcl.out k hlt
      obtain ⟨x, hx⟩ : ∃ x, x = m.getD k dR := ⟨_, rfl⟩
      rw [← hx] at g1 g2 hs1 g4 g5 hs2 hcl
      clear hx hcc1 hcc2
      have HS1 := Lib.hid hs1; have HS2 := Lib.hid hs2
      obtain ⟨va, vc, rfl, _⟩ := hs1
      obtain ⟨ua, uc, rfl, _⟩ := hs2
      have HS : Hid (∀ w', Below wr.heap.size wr w' → Calls Tryz.prog 50 #[.agg #[.int .u64 x.2.last, .slice va x.2.l.length vc], .agg #[.int .u64 x.2.last, .slice ua x.2.l.length uc]] w' fun e w'' => e = .returned (.bool true) ∧ Below w'.heap.size w' w'') :=
        Lib.hid (fun w' hb => ref17_same x.2 _ _ w' (HS1.out.below (Hbw.out.trans (hb.mono Hbw.out.size)) (Nat.le_refl _)) (HS2.out.below (Hbw.out.trans (hb.mono Hbw.out.size)) (Nat.le_refl _)) hcl)
      have keepS : Hid (∀ w', Below wr.heap.size wr w' → w'.cell? ⟨b1, o1 + k * 3, none⟩ = some (.string x.1) ∧ w'.cell? ⟨b1, o1 + k * 3 + 1, none⟩ = some (.int .u64 x.2.last) ∧ w'.cell? ⟨b1, o1 + k * 3 + 2, none⟩ = some (.slice va x.2.l.length vc) ∧ w'.cell? ⟨b2, o2 + k * 3, none⟩ = some (.string x.1) ∧ w'.cell? ⟨b2, o2 + k * 3 + 1, none⟩ = some (.int .u64 x.2.last) ∧ w'.cell? ⟨b2, o2 + k * 3 + 2, none⟩ = some (.slice ua x.2.l.length uc) ∧ Hid (Below wr.heap.size wr w')) := Lib.hid (fun w' h => by
        have hb := Hbw.out.trans (h.mono Hbw.out.size)
        exact ⟨(hb.cell hl1).trans g1, (hb.cell hl1).trans g2, (hb.cell hl1).trans g3, (hb.cell hl2).trans g4, (hb.cell hl2).trans g5, (hb.cell hl2).trans g6, Lib.hid h⟩)
      have keepB : Hid (∀ w' : World, (w'.cell? ⟨b1, o1 + k * 3, none⟩ = some (.string x.1) ∧ w'.cell? ⟨b1, o1 + k * 3 + 1, none⟩ = some (.int .u64 x.2.last) ∧ w'.cell? ⟨b1, o1 + k * 3 + 2, none⟩ = some (.slice va x.2.l.length vc) ∧ w'.cell? ⟨b2, o2 + k * 3, none⟩ = some (.string x.1) ∧ w'.cell? ⟨b2, o2 + k * 3 + 1, none⟩ = some (.int .u64 x.2.last) ∧ w'.cell? ⟨b2, o2 + k * 3 + 2, none⟩ = some (.slice ua x.2.l.length uc) ∧ Hid (Below wr.heap.size wr w')) → Below wr.heap.size wr w') := Lib.hid (fun w' h => h.2.2.2.2.2.2.out)
      have hB : (x.1.toList == x.1.toList) = true := by simp
      clear g1 g2 g3 g4 g5 g6
      go_wp2_with fail
      refine wp_region_quiet (C := fun w' => w'.cell? ⟨b1, o1 + k * 3, none⟩ = some (.string x.1) ∧ w'.cell? ⟨b1, o1 + k * 3 + 1, none⟩ = some (.int .u64 x.2.last) ∧ w'.cell? ⟨b1, o1 + k * 3 + 2, none⟩ = some (.slice va x.2.l.length vc) ∧ w'.cell? ⟨b2, o2 + k * 3, none⟩ = some (.string x.1) ∧ w'.cell? ⟨b2, o2 + k * 3 + 1, none⟩ = some (.int .u64 x.2.last) ∧ w'.cell? ⟨b2, o2 + k * 3 + 2, none⟩ = some (.slice ua x.2.l.length uc) ∧ Hid (Below wr.heap.size wr w')) (by kernel_rfl) (by kernel_rfl) (keepS.out _ (Below.drew (Below.refl _ _))) ?_
      refine quiet_plain rfl (Value.slice (some ⟨b1, o1, none⟩) m.length cap1) (fun w' hw' => ?_) ?_
      · obtain ⟨f1, f2, f3, f4, f5, f6, f7⟩ := hw'
        go_simp
      go_frame
      refine quiet_plain rfl (Value.int .i64 k) (fun w' hw' => ?_) ?_
      · obtain ⟨f1, f2, f3, f4, f5, f6, f7⟩ := hw'
        go_simp
      go_frame
      refine quiet_plain rfl (Value.pointer (some ⟨b1, o1 + k * 3, none⟩)) (fun w' hw' => ?_) ?_
      · obtain ⟨f1, f2, f3, f4, f5, f6, f7⟩ := hw'
        go_simp
      go_frame
      refine quiet_plain rfl (Value.pointer (some ⟨b1, o1 + k * 3, none⟩)) (fun w' hw' => ?_) ?_
      · obtain ⟨f1, f2, f3, f4, f5, f6, f7⟩ := hw'
        go_simp
      go_frame
      refine quiet_plain rfl (Value.string x.1) (fun w' hw' => ?_) ?_
      · obtain ⟨f1, f2, f3, f4, f5, f6, f7⟩ := hw'
        go_simp
      go_frame
      refine quiet_plain rfl (Value.slice (some ⟨b2, o2, none⟩) m.length cap2) (fun w' hw' => ?_) ?_
      · obtain ⟨f1, f2, f3, f4, f5, f6, f7⟩ := hw'
        go_simp
      go_frame
      refine quiet_plain rfl (Value.int .i64 k) (fun w' hw' => ?_) ?_
      · obtain ⟨f1, f2, f3, f4, f5, f6, f7⟩ := hw'
        go_simp
      go_frame
      refine quiet_plain rfl (Value.pointer (some ⟨b2, o2 + k * 3, none⟩)) (fun w' hw' => ?_) ?_
      · obtain ⟨f1, f2, f3, f4, f5, f6, f7⟩ := hw'
        go_simp
      go_frame
      refine quiet_plain rfl (Value.pointer (some ⟨b2, o2 + k * 3, none⟩)) (fun w' hw' => ?_) ?_
      · obtain ⟨f1, f2, f3, f4, f5, f6, f7⟩ := hw'
        go_simp
      go_frame
      refine quiet_plain rfl (Value.string x.1) (fun w' hw' => ?_) ?_
      · obtain ⟨f1, f2, f3, f4, f5, f6, f7⟩ := hw'
        go_simp
      go_frame
      refine quiet_plain rfl (Value.bool false) (fun w' hw' => ?_) ?_
      · obtain ⟨f1, f2, f3, f4, f5, f6, f7⟩ := hw'
        go_simp
      go_frame
      refine quiet_plain rfl (Value.bool false) (fun w' hw' => ?_) ?_
      · obtain ⟨f1, f2, f3, f4, f5, f6, f7⟩ := hw'
        go_simp
      go_frame
      refine quiet_plain' (by rfl) (Value.slice (some ⟨b1, o1, none⟩) m.length cap1) (fun w' hw' => ?_) ?_
      · obtain ⟨f1, f2, f3, f4, f5, f6, f7⟩ := hw'
        go_simp
      go_frame
      refine quiet_plain' (by rfl) (Value.int .i64 k) (fun w' hw' => ?_) ?_
      · obtain ⟨f1, f2, f3, f4, f5, f6, f7⟩ := hw'
        go_simp
      go_frame
      refine quiet_plain' (by rfl) (Value.pointer (some ⟨b1, o1 + k * 3, none⟩)) (fun w' hw' => ?_) ?_
      · obtain ⟨f1, f2, f3, f4, f5, f6, f7⟩ := hw'
        go_simp
      go_frame
      refine quiet_plain' (by rfl) (Value.pointer (some ⟨b1, o1 + k * 3 + 1, none⟩)) (fun w' hw' => ?_) ?_
      · obtain ⟨f1, f2, f3, f4, f5, f6, f7⟩ := hw'
        go_simp
      go_frame
      refine quiet_plain' (by rfl) (Value.agg #[.int .u64 x.2.last, .slice va x.2.l.length vc]) (fun w' hw' => ?_) ?_
      · obtain ⟨f1, f2, f3, f4, f5, f6, f7⟩ := hw'
        go_simp
      go_frame
      refine quiet_plain' (by rfl) (Value.slice (some ⟨b2, o2, none⟩) m.length cap2) (fun w' hw' => ?_) ?_
      · obtain ⟨f1, f2, f3, f4, f5, f6, f7⟩ := hw'
        go_simp
      go_frame
      refine quiet_plain' (by rfl) (Value.int .i64 k) (fun w' hw' => ?_) ?_
      · obtain ⟨f1, f2, f3, f4, f5, f6, f7⟩ := hw'
        go_simp
      go_frame
      refine quiet_plain' (by rfl) (Value.pointer (some ⟨b2, o2 + k * 3, none⟩)) (fun w' hw' => ?_) ?_
      · obtain ⟨f1, f2, f3, f4, f5, f6, f7⟩ := hw'
        go_simp
      go_frame
      refine quiet_plain' (by rfl) (Value.pointer (some ⟨b2, o2 + k * 3 + 1, none⟩)) (fun w' hw' => ?_) ?_
      · obtain ⟨f1, f2, f3, f4, f5, f6, f7⟩ := hw'
        go_simp
      go_frame
      refine quiet_plain' (by rfl) (Value.agg #[.int .u64 x.2.last, .slice ua x.2.l.length uc]) (fun w' hw' => ?_) ?_
      · obtain ⟨f1, f2, f3, f4, f5, f6, f7⟩ := hw'
        go_simp
      go_frame
      refine quiet_call' (by rfl) (Value.bool true) 50 #[Value.agg #[.int .u64 x.2.last, .slice va x.2.l.length vc], Value.agg #[.int .u64 x.2.last, .slice ua x.2.l.length uc]] (fun w' hw' => ⟨?_, ?_⟩) ?_
      · obtain ⟨f1, f2, f3, f4, f5, f6, f7⟩ := hw'
        go_simp
      · exact (HS.out w' (keepB.out _ hw')).mono (fun e w6 ⟨he, hb⟩ => ⟨he, keepS.out _ ((keepB.out _ hw').trans (hb.mono (keepB.out _ hw').size))⟩)
      go_frame
      refine quiet_plain' (by rfl) (Value.bool false) (fun w' hw' => ?_) ?_
      · obtain ⟨f1, f2, f3, f4, f5, f6, f7⟩ := hw'
        go_simp
      go_frame
      refine quiet_plain rfl (Value.bool false) (fun w' hw' => ?_) ?_
      · obtain ⟨f1, f2, f3, f4, f5, f6, f7⟩ := hw'
        go_simp
      go_frame
      refine wpQuiet_nil ?_
      intro w' hw'
      have hbx := Lib.hid (keepB.out _ hw')
      clear hw'
      go_wp2_with fail
      go_roundw
      case rel => exact ⟨k + 1, by omega, by go_num, Lib.hid (Hbw.out.trans (hbx.out.mono Hbw.out.size))⟩
      case measure => simp [intOf]; omega
    · have hge : (m.length : Int) ≤ (k : Int) := by omega
      go_wp2_with fail
      go_ret
      exact ⟨rfl, Hbw.out⟩
end Go.Proofs.YtfbgnpfhjbiikaaGreatDoor

namespace Go.Proofs.YtfbgnpfhjbiikaaGreatDoor
open Go Go.ChangeShapes Go.WideShapes Go.ChangeAt Go.RowKit
theorem list6 {α : Type} {l : List α} (h : l.length = 6) : ∃ c0 c1 c2 c3 c4 c5, l = [c0, c1, c2, c3, c4, c5] := by
  match l, h with
  | [c0, c1, c2, c3, c4, c5], _ => exact ⟨c0, c1, c2, c3, c4, c5, rfl⟩
def edtData {H : Type} (e : Edt) : DataW H := .agg [.lit (.int .u8 e.kind), .lit (.string e.path.data.toList), .lit (.bool e.any), .lit (.int .u64 e.want), .lit (.int .u64 e.n), .lit (.string e.text.data.toList)]
def edtCells (e : Edt) : List Value := [.int .u8 e.kind, .string e.path, .bool e.any, .int .u64 e.want, .int .u64 e.n, .string e.text]
theorem cU8 : Tryz.prog.cellsOf 5 = 1 := by kernel_rfl
theorem cStr : Tryz.prog.cellsOf 9 = 1 := by kernel_rfl
theorem cBool : Tryz.prog.cellsOf 4 = 1 := by kernel_rfl
theorem cU64 : Tryz.prog.cellsOf 43 = 1 := by kernel_rfl
theorem cEdt : Tryz.prog.cellsOf 55 = 6 := by kernel_rfl
theorem wfNat8 {z : Int} (h : (Lit.int .u8 z).wf = true) : ∃ n : Nat, z = n := by
  refine ⟨z.toNat, ?_⟩
  simp only [Lit.wf, Bool.and_eq_true, decide_eq_true_eq] at h
  have h1 := h.1
  rw [show IntKind.min .u8 = 0 from rfl] at h1
  omega
theorem wfNat64 {z : Int} (h : (Lit.int .u64 z).wf = true) : ∃ n : Nat, z = n := by
  refine ⟨z.toNat, ?_⟩
  simp only [Lit.wf, Bool.and_eq_true, decide_eq_true_eq] at h
  have h1 := h.1
  rw [show IntKind.min .u64 = 0 from rfl] at h1
  omega
section
variable {H : Type} {enc : TypeId × Value → H} {w : World} {base : Nat} {sp : Nat → Bool} {held : Bool}
theorem trod_edt {fuel : Nat} {cs : List Value} {x : DataW H × List MemPlace} (h : DataW.trod enc Tryz.prog w base sp held fuel 55 cs = some x) : ∃ e : Edt, cs = edtCells e ∧ x = (edtData e, []) := by
  obtain ⟨xs, n, _, rfl, hl, hlen, hf⟩ := DataW.trod_struct Tryz.underlying55 h
  rw [cEdt] at hl
  obtain ⟨c0, c1, c2, c3, c4, c5, rfl⟩ := list6 hl
  obtain ⟨y0, y1, y2, y3, y4, y5, rfl⟩ := list6 hlen
  have h0 : DataW.trod enc Tryz.prog w base sp held n 5 [c0] = some y0 := by simpa [cU8] using hf 0 _ rfl
  have h1 : DataW.trod enc Tryz.prog w base sp held n 9 [c1] = some y1 := by simpa [cStr] using hf 1 _ rfl
  have h2 : DataW.trod enc Tryz.prog w base sp held n 4 [c2] = some y2 := by simpa [cBool] using hf 2 _ rfl
  have h3 : DataW.trod enc Tryz.prog w base sp held n 43 [c3] = some y3 := by simpa [cU64] using hf 3 _ rfl
  have h4 : DataW.trod enc Tryz.prog w base sp held n 43 [c4] = some y4 := by simpa [cU64] using hf 4 _ rfl
  have h5 : DataW.trod enc Tryz.prog w base sp held n 9 [c5] = some y5 := by simpa [cStr] using hf 5 _ rfl
  obtain ⟨z0, e0, rfl, w0⟩ := DataW.trod_int Tryz.underlying5 h0
  obtain ⟨s1, e1, rfl, _⟩ := DataW.trod_string Tryz.underlying9 h1
  obtain ⟨b2, e2, rfl⟩ := DataW.trod_bool Tryz.underlying4 h2
  obtain ⟨z3, e3, rfl, w3⟩ := DataW.trod_int Tryz.underlying43 h3
  obtain ⟨z4, e4, rfl, w4⟩ := DataW.trod_int Tryz.underlying43 h4
  obtain ⟨s5, e5, rfl, _⟩ := DataW.trod_string Tryz.underlying9 h5
  obtain ⟨n0, rfl⟩ := wfNat8 w0
  obtain ⟨n3, rfl⟩ := wfNat64 w3
  obtain ⟨n4, rfl⟩ := wfNat64 w4
  refine ⟨⟨n0, s1, b2, n3, n4, s5⟩, ?_, ?_⟩
  · simp only [List.cons.injEq, and_true] at e0 e1 e2 e3 e4 e5
    rw [e0, e1, e2, e3, e4, e5]; rfl
  · first | rfl | simp [edtData]
end
section
variable {H : Type} {enc : TypeId × Value → H} {w : World} {base : Nat} {sp : Nat → Bool} {held : Bool}
end
end Go.Proofs.YtfbgnpfhjbiikaaGreatDoor

namespace Go.Proofs.YtfbgnpfhjbiikaaGreatDoor
open Go Go.RowKit
open Go.Maps (has size Canon CanonK Tidy IsMap KeysOf Keyed Merged)
def Bare (w : World) (k : Nat) : Prop := ∀ o v, w.cell? ⟨k, o, none⟩ = some v → (∀ n, v ≠ .int .u64 n) ∧ ∀ s, v ≠ .string s
theorem Bare.noVers {w : World} {k : Nat} (h : Bare w k) : NoVers w k := fun o n _s h1 _ => (h o _ h1).1 n rfl
theorem CelMap.bare {w : World} {b : Nat} {M : DataW Cel} (h : CelMap w b M) : Bare w b := by
  obtain ⟨D, ho, _⟩ := h
  intro o v h1
  rw [ownsMap_none ho] at h1; cases h1
theorem TabAt.bare {w : World} {t b : Nat} {q1 q2 B : Int} {M : DataW Cel} (h : TabAt w t b q1 q2 M B) : Bare w t := by
  intro o v h1
  rcases (show o = 0 ∨ o = 1 ∨ o = 2 ∨ o = 3 ∨ ∃ j, o = j + 4 from by rcases o with _ | _ | _ | _ | j <;> simp) with rfl | rfl | rfl | rfl | ⟨j, rfl⟩
  · rw [h.c0] at h1; cases h1; exact ⟨fun n => (by simp), fun s => (by simp)⟩
  · rw [h.c1] at h1; cases h1; exact ⟨fun n => (by simp), fun s => (by simp)⟩
  · rw [h.c2] at h1; cases h1; exact ⟨fun n => (by simp), fun s => (by simp)⟩
  · rw [h.c3] at h1; cases h1; exact ⟨fun n => (by simp), fun s => (by simp)⟩
  · rw [h.c4] at h1; cases h1
theorem IsRows.but {S : Nat → Prop} {w w' : World} {v : Value} {l : List (ByteArray × Cel)} (h : IsRows w v l) (hb : ButS S w w') (hS : ∀ k, S k → Bare w k) : IsRows w' v l := by
  obtain ⟨a, cap, hv, h⟩ := h
  refine ⟨a, cap, hv, ?_⟩
  rcases h with h | ⟨b2, off, ha, hlt, hc⟩
  · exact Or.inl h
  · by_cases hl : l = []
    · exact Or.inl hl
    have hn : ¬ S b2 := by
      intro hs
      obtain ⟨h1, _⟩ := hc 0 (List.length_pos_iff.2 hl)
      exact (hS b2 hs _ _ h1).2 _ rfl
    refine Or.inr ⟨b2, off, ha, by have := hb.size; omega, fun i hi => ?_⟩
    obtain ⟨h1, h2, s, h3, hs⟩ := hc i hi
    exact ⟨(hb.cell hlt hn).trans h1, (hb.cell hlt hn).trans h2, s, (hb.cell hlt hn).trans h3, hs.but hb (fun k hk => (hS k hk).noVers)⟩
theorem IsNums.but {S : Nat → Prop} {w w' : World} {v : Value} {l : List Nat} (h : IsNums w v l) (hb : ButS S w w') (hS : ∀ k, S k → Bare w k) : IsNums w' v l := by
  obtain ⟨a, cap, hv, h⟩ := h
  refine ⟨a, cap, hv, ?_⟩
  rcases h with h | ⟨b2, off, ha, hlt, hc⟩
  · exact Or.inl h
  · by_cases hl : l = []
    · exact Or.inl hl
    have hn : ¬ S b2 := by
      intro hs
      exact (hS b2 hs _ _ (hc 0 (List.length_pos_iff.2 hl))).1 _ rfl
    exact Or.inr ⟨b2, off, ha, by have := hb.size; omega, fun i hi => (hb.cell hlt hn).trans (hc i hi)⟩

def nextM (r : (Nat × Nat) × DataW Cel × List Nat × Int) (M : DataW Cel) : DataW Cel := if r.1.2 = 0 then r.2.1 else M
def nextB (r : (Nat × Nat) × DataW Cel × List Nat × Int) (B : Int) : Int := if r.1.2 = 0 then r.2.2.2 else B
def nextV (r : (Nat × Nat) × DataW Cel × List Nat × Int) : List Nat := if r.1.2 = 0 then r.2.2.1 else []
def AppGives (r : (Nat × Nat) × DataW Cel × List Nat × Int) (M : DataW Cel) (B : Int) (t b : Nat) (q1 q2 : Int) (w : World) (e : Ending) (w' : World) : Prop :=
  ∃ v, e = .returned (.tuple #[v, .int .i64 r.1.1, .int .i64 r.1.2]) ∧ w'.ownsRow w.heap.size 43 1 v (nextV r).length ((nextV r).map (fun n : Nat => Value.int .u64 n)) ∧ TabAt w' t b q1 q2 (nextM r M) (nextB r B) ∧ ButS (fun k => k = t ∨ k = b) w w'
theorem tab_app (w : World) {t b : Nat} {q1 q2 B : Int} {M : DataW Cel} (h : TabAt w t b q1 q2 M B) (hg : Good Tryz.prog 9 M) (hm : MX w) (v : Value) (l : List Edt) (hv : IsEdts w v l) (hl : l.length ≤ 1048576)
    (hsM : size M ≤ 1073741824) (hB0 : -1125899906842624 ≤ B) (hB1 : B ≤ 1125899906842624) (hp : ∀ i, i < l.length → (l.getD i dE).path.size ≤ 140737488351232 ∧ (l.getD i dE).text.size ≤ 9223372036854775807) :
    Calls Tryz.prog 16 #[.pointer (some ⟨t, 0, none⟩), v] w (AppGives (triedT M B q1 q2 l) M B t b q1 q2 w) := by
  refine (tab_apply w h hg hm v l hv hl hsM hB0 hB1 hp).mono fun e w' hh => ?_
  rcases hh with ⟨h0, rfl, hb⟩ | ⟨h0, v1, rfl, hown, hT, hb⟩
  · refine ⟨.slice none 0 0, rfl, ?_, ?_, ButS.of hb⟩
    · unfold nextV; rw [if_neg h0]; exact World.ownsRow_nil _ _ _ _
    · unfold nextM nextB; rw [if_neg h0, if_neg h0]; exact h.below hb
  · refine ⟨v1, ?_, ?_, ?_, hb⟩
    · rw [tried_zero h0]; rfl
    · unfold nextV; rw [if_pos h0]; exact hown
    · unfold nextM nextB; rw [if_pos h0, if_pos h0]; exact hT

theorem next_good {M : DataW Cel} {B q1 q2 : Int} {l : List Edt} (hg : Good Tryz.prog 9 M) : Good Tryz.prog 9 (nextM (triedT M B q1 q2 l) M) ∧ size (nextM (triedT M B q1 q2 l) M) ≤ size M + l.length ∧
    B - l.length * 33000 ≤ nextB (triedT M B q1 q2 l) B ∧ nextB (triedT M B q1 q2 l) B ≤ B + l.length * 33000 := by
  obtain ⟨a1, a2, a3, a4⟩ := runT_facts Tryz.underlying9 l (vs := []) (B := B) (i := 0) hg
  rw [← tried_eq (q1 := q1) (q2 := q2)] at a1 a2 a3 a4
  unfold nextM nextB
  split
  · exact ⟨a1, a2, a3, a4⟩
  · refine ⟨hg, by omega, ?_, ?_⟩ <;> omega
end Go.Proofs.YtfbgnpfhjbiikaaGreatDoor

namespace Go.Proofs.YtfbgnpfhjbiikaaGreatDoor
open Go Go.RowKit
def AllU (w : World) (o : Option Nat) : Prop := ∀ g, o = some g → ∀ j u, w.cell? ⟨g, j, none⟩ = some u → ∃ n : Int, u = .int .u64 n
theorem AllU.noVers {w : World} {o : Option Nat} (h : AllU w o) : ∀ k, some k = o → NoVers w k := by
  intro k hk o' n s _ h2
  obtain ⟨m, hm⟩ := h k hk.symm _ _ h2
  cases hm
theorem zeroCells_mem {c : Value} : ∀ {n : Nat} {u : Value}, u ∈ Builtin.zeroCells #[c] n → u = c := by
  intro n u hu
  unfold Builtin.zeroCells at hu
  simp at hu
  obtain ⟨k, _, h⟩ := hu
  rw [Nat.mod_one] at h
  simpa using h.symm
def NoStr (w : World) (k : Nat) : Prop := ∀ o s, w.cell? ⟨k, o, none⟩ ≠ some (.string s)
theorem Bare.noStr {w : World} {k : Nat} (h : Bare w k) : NoStr w k := fun o s e => (h o _ e).2 s rfl
theorem AllU.noStr {w : World} {o : Option Nat} (h : AllU w o) : ∀ k, some k = o → NoStr w k := by
  intro k hk o' s e
  obtain ⟨m, hm⟩ := h k hk.symm _ _ e
  cases hm
theorem IsRows.but2 {S : Nat → Prop} {w w' : World} {v : Value} {l : List (ByteArray × Cel)} (h : IsRows w v l) (hb : ButS S w w') (hS : ∀ k, S k → NoStr w k ∧ NoVers w k) : IsRows w' v l := by
  obtain ⟨a, cap, hv, h⟩ := h
  refine ⟨a, cap, hv, ?_⟩
  rcases h with h | ⟨b2, off, ha, hlt, hc⟩
  · exact Or.inl h
  · by_cases hl : l = []
    · exact Or.inl hl
    have hn : ¬ S b2 := by
      intro hs
      obtain ⟨h1, _⟩ := hc 0 (List.length_pos_iff.2 hl)
      exact (hS b2 hs).1 _ _ h1
    refine Or.inr ⟨b2, off, ha, by have := hb.size; omega, fun i hi => ?_⟩
    obtain ⟨h1, h2, s, h3, hs⟩ := hc i hi
    exact ⟨(hb.cell hlt hn).trans h1, (hb.cell hlt hn).trans h2, s, (hb.cell hlt hn).trans h3, hs.but hb (fun k hk => (hS k hk).2)⟩
theorem IsNums.but2 {S : Nat → Prop} {w w' : World} {v : Value} {l : List Nat} (h : IsNums w v l) (hb : ButS S w w') (hS : ∀ k, S k → v.ownBlock ≠ some k) : IsNums w' v l := by
  obtain ⟨a, cap, hv, h⟩ := h
  refine ⟨a, cap, hv, ?_⟩
  rcases h with h | ⟨b2, off, ha, hlt, hc⟩
  · exact Or.inl h
  · have hn : ¬ S b2 := fun hs => hS b2 hs (by rw [hv, ha]; rfl)
    exact Or.inr ⟨b2, off, ha, by have := hb.size; omega, fun i hi => (hb.cell hlt hn).trans (hc i hi)⟩
theorem AllU.but {S : Nat → Prop} {w w' : World} {o : Option Nat} (h : AllU w o) (hb : ButS S w w') (hS : ∀ g, o = some g → ¬ S g ∧ g < w.heap.size) : AllU w' o := by
  intro g hg j u hu
  obtain ⟨h1, h2⟩ := hS g hg
  exact h g hg j u ((hb.cell (p := ⟨g, j, none⟩) h2 h1).symm.trans hu)
theorem butRow {w w' : World} {o : Option Nat} (hg : w.grownBy w' o) : ButS (fun k => some k = o) w w' := ⟨hg.os, hg.tape, hg.output, hg.size, fun k hk hn => hg.block k hk hn⟩
section
variable {P : Program} {w : World}
theorem append_allU {t ty e : TypeId} {i : TypeInfo} (ht : P.underlying t = some (.slice e)) (hi : P.info? e = some i) (hz : i.zero = some (.int .u64 0)) (hsize : i.size = 1) (hby : i.bytes = 8)
    {base n : Nat} {v : Value} {xs : List Value} (hown : w.ownsRow base e 1 v n xs) (hall : AllU w v.ownBlock) {a : Addr} {c : Nat} {x : Int} (hnews : w.cell? (a.add 0) = some (.int .u64 x)) (hn : n ≤ 1099511627776)
    {v' : Value} {w' : World} (hrun : (Builtin.append_ #[t, t] ty #[v, .slice (some a) 1 c]).run P w = .ok v' w') : AllU w' v'.ownBlock := by
  have hnw : ∀ j u, [Value.int .u64 x][j]? = some u → w.cell? (a.add j) = some u := by
    intro j u hu
    cases j with
    | zero => simp at hu; subst hu; exact hnews
    | succ j => simp at hu
  have hmem : ∀ {L : List Value} {k : Nat} {t' : TypeId} {W : World} {g : Nat}, (∀ u ∈ L, ∃ n : Int, u = .int .u64 n) → W.heap[g]? = some (.cells (L.toArray ++ Builtin.zeroCells #[.int .u64 0] k) t' (0, 0)) → AllU W (some g) := by
    intro L k t' W g hL hh g' hg' j u hu
    cases hg'
    unfold World.cell? at hu
    rw [hh] at hu
    have hm : u ∈ L.toArray ++ Builtin.zeroCells #[.int .u64 0] k := Array.mem_of_getElem? hu
    rcases Array.mem_append.1 hm with hm | hm
    · exact hL u (by simpa using hm)
    · exact ⟨0, zeroCells_mem hm⟩
  rcases hown.2 with ⟨rfl, rfl⟩ | ⟨g, cap, cur, rfl, hbg, hg, hnc, hcm, hcs, htake⟩
  · have hr := run_append_nil (P := P) w t ty e i _ ht hi hz a 1 c [.int .u64 x] (by simp [hsize]) hnw (by decide) (by decide) (by rw [hby]; decide)
    rw [hrun] at hr
    injection hr with h1 h2
    subst h1; subst h2
    exact hmem (L := [.int .u64 x]) (by simp) (by rw [← show w.drew.heap.size = w.heap.size from rfl]; exact (MapKept.heap_alloc w.drew _).1)
  · have hcur : ∀ u ∈ cur.toList, ∃ n : Int, u = .int .u64 n := by
      intro u hu
      obtain ⟨j, hj⟩ := List.getElem?_of_mem hu
      refine hall g rfl j u ?_
      unfold World.cell?
      rw [hg]
      simpa using hj
    by_cases hroom : n + 1 ≤ cap
    · have hr := run_append_room (P := P) w t ty e i ht hi g n cap cur hg a 1 c [.int .u64 x] (by simp [hsize]) hnw (by intro u hu; rcases List.mem_singleton.1 hu with rfl; rfl) hroom (by rw [hsize, hcs]; simp; omega)
      rw [hrun] at hr
      injection hr with h1 h2
      subst h1; subst h2
      intro g' hg' j u hu
      cases hg'
      unfold World.cell? at hu
      rw [setRow_heap w g cur _ e _ hg] at hu
      have hm := Array.mem_of_getElem? hu
      simp only [List.mem_toArray, List.mem_append] at hm
      rcases hm with (hm | hm) | hm
      · exact hcur u (List.mem_of_mem_take hm)
      · rcases List.mem_singleton.1 hm with rfl; exact ⟨x, rfl⟩
      · exact hcur u (List.mem_of_mem_drop hm)
    · have holds : ∀ j u, xs[j]? = some u → w.cell? ((⟨g, 0, none⟩ : Addr).add j) = some u := hown.cells (g := g) rfl
      have hr := run_append_grow (P := P) w t ty e i _ ht hi hz ⟨g, 0, none⟩ n cap xs (by rw [hsize]; exact hown.1) holds a 1 c [.int .u64 x] (by simp [hsize]) hnw (by omega) (by omega) (growslice_fits (by omega) (by rw [hby]; omega))
      rw [hrun] at hr
      injection hr with h1 h2
      subst h1; subst h2
      refine hmem (L := xs ++ [.int .u64 x]) ?_ (k := (grownCap w (n + 1) cap e - (n + 1))) (t' := e) ?_
      · intro u hu
        rcases List.mem_append.1 hu with hu | hu
        · exact hcur u (by rw [← htake] at hu; exact List.mem_of_mem_take hu)
        · rcases List.mem_singleton.1 hu with rfl; exact ⟨x, rfl⟩
      · have := (MapKept.heap_alloc w.drew (.cells (xs.toArray ++ [Value.int .u64 x].toArray ++ Builtin.zeroCells (Value.int .u64 0).cells (grownCap w (n + 1) cap e - (n + 1))) e)).1
        simpa [Value.cells] using this
end
theorem wpList_append_u {P : Program} (w : World) {ops : Array Oper} {rest : List Oper} {o : Oper} {a : Act} {Q : Exit → Act → World → Prop} (hgd : o.guard = none) (s x : Operand) (t : TypeId)
    (ho : o.op = .call { callee := .builtin .append, args := #[s, x], argTypes := #[t, t] })
    (base : Nat) (e : TypeId) (i : TypeInfo) (ht : P.underlying t = some (.slice e)) (hi : P.info? e = some i) (hz : i.zero = some (.int .u64 0))
    (hsize : i.size = 1) (hby : i.bytes = 8)
    (v : Value) (n : Nat) (xs : List Value) (hs : a.eval s = v) (hown : w.ownsRow base e 1 v n xs) (hall : AllU w v.ownBlock)
    (ad : Addr) (c : Nat) (z : Int) (hx : a.eval x = .slice (some ad) 1 c) (hnews : w.cell? (ad.add 0) = some (.int .u64 z))
    (hn : n ≤ 1099511627776) (hbase : base ≤ w.heap.size)
    (h : ∀ g cap w', w'.ownsRow base e 1 (.slice (some ⟨g, 0, none⟩) (n + 1) cap) (n + 1) (xs ++ [.int .u64 z]) → w.grownBy w' v.ownBlock → (v.ownBlock = some g ∨ g = w.heap.size) → g < w'.heap.size → AllU w' (some g) → wpList P ops Q rest (a.put o.dst (.slice (some ⟨g, 0, none⟩) (n + 1) cap)) w') : wpList P ops Q (o :: rest) a w := by
  refine wpList_plain hgd fun K hK => ?_
  have hnw : ∀ j u, [Value.int .u64 z][j]? = some u → w.cell? (ad.add j) = some u := by
    intro j u hu
    cases j with
    | zero => simp at hu; subst hu; exact hnews
    | succ j => simp at hu
  obtain ⟨g, cap, w', hr, h2, h3, h4, h5⟩ := run_append_lies (P := P) w t o.type base e i (.int .u64 0) 1 8 ht hi hz hsize hby rfl (by decide) v n xs hown ad 1 c [.int .u64 z] rfl hnw (by intro u hu; rcases List.mem_singleton.1 hu with rfl; rfl) (by decide) (by unfold maxLen; omega) (by omega) hbase w.heap.size rfl
  have hU := append_allU ht hi hz hsize hby hown hall hnews hn hr
  unfold Oper.wp execOp
  simp only [ho, resolve, invoke, builtin, Sem.run_bind, Sem.run_pure, Result.andThen_ok, List.map_toArray, List.map_cons, List.map_nil, hs, hx, hr]
  exact hK _ _ (h g cap w' h2 h3 h4 h5 hU)
end Go.Proofs.YtfbgnpfhjbiikaaGreatDoor

namespace Go.Proofs.YtfbgnpfhjbiikaaGreatDoor
open Go Go.ChangeShapes Go.WideShapes Go.ChangeAt Go.RowKit
theorem getD_mem {α : Type} {l : List α} {k : Nat} {d : α} (h : k < l.length) : l.getD k d ∈ l := by
  rw [List.getD_eq_getElem?_getD, List.getElem?_eq_getElem h]; exact List.getElem_mem h
theorem list3 {α : Type} {l : List α} (h : l.length = 3) : ∃ c0 c1 c2, l = [c0, c1, c2] := by
  match l, h with
  | [c0, c1, c2], _ => exact ⟨c0, c1, c2, rfl⟩
theorem list2 {α : Type} {l : List α} (h : l.length = 2) : ∃ c0 c1, l = [c0, c1] := by
  match l, h with
  | [c0, c1], _ => exact ⟨c0, c1, rfl⟩
def verData {H : Type} (v : Ver) : DataW H := .agg [.lit (.int .u64 v.n), .lit (.int .u8 v.st), .lit (.string v.tx.data.toList)]
theorem cVer : Tryz.prog.cellsOf 50 = 3 := by kernel_rfl
theorem cVers : Tryz.prog.cellsOf 44 = 1 := by kernel_rfl
theorem cCell : Tryz.prog.cellsOf 46 = 2 := by kernel_rfl
theorem cRow : Tryz.prog.cellsOf 48 = 3 := by kernel_rfl
theorem wfLt64 {n : Nat} (h : (Lit.int .u64 (n : Int)).wf = true) : n < 18446744073709551616 := by
  simp only [Lit.wf, Bool.and_eq_true, decide_eq_true_eq] at h
  have h1 := h.2
  rw [show IntKind.max .u64 = 18446744073709551615 from rfl] at h1
  omega
theorem addrThree {a : Addr} (h : a = ⟨a.block, a.off, none⟩) (i j : Nat) : (a.add i).add j = ⟨a.block, a.off + i + j, none⟩ := by
  rw [h, addrAdd, addrAdd]
def VersD {H : Type} (l : List Ver) (d : DataW H) : Prop := d = .nil ∧ l = [] ∨ ∃ sr, d = .slice (l.map verData) sr
def RowD {H : Type} (r : ByteArray × Cel) (d : DataW H) : Prop := ∃ vd, d = .agg [.lit (.string r.1.data.toList), .agg [.lit (.int .u64 r.2.last), vd]] ∧ VersD r.2.l vd
section
variable {H : Type} {enc : TypeId × Value → H} {w : World} {base : Nat} {sp : Nat → Bool} {held : Bool}
theorem trod_ver {fuel : Nat} {cs : List Value} {x : DataW H × List MemPlace} (h : DataW.trod enc Tryz.prog w base sp held fuel 50 cs = some x) : ∃ v : Ver, cs = [.int .u64 v.n, .int .u8 v.st, .string v.tx] ∧ x.1 = verData v ∧ v.n < 18446744073709551616 := by
  obtain ⟨xs, n, _, rfl, hl, hlen, hf⟩ := DataW.trod_struct Tryz.underlying50 h
  rw [cVer] at hl
  obtain ⟨c0, c1, c2, rfl⟩ := list3 hl
  obtain ⟨y0, y1, y2, rfl⟩ := list3 hlen
  have h0 : DataW.trod enc Tryz.prog w base sp held n 43 [c0] = some y0 := by simpa [cU64] using hf 0 _ rfl
  have h1 : DataW.trod enc Tryz.prog w base sp held n 5 [c1] = some y1 := by simpa [cU8] using hf 1 _ rfl
  have h2 : DataW.trod enc Tryz.prog w base sp held n 9 [c2] = some y2 := by simpa [cStr] using hf 2 _ rfl
  obtain ⟨z0, e0, rfl, w0⟩ := DataW.trod_int Tryz.underlying43 h0
  obtain ⟨z1, e1, rfl, w1⟩ := DataW.trod_int Tryz.underlying5 h1
  obtain ⟨s2, e2, rfl, _⟩ := DataW.trod_string Tryz.underlying9 h2
  obtain ⟨n0, rfl⟩ := wfNat64 w0
  obtain ⟨n1, rfl⟩ := wfNat8 w1
  refine ⟨⟨n0, n1, s2⟩, ?_, rfl, wfLt64 w0⟩
  simp only [List.cons.injEq, and_true] at e0 e1 e2
  rw [e0, e1, e2]
theorem trod_vers {fuel : Nat} {cs : List Value} {x : DataW H × List MemPlace} (h : DataW.trod enc Tryz.prog w base sp held fuel 44 cs = some x) : ∃ (v : Value) (l : List Ver), cs = [v] ∧ IsVers w v l ∧ VersD l x.1 := by
  rcases Go.Deep.open_slice Tryz.underlying44 h with ⟨hcs, hx⟩ | ⟨a, len, cap, m, n, D, Pl, hcs, _, hl, _, hm, hx, hel⟩
  · exact ⟨_, [], hcs, IsVers.nil w, Or.inl ⟨by rw [hx], rfl⟩⟩
  · have hlm : len ≤ m := by rw [hm]; split <;> omega
    have hE : ∀ i, ∃ e : Ver, i < len → (∀ j, j < 3 → w.cell? ((a.add (i * 3)).add j) = [Value.int .u64 e.n, .int .u8 e.st, .string e.tx][j]?) ∧ D i = verData e := by
      intro i
      by_cases hi : i < len
      · obtain ⟨cs', h1, h2⟩ := hel i (by omega)
        rw [cVer] at h1
        obtain ⟨e, rfl, he, _⟩ := trod_ver h2
        exact ⟨e, fun _ => ⟨(World.cells?_some h1).2.2, he⟩⟩
      · exact ⟨dV, fun h => absurd h hi⟩
    obtain ⟨E, hE⟩ := Classical.axiomOfChoice hE
    refine ⟨_, (List.range len).map E, hcs, ?_, Or.inr ⟨(List.range (m - len)).map fun j => D (len + j), ?_⟩⟩
    · refine ⟨some a, cap, by simp, ?_⟩
      by_cases h0 : len = 0
      · left; subst h0; rfl
      · right
        have h00 := (hE 0 (by omega)).1 0 (by omega)
        have ha0 : (a.add (0 * 3)).add 0 = a := by unfold Addr.add; simp
        rw [ha0] at h00
        have hs : a = ⟨a.block, a.off, none⟩ := spot_none (v := .int .u64 (E 0).n) h00
        refine ⟨a.block, a.off, by rw [← hs], block_lt_of_cell (v := .int .u64 (E 0).n) h00, fun i hi => ?_⟩
        have hi' : i < len := by simpa using hi
        have hg : ((List.range len).map E).getD i dV = E i := by simp [List.getD_eq_getElem?_getD, hi']
        rw [hg]
        have hc := (hE i hi').1
        have k0 := hc 0 (by omega); have k1 := hc 1 (by omega); have k2 := hc 2 (by omega)
        rw [addrThree hs] at k0 k1 k2
        exact ⟨k0, k1, k2⟩
    · rw [hx, List.map_map]
      show DataW.slice _ _ = _
      congr 1
      refine List.map_congr_left fun i hi => ?_
      exact (hE i (List.mem_range.1 hi)).2
theorem trod_row {fuel : Nat} {cs : List Value} {x : DataW H × List MemPlace} (h : DataW.trod enc Tryz.prog w base sp held fuel 48 cs = some x) : ∃ (r : ByteArray × Cel) (v : Value), cs = [.string r.1, .int .u64 r.2.last, v] ∧ IsVers w v r.2.l ∧ RowD r x.1 ∧ r.2.last < 18446744073709551616 := by
  obtain ⟨xs, n, _, rfl, hl, hlen, hf⟩ := DataW.trod_struct Tryz.underlying48 h
  rw [cRow] at hl
  obtain ⟨c0, c1, c2, rfl⟩ := list3 hl
  obtain ⟨y0, y1, rfl⟩ := list2 hlen
  have h0 : DataW.trod enc Tryz.prog w base sp held n 9 [c0] = some y0 := by simpa [cStr] using hf 0 _ rfl
  have h1 : DataW.trod enc Tryz.prog w base sp held n 46 [c1, c2] = some y1 := by simpa [cCell] using hf 1 _ rfl
  obtain ⟨s0, e0, rfl, _⟩ := DataW.trod_string Tryz.underlying9 h0
  obtain ⟨xs2, n2, _, rfl, hl2, hlen2, hf2⟩ := DataW.trod_struct Tryz.underlying46 h1
  obtain ⟨u0, u1, rfl⟩ := list2 hlen2
  have g0 : DataW.trod enc Tryz.prog w base sp held n2 43 [c1] = some u0 := by simpa [cU64] using hf2 0 _ rfl
  have g1 : DataW.trod enc Tryz.prog w base sp held n2 44 [c2] = some u1 := by simpa [cVers] using hf2 1 _ rfl
  obtain ⟨z1, e1, rfl, w1⟩ := DataW.trod_int Tryz.underlying43 g0
  obtain ⟨n1, rfl⟩ := wfNat64 w1
  obtain ⟨v, l, e2, hv, hd⟩ := trod_vers g1
  refine ⟨(s0, ⟨n1, l⟩), v, ?_, hv, ⟨u1.1, rfl, hd⟩, wfLt64 w1⟩
  simp only [List.cons.injEq, and_true] at e0 e1 e2
  rw [e0, e1, e2]
def RowsWf (l : List (ByteArray × Cel)) : Prop := ∀ i, i < l.length → (l.getD i dR).2.last < 18446744073709551616
end
end Go.Proofs.YtfbgnpfhjbiikaaGreatDoor

namespace Go.Proofs.YtfbgnpfhjbiikaaGreatDoor
open Go Go.RowKit
theorem run_append_empty (a : Option Addr) (c : Nat) (ty : TypeId) (w : World) : (Builtin.append_ #[44, 44] ty #[.slice none 0 0, .slice a 0 c]).run Tryz.prog w = .ok (.slice none 0 0) w := by
  obtain ⟨j0, hj, hy0, hy1, hy2⟩ := info_parts infoVer
  cases a <;> simp [Builtin.append_, run_underlying Tryz.underlying44, sizeOf, typeInfo, hj, Builtin.lenOf, Builtin.firstCells, loadCells, loadCellsFrom]
theorem wpList_append_empty {w : World} {ops : Array Oper} {rest : List Oper} {o : Oper} {a : Act} {Q : Exit → Act → World → Prop} (hgd : o.guard = none) (s x : Operand)
    (ho : o.op = .call { callee := .builtin .append, args := #[s, x], argTypes := #[44, 44] })
    (hs : a.eval s = .slice none 0 0) (ax : Option Addr) (c : Nat) (hx : a.eval x = .slice ax 0 c)
    (h : wpList Tryz.prog ops Q rest (a.put o.dst (.slice none 0 0)) w) : wpList Tryz.prog ops Q (o :: rest) a w := by
  refine wpList_plain hgd fun K hK => ?_
  have hrun := run_append_empty ax c o.type w
  unfold Oper.wp execOp
  simp only [ho, resolve, invoke, builtin, Sem.run_bind, Sem.run_pure, Result.andThen_ok, List.map_toArray, List.map_cons, List.map_nil, hs, hx, hrun]
  exact hK _ _ h
set_option maxRecDepth 100000 in
set_option maxHeartbeats 2000000 in
theorem law_copied (l : List (ByteArray × Cel)) (v : Value) (w : World) (hv : IsRows w v l) (hl : l.length ≤ 1073741824) (hc : ∀ i, i < l.length → (l.getD i dR).2.l.length * 32 ≤ 140737488355328) :
    Calls Tryz.prog 14 #[v] w fun e w' => ∃ v', e = .returned v' ∧ IsRows w' v' l ∧ Below w.heap.size w w' := by
  obtain ⟨a, cap, rfl, hcc⟩ := hv
  have HC := Lib.hid hcc; have HL := Lib.hid hc; clear hcc hc
  obtain ⟨i0, hi, hz0, hz1, hz2⟩ := info_parts infoRow
  obtain ⟨j0, hj, hy0, hy1, hy2⟩ := info_parts infoVer
  go_enter Tryz.func14, Tryz.ntmps14
  go_wp2_with fail
  go_loopw [3, 4] (fun s3 i wr => ∃ (k : Nat) (T : List ((ByteArray × Cel) × Value)), k ≤ l.length ∧ i = .int .i64 k ∧ (∃ a c, s3 = .slice a T.length c) ∧ Hid (T.map (·.1) = l.take k) ∧ Hid (T.length = k) ∧ Hid (wr.ownsRow w.heap.size 48 3 s3 T.length (rowCells T)) ∧ Hid (RowsOff wr T s3.ownBlock) ∧ Hid (Below w.heap.size w wr)) (fun _ i _ => l.length - (intOf i).toNat)
  case atStart => exact ⟨0, [], Nat.zero_le _, rfl, ⟨none, 0, rfl⟩, Lib.hid rfl, Lib.hid rfl, Lib.hid (World.ownsRow_nil _ _ _ _), Lib.hid (fun x hx => by cases hx), Lib.hid (Below.refl _ _)⟩
  case round =>
    obtain ⟨k, T, hk, rfl, ⟨a2, c2', rfl⟩, hmap, hTk, hrow, hoff, hbw⟩ := hrel
    by_cases hlt : k < l.length
    · rcases HC.out with hn | ⟨b, off, rfl, hbl, hcc⟩
      · subst hn; simp at hlt
      have hltI : (k : Int) < (l.length : Int) := by omega
      obtain ⟨g0, g1, s, g2, hs⟩ := hcc k hlt
      have e0 := (hbw.out.cell (p := ⟨b, off + k * 3, none⟩) hbl).trans g0
      have e1 := (hbw.out.cell (p := ⟨b, off + k * 3 + 1, none⟩) hbl).trans g1
      have e2 := (hbw.out.cell (p := ⟨b, off + k * 3 + 2, none⟩) hbl).trans g2
      have hs' := hs.below hbw.out (Nat.le_refl _)
      have hcl := HL.out k hlt
      have htake : l.take (k + 1) = l.take k ++ [l.getD k dR] := by
        rw [List.take_succ_eq_append_getElem hlt, List.getD_eq_getElem?_getD, List.getElem?_eq_getElem hlt]; rfl
      obtain ⟨x, hx⟩ : ∃ x, x = l.getD k dR := ⟨_, rfl⟩
      rw [← hx] at e0 e1 hs' hcl htake
      clear hx g0 g1 g2 hs hcc
      obtain ⟨p, ⟨last, L⟩⟩ := x
      simp only at e0 e1 hs' hcl
      obtain ⟨va, vc, rfl, hvs⟩ := hs'
      have Hvs := Lib.hid hvs; have Htake := Lib.hid htake; clear hvs htake
      have hTl : T.length ≤ 1073741824 := by have := hTk.out; omega
      go_upto_region 6 with fail
      refine wp_abs (F := fun W => One wr.heap.size #[.string p, .int .u64 last, .slice va L.length vc] W ∧ Below wr.heap.size wr W) ⟨One.of _ _ _, (Below.refl _ _).alloc (Nat.le_refl _) _⟩ ?_
      rintro WB ⟨hB, hbB⟩
      have y0 := hB.c 0; have y1 := hB.c 1; have y2 := hB.c 2
      have z2 := hB.f 2
      simp at y0 y1 y2
      have HB := Lib.hid hB; have HbB := Lib.hid hbB; clear hB hbB e0 e1 e2
      have hstep : ∀ (W2 : World) (v2 : Value), WB.grownBy W2 none → W2.ownsRow WB.heap.size 50 3 v2 L.length (flat L) → One wr.heap.size #[.string p, .int .u64 last, v2] (W2.setCell ⟨wr.heap.size, 2, none⟩ v2) ∧ IsVers (W2.setCell ⟨wr.heap.size, 2, none⟩ v2) v2 L ∧ (∀ kb, v2.ownBlock = some kb → wr.heap.size < kb) ∧ Below wr.heap.size wr (W2.setCell ⟨wr.heap.size, 2, none⟩ v2) := by
        intro W2 v2 hg ho
        have hb2 : Below WB.heap.size WB W2 := (Below.refl _ _).grown hg (Nat.le_refl _) (fun k hk => by cases hk)
        have hlt := HB.out.lt
        have hB2 := HB.out.step hb2
        refine ⟨hB2.set (i := 2) (by simp) v2, (IsVers.own ho).setFar (fun kb hkb => by have := ownAbove ho kb hkb; dsimp only; omega) _, fun kb hkb => by have := ownAbove ho kb hkb; omega, (HbB.out.trans (hb2.mono HbB.out.size)).setCell (by dsimp only; omega) _⟩
      have Hstep := Lib.hid hstep; clear hstep
      go_cut [] (fun wx => Hid (∃ v2, One wr.heap.size #[.string p, .int .u64 last, v2] wx ∧ IsVers wx v2 L ∧ (∀ kb, v2.ownBlock = some kb → wr.heap.size < kb) ∧ Below wr.heap.size wr wx))
      case first =>
        by_cases hL : L = []
        · subst hL
          simp only [List.length_nil] at y2
          go_wp2_with (first | (at_builtin; refine wpList_append_empty rfl _ _ rfl rfl va vc rfl ?_) | fail)
          go_meet
          case rel => exact Lib.hid ⟨_, Hstep.out WB (.slice none 0 0) ⟨rfl, rfl, rfl, Nat.le_refl _, fun _ _ _ => rfl⟩ (World.ownsRow_nil _ _ _ _)⟩
        · rcases Hvs.out with hn | ⟨bv, ov, rfl, hblv, hvv⟩
          · exact absurd hn hL
          have hnews : ∀ j u, (flat L)[j]? = some u → WB.cell? ((⟨bv, ov, none⟩ : Addr).add j) = some u := fun j u hu => by
            rw [addrAdd]; exact (HbB.out.cell (p := ⟨bv, ov + j, none⟩) hblv).trans (flat_cell hvv j u hu)
          have Hnews := Lib.hid hnews; clear hnews hvv
          go_wp2_with (first
            | (at_builtin; refine wpList_append_own _ rfl _ _ 44 rfl WB.heap.size 50 j0 (.agg #[.int .u64 0, .int .u8 0, .string ByteArray.empty]) 3 32 Tryz.underlying44 hj hy0 hy1 hy2 rfl (by decide) _ 0 [] rfl (World.ownsRow_nil _ _ _ _) ⟨bv, ov, none⟩ L.length vc (flat L) rfl (flat_length L) Hnews.out (flat_one L) (by unfold maxLen; omega) (by omega) (Nat.le_refl _) ?_; intro v2 W2 hown2 hg2 _; simp only [Nat.zero_add, List.nil_append] at hown2; obtain ⟨a9, c9, rfl⟩ := ownShape hown2; obtain ⟨hOne2, hIs2, hfr2, hbl2⟩ := Hstep.out W2 _ hg2 hown2; have y2 := ((HB.out.step ((Below.refl WB.heap.size WB).grown hg2 (Nat.le_refl _) (fun k hk => by cases hk))).c 2); have z2 := ((HB.out.step ((Below.refl WB.heap.size WB).grown hg2 (Nat.le_refl _) (fun k hk => by cases hk))).f 2); simp at y2; have HO2 := Lib.hid hOne2; have HI2 := Lib.hid hIs2; have HF2 := Lib.hid hfr2; have HBl2 := Lib.hid hbl2; clear hOne2 hIs2 hfr2 hbl2 hown2 hg2)
            | fail)
          go_meet
          case rel => exact Lib.hid ⟨_, HO2.out, HI2.out, HF2.out, HBl2.out⟩
      case rest =>
        obtain ⟨v2, hO, hI, hF, hB2⟩ := hcut.out
        have y0 := hO.c 0; have y1 := hO.c 1; have y2 := hO.c 2
        simp at y0 y1 y2
        have HI := Lib.hid hI
        obtain ⟨a4, c4, rfl, _⟩ := hI
        have HF := Lib.hid hF; have HB2 := Lib.hid hB2
        clear hcut hO hF hB2 z2
        go_wp2_with (first
          | (at_builtin; refine wpList_append_lies _ rfl (.tmp 22) (.tmp 24) 26 rfl w.heap.size 48 i0 (.agg #[.string ByteArray.empty, .int .u64 0, .slice none 0 0]) 3 48 Tryz.underlying26 hi hz0 hz1 hz2 rfl (by decide) _ T.length (rowCells T) rfl (ownBelow (ownBelow hrow.out HB2.out) ((Below.refl _ _).alloc (Nat.le_refl _) _)) ⟨wc.heap.size, 0, none⟩ 1 1 [.string p, .int .u64 last, .slice a4 L.length c4] rfl rfl (World.news_of_block (MapKept.heap_alloc _ _).1) (by intro u hu; simp only [List.mem_cons, List.mem_nil_iff, or_false] at hu; rcases hu with rfl | rfl | rfl <;> rfl) (by decide) (by unfold maxLen; omega) (by omega) ?hbase (wc.heap.size + 1) (by simp) ?go; (case hbase => have h1 := hbw.out.size; have h2 := HB2.out.size; simp; omega); intro g cp w8 hown8 hg8 hat hlt8)
          | fail)
        go_roundw
        case rel =>
          refine ⟨k + 1, T ++ [((p, ⟨last, L⟩), .slice a4 L.length c4)], by omega, by go_num, ⟨_, _, by rw [List.length_append]; rfl⟩, Lib.hid ?_, Lib.hid (by rw [List.length_append, hTk.out]; rfl), Lib.hid ?_, Lib.hid ?_, Lib.hid ?_⟩
          · rw [Htake.out, List.map_append, hmap.out]; rfl
          · rw [List.length_append, rowCells_append]; exact hown8
          · have hA : RowsOff (wc.alloc (.cells #[.string p, .int .u64 last, .slice a4 L.length c4] 48)) (T ++ [((p, ⟨last, L⟩), .slice a4 L.length c4)]) (Value.slice a2 T.length c2').ownBlock := by
              intro y hy
              rcases List.mem_append.1 hy with hy | hy
              · exact ((hoff.out.below HB2.out).below ((Below.refl _ _).alloc (Nat.le_refl _) _)) y hy
              · rcases List.mem_singleton.1 hy with rfl
                refine ⟨HI.out.below ((Below.refl _ _).alloc (Nat.le_refl _) _) (Nat.le_refl _), fun _ kb hkb e => ?_⟩
                have h1 := HF.out kb hkb
                have h2 : kb < wr.heap.size := by
                  rcases hrow.out.2 with ⟨hv, _⟩ | ⟨g', cp', cur, hv, hB, hg', _⟩
                  · rw [hv] at e; cases e
                  · rw [hv] at e; cases e; exact lt_of_block hg'
                omega
            refine hA.row hg8 ?_
            rcases hat with h | h
            · left; exact h.symm
            · right; show some g = some _; rw [h]; simp
          · have h1 : Below w.heap.size w wc := hbw.out.trans (HB2.out.mono hbw.out.size)
            exact (h1.alloc h1.size _).grown hg8 (h1.alloc h1.size _).size (fun k hk => ownAbove hrow.out k hk)
        case measure => simp [intOf]; omega
    · have hge : (l.length : Int) ≤ (k : Int) := by omega
      have Hkl : Hid (k = l.length) := Lib.hid (by omega)
      go_wp2_with fail
      go_ret
      refine ⟨_, rfl, ?_, hbw.out⟩
      have h1 := IsRows.own hrow.out hoff.out
      rw [hmap.out, Hkl.out, List.take_length] at h1
      exact h1
end Go.Proofs.YtfbgnpfhjbiikaaGreatDoor

namespace Go.Proofs.YtfbgnpfhjbiikaaGreatDoor
open Go Go.RowKit
open Pth
open Go.Maps (has size Canon CanonK Tidy IsMap KeysOf Keyed Merged)
def OkRow (r : ByteArray × Cel) : Prop := mayP r.1 = true ∧ mayC r.2 = true ∧ r.2.l ≠ []
def LoadGives (l : List (ByteArray × Cel)) (M : DataW Cel) (B : Int) (t b : Nat) (q1 q2 : Int) (w : World) (e : Ending) (w' : World) : Prop :=
  ∃ (e0 : Int) (M' : DataW Cel) (B' : Int), e = .returned (.int .i64 e0) ∧ TabAt w' t b q1 q2 M' B' ∧ Good Tryz.prog 9 M' ∧ size M' ≤ size M + l.length ∧ B ≤ B' ∧ B' ≤ B + l.length * 33000 ∧ ButS (fun k => k = t ∨ k = b) w w'
theorem LoadGives.same {l : List (ByteArray × Cel)} {M : DataW Cel} {B : Int} {t b : Nat} {q1 q2 : Int} {w w' : World} (h : TabAt w t b q1 q2 M B) (hg : Good Tryz.prog 9 M) (hb : Below w.heap.size w w') (e0 : Int) : LoadGives l M B t b q1 q2 w (.returned (.int .i64 e0)) w' :=
  ⟨e0, M, B, rfl, h.below hb, hg, by omega, by omega, by omega, ButS.of hb⟩
theorem Good.putRow {M : DataW Cel} (h : Good Tryz.prog 9 M) {r : ByteArray × Cel} (hr : OkRow r) (hl : r.2.last < 18446744073709551616) : Good Tryz.prog 9 (M.put (kS r.1) (.held r.2)) := by
  obtain ⟨d, a, b⟩ := hr
  have hK : KeysOf Tryz.prog 9 (kS r.1) := ⟨_, keyS Tryz.underlying9 (by have := mayP_size d; unfold maxLen; omega)⟩
  refine ⟨Maps.canonK_put strKeyed.one hK _ h.canon, fun k hk' => ?_⟩
  by_cases e : k = kS r.1
  · subst e
    exact ⟨_, _, rfl, Maps.atKey_put_same (canonK_isMap h.canon) (kS_key _) _ _, a, b, hl, d⟩
  · rw [Maps.has_put_other e] at hk'
    rw [Maps.atKey_put_other e]; exact h.cells k hk'
theorem TabAt.setBytes {wr w5 : World} {t b : Nat} {q1 q2 B B2 : Int} {M N : DataW Cel} (h : TabAt wr t b q1 q2 M B) (hc : ∀ j, w5.cell? ⟨t, j, none⟩ = wr.cell? ⟨t, j, none⟩) (hf : w5.frozen? ⟨t, 3, none⟩ = false) (hN : CelMap w5 b N) : TabAt (w5.setCell ⟨t, 3, none⟩ (.int .i64 B2)) t b q1 q2 N B2 := by
  have hne := h.ne
  have no : ∀ j, j ≠ 3 → (w5.setCell ⟨t, 3, none⟩ (.int .i64 B2)).cell? ⟨t, j, none⟩ = wr.cell? ⟨t, j, none⟩ := fun j hj => (World.cell?_setCell_other _ _ _ _ (by intro e; injection e with _ e; exact hj e.symm)).trans (hc j)
  have hT2 : NoVers w5 t := by
    intro o n s h1 h2
    exact h.noVers o n s ((hc o).symm.trans h1) ((hc (o + 1)).symm.trans h2)
  refine ⟨(no 0 (by decide)).trans h.c0, (no 1 (by decide)).trans h.c1, (no 2 (by decide)).trans h.c2, World.cell?_setCell_same' _ _ _ (by rw [hc 3, h.c3]; rfl), fun j => (no (j + 4) (by omega)).trans (h.c4 j), ?_, ?_⟩
  · rw [World.frozen?_setCell]; exact hf
  · exact hN.but (ButS.set (S := fun k => k = t) w5 (p := ⟨t, 3, none⟩) rfl _) (fun k hk => by subst hk; exact hT2) (fun e => hne e.symm)
theorem zeroIntM (w : World) : (zeroValue 3).run Tryz.prog w = .ok (.int .i64 0) w := by kernel_rfl

end Go.Proofs.YtfbgnpfhjbiikaaGreatDoor
