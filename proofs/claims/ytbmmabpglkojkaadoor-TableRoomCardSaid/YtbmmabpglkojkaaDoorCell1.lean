/- Contracts for package cell: May, Now, Size. -/
import Derived.Test.YtbmmabpglkojkaaDoorVers
namespace Go.Proofs.YtbmmabpglkojkaaDoor
open Go Go.RowKit

theorem cemptyT {s : ByteArray} (h : s.data.toList = []) : s.toList = [] := by rw [ByteArray.toList_eq]; exact h
theorem cemptyF {s : ByteArray} (h : ¬ s.data.toList = []) : s.toList.isEmpty = false := by rw [ByteArray.toList_eq]; simpa using h
theorem cemptyG {s : ByteArray} (h : ¬ s.data.toList = []) : ¬ s.toList = [] := by rw [ByteArray.toList_eq]; exact h

set_option maxRecDepth 100000 in
set_option maxHeartbeats 4000000 in
theorem cell_may (c : Cel) (v : Value) (w : World) (hv : IsVers w v c.l) (hl : c.l.length ≤ 9223372036854775807) :
    Calls Tryd.prog 31 #[.agg #[.int .u64 c.last, v]] w fun e w' => e = .returned (.bool (mayC c)) ∧ Below w.heap.size w w' := by
  obtain ⟨cl, L⟩ := c
  obtain ⟨a, cap, rfl, hc⟩ := hv
  simp only at hc hl ⊢
  have HC := Lib.hid hc; clear hc
  go_enter Tryd.func31, Tryd.ntmps31
  go_wp2
  go_loopw [3, 10] (fun x i wr => ∃ k y : Nat, k ≤ L.length ∧ i = .int .i64 k ∧ x = .int .u64 y ∧ Hid (okFrom 0 (L.take k) = some y) ∧ Hid (Below (w.heap.size + 1) (w.alloc (.cells #[.int .u64 cl, .slice a L.length cap] 62)) wr)) (fun _ i _ => L.length - (intOf i).toNat)
  case atStart => exact ⟨0, 0, Nat.zero_le _, rfl, rfl, Lib.hid rfl, Lib.hid (Below.refl _ _)⟩
  case round =>
    obtain ⟨k, y, hk, rfl, rfl, hok, hbw⟩ := hrel
    have hsz := hbw.out.size
    have hsz1 : w.heap.size + 1 ≤ wr.heap.size := by simpa using hsz
    clear hsz
    have hbx0 : wr.cell? ⟨w.heap.size, 0, none⟩ = some (.int .u64 cl) := (hbw.out.cell (p := ⟨w.heap.size, 0, none⟩) (by show w.heap.size < w.heap.size + 1; omega)).trans (World.cell?_alloc_mark _ _ _ _ _)
    have hbx1 : wr.cell? ⟨w.heap.size, 1, none⟩ = some (.slice a L.length cap) := (hbw.out.cell (p := ⟨w.heap.size, 1, none⟩) (by show w.heap.size < w.heap.size + 1; omega)).trans (World.cell?_alloc_mark _ _ _ _ _)
    have HB0 := Lib.hid (((Below.refl w.heap.size w).alloc (Nat.le_refl _) (.cells #[.int .u64 cl, .slice a L.length cap] 62)).trans (hbw.out.mono (Nat.le_succ _)))
    by_cases hlt : k < L.length
    · rcases HC.out with hn | ⟨b, off, rfl, hblt, hcc⟩
      · subst hn; simp at hlt
      obtain ⟨h1, h2, h3⟩ := hcc k hlt
      have g1 := (HB0.out.cell (p := ⟨b, off + k * 3, none⟩) hblt).trans h1
      have g2 := (HB0.out.cell (p := ⟨b, off + k * 3 + 1, none⟩) hblt).trans h2
      have g3 := (HB0.out.cell (p := ⟨b, off + k * 3 + 2, none⟩) hblt).trans h3
      clear h1 h2 h3 hcc
      obtain ⟨x, hx⟩ : ∃ x, x = L.getD k dV := ⟨_, rfl⟩
      rw [← hx] at g1 g2 g3
      have Hx := Lib.hid hx; clear hx
      rcases ver_cases y x with ⟨ho, hx⟩ | ⟨ho, hx⟩ | ⟨ho, hx⟩ | ⟨ho, hx⟩ | ⟨ho, hx⟩ | ⟨ho, hx⟩ | ⟨ho, hx⟩
      iterate 5
        · have Ho := Lib.hid ho; clear ho
          go_wp2
          go_ret
          refine ⟨ret_bool (may_bad rfl hlt hok.out (by rw [← Hx.out]; exact Ho.out)).symm, ?_⟩
          exact HB0.out.alloc (by omega) _
      iterate 2
        · have Ho := Lib.hid ho; clear ho
          go_wp2
          go_roundw
          case rel => exact ⟨k + 1, x.n, by omega, by go_num, rfl, Lib.hid (by rw [okFrom_snoc hlt hok.out, ← Hx.out, Ho.out]; rfl), Lib.hid (hbw.out.alloc (by simpa using hsz1) _)⟩
          case measure => simp [intOf]; omega
    · have hge : (L.length : Int) ≤ (k : Int) := by omega
      have H := Lib.hid (may_end (c := ⟨cl, L⟩) rfl hlt hok.out)
      have hbb : ((cl : Int) == (y : Int)) = decide (cl = y) := by
        by_cases e : cl = y
        · simp [e]
        · have : ¬ (cl : Int) = (y : Int) := by omega
          simp [e, this]
      by_cases h8 : L.length ≤ 8
      · go_wp2
        go_ret
        refine ⟨ret_bool ?_, HB0.out⟩
        rw [H.out]; simp [h8]
      · go_wp2
        go_ret
        refine ⟨ret_bool ?_, HB0.out⟩
        rw [H.out]; simp [h8]

/-- The newest version. -/
def lastV (l : List Ver) : Ver := l.getD (l.length - 1) dV
/-- Its number, where it is live; else 0. -/
def nowC (c : Cel) : Nat := if (lastV c.l).st = 1 then (lastV c.l).n else 0
def sizeL : List Ver → Nat
  | [] => 0
  | v :: t => v.tx.size + sizeL t
theorem sizeL_append (a b : List Ver) : sizeL (a ++ b) = sizeL a + sizeL b := by
  induction a with
  | nil => simp [sizeL]
  | cons v t ih => simp [sizeL, ih]; omega
theorem sizeL_snoc {l : List Ver} {k : Nat} (hk : k < l.length) : sizeL (l.take (k + 1)) = sizeL (l.take k) + (l.getD k dV).tx.size := by
  rw [List.take_succ_eq_append_getElem hk, sizeL_append, List.getD_eq_getElem?_getD, List.getElem?_eq_getElem hk]; rfl

set_option maxRecDepth 100000 in
set_option maxHeartbeats 1000000 in
theorem cell_size (c : Cel) (v : Value) (w : World) (hv : IsVers w v c.l) (hl : c.l.length ≤ 65536) (hs : ∀ i, i < c.l.length → (c.l.getD i dV).tx.size ≤ 140737488351232) :
    Calls Tryd.prog 42 #[.agg #[.int .u64 c.last, v]] w fun e w' => e = .returned (.int .i64 (sizeL c.l)) ∧ Below w.heap.size w w' := by
  obtain ⟨cl, L⟩ := c
  obtain ⟨a, cap, rfl, hc⟩ := hv
  simp only at hc hl hs ⊢
  have HC := Lib.hid hc; have Hs := Lib.hid hs; clear hc hs
  go_enter Tryd.func42, Tryd.ntmps42
  go_wp2
  go_loopw [2, 8] (fun n i wr => ∃ k N : Nat, k ≤ L.length ∧ i = .int .i64 k ∧ n = .int .i64 N ∧ Hid (N = sizeL (L.take k)) ∧ Hid (N ≤ k * 140737488351232) ∧ Hid (Below w.heap.size w wr)) (fun _ i _ => L.length - (intOf i).toNat)
  case atStart => exact ⟨0, 0, Nat.zero_le _, rfl, rfl, Lib.hid rfl, Lib.hid (by omega), Lib.hid ((Below.refl _ _).alloc (Nat.le_refl _) _)⟩
  case round =>
    obtain ⟨k, N, hk, rfl, rfl, hN, hNb, hbw⟩ := hrel
    have hsz := hbw.out.size
    have hNs : N ≤ 9223372036854775807 := by have := hNb.out; omega
    by_cases hlt : k < L.length
    · rcases HC.out with hn | ⟨b, off, rfl, hblt, hcc⟩
      · subst hn; simp at hlt
      obtain ⟨h1, h2, h3⟩ := hcc k hlt
      have g1 := (hbw.out.cell (p := ⟨b, off + k * 3, none⟩) hblt).trans h1
      have g2 := (hbw.out.cell (p := ⟨b, off + k * 3 + 1, none⟩) hblt).trans h2
      have g3 := (hbw.out.cell (p := ⟨b, off + k * 3 + 2, none⟩) hblt).trans h3
      have hx0 := Hs.out k hlt
      clear h1 h2 h3 hcc
      obtain ⟨x, hx⟩ : ∃ x, x = L.getD k dV := ⟨_, rfl⟩
      rw [← hx] at g1 g2 g3 hx0
      have Hx := Lib.hid hx; clear hx
      have hNx : N + x.tx.size ≤ 9223372036854775807 := by have := hNb.out; omega
      have Hx0 := Lib.hid hx0; clear hx0
      go_wp2
      go_roundw
      case rel => exact ⟨k + 1, N + x.tx.size, by omega, by go_num, by go_num, Lib.hid (by rw [sizeL_snoc hlt, ← hN.out, ← Hx.out]), Lib.hid (by have := hNb.out; have := Hx0.out; omega), Lib.hid (hbw.out.alloc hsz _)⟩
      case measure => simp [intOf]; omega
    · have hge : (L.length : Int) ≤ (k : Int) := by omega
      have H : Hid (N = sizeL L) := Lib.hid (by have := hN.out; rw [List.take_of_length_le (by omega)] at this; exact this)
      go_wp2
      go_ret
      exact ⟨ret_int (by rw [H.out]), hbw.out⟩
end Go.Proofs.YtbmmabpglkojkaaDoor
