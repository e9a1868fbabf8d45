/- Contract: sha.turned. -/
import Derived.Test.YthcmcjoenepkbaaGreatWordG
namespace Go.Proofs.YthcmcjoenepkbaaGreat
open Go Go.RowKit

def mix (x : Nat) (ks : List Nat) : Nat := ks.foldl (fun y k => y ^^^ Sh.turn x k) 0
theorem mix_lt {x : Nat} (hx : x < 4294967296) (ks : List Nat) : mix x ks < 4294967296 := by
  unfold mix
  have : ∀ (l : List Nat) (y : Nat), y < 4294967296 → l.foldl (fun y k => y ^^^ Sh.turn x k) y < 4294967296 := by
    intro l
    induction l with
    | nil => intro y h; exact h
    | cons a l ih => intro y h; exact ih _ (Sh.xor_lt h (Sh.turn_lt hx))
  exact this ks 0 (by decide)
theorem mix_snoc (x : Nat) (ks : List Nat) (k : Nat) : mix x (ks ++ [k]) = mix x ks ^^^ Sh.turn x k := by simp [mix]

set_option maxRecDepth 100000 in
set_option maxHeartbeats 2000000 in
theorem sha_turned (x : Nat) (hx : x < 4294967296) (ks : List Nat) (hk : ∀ j, j < ks.length → 0 < ks.getD j 0 ∧ ks.getD j 0 < 32) (hl : ks.length ≤ 10) (b : Nat) (cap : Nat) (t : TypeId) (w : World)
    (hb : w.heap[b]? = some (.cells (ks.map (fun k : Nat => Value.int .i64 (k : Int))).toArray t (0, 0))) :
    Calls Tryz.prog 112 #[.int .u32 (x : Int), .slice (some ⟨b, 0, none⟩) ks.length cap] w fun e w' => e = .returned (.int .u32 (mix x ks : Nat)) ∧ Below w.heap.size w w' := by
  have hlt : b < w.heap.size := lt_of_block hb
  have hc : ∀ j, j < ks.length → w.cell? ⟨b, j, none⟩ = some (.int .i64 ((ks.getD j 0 : Nat) : Int)) := by
    intro j hj
    unfold World.cell?
    simp only [hb]
    simp [List.getD_eq_getElem?_getD, hj]
  have Hc := Lib.hid hc; have Hk := Lib.hid hk; clear hc hb hk
  go_enter Tryz.func112, Tryz.ntmps112
  go_wp2_with fail
  go_loopw [4, 9] (fun vy i wr => ∃ k : Nat, k ≤ ks.length ∧ i = .int .i64 k ∧ vy = .int .u32 (mix x (ks.take k) : Nat) ∧ Hid (Below w.heap.size w wr)) (fun _ i _ => ks.length - (intOf i).toNat)
  case atStart => exact ⟨0, Nat.zero_le _, rfl, rfl, Lib.hid (Below.refl _ _)⟩
  case round =>
    obtain ⟨k, hkl, rfl, rfl, Hbw⟩ := hrel
    by_cases hlt2 : k < ks.length
    · have hcx := (Hbw.out.cell (p := ⟨b, k, none⟩) hlt).trans (Hc.out k hlt2)
      obtain ⟨h0, h31⟩ := Hk.out k hlt2
      obtain ⟨m, hm⟩ : ∃ m, ks.getD k 0 = m := ⟨_, rfl⟩
      rw [hm] at hcx h0 h31
      obtain ⟨y, hy⟩ : ∃ y, mix x (ks.take k) = y := ⟨_, rfl⟩
      have hyl : y < 4294967296 := hy ▸ mix_lt hx _
      obtain ⟨z, hz⟩ : ∃ z, Sh.turn x m = z := ⟨_, rfl⟩
      have hzl : z < 4294967296 := hz ▸ Sh.turn_lt hx
      have ex := u32_xor_nat y z hyl hzl
      have hn : mix x (ks.take (k + 1)) = y ^^^ z := by
        rw [List.take_add_one, show ks[k]? = some m by rw [← hm, List.getD_eq_getElem?_getD, List.getElem?_eq_getElem hlt2]; rfl]
        rw [← hy, ← hz]; exact mix_snoc _ _ _
      have HN := Lib.hid hn; have HT := Lib.hid (word_Turn x m hx h0 h31 wr)
      rw [hy]
      rw [hz] at HT
      clear hn hm hy hz h0 h31
      go_wp2_with (go_at_call 119; refine HT.out.mono ?_; rintro e w1 ⟨rfl, hb1⟩; have Hb1 := Lib.hid hb1; clear hb1)
      go_roundw
      case rel => exact ⟨k + 1, by omega, by go_num, by rw [HN.out], Lib.hid (Hbw.out.trans (Hb1.out.mono Hbw.out.size))⟩
      case measure => simp [intOf]; omega
    · obtain rfl : k = ks.length := by omega
      rw [List.take_length]
      go_wp2_with fail
      go_ret
      exact ⟨rfl, Hbw.out⟩
end Go.Proofs.YthcmcjoenepkbaaGreat
