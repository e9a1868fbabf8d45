/- Plain: points and whose they are, as a list of puts; the map that holds them. -/
import Derived.Test.YtggdkfijioeijaaGreatDoorQa05
import Derived.Test.YtggdkfijioeijaaGreatDoorQa09
namespace Go.Proofs.YtggdkfijioeijaaGreatDoor
open Go Go.RowKit Go.Maps
def lastOf (ps : List (Nat × Nat)) (p : Nat) : Option Nat := (ps.reverse.find? (fun x => x.1 == p)).map (·.2)
theorem lastOf_snoc (ps : List (Nat × Nat)) (p s q : Nat) : lastOf (ps ++ [(p, s)]) q = if q = p then some s else lastOf ps q := by
  unfold lastOf
  rw [List.reverse_append]
  by_cases e : q = p
  · subst e; simp
  · simp [e, show (p == q) = false by simpa using fun h => e h.symm]
theorem lastOf_none {ps : List (Nat × Nat)} {p : Nat} : lastOf ps p = none ↔ ∀ x ∈ ps, x.1 ≠ p := by
  unfold lastOf
  simp
theorem lastOf_mem {ps : List (Nat × Nat)} {p s : Nat} (h : lastOf ps p = some s) : (p, s) ∈ ps := by
  unfold lastOf at h
  obtain ⟨x, hx, rfl⟩ := Option.map_eq_some_iff.1 h
  have h1 := List.mem_of_find?_eq_some hx
  have h2 := List.find?_some hx
  simp only [beq_iff_eq] at h2
  rw [← h2]; simpa using h1
theorem kN_ne {p q : Nat} (e : ¬ q = p) : kN (q : Int) ≠ kN (p : Int) := by
  intro h
  have h : ((q : Nat) : Int) = ((p : Nat) : Int) := by simpa [kN] using h
  omega
structure ByM {H : Type} (D : DataW H) (ps : List (Nat × Nat)) : Prop where
  has : ∀ p : Nat, Maps.has D (kN p) = (lastOf ps p).isSome
  val : ∀ p s : Nat, lastOf ps p = some s → ∀ z, D.atKey (kN p) z = .lit (.int .u32 s)
  neg : ∀ x : Int, Maps.has D (kN x) = true → 0 ≤ x
theorem ByM.nil {H : Type} : ByM (.map [] : DataW H) [] := ⟨fun p => by simp [lastOf]; rfl, fun p s h => by simp [lastOf] at h, fun x h => by cases h⟩
theorem kN_key (p : Int) : WideAt.IsKeyLit (kN p) := trivial
theorem ByM.put {H : Type} {D : DataW H} {ps : List (Nat × Nat)} (h : ByM D ps) (hD : IsMap D) (p s : Nat) : ByM (D.put (kN p) (.lit (.int .u32 s))) (ps ++ [(p, s)]) := by
  refine ⟨fun q => ?_, fun q t hq z => ?_, fun x hx => ?_⟩
  · rw [lastOf_snoc]
    by_cases e : q = p
    · subst e; rw [Maps.has_put_same hD (kN_key _)]; simp
    · rw [Maps.has_put_other (kN_ne e), h.has q, if_neg e]
  · rw [lastOf_snoc] at hq
    by_cases e : q = p
    · subst e; rw [if_pos rfl] at hq; cases hq
      rw [Maps.atKey_put_same hD (kN_key _)]
    · rw [if_neg e] at hq
      rw [Maps.atKey_put_other (kN_ne e)]; exact h.val q t hq z
  · by_cases e : x = (p : Int)
    · rw [e]; exact Int.natCast_nonneg _
    · have hne : kN x ≠ kN (p : Int) := fun he => e (by simpa [kN] using he)
      rw [Maps.has_put_other hne] at hx; exact h.neg x hx

abbrev Sd : Type := Nat × { s : Nat // s < 4294967296 }
abbrev encSd (x : Sd) : Array Value := #[.int .i64 (x.1 : Int), .int .u32 (x.2.1 : Int)]
def nthSd (l : List { s : Nat // s < 4294967296 }) (N j : Nat) : Sd := (N - 1 - j, l.getD (N - 1 - j) ⟨0, by decide⟩)
theorem upto_rev (l : List { s : Nat // s < 4294967296 }) : (upto (nthSd l l.length) l.length).map (fun x => x.2.1) = (l.map (·.1)).reverse := by
  refine List.ext_getElem (by simp [upto]) (fun i h1 h2 => ?_)
  have hi : i < l.length := by simpa [upto] using h1
  simp only [upto, List.map_map, List.getElem_map, List.getElem_range, List.getElem_reverse, Function.comp_apply, nthSd, List.length_map]
  rw [List.getD_eq_getElem?_getD, List.getElem?_eq_getElem (by omega)]; rfl

attribute [local go_sem] Oper.semAt_some
open Go.Shelf in
set_option maxRecDepth 100000 in
set_option maxHeartbeats 2000000 in
theorem backward_stops (n : Nat) (hn : 1 ≤ n) (Bs b off cap N : Nat) (f : Nat → Sd) (hf : ∀ j, j < N → (f j).1 = N - 1 - j) (hreach : N ≤ 1000000) (w : World) (Kp : World → World → Prop) (hBl : Bs < w.heap.size) (hbl : b < w.heap.size)
    (hKc : ∀ A B, Kp A B → ∀ p : Addr, p.block = Bs ∨ p.block = b → B.cell? p = A.cell? p)
    (hBs : w.cell? ⟨Bs, 0, none⟩ = some (.slice (some ⟨b, off, none⟩) N cap)) (hc : ∀ j, j < N → w.cell? ⟨b, off + (N - 1 - j), none⟩ = some (.int .u32 ((f j).2.1 : Int))) :
    SeqStopsK Fence.wide n Tryz.prog 85 #[.pointer (some ⟨Bs, 0, none⟩)] encSd Kp (fun ys => ys = upto f N) (fun _ => True) N w := fun l J Jx W hW _ _ hY h0 => by
  have hBs2 : W.cell? ⟨Bs, 0, none⟩ = some (.slice (some ⟨b, off, none⟩) N cap) := (hW.cell (p := ⟨Bs, 0, none⟩) hBl).trans hBs
  have hc2 : ∀ j, j < N → W.cell? ⟨b, off + (N - 1 - j), none⟩ = some (.int .u32 ((f j).2.1 : Int)) := fun j hj => (hW.cell (p := ⟨b, off + (N - 1 - j), none⟩) hbl).trans (hc j hj)
  have HB := Lib.hid hBs2; have HC := Lib.hid hc2; have HF := Lib.hid hf; have HKc := Lib.hid hKc
  clear hBs2 hc2 hf hKc hBs hc hW
  refine callsIn_of_wp Tryz.func85 rfl trivial ?_ rfl
  simp only [Tryz.ntmps85, List.size_toArray, List.length_cons, List.length_nil, Nat.reduceAdd, Nat.reduceSub, Array.replicate_succ, Array.replicate_zero, List.push_toArray, List.append_toArray, List.nil_append, List.cons_append]
  have hbx0 := HB.out
  gi_wp2
  clear hbx0
  gi_loopw [3] (fun i wr => ∃ k : Nat, k ≤ N ∧ i = .int .i64 ((N : Int) - 1 - (k : Int)) ∧ J (upto f k) wr ∧ Hid (wr.cell? ⟨Bs, 0, none⟩ = some (.slice (some ⟨b, off, none⟩) N cap)) ∧ Hid (∀ j, j < N → wr.cell? ⟨b, off + (N - 1 - j), none⟩ = some (.int .u32 ((f j).2.1 : Int))))
    (fun i _ => (intOf i + 1).toNat)
  case atStart => exact ⟨0, Nat.zero_le _, by congr 1; omega, h0, HB, HC⟩
  case round =>
    obtain ⟨k, hk, rfl, hJs, HB2, HC2⟩ := hrel
    by_cases hlt : k < N
    · obtain ⟨m, hm, hm2⟩ : ∃ m : Nat, (N : Int) - 1 - (k : Int) = (m : Int) ∧ N - 1 - k = m := ⟨N - 1 - k, by omega, rfl⟩
      have hcx' := HC2.out k hlt
      have hbx := HB2.out
      rw [hm2] at hcx'
      have hyy := hY _ (f k) wr hJs (by rw [upto_length]; exact hlt)
      have hi1 := HF.out k hlt
      rw [hm2] at hi1
      obtain ⟨fn, tmps, assign, body, hy, hR⟩ := hyy
      obtain ⟨x1, hx1⟩ : ∃ x1, (f k).2.1 = x1 := ⟨_, rfl⟩
      simp only [encSd, hi1, hx1] at hy
      rw [hx1] at hcx'
      have hmN : m < N := by omega
      have HM := Lib.hid hm
      rw [hm]
      clear hm hm2 hi1 hx1
      gi_wp2
      refine hR.mono ?_
      rintro e W3 (⟨rfl, hJ3, hk3⟩ | ⟨rfl, hJx3⟩)
      · gi_wp2
        go_roundw
        case rel => exact ⟨k + 1, by omega, by have := HM.out; congr 1; omega, by rw [upto_succ]; exact hJ3, Lib.hid ((HKc.out _ _ hk3 _ (Or.inl rfl)).trans HB2.out), Lib.hid (fun j hj => (HKc.out _ _ hk3 _ (Or.inr rfl)).trans (HC2.out j hj))⟩
        case measure => simp [intOf]
      · gi_wp2
        refine bodyPost_ret (results_none rfl _ _ _) rfl ?_
        exact ⟨⟨_, rfl⟩, .inr ⟨_, trivial, hJx3⟩⟩
    · obtain rfl : k = N := by omega
      gi_wp2
      go_end0
      exact ⟨⟨_, rfl⟩, .inl ⟨_, rfl, hJs⟩⟩
end Go.Proofs.YtggdkfijioeijaaGreatDoor
