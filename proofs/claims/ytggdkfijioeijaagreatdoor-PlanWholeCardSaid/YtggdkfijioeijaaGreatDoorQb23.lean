/- Region lemmas of PlanWhole: region 33, kinds 1 and 3. Region lemma of PlanWhole: region 33, kind 2: the values of what is laid in a call hang on the order. -/
import Derived.Test.YtggdkfijioeijaaGreatDoorQb22
namespace Go.Proofs.YtggdkfijioeijaaGreatDoor
open Go Go.RowKit
theorem yield_und {ops : Array Oper} {base : Array Value} {lo n : Nat} {f : Nat → Value} {j o : Nat} {op : Oper} (hop : ops[j]? = some op) (hd : op.dst = some (lo + o)) (h : lo + n ≤ base.size) (ho : o < n) (hv : f o = undef) : yielded ops (FsO base lo n f) j = none := by
 unfold yielded
 rw [hop]
 simp only [Option.bind_some, hd]
 rw [FsO_get? o h ho, hv]; rfl
theorem wanted_und {o : Oper} {y : Nat → Option Bool} {j : Nat} {b' : Bool} (h : o.guard = some (j, b')) (hy : y j = none) : Region.wanted o y = false := by
 unfold Region.wanted; rw [h]; simp only [hy]; cases b' <;> rfl
noncomputable def ops33 : Array Oper := ((Tryz.f4.body.bind (findReg 33)).getD #[])
set_option maxRecDepth 100000 in
set_option maxHeartbeats 4000000 in
theorem reg33a {C : World → Prop} {Q : Act → Prop} (base : Array Value) (hz : base.size = 416) (B : Nat)
  (s9 : base.getD 9 undef = .pointer (some ⟨B, 0, none⟩))
  (hC : ∀ w', C w' → w'.cell? ⟨B, 0, none⟩ = some (.int .u8 1))
  (hQ : ∀ f : Nat → Value, f 60 = .bool false → Q (AF base 267 61 f)) : wpQuiet Tryz.prog ops33 C Q ops33.toList ⟨base, []⟩ := by
 have hsz : 267 + 61 ≤ base.size := by omega
 have hb : (⟨base, []⟩ : Act) = AF base 267 61 (fun o => base.getD (267 + o) undef) := by
  show (⟨base, []⟩ : Act) = ⟨FsO base 267 61 _, []⟩
  rw [← FsO_self]
 rw [hb]
 conv => arg 2; whnf
 conv => arg 5; whnf
 clear hb
 refine (qf_step 0 ?_ ?_ ?_ (.pointer (some ⟨B, 0, none⟩)) (fun w' hw' => ?_) ?_ : _)
 ·exact rfl
 ·decide
 ·exact wanted_none rfl
 ·simp only [execOp, AF_eval hsz]
  go_simp
 refine (qf_step 1 ?_ ?_ ?_ (.int .u8 1) (fun w' hw' => ?_) ?_ : _)
 ·exact rfl
 ·decide
 ·exact wanted_none rfl
 ·have k0 := hC w' hw'
  simp only [execOp, AF_eval hsz, fPut]
  go_simp
 refine (qf_step 2 ?_ ?_ ?_ (.bool false) (fun w' hw' => ?_) ?_ : _)
 ·exact rfl
 ·decide
 ·exact wanted_none rfl
 ·simp only [execOp, AF_eval hsz, fPut]
  go_simp
 refine (qf_step 3 ?_ ?_ ?_ (.bool false) (fun w' hw' => ?_) ?_ : _)
 ·exact rfl
 ·decide
 ·exact wanted_none rfl
 ·simp only [execOp, AF_eval hsz, fPut]
  go_simp
 refine (qf_skip 4 ?_ ?_ ?_ ?_ : _)
 ·exact rfl
 ·decide
 ·exact wanted_some rfl (yield_in (o := 3) rfl rfl hsz (by decide) rfl) rfl
 refine (qf_skip 5 ?_ ?_ ?_ ?_ : _)
 ·exact rfl
 ·decide
 ·exact wanted_some rfl (yield_in (o := 3) rfl rfl hsz (by decide) rfl) rfl
 refine (qf_skip 6 ?_ ?_ ?_ ?_ : _)
 ·exact rfl
 ·decide
 ·exact wanted_some rfl (yield_in (o := 3) rfl rfl hsz (by decide) rfl) rfl
 refine (qf_skip 7 ?_ ?_ ?_ ?_ : _)
 ·exact rfl
 ·decide
 ·exact wanted_some rfl (yield_in (o := 3) rfl rfl hsz (by decide) rfl) rfl
 refine (qf_skip 8 ?_ ?_ ?_ ?_ : _)
 ·exact rfl
 ·decide
 ·exact wanted_some rfl (yield_in (o := 3) rfl rfl hsz (by decide) rfl) rfl
 refine (qf_skip 9 ?_ ?_ ?_ ?_ : _)
 ·exact rfl
 ·decide
 ·exact wanted_some rfl (yield_in (o := 3) rfl rfl hsz (by decide) rfl) rfl
 refine (qf_step 10 ?_ ?_ ?_ (.bool false) (fun w' hw' => ?_) ?_ : _)
 ·exact rfl
 ·decide
 ·exact wanted_none rfl
 ·simp only [execOp, AF_eval hsz, fPut]
  go_simp
 refine (qf_step 11 ?_ ?_ ?_ (.bool false) (fun w' hw' => ?_) ?_ : _)
 ·exact rfl
 ·decide
 ·exact wanted_none rfl
 ·simp only [execOp, AF_eval hsz, fPut]
  go_simp
 refine (qf_step 12 ?_ ?_ ?_ (.pointer (some ⟨B, 0, none⟩)) (fun w' hw' => ?_) ?_ : _)
 ·exact rfl
 ·decide
 ·exact wanted_some rfl (yield_in (o := 11) rfl rfl hsz (by decide) rfl) rfl
 ·simp only [execOp, AF_eval hsz, fPut]
  go_simp
 refine (qf_step 13 ?_ ?_ ?_ (.int .u8 1) (fun w' hw' => ?_) ?_ : _)
 ·exact rfl
 ·decide
 ·exact wanted_some rfl (yield_in (o := 11) rfl rfl hsz (by decide) rfl) rfl
 ·have k0 := hC w' hw'
  simp only [execOp, AF_eval hsz, fPut]
  go_simp
 refine (qf_step 14 ?_ ?_ ?_ (.bool false) (fun w' hw' => ?_) ?_ : _)
 ·exact rfl
 ·decide
 ·exact wanted_some rfl (yield_in (o := 11) rfl rfl hsz (by decide) rfl) rfl
 ·simp only [execOp, AF_eval hsz, fPut]
  go_simp
 refine (qf_step 15 ?_ ?_ ?_ (.bool false) (fun w' hw' => ?_) ?_ : _)
 ·exact rfl
 ·decide
 ·exact wanted_some rfl (yield_in (o := 11) rfl rfl hsz (by decide) rfl) rfl
 ·simp only [execOp, AF_eval hsz, fPut]
  go_simp
 refine (qf_skip 16 ?_ ?_ ?_ ?_ : _)
 ·exact rfl
 ·decide
 ·exact wanted_some rfl (yield_in (o := 15) rfl rfl hsz (by decide) rfl) rfl
 refine (qf_skip 17 ?_ ?_ ?_ ?_ : _)
 ·exact rfl
 ·decide
 ·exact wanted_some rfl (yield_in (o := 15) rfl rfl hsz (by decide) rfl) rfl
 refine (qf_skip 18 ?_ ?_ ?_ ?_ : _)
 ·exact rfl
 ·decide
 ·exact wanted_some rfl (yield_in (o := 15) rfl rfl hsz (by decide) rfl) rfl
 refine (qf_skip 19 ?_ ?_ ?_ ?_ : _)
 ·exact rfl
 ·decide
 ·exact wanted_some rfl (yield_in (o := 15) rfl rfl hsz (by decide) rfl) rfl
 refine (qf_skip 20 ?_ ?_ ?_ ?_ : _)
 ·exact rfl
 ·decide
 ·exact wanted_und rfl (yield_und (o := 19) rfl rfl hsz (by decide) rfl)
 refine (qf_skip 21 ?_ ?_ ?_ ?_ : _)
 ·exact rfl
 ·decide
 ·exact wanted_und rfl (yield_und (o := 19) rfl rfl hsz (by decide) rfl)
 refine (qf_skip 22 ?_ ?_ ?_ ?_ : _)
 ·exact rfl
 ·decide
 ·exact wanted_und rfl (yield_und (o := 19) rfl rfl hsz (by decide) rfl)
 refine (qf_skip 23 ?_ ?_ ?_ ?_ : _)
 ·exact rfl
 ·decide
 ·exact wanted_und rfl (yield_und (o := 19) rfl rfl hsz (by decide) rfl)
 refine (qf_skip 24 ?_ ?_ ?_ ?_ : _)
 ·exact rfl
 ·decide
 ·exact wanted_und rfl (yield_und (o := 19) rfl rfl hsz (by decide) rfl)
 refine (qf_skip 25 ?_ ?_ ?_ ?_ : _)
 ·exact rfl
 ·decide
 ·exact wanted_und rfl (yield_und (o := 19) rfl rfl hsz (by decide) rfl)
 refine (qf_skip 26 ?_ ?_ ?_ ?_ : _)
 ·exact rfl
 ·decide
 ·exact wanted_und rfl (yield_und (o := 19) rfl rfl hsz (by decide) rfl)
 refine (qf_skip 27 ?_ ?_ ?_ ?_ : _)
 ·exact rfl
 ·decide
 ·exact wanted_und rfl (yield_und (o := 19) rfl rfl hsz (by decide) rfl)
 refine (qf_skip 28 ?_ ?_ ?_ ?_ : _)
 ·exact rfl
 ·decide
 ·exact wanted_und rfl (yield_und (o := 19) rfl rfl hsz (by decide) rfl)
 refine (qf_skip 29 ?_ ?_ ?_ ?_ : _)
 ·exact rfl
 ·decide
 ·exact wanted_some rfl (yield_in (o := 15) rfl rfl hsz (by decide) rfl) rfl
 refine (qf_skip 30 ?_ ?_ ?_ ?_ : _)
 ·exact rfl
 ·decide
 ·exact wanted_some rfl (yield_in (o := 15) rfl rfl hsz (by decide) rfl) rfl
 refine (qf_skip 31 ?_ ?_ ?_ ?_ : _)
 ·exact rfl
 ·decide
 ·exact wanted_und rfl (yield_und (o := 30) rfl rfl hsz (by decide) rfl)
 refine (qf_skip 32 ?_ ?_ ?_ ?_ : _)
 ·exact rfl
 ·decide
 ·exact wanted_und rfl (yield_und (o := 30) rfl rfl hsz (by decide) rfl)
 refine (qf_skip 33 ?_ ?_ ?_ ?_ : _)
 ·exact rfl
 ·decide
 ·exact wanted_und rfl (yield_und (o := 30) rfl rfl hsz (by decide) rfl)
 refine (qf_skip 34 ?_ ?_ ?_ ?_ : _)
 ·exact rfl
 ·decide
 ·exact wanted_und rfl (yield_und (o := 30) rfl rfl hsz (by decide) rfl)
 refine (qf_skip 35 ?_ ?_ ?_ ?_ : _)
 ·exact rfl
 ·decide
 ·exact wanted_und rfl (yield_und (o := 30) rfl rfl hsz (by decide) rfl)
 refine (qf_skip 36 ?_ ?_ ?_ ?_ : _)
 ·exact rfl
 ·decide
 ·exact wanted_und rfl (yield_und (o := 30) rfl rfl hsz (by decide) rfl)
 refine (qf_skip 37 ?_ ?_ ?_ ?_ : _)
 ·exact rfl
 ·decide
 ·exact wanted_und rfl (yield_und (o := 30) rfl rfl hsz (by decide) rfl)
 refine (qf_skip 38 ?_ ?_ ?_ ?_ : _)
 ·exact rfl
 ·decide
 ·exact wanted_und rfl (yield_und (o := 30) rfl rfl hsz (by decide) rfl)
 refine (qf_skip 39 ?_ ?_ ?_ ?_ : _)
 ·exact rfl
 ·decide
 ·exact wanted_und rfl (yield_und (o := 30) rfl rfl hsz (by decide) rfl)
 refine (qf_skip 40 ?_ ?_ ?_ ?_ : _)
 ·exact rfl
 ·decide
 ·exact wanted_some rfl (yield_in (o := 15) rfl rfl hsz (by decide) rfl) rfl
 refine (qf_skip 41 ?_ ?_ ?_ ?_ : _)
 ·exact rfl
 ·decide
 ·exact wanted_some rfl (yield_in (o := 15) rfl rfl hsz (by decide) rfl) rfl
 refine (qf_skip 42 ?_ ?_ ?_ ?_ : _)
 ·exact rfl
 ·decide
 ·exact wanted_und rfl (yield_und (o := 41) rfl rfl hsz (by decide) rfl)
 refine (qf_skip 43 ?_ ?_ ?_ ?_ : _)
 ·exact rfl
 ·decide
 ·exact wanted_und rfl (yield_und (o := 41) rfl rfl hsz (by decide) rfl)
 refine (qf_skip 44 ?_ ?_ ?_ ?_ : _)
 ·exact rfl
 ·decide
 ·exact wanted_und rfl (yield_und (o := 41) rfl rfl hsz (by decide) rfl)
 refine (qf_skip 45 ?_ ?_ ?_ ?_ : _)
 ·exact rfl
 ·decide
 ·exact wanted_und rfl (yield_und (o := 41) rfl rfl hsz (by decide) rfl)
 refine (qf_skip 46 ?_ ?_ ?_ ?_ : _)
 ·exact rfl
 ·decide
 ·exact wanted_und rfl (yield_und (o := 41) rfl rfl hsz (by decide) rfl)
 refine (qf_skip 47 ?_ ?_ ?_ ?_ : _)
 ·exact rfl
 ·decide
 ·exact wanted_und rfl (yield_und (o := 41) rfl rfl hsz (by decide) rfl)
 refine (qf_skip 48 ?_ ?_ ?_ ?_ : _)
 ·exact rfl
 ·decide
 ·exact wanted_und rfl (yield_und (o := 41) rfl rfl hsz (by decide) rfl)
 refine (qf_skip 49 ?_ ?_ ?_ ?_ : _)
 ·exact rfl
 ·decide
 ·exact wanted_some rfl (yield_in (o := 15) rfl rfl hsz (by decide) rfl) rfl
 refine (qf_skip 50 ?_ ?_ ?_ ?_ : _)
 ·exact rfl
 ·decide
 ·exact wanted_some rfl (yield_in (o := 15) rfl rfl hsz (by decide) rfl) rfl
 refine (qf_skip 51 ?_ ?_ ?_ ?_ : _)
 ·exact rfl
 ·decide
 ·exact wanted_und rfl (yield_und (o := 50) rfl rfl hsz (by decide) rfl)
 refine (qf_skip 52 ?_ ?_ ?_ ?_ : _)
 ·exact rfl
 ·decide
 ·exact wanted_und rfl (yield_und (o := 50) rfl rfl hsz (by decide) rfl)
 refine (qf_skip 53 ?_ ?_ ?_ ?_ : _)
 ·exact rfl
 ·decide
 ·exact wanted_und rfl (yield_und (o := 50) rfl rfl hsz (by decide) rfl)
 refine (qf_skip 54 ?_ ?_ ?_ ?_ : _)
 ·exact rfl
 ·decide
 ·exact wanted_und rfl (yield_und (o := 50) rfl rfl hsz (by decide) rfl)
 refine (qf_skip 55 ?_ ?_ ?_ ?_ : _)
 ·exact rfl
 ·decide
 ·exact wanted_und rfl (yield_und (o := 50) rfl rfl hsz (by decide) rfl)
 refine (qf_skip 56 ?_ ?_ ?_ ?_ : _)
 ·exact rfl
 ·decide
 ·exact wanted_und rfl (yield_und (o := 50) rfl rfl hsz (by decide) rfl)
 refine (qf_skip 57 ?_ ?_ ?_ ?_ : _)
 ·exact rfl
 ·decide
 ·exact wanted_und rfl (yield_und (o := 50) rfl rfl hsz (by decide) rfl)
 refine (qf_skip 58 ?_ ?_ ?_ ?_ : _)
 ·exact rfl
 ·decide
 ·exact wanted_some rfl (yield_in (o := 15) rfl rfl hsz (by decide) rfl) rfl
 refine (qf_step 59 ?_ ?_ ?_ (.bool false) (fun w' hw' => ?_) ?_ : _)
 ·exact rfl
 ·decide
 ·exact wanted_some rfl (yield_in (o := 11) rfl rfl hsz (by decide) rfl) rfl
 ·simp only [execOp, AF_eval hsz, fPut]
  go_simp
 refine (qf_step 60 ?_ ?_ ?_ (.bool false) (fun w' hw' => ?_) ?_ : _)
 ·exact rfl
 ·decide
 ·exact wanted_none rfl
 ·simp only [execOp, AF_eval hsz, fPut]
  go_simp
 refine (wpQuiet_nil ?_ : _)
 exact hQ _ rfl
-- ops33 is above: ops33x : Array Oper := ((Tryz.f4.body.bind (findReg 33)).getD #[])
set_option maxRecDepth 100000 in
set_option maxHeartbeats 4000000 in
theorem reg33c {C : World → Prop} {Q : Act → Prop} (base : Array Value) (hz : base.size = 416) (B b1 o1 i c1 f t : Nat) (d0 d1 t0 t1 : Bool)
  (s9 : base.getD 9 undef = .pointer (some ⟨B, 0, none⟩)) (s15 : base.getD 15 undef = .slice (some ⟨b1, o1, none⟩) i c1)
  (hC : ∀ w', C w' → w'.cell? ⟨B, 0, none⟩ = some (.int .u8 3) ∧ w'.cell? ⟨b1, o1 + 7, none⟩ = some (.bool d0) ∧ w'.cell? ⟨b1, o1 + 8, none⟩ = some (.bool t0) ∧ w'.cell? ⟨b1, o1 + 9, none⟩ = some (.int .u64 (f : Int)) ∧ w'.cell? ⟨b1, o1 + 10, none⟩ = some (.int .u64 (t : Int)) ∧ w'.cell? ⟨b1, o1 + 11 + 7, none⟩ = some (.bool d1) ∧ w'.cell? ⟨b1, o1 + 11 + 8, none⟩ = some (.bool t1) ∧ w'.cell? ⟨b1, o1 + 11 + 9, none⟩ = some (.int .u64 (f : Int)) ∧ w'.cell? ⟨b1, o1 + 11 + 10, none⟩ = some (.int .u64 (t : Int)) ∧ w'.cell? ⟨B, 4, none⟩ = some (.int .u64 (f : Int)) ∧ w'.cell? ⟨B, 5, none⟩ = some (.int .u64 (t : Int))) (hib2 : ((i : Int) != 2) = false) (hi0n : ¬ i = 0) (_hi0i : (0 : Int) < (i : Int)) (hi1i : (1 : Int) < (i : Int)) (hgg : (d0 == d1) = false) (htt : (t0 == t1) = false)
  (hQ : ∀ f : Nat → Value, f 60 = .bool false → Q (AF base 267 61 f)) : wpQuiet Tryz.prog ops33 C Q ops33.toList ⟨base, []⟩ := by
 have hsz : 267 + 61 ≤ base.size := by omega
 have hb : (⟨base, []⟩ : Act) = AF base 267 61 (fun o => base.getD (267 + o) undef) := by
  show (⟨base, []⟩ : Act) = ⟨FsO base 267 61 _, []⟩
  rw [← FsO_self]
 rw [hb]
 conv => arg 2; whnf
 conv => arg 5; whnf
 clear hb
 refine (qf_step 0 ?_ ?_ ?_ (.pointer (some ⟨B, 0, none⟩)) (fun w' hw' => ?_) ?_ : _)
 ·exact rfl
 ·decide
 ·exact wanted_none rfl
 ·simp only [execOp, AF_eval hsz]
  go_simp
 refine (qf_step 1 ?_ ?_ ?_ (.int .u8 3) (fun w' hw' => ?_) ?_ : _)
 ·exact rfl
 ·decide
 ·exact wanted_none rfl
 ·obtain ⟨k0, y7, y8, y9, y10, z7, z8, z9, z10, k4, k5⟩ := hC w' hw'
  simp only [execOp, AF_eval hsz, fPut]
  go_simp
 refine (qf_step 2 ?_ ?_ ?_ (.bool false) (fun w' hw' => ?_) ?_ : _)
 ·exact rfl
 ·decide
 ·exact wanted_none rfl
 ·simp only [execOp, AF_eval hsz, fPut]
  go_simp
 refine (qf_step 3 ?_ ?_ ?_ (.bool false) (fun w' hw' => ?_) ?_ : _)
 ·exact rfl
 ·decide
 ·exact wanted_none rfl
 ·simp only [execOp, AF_eval hsz, fPut]
  go_simp
 refine (qf_skip 4 ?_ ?_ ?_ ?_ : _)
 ·exact rfl
 ·decide
 ·exact wanted_some rfl (yield_in (o := 3) rfl rfl hsz (by decide) rfl) rfl
 refine (qf_skip 5 ?_ ?_ ?_ ?_ : _)
 ·exact rfl
 ·decide
 ·exact wanted_some rfl (yield_in (o := 3) rfl rfl hsz (by decide) rfl) rfl
 refine (qf_skip 6 ?_ ?_ ?_ ?_ : _)
 ·exact rfl
 ·decide
 ·exact wanted_some rfl (yield_in (o := 3) rfl rfl hsz (by decide) rfl) rfl
 refine (qf_skip 7 ?_ ?_ ?_ ?_ : _)
 ·exact rfl
 ·decide
 ·exact wanted_some rfl (yield_in (o := 3) rfl rfl hsz (by decide) rfl) rfl
 refine (qf_skip 8 ?_ ?_ ?_ ?_ : _)
 ·exact rfl
 ·decide
 ·exact wanted_some rfl (yield_in (o := 3) rfl rfl hsz (by decide) rfl) rfl
 refine (qf_skip 9 ?_ ?_ ?_ ?_ : _)
 ·exact rfl
 ·decide
 ·exact wanted_some rfl (yield_in (o := 3) rfl rfl hsz (by decide) rfl) rfl
 refine (qf_step 10 ?_ ?_ ?_ (.bool false) (fun w' hw' => ?_) ?_ : _)
 ·exact rfl
 ·decide
 ·exact wanted_none rfl
 ·simp only [execOp, AF_eval hsz, fPut]
  go_simp
 refine (qf_step 11 ?_ ?_ ?_ (.bool false) (fun w' hw' => ?_) ?_ : _)
 ·exact rfl
 ·decide
 ·exact wanted_none rfl
 ·simp only [execOp, AF_eval hsz, fPut]
  go_simp
 refine (qf_step 12 ?_ ?_ ?_ (.pointer (some ⟨B, 0, none⟩)) (fun w' hw' => ?_) ?_ : _)
 ·exact rfl
 ·decide
 ·exact wanted_some rfl (yield_in (o := 11) rfl rfl hsz (by decide) rfl) rfl
 ·simp only [execOp, AF_eval hsz, fPut]
  go_simp
 refine (qf_step 13 ?_ ?_ ?_ (.int .u8 3) (fun w' hw' => ?_) ?_ : _)
 ·exact rfl
 ·decide
 ·exact wanted_some rfl (yield_in (o := 11) rfl rfl hsz (by decide) rfl) rfl
 ·obtain ⟨k0, y7, y8, y9, y10, z7, z8, z9, z10, k4, k5⟩ := hC w' hw'
  simp only [execOp, AF_eval hsz, fPut]
  go_simp
 refine (qf_step 14 ?_ ?_ ?_ (.bool true) (fun w' hw' => ?_) ?_ : _)
 ·exact rfl
 ·decide
 ·exact wanted_some rfl (yield_in (o := 11) rfl rfl hsz (by decide) rfl) rfl
 ·simp only [execOp, AF_eval hsz, fPut]
  go_simp
 refine (qf_step 15 ?_ ?_ ?_ (.bool true) (fun w' hw' => ?_) ?_ : _)
 ·exact rfl
 ·decide
 ·exact wanted_some rfl (yield_in (o := 11) rfl rfl hsz (by decide) rfl) rfl
 ·simp only [execOp, AF_eval hsz, fPut]
  go_simp
 refine (qf_step 16 ?_ ?_ ?_ (.slice (some ⟨b1, o1, none⟩) i c1) (fun w' hw' => ?_) ?_ : _)
 ·exact rfl
 ·decide
 ·exact wanted_some rfl (yield_in (o := 15) rfl rfl hsz (by decide) rfl) rfl
 ·simp only [execOp, AF_eval hsz, fPut]
  go_simp
 refine (qf_step 17 ?_ ?_ ?_ (.int .i64 (i : Int)) (fun w' hw' => ?_) ?_ : _)
 ·exact rfl
 ·decide
 ·exact wanted_some rfl (yield_in (o := 15) rfl rfl hsz (by decide) rfl) rfl
 ·simp only [execOp, resolve, List.map_toArray, List.map_cons, List.map_nil, AF_eval hsz, fPut]
  go_simp
 refine (qf_step 18 ?_ ?_ ?_ (.bool false) (fun w' hw' => ?_) ?_ : _)
 ·exact rfl
 ·decide
 ·exact wanted_some rfl (yield_in (o := 15) rfl rfl hsz (by decide) rfl) rfl
 ·simp only [execOp, AF_eval hsz, fPut]
  go_simp
 refine (qf_step 19 ?_ ?_ ?_ (.bool false) (fun w' hw' => ?_) ?_ : _)
 ·exact rfl
 ·decide
 ·exact wanted_some rfl (yield_in (o := 15) rfl rfl hsz (by decide) rfl) rfl
 ·simp only [execOp, AF_eval hsz, fPut]
  go_simp
 refine (qf_step 20 ?_ ?_ ?_ (.slice (some ⟨b1, o1, none⟩) i c1) (fun w' hw' => ?_) ?_ : _)
 ·exact rfl
 ·decide
 ·exact wanted_some rfl (yield_in (o := 19) rfl rfl hsz (by decide) rfl) rfl
 ·simp only [execOp, AF_eval hsz, fPut]
  go_simp
 refine (qf_step 21 ?_ ?_ ?_ (.pointer (some ⟨b1, o1, none⟩)) (fun w' hw' => ?_) ?_ : _)
 ·exact rfl
 ·decide
 ·exact wanted_some rfl (yield_in (o := 19) rfl rfl hsz (by decide) rfl) rfl
 ·simp only [execOp, AF_eval hsz, fPut]
  go_simp
 refine (qf_step 22 ?_ ?_ ?_ (.pointer (some ⟨b1, o1 + 7, none⟩)) (fun w' hw' => ?_) ?_ : _)
 ·exact rfl
 ·decide
 ·exact wanted_some rfl (yield_in (o := 19) rfl rfl hsz (by decide) rfl) rfl
 ·simp only [execOp, AF_eval hsz, fPut]
  go_simp
 refine (qf_step 23 ?_ ?_ ?_ (.bool d0) (fun w' hw' => ?_) ?_ : _)
 ·exact rfl
 ·decide
 ·exact wanted_some rfl (yield_in (o := 19) rfl rfl hsz (by decide) rfl) rfl
 ·obtain ⟨k0, y7, y8, y9, y10, z7, z8, z9, z10, k4, k5⟩ := hC w' hw'
  simp only [execOp, AF_eval hsz, fPut]
  go_simp
 refine (qf_step 24 ?_ ?_ ?_ (.slice (some ⟨b1, o1, none⟩) i c1) (fun w' hw' => ?_) ?_ : _)
 ·exact rfl
 ·decide
 ·exact wanted_some rfl (yield_in (o := 19) rfl rfl hsz (by decide) rfl) rfl
 ·simp only [execOp, AF_eval hsz, fPut]
  go_simp
 refine (qf_step 25 ?_ ?_ ?_ (.pointer (some ⟨b1, o1 + 11, none⟩)) (fun w' hw' => ?_) ?_ : _)
 ·exact rfl
 ·decide
 ·exact wanted_some rfl (yield_in (o := 19) rfl rfl hsz (by decide) rfl) rfl
 ·simp only [execOp, AF_eval hsz, fPut]
  go_simp
 refine (qf_step 26 ?_ ?_ ?_ (.pointer (some ⟨b1, o1 + 11 + 7, none⟩)) (fun w' hw' => ?_) ?_ : _)
 ·exact rfl
 ·decide
 ·exact wanted_some rfl (yield_in (o := 19) rfl rfl hsz (by decide) rfl) rfl
 ·simp only [execOp, AF_eval hsz, fPut]
  go_simp
 refine (qf_step 27 ?_ ?_ ?_ (.bool d1) (fun w' hw' => ?_) ?_ : _)
 ·exact rfl
 ·decide
 ·exact wanted_some rfl (yield_in (o := 19) rfl rfl hsz (by decide) rfl) rfl
 ·obtain ⟨k0, y7, y8, y9, y10, z7, z8, z9, z10, k4, k5⟩ := hC w' hw'
  simp only [execOp, AF_eval hsz, fPut]
  go_simp
 refine (qf_step 28 ?_ ?_ ?_ (.bool false) (fun w' hw' => ?_) ?_ : _)
 ·exact rfl
 ·decide
 ·exact wanted_some rfl (yield_in (o := 19) rfl rfl hsz (by decide) rfl) rfl
 ·simp only [execOp, AF_eval hsz, fPut]
  go_simp
 refine (qf_step 29 ?_ ?_ ?_ (.bool false) (fun w' hw' => ?_) ?_ : _)
 ·exact rfl
 ·decide
 ·exact wanted_some rfl (yield_in (o := 15) rfl rfl hsz (by decide) rfl) rfl
 ·simp only [execOp, AF_eval hsz, fPut]
  go_simp
 refine (qf_step 30 ?_ ?_ ?_ (.bool false) (fun w' hw' => ?_) ?_ : _)
 ·exact rfl
 ·decide
 ·exact wanted_some rfl (yield_in (o := 15) rfl rfl hsz (by decide) rfl) rfl
 ·simp only [execOp, AF_eval hsz, fPut]
  go_simp
 refine (qf_step 31 ?_ ?_ ?_ (.slice (some ⟨b1, o1, none⟩) i c1) (fun w' hw' => ?_) ?_ : _)
 ·exact rfl
 ·decide
 ·exact wanted_some rfl (yield_in (o := 30) rfl rfl hsz (by decide) rfl) rfl
 ·simp only [execOp, AF_eval hsz, fPut]
  go_simp
 refine (qf_step 32 ?_ ?_ ?_ (.pointer (some ⟨b1, o1, none⟩)) (fun w' hw' => ?_) ?_ : _)
 ·exact rfl
 ·decide
 ·exact wanted_some rfl (yield_in (o := 30) rfl rfl hsz (by decide) rfl) rfl
 ·simp only [execOp, AF_eval hsz, fPut]
  go_simp
 refine (qf_step 33 ?_ ?_ ?_ (.pointer (some ⟨b1, o1 + 8, none⟩)) (fun w' hw' => ?_) ?_ : _)
 ·exact rfl
 ·decide
 ·exact wanted_some rfl (yield_in (o := 30) rfl rfl hsz (by decide) rfl) rfl
 ·simp only [execOp, AF_eval hsz, fPut]
  go_simp
 refine (qf_step 34 ?_ ?_ ?_ (.bool t0) (fun w' hw' => ?_) ?_ : _)
 ·exact rfl
 ·decide
 ·exact wanted_some rfl (yield_in (o := 30) rfl rfl hsz (by decide) rfl) rfl
 ·obtain ⟨k0, y7, y8, y9, y10, z7, z8, z9, z10, k4, k5⟩ := hC w' hw'
  simp only [execOp, AF_eval hsz, fPut]
  go_simp
 refine (qf_step 35 ?_ ?_ ?_ (.slice (some ⟨b1, o1, none⟩) i c1) (fun w' hw' => ?_) ?_ : _)
 ·exact rfl
 ·decide
 ·exact wanted_some rfl (yield_in (o := 30) rfl rfl hsz (by decide) rfl) rfl
 ·simp only [execOp, AF_eval hsz, fPut]
  go_simp
 refine (qf_step 36 ?_ ?_ ?_ (.pointer (some ⟨b1, o1 + 11, none⟩)) (fun w' hw' => ?_) ?_ : _)
 ·exact rfl
 ·decide
 ·exact wanted_some rfl (yield_in (o := 30) rfl rfl hsz (by decide) rfl) rfl
 ·simp only [execOp, AF_eval hsz, fPut]
  go_simp
 refine (qf_step 37 ?_ ?_ ?_ (.pointer (some ⟨b1, o1 + 11 + 8, none⟩)) (fun w' hw' => ?_) ?_ : _)
 ·exact rfl
 ·decide
 ·exact wanted_some rfl (yield_in (o := 30) rfl rfl hsz (by decide) rfl) rfl
 ·simp only [execOp, AF_eval hsz, fPut]
  go_simp
 refine (qf_step 38 ?_ ?_ ?_ (.bool t1) (fun w' hw' => ?_) ?_ : _)
 ·exact rfl
 ·decide
 ·exact wanted_some rfl (yield_in (o := 30) rfl rfl hsz (by decide) rfl) rfl
 ·obtain ⟨k0, y7, y8, y9, y10, z7, z8, z9, z10, k4, k5⟩ := hC w' hw'
  simp only [execOp, AF_eval hsz, fPut]
  go_simp
 refine (qf_step 39 ?_ ?_ ?_ (.bool false) (fun w' hw' => ?_) ?_ : _)
 ·exact rfl
 ·decide
 ·exact wanted_some rfl (yield_in (o := 30) rfl rfl hsz (by decide) rfl) rfl
 ·simp only [execOp, AF_eval hsz, fPut]
  go_simp
 refine (qf_step 40 ?_ ?_ ?_ (.bool false) (fun w' hw' => ?_) ?_ : _)
 ·exact rfl
 ·decide
 ·exact wanted_some rfl (yield_in (o := 15) rfl rfl hsz (by decide) rfl) rfl
 ·simp only [execOp, AF_eval hsz, fPut]
  go_simp
 refine (qf_step 41 ?_ ?_ ?_ (.bool false) (fun w' hw' => ?_) ?_ : _)
 ·exact rfl
 ·decide
 ·exact wanted_some rfl (yield_in (o := 15) rfl rfl hsz (by decide) rfl) rfl
 ·simp only [execOp, AF_eval hsz, fPut]
  go_simp
 refine (qf_step 42 ?_ ?_ ?_ (.slice (some ⟨b1, o1, none⟩) i c1) (fun w' hw' => ?_) ?_ : _)
 ·exact rfl
 ·decide
 ·exact wanted_some rfl (yield_in (o := 41) rfl rfl hsz (by decide) rfl) rfl
 ·simp only [execOp, AF_eval hsz, fPut]
  go_simp
 refine (qf_step 43 ?_ ?_ ?_ (.pointer (some ⟨b1, o1, none⟩)) (fun w' hw' => ?_) ?_ : _)
 ·exact rfl
 ·decide
 ·exact wanted_some rfl (yield_in (o := 41) rfl rfl hsz (by decide) rfl) rfl
 ·simp only [execOp, AF_eval hsz, fPut]
  go_simp
 refine (qf_step 44 ?_ ?_ ?_ (.pointer (some ⟨b1, o1 + 9, none⟩)) (fun w' hw' => ?_) ?_ : _)
 ·exact rfl
 ·decide
 ·exact wanted_some rfl (yield_in (o := 41) rfl rfl hsz (by decide) rfl) rfl
 ·simp only [execOp, AF_eval hsz, fPut]
  go_simp
 refine (qf_step 45 ?_ ?_ ?_ (.agg #[.int .u64 (f : Int), .int .u64 (t : Int)]) (fun w' hw' => ?_) ?_ : _)
 ·exact rfl
 ·decide
 ·exact wanted_some rfl (yield_in (o := 41) rfl rfl hsz (by decide) rfl) rfl
 ·obtain ⟨k0, y7, y8, y9, y10, z7, z8, z9, z10, k4, k5⟩ := hC w' hw'
  simp only [execOp, AF_eval hsz, fPut]
  go_simp
 refine (qf_step 46 ?_ ?_ ?_ (.pointer (some ⟨B, 4, none⟩)) (fun w' hw' => ?_) ?_ : _)
 ·exact rfl
 ·decide
 ·exact wanted_some rfl (yield_in (o := 41) rfl rfl hsz (by decide) rfl) rfl
 ·simp only [execOp, AF_eval hsz, fPut]
  go_simp
 refine (qf_step 47 ?_ ?_ ?_ (.agg #[.int .u64 (f : Int), .int .u64 (t : Int)]) (fun w' hw' => ?_) ?_ : _)
 ·exact rfl
 ·decide
 ·exact wanted_some rfl (yield_in (o := 41) rfl rfl hsz (by decide) rfl) rfl
 ·obtain ⟨k0, y7, y8, y9, y10, z7, z8, z9, z10, k4, k5⟩ := hC w' hw'
  simp only [execOp, AF_eval hsz, fPut]
  go_simp
 refine (qf_step 48 ?_ ?_ ?_ (.bool false) (fun w' hw' => ?_) ?_ : _)
 ·exact rfl
 ·decide
 ·exact wanted_some rfl (yield_in (o := 41) rfl rfl hsz (by decide) rfl) rfl
 ·simp only [execOp, AF_eval hsz, fPut]
  go_simp
 refine (qf_step 49 ?_ ?_ ?_ (.bool false) (fun w' hw' => ?_) ?_ : _)
 ·exact rfl
 ·decide
 ·exact wanted_some rfl (yield_in (o := 15) rfl rfl hsz (by decide) rfl) rfl
 ·simp only [execOp, AF_eval hsz, fPut]
  go_simp
 refine (qf_step 50 ?_ ?_ ?_ (.bool false) (fun w' hw' => ?_) ?_ : _)
 ·exact rfl
 ·decide
 ·exact wanted_some rfl (yield_in (o := 15) rfl rfl hsz (by decide) rfl) rfl
 ·simp only [execOp, AF_eval hsz, fPut]
  go_simp
 refine (qf_step 51 ?_ ?_ ?_ (.slice (some ⟨b1, o1, none⟩) i c1) (fun w' hw' => ?_) ?_ : _)
 ·exact rfl
 ·decide
 ·exact wanted_some rfl (yield_in (o := 50) rfl rfl hsz (by decide) rfl) rfl
 ·simp only [execOp, AF_eval hsz, fPut]
  go_simp
 refine (qf_step 52 ?_ ?_ ?_ (.pointer (some ⟨b1, o1 + 11, none⟩)) (fun w' hw' => ?_) ?_ : _)
 ·exact rfl
 ·decide
 ·exact wanted_some rfl (yield_in (o := 50) rfl rfl hsz (by decide) rfl) rfl
 ·simp only [execOp, AF_eval hsz, fPut]
  go_simp
 refine (qf_step 53 ?_ ?_ ?_ (.pointer (some ⟨b1, o1 + 11 + 9, none⟩)) (fun w' hw' => ?_) ?_ : _)
 ·exact rfl
 ·decide
 ·exact wanted_some rfl (yield_in (o := 50) rfl rfl hsz (by decide) rfl) rfl
 ·simp only [execOp, AF_eval hsz, fPut]
  go_simp
 refine (qf_step 54 ?_ ?_ ?_ (.agg #[.int .u64 (f : Int), .int .u64 (t : Int)]) (fun w' hw' => ?_) ?_ : _)
 ·exact rfl
 ·decide
 ·exact wanted_some rfl (yield_in (o := 50) rfl rfl hsz (by decide) rfl) rfl
 ·obtain ⟨k0, y7, y8, y9, y10, z7, z8, z9, z10, k4, k5⟩ := hC w' hw'
  simp only [execOp, AF_eval hsz, fPut]
  go_simp
 refine (qf_step 55 ?_ ?_ ?_ (.pointer (some ⟨B, 4, none⟩)) (fun w' hw' => ?_) ?_ : _)
 ·exact rfl
 ·decide
 ·exact wanted_some rfl (yield_in (o := 50) rfl rfl hsz (by decide) rfl) rfl
 ·simp only [execOp, AF_eval hsz, fPut]
  go_simp
 refine (qf_step 56 ?_ ?_ ?_ (.agg #[.int .u64 (f : Int), .int .u64 (t : Int)]) (fun w' hw' => ?_) ?_ : _)
 ·exact rfl
 ·decide
 ·exact wanted_some rfl (yield_in (o := 50) rfl rfl hsz (by decide) rfl) rfl
 ·obtain ⟨k0, y7, y8, y9, y10, z7, z8, z9, z10, k4, k5⟩ := hC w' hw'
  simp only [execOp, AF_eval hsz, fPut]
  go_simp
 refine (qf_step 57 ?_ ?_ ?_ (.bool false) (fun w' hw' => ?_) ?_ : _)
 ·exact rfl
 ·decide
 ·exact wanted_some rfl (yield_in (o := 50) rfl rfl hsz (by decide) rfl) rfl
 ·simp only [execOp, AF_eval hsz, fPut]
  go_simp
 refine (qf_step 58 ?_ ?_ ?_ (.bool false) (fun w' hw' => ?_) ?_ : _)
 ·exact rfl
 ·decide
 ·exact wanted_some rfl (yield_in (o := 15) rfl rfl hsz (by decide) rfl) rfl
 ·simp only [execOp, AF_eval hsz, fPut]
  go_simp
 refine (qf_step 59 ?_ ?_ ?_ (.bool false) (fun w' hw' => ?_) ?_ : _)
 ·exact rfl
 ·decide
 ·exact wanted_some rfl (yield_in (o := 11) rfl rfl hsz (by decide) rfl) rfl
 ·simp only [execOp, AF_eval hsz, fPut]
  go_simp
 refine (qf_step 60 ?_ ?_ ?_ (.bool false) (fun w' hw' => ?_) ?_ : _)
 ·exact rfl
 ·decide
 ·exact wanted_none rfl
 ·simp only [execOp, AF_eval hsz, fPut]
  go_simp
 refine (wpQuiet_nil ?_ : _)
 exact hQ _ rfl
end Go.Proofs.YtggdkfijioeijaaGreatDoor
namespace Go.Proofs.YtggdkfijioeijaaGreatDoor
open Go Go.RowKit
theorem wp_region_vals {P : Program} {id : Nat} {ops : Array Oper} {Q : Exit → Act → World → Prop} {base : Array Value} {w : World} (hm : P.follows .mixedOrders = true) (C : World → Prop) (Val : Nat → Value → Prop) (lo n : Nat)
    (hlex : ∀ (i : Nat) (o : Oper), ops[i]? = some o → ∀ e ∈ o.after, Region.binds .any e = true → e.on < i) (hC : C { w with drawn := w.drawn + 1 })
    (hstep : ∀ (i : Nat) (o : Oper) (f : Nat → Value), ops[i]? = some o → (∀ e ∈ o.after, Region.binds .any e = true → Val e.on (f e.on)) →
      o.dst = some (lo + i) ∧ i < n ∧ ((Region.wanted o (yielded ops (FsO base lo n f)) = true ∧ ∀ (w : World) (K : Act → World → Prop), C w → (∀ v w', Val i v → C w' → K ((AF base lo n f).put o.dst v) w') → Oper.wp P o (AF base lo n f) w K Q) ∨ (Region.wanted o (yielded ops (FsO base lo n f)) = false ∧ Val i undef)))
    (hfin : ∀ f w, (∀ i, i < ops.size → Val i (f i)) → C w → Q .normal (AF base lo n f) w) : (Code.region id ops true).wp P Q ⟨base, []⟩ w := by
  refine wp_region_any hm (wpAny_each' (fun l a w => l.size = ops.size ∧ ∃ f, a = AF base lo n f ∧ (∀ i, l.getD i false = true → Val i (f i)) ∧ C w) (fun l a w h => h.1) hlex ?_ ?_ _ _ _ _ ?_ ⟨by simp, fun o => base.getD (lo + o) undef, ?_, ?_, hC⟩)
  · rintro l a' w' i ⟨hs, f, rfl, hv, hCw⟩ hi K hK
    obtain ⟨o, ho, h1, h2⟩ := ready_mem hi
    have hil : i < ops.size := (Array.getElem?_eq_some_iff.1 ho).1
    obtain ⟨g1, g2, g3⟩ := hstep i o f ho (fun e he hb => hv e.on (h2 e he hb))
    have next : ∀ v w'', Val i v → C w'' → K ((AF base lo n f).put o.dst v) w'' := fun v w'' hvv hcc => hK _ _ ⟨by simpa using hs, fPut f i v, by rw [g1]; exact AF_put v g2, fun j hj => by
      by_cases e : j = i
      · subst e; rw [fPut_eq]; exact hvv
      · rw [fPut_ne e]
        refine hv j ?_
        simpa only [Array.getD_eq_getD_getElem?, Array.getElem?_setIfInBounds, if_neg (Ne.symm e)] using hj, hcc⟩
    unfold wpOp
    rw [ho]
    show if Region.wanted o (yielded ops (FsO base lo n f)) = true then _ else _
    rcases g3 with ⟨g3, g4⟩ | ⟨g3, g4⟩
    · rw [if_pos g3]
      exact Or.inl (g4 w' K hCw next)
    · rw [if_neg (by rw [g3]; decide)]
      exact next undef w' g4 hCw
  · rintro l a' w' hall ⟨hs, f, rfl, hv, hCw⟩
    exact hfin f w' (fun i hi => hv i (hall i hi)) hCw
  · unfold unl
    refine Nat.le_trans (List.length_filter_le _ _) ?_
    simp
  · show (⟨base, []⟩ : Act) = ⟨FsO base lo n _, []⟩
    rw [← FsO_self]
  · intro i hi
    simp only [Array.getD_eq_getD_getElem?, Array.getElem?_replicate] at hi
    split at hi <;> cases hi
def ValK (B m i c1 : Nat) (a1 : Option Addr) : Nat → Value → Prop
 | 0 => fun v => v = .pointer (some ⟨B, 0, none⟩)
 | 1 => fun v => v = .int .u8 2
 | 2 => fun v => v = .bool true
 | 3 => fun v => v = .bool true
 | 4 => fun v => v = .slice a1 i c1
 | 5 => fun v => v = .int .i64 (i : Int)
 | 6 => fun v => v = .pointer (some ⟨m, 0, none⟩)
 | 7 => fun v => ∃ g c, v = .slice g i c
 | 8 => fun v => v = .int .i64 (i : Int)
 | 9 => fun v => v = .bool false
 | 10 => fun v => v = .bool false
 | 11 => fun v => v = .bool false
 | 12 => fun v => v = .pointer (some ⟨B, 0, none⟩)
 | 13 => fun v => v = .int .u8 2
 | 14 => fun v => v = .bool false
 | 15 => fun v => v = .bool false
 | 59 => fun v => v = .bool false
 | 60 => fun v => v = .bool false
 | _ => fun v => v = undef
set_option maxRecDepth 100000 in
set_option maxHeartbeats 4000000 in
theorem reg33b {C : World → Prop} {Q : Exit → Act → World → Prop} {w : World} (base : Array Value) (hz : base.size = 416) (B m i c1 : Nat) (a1 : Option Addr)
  (s9 : base.getD 9 undef = .pointer (some ⟨B, 0, none⟩)) (s13 : base.getD 13 undef = .pointer (some ⟨m, 0, none⟩)) (s15 : base.getD 15 undef = .slice a1 i c1) (hC0 : C { w with drawn := w.drawn + 1 })
  (hC : ∀ w', C w' → w'.cell? ⟨B, 0, none⟩ = some (.int .u8 2))
  (hS : ∀ w', C w' → Calls Tryz.prog 17 #[.pointer (some ⟨m, 0, none⟩)] w' (fun e w'' => ∃ g c, e = .returned (.slice g i c) ∧ C w''))
  (hQ : ∀ (f : Nat → Value) w', f 60 = .bool false → C w' → Q .normal (AF base 267 61 f) w') : (Code.region 33 ops33 true).wp Tryz.prog Q ⟨base, []⟩ w := by
 have hsz : 267 + 61 ≤ base.size := by omega
 have hii : ((i : Int) != (i : Int)) = false := by simp
 conv => arg 2; arg 2; whnf
 refine wp_region_vals (by kernel_rfl) C (ValK B m i c1 a1) 267 61 ?lex hC0 ?step (fun f w' h hc => hQ f w' (h 60 (by decide)) hc)
 case lex =>
  intro i o h
  rcases i with _ | _ | _ | _ | _ | _ | _ | _ | _ | _ | _ | _ | _ | _ | _ | _ | _ | _ | _ | _ | _ | _ | _ | _ | _ | _ | _ | _ | _ | _ | _ | _ | _ | _ | _ | _ | _ | _ | _ | _ | _ | _ | _ | _ | _ | _ | _ | _ | _ | _ | _ | _ | _ | _ | _ | _ | _ | _ | _ | _ | _ | i <;> simp at h <;> subst h <;> simp [Region.binds]
 case step =>
  intro i' o f ho hdep
  rcases i' with _ | _ | _ | _ | _ | _ | _ | _ | _ | _ | _ | _ | _ | _ | _ | _ | _ | _ | _ | _ | _ | _ | _ | _ | _ | _ | _ | _ | _ | _ | _ | _ | _ | _ | _ | _ | _ | _ | _ | _ | _ | _ | _ | _ | _ | _ | _ | _ | _ | _ | _ | _ | _ | _ | _ | _ | _ | _ | _ | _ | _ | i' <;> simp only [List.getElem?_toArray, List.getElem?_cons_zero, List.getElem?_cons_succ, List.getElem?_nil, Option.some.injEq, reduceCtorEq, Nat.reduceAdd] at ho
  ·subst ho
   refine ⟨rfl, by decide, Or.inl ⟨wanted_none rfl, fun w K hc hK => ?_⟩⟩
   simp only [Oper.wp, execOp, AF_eval hsz]
   simp only [Nat.reduceAdd, Nat.reduceSub, Nat.reduceLeDiff, Nat.reduceLT, and_true, if_false]
   go_simp
   exact hK _ _ rfl hc
  ·subst ho
   have hd0 : f 0 = .pointer (some ⟨B, 0, none⟩) := hdep ⟨0, .data⟩ (by simp) rfl
   refine ⟨rfl, by decide, Or.inl ⟨wanted_none rfl, fun w K hc hK => ?_⟩⟩
   have k0 := hC w hc
   simp only [Oper.wp, execOp, AF_eval hsz]
   simp only [Nat.reduceAdd, Nat.reduceSub, Nat.reduceLeDiff, Nat.reduceLT, and_self, if_true, hd0]
   go_simp
   exact hK _ _ rfl hc
  ·subst ho
   have hd1 : f 1 = .int .u8 2 := hdep ⟨1, .data⟩ (by simp) rfl
   refine ⟨rfl, by decide, Or.inl ⟨wanted_none rfl, fun w K hc hK => ?_⟩⟩
   simp only [Oper.wp, execOp, AF_eval hsz]
   simp only [Nat.reduceAdd, Nat.reduceSub, Nat.reduceLeDiff, Nat.reduceLT, and_self, if_true, hd1]
   go_simp
   exact hK _ _ rfl hc
  ·subst ho
   have hd2 : f 2 = .bool true := hdep ⟨2, .data⟩ (by simp) rfl
   refine ⟨rfl, by decide, Or.inl ⟨wanted_none rfl, fun w K hc hK => ?_⟩⟩
   simp only [Oper.wp, execOp, AF_eval hsz]
   simp only [Nat.reduceAdd, Nat.reduceSub, Nat.reduceLeDiff, Nat.reduceLT, and_self, if_true, hd2]
   go_simp
   exact hK _ _ rfl hc
  ·subst ho
   have hg : f 3 = .bool true := hdep ⟨3, .guard⟩ (by simp) rfl
   refine ⟨rfl, by decide, Or.inl ⟨wanted_some rfl (yield_in (o := 3) rfl rfl hsz (by decide) hg) rfl, fun w K hc hK => ?_⟩⟩
   simp only [Oper.wp, execOp, AF_eval hsz]
   simp only [Nat.reduceAdd, Nat.reduceSub, Nat.reduceLeDiff, Nat.reduceLT, and_true, if_false]
   go_simp
   exact hK _ _ rfl hc
  ·subst ho
   have hg : f 3 = .bool true := hdep ⟨3, .guard⟩ (by simp) rfl
   have hd4 : f 4 = .slice a1 i c1 := hdep ⟨4, .data⟩ (by simp) rfl
   refine ⟨rfl, by decide, Or.inl ⟨wanted_some rfl (yield_in (o := 3) rfl rfl hsz (by decide) hg) rfl, fun w K hc hK => ?_⟩⟩
   simp only [Oper.wp, execOp, resolve, List.map_toArray, List.map_cons, List.map_nil, AF_eval hsz]
   simp only [Nat.reduceAdd, Nat.reduceSub, Nat.reduceLeDiff, Nat.reduceLT, and_self, if_true, hd4]
   go_simp
   exact hK _ _ rfl hc
  ·subst ho
   have hg : f 3 = .bool true := hdep ⟨3, .guard⟩ (by simp) rfl
   refine ⟨rfl, by decide, Or.inl ⟨wanted_some rfl (yield_in (o := 3) rfl rfl hsz (by decide) hg) rfl, fun w K hc hK => ?_⟩⟩
   simp only [Oper.wp, execOp, AF_eval hsz]
   simp only [Nat.reduceAdd, Nat.reduceSub, Nat.reduceLeDiff, Nat.reduceLT, and_true, if_false]
   go_simp
   exact hK _ _ rfl hc
  ·subst ho
   have hg : f 3 = .bool true := hdep ⟨3, .guard⟩ (by simp) rfl
   have hd6 : f 6 = .pointer (some ⟨m, 0, none⟩) := hdep ⟨6, .data⟩ (by simp) rfl
   refine ⟨rfl, by decide, Or.inl ⟨wanted_some rfl (yield_in (o := 3) rfl rfl hsz (by decide) hg) rfl, fun w K hc hK => ?_⟩⟩
   simp only [Oper.wp, execOp, resolve, List.map_toArray, List.map_cons, List.map_nil, AF_eval hsz]
   simp only [Nat.reduceAdd, Nat.reduceSub, Nat.reduceLeDiff, Nat.reduceLT, and_self, if_true, hd6]
   go_simp
   refine (hS w hc).mono ?_
   rintro e w2 ⟨g, c, rfl, hc2⟩
   exact hK _ _ ⟨g, c, rfl⟩ hc2
  ·subst ho
   have hg : f 3 = .bool true := hdep ⟨3, .guard⟩ (by simp) rfl
   obtain ⟨g7, c7, hd7⟩ : ∃ g c, f 7 = .slice g i c := hdep ⟨7, .data⟩ (by simp) rfl
   refine ⟨rfl, by decide, Or.inl ⟨wanted_some rfl (yield_in (o := 3) rfl rfl hsz (by decide) hg) rfl, fun w K hc hK => ?_⟩⟩
   simp only [Oper.wp, execOp, resolve, List.map_toArray, List.map_cons, List.map_nil, AF_eval hsz]
   simp only [Nat.reduceAdd, Nat.reduceSub, Nat.reduceLeDiff, Nat.reduceLT, and_self, if_true, hd7]
   go_simp
   exact hK _ _ rfl hc
  ·subst ho
   have hg : f 3 = .bool true := hdep ⟨3, .guard⟩ (by simp) rfl
   have hd5 : f 5 = .int .i64 (i : Int) := hdep ⟨5, .data⟩ (by simp) rfl
   have hd8 : f 8 = .int .i64 (i : Int) := hdep ⟨8, .data⟩ (by simp) rfl
   refine ⟨rfl, by decide, Or.inl ⟨wanted_some rfl (yield_in (o := 3) rfl rfl hsz (by decide) hg) rfl, fun w K hc hK => ?_⟩⟩
   simp only [Oper.wp, execOp, AF_eval hsz]
   simp only [Nat.reduceAdd, Nat.reduceSub, Nat.reduceLeDiff, Nat.reduceLT, and_self, if_true, hd5, hd8]
   go_simp
   exact hK _ _ rfl hc
  ·subst ho
   have hd3 : f 3 = .bool true := hdep ⟨3, .data⟩ (by simp) rfl
   have hd9 : f 9 = .bool false := hdep ⟨9, .data⟩ (by simp) rfl
   refine ⟨rfl, by decide, Or.inl ⟨wanted_none rfl, fun w K hc hK => ?_⟩⟩
   simp only [Oper.wp, execOp, AF_eval hsz]
   simp only [Nat.reduceAdd, Nat.reduceSub, Nat.reduceLeDiff, Nat.reduceLT, and_self, if_true, hd3, hd9]
   go_simp
   exact hK _ _ rfl hc
  ·subst ho
   have hd10 : f 10 = .bool false := hdep ⟨10, .data⟩ (by simp) rfl
   refine ⟨rfl, by decide, Or.inl ⟨wanted_none rfl, fun w K hc hK => ?_⟩⟩
   simp only [Oper.wp, execOp, AF_eval hsz]
   simp only [Nat.reduceAdd, Nat.reduceSub, Nat.reduceLeDiff, Nat.reduceLT, and_self, if_true, hd10]
   go_simp
   exact hK _ _ rfl hc
  ·subst ho
   have hg : f 11 = .bool false := hdep ⟨11, .guard⟩ (by simp) rfl
   refine ⟨rfl, by decide, Or.inl ⟨wanted_some rfl (yield_in (o := 11) rfl rfl hsz (by decide) hg) rfl, fun w K hc hK => ?_⟩⟩
   simp only [Oper.wp, execOp, AF_eval hsz]
   simp only [Nat.reduceAdd, Nat.reduceSub, Nat.reduceLeDiff, Nat.reduceLT, and_true, if_false]
   go_simp
   exact hK _ _ rfl hc
  ·subst ho
   have hg : f 11 = .bool false := hdep ⟨11, .guard⟩ (by simp) rfl
   have hd12 : f 12 = .pointer (some ⟨B, 0, none⟩) := hdep ⟨12, .data⟩ (by simp) rfl
   refine ⟨rfl, by decide, Or.inl ⟨wanted_some rfl (yield_in (o := 11) rfl rfl hsz (by decide) hg) rfl, fun w K hc hK => ?_⟩⟩
   have k0 := hC w hc
   simp only [Oper.wp, execOp, AF_eval hsz]
   simp only [Nat.reduceAdd, Nat.reduceSub, Nat.reduceLeDiff, Nat.reduceLT, and_self, if_true, hd12]
   go_simp
   exact hK _ _ rfl hc
  ·subst ho
   have hg : f 11 = .bool false := hdep ⟨11, .guard⟩ (by simp) rfl
   have hd13 : f 13 = .int .u8 2 := hdep ⟨13, .data⟩ (by simp) rfl
   refine ⟨rfl, by decide, Or.inl ⟨wanted_some rfl (yield_in (o := 11) rfl rfl hsz (by decide) hg) rfl, fun w K hc hK => ?_⟩⟩
   simp only [Oper.wp, execOp, AF_eval hsz]
   simp only [Nat.reduceAdd, Nat.reduceSub, Nat.reduceLeDiff, Nat.reduceLT, and_self, if_true, hd13]
   go_simp
   exact hK _ _ rfl hc
  ·subst ho
   have hg : f 11 = .bool false := hdep ⟨11, .guard⟩ (by simp) rfl
   have hd14 : f 14 = .bool false := hdep ⟨14, .data⟩ (by simp) rfl
   refine ⟨rfl, by decide, Or.inl ⟨wanted_some rfl (yield_in (o := 11) rfl rfl hsz (by decide) hg) rfl, fun w K hc hK => ?_⟩⟩
   simp only [Oper.wp, execOp, AF_eval hsz]
   simp only [Nat.reduceAdd, Nat.reduceSub, Nat.reduceLeDiff, Nat.reduceLT, and_self, if_true, hd14]
   go_simp
   exact hK _ _ rfl hc
  ·subst ho
   have hg : f 15 = .bool false := hdep ⟨15, .guard⟩ (by simp) rfl
   exact ⟨rfl, by decide, Or.inr ⟨wanted_some rfl (yield_in (o := 15) rfl rfl hsz (by decide) hg) rfl, rfl⟩⟩
  ·subst ho
   have hg : f 15 = .bool false := hdep ⟨15, .guard⟩ (by simp) rfl
   exact ⟨rfl, by decide, Or.inr ⟨wanted_some rfl (yield_in (o := 15) rfl rfl hsz (by decide) hg) rfl, rfl⟩⟩
  ·subst ho
   have hg : f 15 = .bool false := hdep ⟨15, .guard⟩ (by simp) rfl
   exact ⟨rfl, by decide, Or.inr ⟨wanted_some rfl (yield_in (o := 15) rfl rfl hsz (by decide) hg) rfl, rfl⟩⟩
  ·subst ho
   have hg : f 15 = .bool false := hdep ⟨15, .guard⟩ (by simp) rfl
   exact ⟨rfl, by decide, Or.inr ⟨wanted_some rfl (yield_in (o := 15) rfl rfl hsz (by decide) hg) rfl, rfl⟩⟩
  ·subst ho
   have hg : f 19 = undef := hdep ⟨19, .guard⟩ (by simp) rfl
   exact ⟨rfl, by decide, Or.inr ⟨wanted_und rfl (yield_und (o := 19) rfl rfl hsz (by decide) hg), rfl⟩⟩
  ·subst ho
   have hg : f 19 = undef := hdep ⟨19, .guard⟩ (by simp) rfl
   exact ⟨rfl, by decide, Or.inr ⟨wanted_und rfl (yield_und (o := 19) rfl rfl hsz (by decide) hg), rfl⟩⟩
  ·subst ho
   have hg : f 19 = undef := hdep ⟨19, .guard⟩ (by simp) rfl
   exact ⟨rfl, by decide, Or.inr ⟨wanted_und rfl (yield_und (o := 19) rfl rfl hsz (by decide) hg), rfl⟩⟩
  ·subst ho
   have hg : f 19 = undef := hdep ⟨19, .guard⟩ (by simp) rfl
   exact ⟨rfl, by decide, Or.inr ⟨wanted_und rfl (yield_und (o := 19) rfl rfl hsz (by decide) hg), rfl⟩⟩
  ·subst ho
   have hg : f 19 = undef := hdep ⟨19, .guard⟩ (by simp) rfl
   exact ⟨rfl, by decide, Or.inr ⟨wanted_und rfl (yield_und (o := 19) rfl rfl hsz (by decide) hg), rfl⟩⟩
  ·subst ho
   have hg : f 19 = undef := hdep ⟨19, .guard⟩ (by simp) rfl
   exact ⟨rfl, by decide, Or.inr ⟨wanted_und rfl (yield_und (o := 19) rfl rfl hsz (by decide) hg), rfl⟩⟩
  ·subst ho
   have hg : f 19 = undef := hdep ⟨19, .guard⟩ (by simp) rfl
   exact ⟨rfl, by decide, Or.inr ⟨wanted_und rfl (yield_und (o := 19) rfl rfl hsz (by decide) hg), rfl⟩⟩
  ·subst ho
   have hg : f 19 = undef := hdep ⟨19, .guard⟩ (by simp) rfl
   exact ⟨rfl, by decide, Or.inr ⟨wanted_und rfl (yield_und (o := 19) rfl rfl hsz (by decide) hg), rfl⟩⟩
  ·subst ho
   have hg : f 19 = undef := hdep ⟨19, .guard⟩ (by simp) rfl
   exact ⟨rfl, by decide, Or.inr ⟨wanted_und rfl (yield_und (o := 19) rfl rfl hsz (by decide) hg), rfl⟩⟩
  ·subst ho
   have hg : f 15 = .bool false := hdep ⟨15, .guard⟩ (by simp) rfl
   exact ⟨rfl, by decide, Or.inr ⟨wanted_some rfl (yield_in (o := 15) rfl rfl hsz (by decide) hg) rfl, rfl⟩⟩
  ·subst ho
   have hg : f 15 = .bool false := hdep ⟨15, .guard⟩ (by simp) rfl
   exact ⟨rfl, by decide, Or.inr ⟨wanted_some rfl (yield_in (o := 15) rfl rfl hsz (by decide) hg) rfl, rfl⟩⟩
  ·subst ho
   have hg : f 30 = undef := hdep ⟨30, .guard⟩ (by simp) rfl
   exact ⟨rfl, by decide, Or.inr ⟨wanted_und rfl (yield_und (o := 30) rfl rfl hsz (by decide) hg), rfl⟩⟩
  ·subst ho
   have hg : f 30 = undef := hdep ⟨30, .guard⟩ (by simp) rfl
   exact ⟨rfl, by decide, Or.inr ⟨wanted_und rfl (yield_und (o := 30) rfl rfl hsz (by decide) hg), rfl⟩⟩
  ·subst ho
   have hg : f 30 = undef := hdep ⟨30, .guard⟩ (by simp) rfl
   exact ⟨rfl, by decide, Or.inr ⟨wanted_und rfl (yield_und (o := 30) rfl rfl hsz (by decide) hg), rfl⟩⟩
  ·subst ho
   have hg : f 30 = undef := hdep ⟨30, .guard⟩ (by simp) rfl
   exact ⟨rfl, by decide, Or.inr ⟨wanted_und rfl (yield_und (o := 30) rfl rfl hsz (by decide) hg), rfl⟩⟩
  ·subst ho
   have hg : f 30 = undef := hdep ⟨30, .guard⟩ (by simp) rfl
   exact ⟨rfl, by decide, Or.inr ⟨wanted_und rfl (yield_und (o := 30) rfl rfl hsz (by decide) hg), rfl⟩⟩
  ·subst ho
   have hg : f 30 = undef := hdep ⟨30, .guard⟩ (by simp) rfl
   exact ⟨rfl, by decide, Or.inr ⟨wanted_und rfl (yield_und (o := 30) rfl rfl hsz (by decide) hg), rfl⟩⟩
  ·subst ho
   have hg : f 30 = undef := hdep ⟨30, .guard⟩ (by simp) rfl
   exact ⟨rfl, by decide, Or.inr ⟨wanted_und rfl (yield_und (o := 30) rfl rfl hsz (by decide) hg), rfl⟩⟩
  ·subst ho
   have hg : f 30 = undef := hdep ⟨30, .guard⟩ (by simp) rfl
   exact ⟨rfl, by decide, Or.inr ⟨wanted_und rfl (yield_und (o := 30) rfl rfl hsz (by decide) hg), rfl⟩⟩
  ·subst ho
   have hg : f 30 = undef := hdep ⟨30, .guard⟩ (by simp) rfl
   exact ⟨rfl, by decide, Or.inr ⟨wanted_und rfl (yield_und (o := 30) rfl rfl hsz (by decide) hg), rfl⟩⟩
  ·subst ho
   have hg : f 15 = .bool false := hdep ⟨15, .guard⟩ (by simp) rfl
   exact ⟨rfl, by decide, Or.inr ⟨wanted_some rfl (yield_in (o := 15) rfl rfl hsz (by decide) hg) rfl, rfl⟩⟩
  ·subst ho
   have hg : f 15 = .bool false := hdep ⟨15, .guard⟩ (by simp) rfl
   exact ⟨rfl, by decide, Or.inr ⟨wanted_some rfl (yield_in (o := 15) rfl rfl hsz (by decide) hg) rfl, rfl⟩⟩
  ·subst ho
   have hg : f 41 = undef := hdep ⟨41, .guard⟩ (by simp) rfl
   exact ⟨rfl, by decide, Or.inr ⟨wanted_und rfl (yield_und (o := 41) rfl rfl hsz (by decide) hg), rfl⟩⟩
  ·subst ho
   have hg : f 41 = undef := hdep ⟨41, .guard⟩ (by simp) rfl
   exact ⟨rfl, by decide, Or.inr ⟨wanted_und rfl (yield_und (o := 41) rfl rfl hsz (by decide) hg), rfl⟩⟩
  ·subst ho
   have hg : f 41 = undef := hdep ⟨41, .guard⟩ (by simp) rfl
   exact ⟨rfl, by decide, Or.inr ⟨wanted_und rfl (yield_und (o := 41) rfl rfl hsz (by decide) hg), rfl⟩⟩
  ·subst ho
   have hg : f 41 = undef := hdep ⟨41, .guard⟩ (by simp) rfl
   exact ⟨rfl, by decide, Or.inr ⟨wanted_und rfl (yield_und (o := 41) rfl rfl hsz (by decide) hg), rfl⟩⟩
  ·subst ho
   have hg : f 41 = undef := hdep ⟨41, .guard⟩ (by simp) rfl
   exact ⟨rfl, by decide, Or.inr ⟨wanted_und rfl (yield_und (o := 41) rfl rfl hsz (by decide) hg), rfl⟩⟩
  ·subst ho
   have hg : f 41 = undef := hdep ⟨41, .guard⟩ (by simp) rfl
   exact ⟨rfl, by decide, Or.inr ⟨wanted_und rfl (yield_und (o := 41) rfl rfl hsz (by decide) hg), rfl⟩⟩
  ·subst ho
   have hg : f 41 = undef := hdep ⟨41, .guard⟩ (by simp) rfl
   exact ⟨rfl, by decide, Or.inr ⟨wanted_und rfl (yield_und (o := 41) rfl rfl hsz (by decide) hg), rfl⟩⟩
  ·subst ho
   have hg : f 15 = .bool false := hdep ⟨15, .guard⟩ (by simp) rfl
   exact ⟨rfl, by decide, Or.inr ⟨wanted_some rfl (yield_in (o := 15) rfl rfl hsz (by decide) hg) rfl, rfl⟩⟩
  ·subst ho
   have hg : f 15 = .bool false := hdep ⟨15, .guard⟩ (by simp) rfl
   exact ⟨rfl, by decide, Or.inr ⟨wanted_some rfl (yield_in (o := 15) rfl rfl hsz (by decide) hg) rfl, rfl⟩⟩
  ·subst ho
   have hg : f 50 = undef := hdep ⟨50, .guard⟩ (by simp) rfl
   exact ⟨rfl, by decide, Or.inr ⟨wanted_und rfl (yield_und (o := 50) rfl rfl hsz (by decide) hg), rfl⟩⟩
  ·subst ho
   have hg : f 50 = undef := hdep ⟨50, .guard⟩ (by simp) rfl
   exact ⟨rfl, by decide, Or.inr ⟨wanted_und rfl (yield_und (o := 50) rfl rfl hsz (by decide) hg), rfl⟩⟩
  ·subst ho
   have hg : f 50 = undef := hdep ⟨50, .guard⟩ (by simp) rfl
   exact ⟨rfl, by decide, Or.inr ⟨wanted_und rfl (yield_und (o := 50) rfl rfl hsz (by decide) hg), rfl⟩⟩
  ·subst ho
   have hg : f 50 = undef := hdep ⟨50, .guard⟩ (by simp) rfl
   exact ⟨rfl, by decide, Or.inr ⟨wanted_und rfl (yield_und (o := 50) rfl rfl hsz (by decide) hg), rfl⟩⟩
  ·subst ho
   have hg : f 50 = undef := hdep ⟨50, .guard⟩ (by simp) rfl
   exact ⟨rfl, by decide, Or.inr ⟨wanted_und rfl (yield_und (o := 50) rfl rfl hsz (by decide) hg), rfl⟩⟩
  ·subst ho
   have hg : f 50 = undef := hdep ⟨50, .guard⟩ (by simp) rfl
   exact ⟨rfl, by decide, Or.inr ⟨wanted_und rfl (yield_und (o := 50) rfl rfl hsz (by decide) hg), rfl⟩⟩
  ·subst ho
   have hg : f 50 = undef := hdep ⟨50, .guard⟩ (by simp) rfl
   exact ⟨rfl, by decide, Or.inr ⟨wanted_und rfl (yield_und (o := 50) rfl rfl hsz (by decide) hg), rfl⟩⟩
  ·subst ho
   have hg : f 15 = .bool false := hdep ⟨15, .guard⟩ (by simp) rfl
   exact ⟨rfl, by decide, Or.inr ⟨wanted_some rfl (yield_in (o := 15) rfl rfl hsz (by decide) hg) rfl, rfl⟩⟩
  ·subst ho
   have hg : f 11 = .bool false := hdep ⟨11, .guard⟩ (by simp) rfl
   have hd15 : f 15 = .bool false := hdep ⟨15, .data⟩ (by simp) rfl
   refine ⟨rfl, by decide, Or.inl ⟨wanted_some rfl (yield_in (o := 11) rfl rfl hsz (by decide) hg) rfl, fun w K hc hK => ?_⟩⟩
   simp only [Oper.wp, execOp, AF_eval hsz]
   simp only [Nat.reduceAdd, Nat.reduceSub, Nat.reduceLeDiff, Nat.reduceLT, and_self, if_true, hd15]
   go_simp
   exact hK _ _ rfl hc
  ·subst ho
   have hd11 : f 11 = .bool false := hdep ⟨11, .data⟩ (by simp) rfl
   have hd59 : f 59 = .bool false := hdep ⟨59, .data⟩ (by simp) rfl
   refine ⟨rfl, by decide, Or.inl ⟨wanted_none rfl, fun w K hc hK => ?_⟩⟩
   simp only [Oper.wp, execOp, AF_eval hsz]
   simp only [Nat.reduceAdd, Nat.reduceSub, Nat.reduceLeDiff, Nat.reduceLT, and_self, if_true, hd11, hd59]
   go_simp
   exact hK _ _ rfl hc
end Go.Proofs.YtggdkfijioeijaaGreatDoor

