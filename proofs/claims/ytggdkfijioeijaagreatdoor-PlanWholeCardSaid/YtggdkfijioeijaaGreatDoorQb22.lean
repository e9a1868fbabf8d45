/- Region lemmas of PlanWhole: its guarded tests. -/
import Derived.Test.YtggdkfijioeijaaGreatDoorQb21
namespace Go.Proofs.YtggdkfijioeijaaGreatDoor
open Go Go.RowKit
theorem qf_call {P : Program} {ops : Array Oper} {C : World → Prop} {Q : Act → Prop} {base : Array Value} {lo n : Nat} {f : Nat → Value} {o : Oper} {rest : List Oper} (k : Nat) (hd : o.dst = some (lo + k)) (hk : k < n) (hw : Region.wanted o (yielded ops (FsO base lo n f)) = true) (v : Value) (g : FuncId) (args : Array Value)
  (h : ∀ w, C w → (execOp (AF base lo n f).eval o).run P w = .ok (.enter g args) w ∧ Calls P g args w (fun e w'' => e = .returned v ∧ C w'')) (k' : wpQuiet P ops C Q rest (AF base lo n (fPut f k v))) : wpQuiet P ops C Q (o :: rest) (AF base lo n f) := by
 refine quiet_call hw v g args h ?_
 rw [hd, AF_put v hk]; exact k'
noncomputable def ops20 : Array Oper := ((Tryz.f4.body.bind (findReg 20)).getD #[])
set_option maxRecDepth 100000 in
set_option maxHeartbeats 4000000 in
theorem reg20 {C : World → Prop} {Q : Act → Prop} (base : Array Value) (hz : base.size = 416) (B m ia i kk nr cR bR oR b1 o1 N c1 e1 g1 mr d1 sh : Nat) (y : Rd)
  (s9 : base.getD 9 undef = .pointer (some ⟨B, 0, none⟩)) (s13 : base.getD 13 undef = .pointer (some ⟨m, 0, none⟩)) (s15 : base.getD 15 undef = .slice (some ⟨b1, o1, none⟩) N c1) (s18 : base.getD 18 undef = .int .i64 (i : Int)) (s20 : base.getD 20 undef = .int .i64 (kk : Int)) (s21 : base.getD 21 undef = .int .i64 (ia : Int))
  (hC : ∀ w', C w' → w'.cell? ⟨B, 1, none⟩ = some (.slice (some ⟨bR, oR, none⟩) nr cR) ∧ w'.cell? ⟨bR, oR + ia * 2, none⟩ = some (.string y.path) ∧ w'.cell? ⟨bR, oR + ia * 2 + 1, none⟩ = some (.int .u64 (y.n : Int)) ∧ w'.cell? ⟨b1, o1 + i * 11, none⟩ = some (.int .u32 (sh : Int)) ∧ w'.cell? ⟨b1, o1 + i * 11 + 1, none⟩ = some (.slice (some ⟨e1, g1, none⟩) mr d1) ∧ w'.cell? ⟨e1, g1 + kk * 2, none⟩ = some (.string y.path) ∧ w'.cell? ⟨e1, g1 + kk * 2 + 1, none⟩ = some (.int .u64 (y.n : Int)))
  (hO : ∀ w', C w' → Calls Tryz.prog 16 #[.pointer (some ⟨m, 0, none⟩), .string y.path] w' (fun e w'' => e = .returned (.int .u32 (sh : Int)) ∧ C w''))
  (h0 : ¬ (ia : Int) < 0) (_h1 : decide ((ia : Int) < 0) = false) (h2 : ¬ (nr : Int) ≤ (ia : Int)) (_h3 : decide ((nr : Int) ≤ (ia : Int)) = false) (h4 : (ia : Int) < (nr : Int)) (h5 : (kk : Int) < (mr : Int)) (h6 : (i : Int) < (N : Int))
  (hQ : ∀ f : Nat → Value, f 40 = .bool false → Q (AF base 133 41 f)) : wpQuiet Tryz.prog ops20 C Q ops20.toList ⟨base, []⟩ := by
 have hsz : 133 + 41 ≤ base.size := by omega
 have hb : (⟨base, []⟩ : Act) = AF base 133 41 (fun o => base.getD (133 + o) undef) := by
  show (⟨base, []⟩ : Act) = ⟨FsO base 133 41 _, []⟩
  rw [← FsO_self]
 rw [hb]
 conv => arg 2; whnf
 conv => arg 5; whnf
 clear hb
 refine (qf_step 0 ?_ ?_ ?_ (.int .i64 (ia : Int)) (fun w' hw' => ?_) ?_ : _)
 ·exact rfl
 ·decide
 ·exact wanted_none rfl
 ·simp only [execOp, AF_eval hsz]
  go_simp
 refine (qf_step 1 ?_ ?_ ?_ (.bool false) (fun w' hw' => ?_) ?_ : _)
 ·exact rfl
 ·decide
 ·exact wanted_none rfl
 ·simp only [execOp, AF_eval hsz, fPut]
  go_simp
 refine (qf_step 2 ?_ ?_ ?_ (.bool false) (fun w' hw' => ?_) ?_ : _)
 ·exact rfl
 ·decide
 ·exact wanted_none rfl
 ·simp only [execOp, AF_eval hsz, fPut]
  go_simp
 refine (qf_step 3 ?_ ?_ ?_ (.int .i64 (ia : Int)) (fun w' hw' => ?_) ?_ : _)
 ·exact rfl
 ·decide
 ·exact wanted_some rfl (yield_in (o := 2) rfl rfl hsz (by decide) rfl) rfl
 ·simp only [execOp, AF_eval hsz, fPut]
  go_simp
 refine (qf_step 4 ?_ ?_ ?_ (.pointer (some ⟨B, 1, none⟩)) (fun w' hw' => ?_) ?_ : _)
 ·exact rfl
 ·decide
 ·exact wanted_some rfl (yield_in (o := 2) rfl rfl hsz (by decide) rfl) rfl
 ·simp only [execOp, AF_eval hsz, fPut]
  go_simp
 refine (qf_step 5 ?_ ?_ ?_ (.slice (some ⟨bR, oR, none⟩) nr cR) (fun w' hw' => ?_) ?_ : _)
 ·exact rfl
 ·decide
 ·exact wanted_some rfl (yield_in (o := 2) rfl rfl hsz (by decide) rfl) rfl
 ·obtain ⟨q0, q1, q2, q3, q4, q5, q6⟩ := hC w' hw'
  simp only [execOp, AF_eval hsz, fPut]
  go_simp
 refine (qf_step 6 ?_ ?_ ?_ (.int .i64 (nr : Int)) (fun w' hw' => ?_) ?_ : _)
 ·exact rfl
 ·decide
 ·exact wanted_some rfl (yield_in (o := 2) rfl rfl hsz (by decide) rfl) rfl
 ·simp only [execOp, resolve, List.map_toArray, List.map_cons, List.map_nil, AF_eval hsz, fPut]
  go_simp
 refine (qf_step 7 ?_ ?_ ?_ (.bool false) (fun w' hw' => ?_) ?_ : _)
 ·exact rfl
 ·decide
 ·exact wanted_some rfl (yield_in (o := 2) rfl rfl hsz (by decide) rfl) rfl
 ·simp only [execOp, AF_eval hsz, fPut]
  go_simp
 refine (qf_step 8 ?_ ?_ ?_ (.bool false) (fun w' hw' => ?_) ?_ : _)
 ·exact rfl
 ·decide
 ·exact wanted_none rfl
 ·simp only [execOp, AF_eval hsz, fPut]
  go_simp
 refine (qf_step 9 ?_ ?_ ?_ (.bool false) (fun w' hw' => ?_) ?_ : _)
 ·exact rfl
 ·decide
 ·exact wanted_none rfl
 ·simp only [execOp, AF_eval hsz, fPut]
  go_simp
 refine (qf_step 10 ?_ ?_ ?_ (.pointer (some ⟨B, 1, none⟩)) (fun w' hw' => ?_) ?_ : _)
 ·exact rfl
 ·decide
 ·exact wanted_some rfl (yield_in (o := 9) rfl rfl hsz (by decide) rfl) rfl
 ·simp only [execOp, AF_eval hsz, fPut]
  go_simp
 refine (qf_step 11 ?_ ?_ ?_ (.slice (some ⟨bR, oR, none⟩) nr cR) (fun w' hw' => ?_) ?_ : _)
 ·exact rfl
 ·decide
 ·exact wanted_some rfl (yield_in (o := 9) rfl rfl hsz (by decide) rfl) rfl
 ·obtain ⟨q0, q1, q2, q3, q4, q5, q6⟩ := hC w' hw'
  simp only [execOp, AF_eval hsz, fPut]
  go_simp
 refine (qf_step 12 ?_ ?_ ?_ (.int .i64 (ia : Int)) (fun w' hw' => ?_) ?_ : _)
 ·exact rfl
 ·decide
 ·exact wanted_some rfl (yield_in (o := 9) rfl rfl hsz (by decide) rfl) rfl
 ·simp only [execOp, AF_eval hsz, fPut]
  go_simp
 refine (qf_step 13 ?_ ?_ ?_ (.pointer (some ⟨bR, oR + ia * 2, none⟩)) (fun w' hw' => ?_) ?_ : _)
 ·exact rfl
 ·decide
 ·exact wanted_some rfl (yield_in (o := 9) rfl rfl hsz (by decide) rfl) rfl
 ·simp only [execOp, AF_eval hsz, fPut]
  go_simp
 refine (qf_step 14 ?_ ?_ ?_ (.agg #[.string y.path, .int .u64 (y.n : Int)]) (fun w' hw' => ?_) ?_ : _)
 ·exact rfl
 ·decide
 ·exact wanted_some rfl (yield_in (o := 9) rfl rfl hsz (by decide) rfl) rfl
 ·obtain ⟨q0, q1, q2, q3, q4, q5, q6⟩ := hC w' hw'
  simp only [execOp, AF_eval hsz, fPut]
  go_simp
 refine (qf_step 15 ?_ ?_ ?_ (.slice (some ⟨b1, o1, none⟩) N c1) (fun w' hw' => ?_) ?_ : _)
 ·exact rfl
 ·decide
 ·exact wanted_some rfl (yield_in (o := 9) rfl rfl hsz (by decide) rfl) rfl
 ·simp only [execOp, AF_eval hsz, fPut]
  go_simp
 refine (qf_step 16 ?_ ?_ ?_ (.int .i64 (i : Int)) (fun w' hw' => ?_) ?_ : _)
 ·exact rfl
 ·decide
 ·exact wanted_some rfl (yield_in (o := 9) rfl rfl hsz (by decide) rfl) rfl
 ·simp only [execOp, AF_eval hsz, fPut]
  go_simp
 refine (qf_step 17 ?_ ?_ ?_ (.pointer (some ⟨b1, o1 + i * 11, none⟩)) (fun w' hw' => ?_) ?_ : _)
 ·exact rfl
 ·decide
 ·exact wanted_some rfl (yield_in (o := 9) rfl rfl hsz (by decide) rfl) rfl
 ·simp only [execOp, AF_eval hsz, fPut]
  go_simp
 refine (qf_step 18 ?_ ?_ ?_ (.pointer (some ⟨b1, o1 + i * 11 + 1, none⟩)) (fun w' hw' => ?_) ?_ : _)
 ·exact rfl
 ·decide
 ·exact wanted_some rfl (yield_in (o := 9) rfl rfl hsz (by decide) rfl) rfl
 ·simp only [execOp, AF_eval hsz, fPut]
  go_simp
 refine (qf_step 19 ?_ ?_ ?_ (.slice (some ⟨e1, g1, none⟩) mr d1) (fun w' hw' => ?_) ?_ : _)
 ·exact rfl
 ·decide
 ·exact wanted_some rfl (yield_in (o := 9) rfl rfl hsz (by decide) rfl) rfl
 ·obtain ⟨q0, q1, q2, q3, q4, q5, q6⟩ := hC w' hw'
  simp only [execOp, AF_eval hsz, fPut]
  go_simp
 refine (qf_step 20 ?_ ?_ ?_ (.int .i64 (kk : Int)) (fun w' hw' => ?_) ?_ : _)
 ·exact rfl
 ·decide
 ·exact wanted_some rfl (yield_in (o := 9) rfl rfl hsz (by decide) rfl) rfl
 ·simp only [execOp, AF_eval hsz, fPut]
  go_simp
 refine (qf_step 21 ?_ ?_ ?_ (.pointer (some ⟨e1, g1 + kk * 2, none⟩)) (fun w' hw' => ?_) ?_ : _)
 ·exact rfl
 ·decide
 ·exact wanted_some rfl (yield_in (o := 9) rfl rfl hsz (by decide) rfl) rfl
 ·simp only [execOp, AF_eval hsz, fPut]
  go_simp
 refine (qf_step 22 ?_ ?_ ?_ (.agg #[.string y.path, .int .u64 (y.n : Int)]) (fun w' hw' => ?_) ?_ : _)
 ·exact rfl
 ·decide
 ·exact wanted_some rfl (yield_in (o := 9) rfl rfl hsz (by decide) rfl) rfl
 ·obtain ⟨q0, q1, q2, q3, q4, q5, q6⟩ := hC w' hw'
  simp only [execOp, AF_eval hsz, fPut]
  go_simp
 refine (qf_step 23 ?_ ?_ ?_ (.bool false) (fun w' hw' => ?_) ?_ : _)
 ·exact rfl
 ·decide
 ·exact wanted_some rfl (yield_in (o := 9) rfl rfl hsz (by decide) rfl) rfl
 ·simp only [execOp, AF_eval hsz, fPut]
  go_simp
 refine (qf_step 24 ?_ ?_ ?_ (.bool false) (fun w' hw' => ?_) ?_ : _)
 ·exact rfl
 ·decide
 ·exact wanted_none rfl
 ·simp only [execOp, AF_eval hsz, fPut]
  go_simp
 refine (qf_step 25 ?_ ?_ ?_ (.bool false) (fun w' hw' => ?_) ?_ : _)
 ·exact rfl
 ·decide
 ·exact wanted_none rfl
 ·simp only [execOp, AF_eval hsz, fPut]
  go_simp
 refine (qf_step 26 ?_ ?_ ?_ (.pointer (some ⟨m, 0, none⟩)) (fun w' hw' => ?_) ?_ : _)
 ·exact rfl
 ·decide
 ·exact wanted_some rfl (yield_in (o := 25) rfl rfl hsz (by decide) rfl) rfl
 ·simp only [execOp, AF_eval hsz, fPut]
  go_simp
 refine (qf_step 27 ?_ ?_ ?_ (.pointer (some ⟨B, 1, none⟩)) (fun w' hw' => ?_) ?_ : _)
 ·exact rfl
 ·decide
 ·exact wanted_some rfl (yield_in (o := 25) rfl rfl hsz (by decide) rfl) rfl
 ·simp only [execOp, AF_eval hsz, fPut]
  go_simp
 refine (qf_step 28 ?_ ?_ ?_ (.slice (some ⟨bR, oR, none⟩) nr cR) (fun w' hw' => ?_) ?_ : _)
 ·exact rfl
 ·decide
 ·exact wanted_some rfl (yield_in (o := 25) rfl rfl hsz (by decide) rfl) rfl
 ·obtain ⟨q0, q1, q2, q3, q4, q5, q6⟩ := hC w' hw'
  simp only [execOp, AF_eval hsz, fPut]
  go_simp
 refine (qf_step 29 ?_ ?_ ?_ (.int .i64 (ia : Int)) (fun w' hw' => ?_) ?_ : _)
 ·exact rfl
 ·decide
 ·exact wanted_some rfl (yield_in (o := 25) rfl rfl hsz (by decide) rfl) rfl
 ·simp only [execOp, AF_eval hsz, fPut]
  go_simp
 refine (qf_step 30 ?_ ?_ ?_ (.pointer (some ⟨bR, oR + ia * 2, none⟩)) (fun w' hw' => ?_) ?_ : _)
 ·exact rfl
 ·decide
 ·exact wanted_some rfl (yield_in (o := 25) rfl rfl hsz (by decide) rfl) rfl
 ·simp only [execOp, AF_eval hsz, fPut]
  go_simp
 refine (qf_step 31 ?_ ?_ ?_ (.pointer (some ⟨bR, oR + ia * 2, none⟩)) (fun w' hw' => ?_) ?_ : _)
 ·exact rfl
 ·decide
 ·exact wanted_some rfl (yield_in (o := 25) rfl rfl hsz (by decide) rfl) rfl
 ·simp only [execOp, AF_eval hsz, fPut]
  go_simp
 refine (qf_step 32 ?_ ?_ ?_ (.string y.path) (fun w' hw' => ?_) ?_ : _)
 ·exact rfl
 ·decide
 ·exact wanted_some rfl (yield_in (o := 25) rfl rfl hsz (by decide) rfl) rfl
 ·obtain ⟨q0, q1, q2, q3, q4, q5, q6⟩ := hC w' hw'
  simp only [execOp, AF_eval hsz, fPut]
  go_simp
 refine (qf_call 33 ?_ ?_ ?_ (.int .u32 (sh : Int)) 16 #[.pointer (some ⟨m, 0, none⟩), .string y.path] (fun w' hw' => ⟨?_, ?_⟩) ?_ : _)
 ·exact rfl
 ·decide
 ·exact wanted_some rfl (yield_in (o := 25) rfl rfl hsz (by decide) rfl) rfl
 ·simp only [execOp, resolve, List.map_toArray, List.map_cons, List.map_nil, AF_eval hsz, fPut]
  go_simp
 ·exact hO w' hw'
 refine (qf_step 34 ?_ ?_ ?_ (.slice (some ⟨b1, o1, none⟩) N c1) (fun w' hw' => ?_) ?_ : _)
 ·exact rfl
 ·decide
 ·exact wanted_some rfl (yield_in (o := 25) rfl rfl hsz (by decide) rfl) rfl
 ·simp only [execOp, AF_eval hsz, fPut]
  go_simp
 refine (qf_step 35 ?_ ?_ ?_ (.int .i64 (i : Int)) (fun w' hw' => ?_) ?_ : _)
 ·exact rfl
 ·decide
 ·exact wanted_some rfl (yield_in (o := 25) rfl rfl hsz (by decide) rfl) rfl
 ·simp only [execOp, AF_eval hsz, fPut]
  go_simp
 refine (qf_step 36 ?_ ?_ ?_ (.pointer (some ⟨b1, o1 + i * 11, none⟩)) (fun w' hw' => ?_) ?_ : _)
 ·exact rfl
 ·decide
 ·exact wanted_some rfl (yield_in (o := 25) rfl rfl hsz (by decide) rfl) rfl
 ·simp only [execOp, AF_eval hsz, fPut]
  go_simp
 refine (qf_step 37 ?_ ?_ ?_ (.pointer (some ⟨b1, o1 + i * 11, none⟩)) (fun w' hw' => ?_) ?_ : _)
 ·exact rfl
 ·decide
 ·exact wanted_some rfl (yield_in (o := 25) rfl rfl hsz (by decide) rfl) rfl
 ·simp only [execOp, AF_eval hsz, fPut]
  go_simp
 refine (qf_step 38 ?_ ?_ ?_ (.int .u32 (sh : Int)) (fun w' hw' => ?_) ?_ : _)
 ·exact rfl
 ·decide
 ·exact wanted_some rfl (yield_in (o := 25) rfl rfl hsz (by decide) rfl) rfl
 ·obtain ⟨q0, q1, q2, q3, q4, q5, q6⟩ := hC w' hw'
  simp only [execOp, AF_eval hsz, fPut]
  go_simp
 refine (qf_step 39 ?_ ?_ ?_ (.bool false) (fun w' hw' => ?_) ?_ : _)
 ·exact rfl
 ·decide
 ·exact wanted_some rfl (yield_in (o := 25) rfl rfl hsz (by decide) rfl) rfl
 ·simp only [execOp, AF_eval hsz, fPut]
  go_simp
 refine (qf_step 40 ?_ ?_ ?_ (.bool false) (fun w' hw' => ?_) ?_ : _)
 ·exact rfl
 ·decide
 ·exact wanted_none rfl
 ·simp only [execOp, AF_eval hsz, fPut]
  go_simp
 refine (wpQuiet_nil ?_ : _)
 exact hQ _ rfl
noncomputable def ops27 : Array Oper := ((Tryz.f4.body.bind (findReg 27)).getD #[])
set_option maxRecDepth 100000 in
set_option maxHeartbeats 4000000 in
theorem reg27 {C : World → Prop} {Q : Act → Prop} (base : Array Value) (hz : base.size = 416) (B m ia i kk nr cR bR oR b1 o1 N c1 e1 g1 mr d1 sh : Nat) (y : Ed)
  (s9 : base.getD 9 undef = .pointer (some ⟨B, 0, none⟩)) (s13 : base.getD 13 undef = .pointer (some ⟨m, 0, none⟩)) (s15 : base.getD 15 undef = .slice (some ⟨b1, o1, none⟩) N c1) (s18 : base.getD 18 undef = .int .i64 (i : Int)) (s22 : base.getD 22 undef = .int .i64 (kk : Int)) (s23 : base.getD 23 undef = .int .i64 (ia : Int))
  (hC : ∀ w', C w' → w'.cell? ⟨B, 2, none⟩ = some (.slice (some ⟨bR, oR, none⟩) nr cR) ∧ w'.cell? ⟨bR, oR + ia * 6, none⟩ = some (.int .u8 (y.kind : Int)) ∧ w'.cell? ⟨bR, oR + ia * 6 + 1, none⟩ = some (.string y.path) ∧ w'.cell? ⟨bR, oR + ia * 6 + 2, none⟩ = some (.bool y.any) ∧ w'.cell? ⟨bR, oR + ia * 6 + 3, none⟩ = some (.int .u64 (y.want : Int)) ∧ w'.cell? ⟨bR, oR + ia * 6 + 4, none⟩ = some (.int .u64 (y.n : Int)) ∧ w'.cell? ⟨bR, oR + ia * 6 + 5, none⟩ = some (.string y.text) ∧ w'.cell? ⟨b1, o1 + i * 11, none⟩ = some (.int .u32 (sh : Int)) ∧ w'.cell? ⟨b1, o1 + i * 11 + 3, none⟩ = some (.slice (some ⟨e1, g1, none⟩) mr d1) ∧ w'.cell? ⟨e1, g1 + kk * 6, none⟩ = some (.int .u8 (y.kind : Int)) ∧ w'.cell? ⟨e1, g1 + kk * 6 + 1, none⟩ = some (.string y.path) ∧ w'.cell? ⟨e1, g1 + kk * 6 + 2, none⟩ = some (.bool y.any) ∧ w'.cell? ⟨e1, g1 + kk * 6 + 3, none⟩ = some (.int .u64 (y.want : Int)) ∧ w'.cell? ⟨e1, g1 + kk * 6 + 4, none⟩ = some (.int .u64 (y.n : Int)) ∧ w'.cell? ⟨e1, g1 + kk * 6 + 5, none⟩ = some (.string y.text))
  (hO : ∀ w', C w' → Calls Tryz.prog 16 #[.pointer (some ⟨m, 0, none⟩), .string y.path] w' (fun e w'' => e = .returned (.int .u32 (sh : Int)) ∧ C w''))
  (h0 : ¬ (ia : Int) < 0) (_h1 : decide ((ia : Int) < 0) = false) (h2 : ¬ (nr : Int) ≤ (ia : Int)) (_h3 : decide ((nr : Int) ≤ (ia : Int)) = false) (h4 : (ia : Int) < (nr : Int)) (h5 : (kk : Int) < (mr : Int)) (h6 : (i : Int) < (N : Int))
  (hQ : ∀ f : Nat → Value, f 40 = .bool false → Q (AF base 203 41 f)) : wpQuiet Tryz.prog ops27 C Q ops27.toList ⟨base, []⟩ := by
 have hsz : 203 + 41 ≤ base.size := by omega
 have hb : (⟨base, []⟩ : Act) = AF base 203 41 (fun o => base.getD (203 + o) undef) := by
  show (⟨base, []⟩ : Act) = ⟨FsO base 203 41 _, []⟩
  rw [← FsO_self]
 rw [hb]
 conv => arg 2; whnf
 conv => arg 5; whnf
 clear hb
 refine (qf_step 0 ?_ ?_ ?_ (.int .i64 (ia : Int)) (fun w' hw' => ?_) ?_ : _)
 ·exact rfl
 ·decide
 ·exact wanted_none rfl
 ·simp only [execOp, AF_eval hsz]
  go_simp
 refine (qf_step 1 ?_ ?_ ?_ (.bool false) (fun w' hw' => ?_) ?_ : _)
 ·exact rfl
 ·decide
 ·exact wanted_none rfl
 ·simp only [execOp, AF_eval hsz, fPut]
  go_simp
 refine (qf_step 2 ?_ ?_ ?_ (.bool false) (fun w' hw' => ?_) ?_ : _)
 ·exact rfl
 ·decide
 ·exact wanted_none rfl
 ·simp only [execOp, AF_eval hsz, fPut]
  go_simp
 refine (qf_step 3 ?_ ?_ ?_ (.int .i64 (ia : Int)) (fun w' hw' => ?_) ?_ : _)
 ·exact rfl
 ·decide
 ·exact wanted_some rfl (yield_in (o := 2) rfl rfl hsz (by decide) rfl) rfl
 ·simp only [execOp, AF_eval hsz, fPut]
  go_simp
 refine (qf_step 4 ?_ ?_ ?_ (.pointer (some ⟨B, 2, none⟩)) (fun w' hw' => ?_) ?_ : _)
 ·exact rfl
 ·decide
 ·exact wanted_some rfl (yield_in (o := 2) rfl rfl hsz (by decide) rfl) rfl
 ·simp only [execOp, AF_eval hsz, fPut]
  go_simp
 refine (qf_step 5 ?_ ?_ ?_ (.slice (some ⟨bR, oR, none⟩) nr cR) (fun w' hw' => ?_) ?_ : _)
 ·exact rfl
 ·decide
 ·exact wanted_some rfl (yield_in (o := 2) rfl rfl hsz (by decide) rfl) rfl
 ·obtain ⟨q0, q1, q2, q3, q4, q5, q6, q7, q8, q9, q10, q11, q12, q13, q14⟩ := hC w' hw'
  simp only [execOp, AF_eval hsz, fPut]
  go_simp
 refine (qf_step 6 ?_ ?_ ?_ (.int .i64 (nr : Int)) (fun w' hw' => ?_) ?_ : _)
 ·exact rfl
 ·decide
 ·exact wanted_some rfl (yield_in (o := 2) rfl rfl hsz (by decide) rfl) rfl
 ·simp only [execOp, resolve, List.map_toArray, List.map_cons, List.map_nil, AF_eval hsz, fPut]
  go_simp
 refine (qf_step 7 ?_ ?_ ?_ (.bool false) (fun w' hw' => ?_) ?_ : _)
 ·exact rfl
 ·decide
 ·exact wanted_some rfl (yield_in (o := 2) rfl rfl hsz (by decide) rfl) rfl
 ·simp only [execOp, AF_eval hsz, fPut]
  go_simp
 refine (qf_step 8 ?_ ?_ ?_ (.bool false) (fun w' hw' => ?_) ?_ : _)
 ·exact rfl
 ·decide
 ·exact wanted_none rfl
 ·simp only [execOp, AF_eval hsz, fPut]
  go_simp
 refine (qf_step 9 ?_ ?_ ?_ (.bool false) (fun w' hw' => ?_) ?_ : _)
 ·exact rfl
 ·decide
 ·exact wanted_none rfl
 ·simp only [execOp, AF_eval hsz, fPut]
  go_simp
 refine (qf_step 10 ?_ ?_ ?_ (.pointer (some ⟨B, 2, none⟩)) (fun w' hw' => ?_) ?_ : _)
 ·exact rfl
 ·decide
 ·exact wanted_some rfl (yield_in (o := 9) rfl rfl hsz (by decide) rfl) rfl
 ·simp only [execOp, AF_eval hsz, fPut]
  go_simp
 refine (qf_step 11 ?_ ?_ ?_ (.slice (some ⟨bR, oR, none⟩) nr cR) (fun w' hw' => ?_) ?_ : _)
 ·exact rfl
 ·decide
 ·exact wanted_some rfl (yield_in (o := 9) rfl rfl hsz (by decide) rfl) rfl
 ·obtain ⟨q0, q1, q2, q3, q4, q5, q6, q7, q8, q9, q10, q11, q12, q13, q14⟩ := hC w' hw'
  simp only [execOp, AF_eval hsz, fPut]
  go_simp
 refine (qf_step 12 ?_ ?_ ?_ (.int .i64 (ia : Int)) (fun w' hw' => ?_) ?_ : _)
 ·exact rfl
 ·decide
 ·exact wanted_some rfl (yield_in (o := 9) rfl rfl hsz (by decide) rfl) rfl
 ·simp only [execOp, AF_eval hsz, fPut]
  go_simp
 refine (qf_step 13 ?_ ?_ ?_ (.pointer (some ⟨bR, oR + ia * 6, none⟩)) (fun w' hw' => ?_) ?_ : _)
 ·exact rfl
 ·decide
 ·exact wanted_some rfl (yield_in (o := 9) rfl rfl hsz (by decide) rfl) rfl
 ·simp only [execOp, AF_eval hsz, fPut]
  go_simp
 refine (qf_step 14 ?_ ?_ ?_ (.agg #[.int .u8 (y.kind : Int), .string y.path, .bool y.any, .int .u64 (y.want : Int), .int .u64 (y.n : Int), .string y.text]) (fun w' hw' => ?_) ?_ : _)
 ·exact rfl
 ·decide
 ·exact wanted_some rfl (yield_in (o := 9) rfl rfl hsz (by decide) rfl) rfl
 ·obtain ⟨q0, q1, q2, q3, q4, q5, q6, q7, q8, q9, q10, q11, q12, q13, q14⟩ := hC w' hw'
  simp only [execOp, AF_eval hsz, fPut]
  go_simp
 refine (qf_step 15 ?_ ?_ ?_ (.slice (some ⟨b1, o1, none⟩) N c1) (fun w' hw' => ?_) ?_ : _)
 ·exact rfl
 ·decide
 ·exact wanted_some rfl (yield_in (o := 9) rfl rfl hsz (by decide) rfl) rfl
 ·simp only [execOp, AF_eval hsz, fPut]
  go_simp
 refine (qf_step 16 ?_ ?_ ?_ (.int .i64 (i : Int)) (fun w' hw' => ?_) ?_ : _)
 ·exact rfl
 ·decide
 ·exact wanted_some rfl (yield_in (o := 9) rfl rfl hsz (by decide) rfl) rfl
 ·simp only [execOp, AF_eval hsz, fPut]
  go_simp
 refine (qf_step 17 ?_ ?_ ?_ (.pointer (some ⟨b1, o1 + i * 11, none⟩)) (fun w' hw' => ?_) ?_ : _)
 ·exact rfl
 ·decide
 ·exact wanted_some rfl (yield_in (o := 9) rfl rfl hsz (by decide) rfl) rfl
 ·simp only [execOp, AF_eval hsz, fPut]
  go_simp
 refine (qf_step 18 ?_ ?_ ?_ (.pointer (some ⟨b1, o1 + i * 11 + 3, none⟩)) (fun w' hw' => ?_) ?_ : _)
 ·exact rfl
 ·decide
 ·exact wanted_some rfl (yield_in (o := 9) rfl rfl hsz (by decide) rfl) rfl
 ·simp only [execOp, AF_eval hsz, fPut]
  go_simp
 refine (qf_step 19 ?_ ?_ ?_ (.slice (some ⟨e1, g1, none⟩) mr d1) (fun w' hw' => ?_) ?_ : _)
 ·exact rfl
 ·decide
 ·exact wanted_some rfl (yield_in (o := 9) rfl rfl hsz (by decide) rfl) rfl
 ·obtain ⟨q0, q1, q2, q3, q4, q5, q6, q7, q8, q9, q10, q11, q12, q13, q14⟩ := hC w' hw'
  simp only [execOp, AF_eval hsz, fPut]
  go_simp
 refine (qf_step 20 ?_ ?_ ?_ (.int .i64 (kk : Int)) (fun w' hw' => ?_) ?_ : _)
 ·exact rfl
 ·decide
 ·exact wanted_some rfl (yield_in (o := 9) rfl rfl hsz (by decide) rfl) rfl
 ·simp only [execOp, AF_eval hsz, fPut]
  go_simp
 refine (qf_step 21 ?_ ?_ ?_ (.pointer (some ⟨e1, g1 + kk * 6, none⟩)) (fun w' hw' => ?_) ?_ : _)
 ·exact rfl
 ·decide
 ·exact wanted_some rfl (yield_in (o := 9) rfl rfl hsz (by decide) rfl) rfl
 ·simp only [execOp, AF_eval hsz, fPut]
  go_simp
 refine (qf_step 22 ?_ ?_ ?_ (.agg #[.int .u8 (y.kind : Int), .string y.path, .bool y.any, .int .u64 (y.want : Int), .int .u64 (y.n : Int), .string y.text]) (fun w' hw' => ?_) ?_ : _)
 ·exact rfl
 ·decide
 ·exact wanted_some rfl (yield_in (o := 9) rfl rfl hsz (by decide) rfl) rfl
 ·obtain ⟨q0, q1, q2, q3, q4, q5, q6, q7, q8, q9, q10, q11, q12, q13, q14⟩ := hC w' hw'
  simp only [execOp, AF_eval hsz, fPut]
  go_simp
 refine (qf_step 23 ?_ ?_ ?_ (.bool false) (fun w' hw' => ?_) ?_ : _)
 ·exact rfl
 ·decide
 ·exact wanted_some rfl (yield_in (o := 9) rfl rfl hsz (by decide) rfl) rfl
 ·simp only [execOp, AF_eval hsz, fPut]
  go_simp
 refine (qf_step 24 ?_ ?_ ?_ (.bool false) (fun w' hw' => ?_) ?_ : _)
 ·exact rfl
 ·decide
 ·exact wanted_none rfl
 ·simp only [execOp, AF_eval hsz, fPut]
  go_simp
 refine (qf_step 25 ?_ ?_ ?_ (.bool false) (fun w' hw' => ?_) ?_ : _)
 ·exact rfl
 ·decide
 ·exact wanted_none rfl
 ·simp only [execOp, AF_eval hsz, fPut]
  go_simp
 refine (qf_step 26 ?_ ?_ ?_ (.pointer (some ⟨m, 0, none⟩)) (fun w' hw' => ?_) ?_ : _)
 ·exact rfl
 ·decide
 ·exact wanted_some rfl (yield_in (o := 25) rfl rfl hsz (by decide) rfl) rfl
 ·simp only [execOp, AF_eval hsz, fPut]
  go_simp
 refine (qf_step 27 ?_ ?_ ?_ (.pointer (some ⟨B, 2, none⟩)) (fun w' hw' => ?_) ?_ : _)
 ·exact rfl
 ·decide
 ·exact wanted_some rfl (yield_in (o := 25) rfl rfl hsz (by decide) rfl) rfl
 ·simp only [execOp, AF_eval hsz, fPut]
  go_simp
 refine (qf_step 28 ?_ ?_ ?_ (.slice (some ⟨bR, oR, none⟩) nr cR) (fun w' hw' => ?_) ?_ : _)
 ·exact rfl
 ·decide
 ·exact wanted_some rfl (yield_in (o := 25) rfl rfl hsz (by decide) rfl) rfl
 ·obtain ⟨q0, q1, q2, q3, q4, q5, q6, q7, q8, q9, q10, q11, q12, q13, q14⟩ := hC w' hw'
  simp only [execOp, AF_eval hsz, fPut]
  go_simp
 refine (qf_step 29 ?_ ?_ ?_ (.int .i64 (ia : Int)) (fun w' hw' => ?_) ?_ : _)
 ·exact rfl
 ·decide
 ·exact wanted_some rfl (yield_in (o := 25) rfl rfl hsz (by decide) rfl) rfl
 ·simp only [execOp, AF_eval hsz, fPut]
  go_simp
 refine (qf_step 30 ?_ ?_ ?_ (.pointer (some ⟨bR, oR + ia * 6, none⟩)) (fun w' hw' => ?_) ?_ : _)
 ·exact rfl
 ·decide
 ·exact wanted_some rfl (yield_in (o := 25) rfl rfl hsz (by decide) rfl) rfl
 ·simp only [execOp, AF_eval hsz, fPut]
  go_simp
 refine (qf_step 31 ?_ ?_ ?_ (.pointer (some ⟨bR, oR + ia * 6 + 1, none⟩)) (fun w' hw' => ?_) ?_ : _)
 ·exact rfl
 ·decide
 ·exact wanted_some rfl (yield_in (o := 25) rfl rfl hsz (by decide) rfl) rfl
 ·simp only [execOp, AF_eval hsz, fPut]
  go_simp
 refine (qf_step 32 ?_ ?_ ?_ (.string y.path) (fun w' hw' => ?_) ?_ : _)
 ·exact rfl
 ·decide
 ·exact wanted_some rfl (yield_in (o := 25) rfl rfl hsz (by decide) rfl) rfl
 ·obtain ⟨q0, q1, q2, q3, q4, q5, q6, q7, q8, q9, q10, q11, q12, q13, q14⟩ := hC w' hw'
  simp only [execOp, AF_eval hsz, fPut]
  go_simp
 refine (qf_call 33 ?_ ?_ ?_ (.int .u32 (sh : Int)) 16 #[.pointer (some ⟨m, 0, none⟩), .string y.path] (fun w' hw' => ⟨?_, ?_⟩) ?_ : _)
 ·exact rfl
 ·decide
 ·exact wanted_some rfl (yield_in (o := 25) rfl rfl hsz (by decide) rfl) rfl
 ·simp only [execOp, resolve, List.map_toArray, List.map_cons, List.map_nil, AF_eval hsz, fPut]
  go_simp
 ·exact hO w' hw'
 refine (qf_step 34 ?_ ?_ ?_ (.slice (some ⟨b1, o1, none⟩) N c1) (fun w' hw' => ?_) ?_ : _)
 ·exact rfl
 ·decide
 ·exact wanted_some rfl (yield_in (o := 25) rfl rfl hsz (by decide) rfl) rfl
 ·simp only [execOp, AF_eval hsz, fPut]
  go_simp
 refine (qf_step 35 ?_ ?_ ?_ (.int .i64 (i : Int)) (fun w' hw' => ?_) ?_ : _)
 ·exact rfl
 ·decide
 ·exact wanted_some rfl (yield_in (o := 25) rfl rfl hsz (by decide) rfl) rfl
 ·simp only [execOp, AF_eval hsz, fPut]
  go_simp
 refine (qf_step 36 ?_ ?_ ?_ (.pointer (some ⟨b1, o1 + i * 11, none⟩)) (fun w' hw' => ?_) ?_ : _)
 ·exact rfl
 ·decide
 ·exact wanted_some rfl (yield_in (o := 25) rfl rfl hsz (by decide) rfl) rfl
 ·simp only [execOp, AF_eval hsz, fPut]
  go_simp
 refine (qf_step 37 ?_ ?_ ?_ (.pointer (some ⟨b1, o1 + i * 11, none⟩)) (fun w' hw' => ?_) ?_ : _)
 ·exact rfl
 ·decide
 ·exact wanted_some rfl (yield_in (o := 25) rfl rfl hsz (by decide) rfl) rfl
 ·simp only [execOp, AF_eval hsz, fPut]
  go_simp
 refine (qf_step 38 ?_ ?_ ?_ (.int .u32 (sh : Int)) (fun w' hw' => ?_) ?_ : _)
 ·exact rfl
 ·decide
 ·exact wanted_some rfl (yield_in (o := 25) rfl rfl hsz (by decide) rfl) rfl
 ·obtain ⟨q0, q1, q2, q3, q4, q5, q6, q7, q8, q9, q10, q11, q12, q13, q14⟩ := hC w' hw'
  simp only [execOp, AF_eval hsz, fPut]
  go_simp
 refine (qf_step 39 ?_ ?_ ?_ (.bool false) (fun w' hw' => ?_) ?_ : _)
 ·exact rfl
 ·decide
 ·exact wanted_some rfl (yield_in (o := 25) rfl rfl hsz (by decide) rfl) rfl
 ·simp only [execOp, AF_eval hsz, fPut]
  go_simp
 refine (qf_step 40 ?_ ?_ ?_ (.bool false) (fun w' hw' => ?_) ?_ : _)
 ·exact rfl
 ·decide
 ·exact wanted_none rfl
 ·simp only [execOp, AF_eval hsz, fPut]
  go_simp
 refine (wpQuiet_nil ?_ : _)
 exact hQ _ rfl
noncomputable def ops13 : Array Oper := ((Tryz.f4.body.bind (findReg 13)).getD #[])
set_option maxRecDepth 100000 in
set_option maxHeartbeats 4000000 in
theorem reg13a {C : World → Prop} {Q : Act → Prop} (base : Array Value) (hz : base.size = 416) (i b1 o1 N c1 mr me d1 d2 d3 d4 sh : Nat) (x1 x2 x3 x4 : Option Addr)
  (s15 : base.getD 15 undef = .slice (some ⟨b1, o1, none⟩) N c1) (s18 : base.getD 18 undef = .int .i64 (i : Int))
  (hC : ∀ w', C w' → w'.cell? ⟨b1, o1 + i * 11, none⟩ = some (.int .u32 (sh : Int)) ∧ w'.cell? ⟨b1, o1 + i * 11 + 1, none⟩ = some (.slice x1 mr d1) ∧ w'.cell? ⟨b1, o1 + i * 11 + 2, none⟩ = some (.slice x2 mr d2) ∧ w'.cell? ⟨b1, o1 + i * 11 + 3, none⟩ = some (.slice x3 me d3) ∧ w'.cell? ⟨b1, o1 + i * 11 + 4, none⟩ = some (.slice x4 me d4)) (h6 : (i : Int) < (N : Int)) (_h0 : ¬ (0 : Int) < (i : Int)) (h0p : ¬ 0 < i) (_h0n : decide (0 < i) = false)
  (hQ : ∀ f : Nat → Value, f 45 = .bool false → Q (AF base 63 46 f)) : wpQuiet Tryz.prog ops13 C Q ops13.toList ⟨base, []⟩ := by
 have hsz : 63 + 46 ≤ base.size := by omega
 have hb : (⟨base, []⟩ : Act) = AF base 63 46 (fun o => base.getD (63 + o) undef) := by
  show (⟨base, []⟩ : Act) = ⟨FsO base 63 46 _, []⟩
  rw [← FsO_self]
 rw [hb]
 conv => arg 2; whnf
 conv => arg 5; whnf
 clear hb
 refine (qf_step 0 ?_ ?_ ?_ (.int .i64 (i : Int)) (fun w' hw' => ?_) ?_ : _)
 ·exact rfl
 ·decide
 ·exact wanted_none rfl
 ·simp only [execOp, AF_eval hsz]
  go_simp
 refine (qf_step 1 ?_ ?_ ?_ (.bool false) (fun w' hw' => ?_) ?_ : _)
 ·exact rfl
 ·decide
 ·exact wanted_none rfl
 ·simp only [execOp, AF_eval hsz, fPut]
  go_simp
 refine (qf_step 2 ?_ ?_ ?_ (.bool false) (fun w' hw' => ?_) ?_ : _)
 ·exact rfl
 ·decide
 ·exact wanted_none rfl
 ·simp only [execOp, AF_eval hsz, fPut]
  go_simp
 refine (qf_skip 3 ?_ ?_ ?_ ?_ : _)
 ·exact rfl
 ·decide
 ·exact wanted_some rfl (yield_in (o := 2) rfl rfl hsz (by decide) rfl) rfl
 refine (qf_skip 4 ?_ ?_ ?_ ?_ : _)
 ·exact rfl
 ·decide
 ·exact wanted_some rfl (yield_in (o := 2) rfl rfl hsz (by decide) rfl) rfl
 refine (qf_skip 5 ?_ ?_ ?_ ?_ : _)
 ·exact rfl
 ·decide
 ·exact wanted_some rfl (yield_in (o := 2) rfl rfl hsz (by decide) rfl) rfl
 refine (qf_skip 6 ?_ ?_ ?_ ?_ : _)
 ·exact rfl
 ·decide
 ·exact wanted_some rfl (yield_in (o := 2) rfl rfl hsz (by decide) rfl) rfl
 refine (qf_skip 7 ?_ ?_ ?_ ?_ : _)
 ·exact rfl
 ·decide
 ·exact wanted_some rfl (yield_in (o := 2) rfl rfl hsz (by decide) rfl) rfl
 refine (qf_skip 8 ?_ ?_ ?_ ?_ : _)
 ·exact rfl
 ·decide
 ·exact wanted_some rfl (yield_in (o := 2) rfl rfl hsz (by decide) rfl) rfl
 refine (qf_skip 9 ?_ ?_ ?_ ?_ : _)
 ·exact rfl
 ·decide
 ·exact wanted_some rfl (yield_in (o := 2) rfl rfl hsz (by decide) rfl) rfl
 refine (qf_skip 10 ?_ ?_ ?_ ?_ : _)
 ·exact rfl
 ·decide
 ·exact wanted_some rfl (yield_in (o := 2) rfl rfl hsz (by decide) rfl) rfl
 refine (qf_skip 11 ?_ ?_ ?_ ?_ : _)
 ·exact rfl
 ·decide
 ·exact wanted_some rfl (yield_in (o := 2) rfl rfl hsz (by decide) rfl) rfl
 refine (qf_skip 12 ?_ ?_ ?_ ?_ : _)
 ·exact rfl
 ·decide
 ·exact wanted_some rfl (yield_in (o := 2) rfl rfl hsz (by decide) rfl) rfl
 refine (qf_skip 13 ?_ ?_ ?_ ?_ : _)
 ·exact rfl
 ·decide
 ·exact wanted_some rfl (yield_in (o := 2) rfl rfl hsz (by decide) rfl) rfl
 refine (qf_skip 14 ?_ ?_ ?_ ?_ : _)
 ·exact rfl
 ·decide
 ·exact wanted_some rfl (yield_in (o := 2) rfl rfl hsz (by decide) rfl) rfl
 refine (qf_step 15 ?_ ?_ ?_ (.bool false) (fun w' hw' => ?_) ?_ : _)
 ·exact rfl
 ·decide
 ·exact wanted_none rfl
 ·simp only [execOp, AF_eval hsz, fPut]
  go_simp
 refine (qf_step 16 ?_ ?_ ?_ (.bool false) (fun w' hw' => ?_) ?_ : _)
 ·exact rfl
 ·decide
 ·exact wanted_none rfl
 ·simp only [execOp, AF_eval hsz, fPut]
  go_simp
 refine (qf_step 17 ?_ ?_ ?_ (.slice (some ⟨b1, o1, none⟩) N c1) (fun w' hw' => ?_) ?_ : _)
 ·exact rfl
 ·decide
 ·exact wanted_some rfl (yield_in (o := 16) rfl rfl hsz (by decide) rfl) rfl
 ·simp only [execOp, AF_eval hsz, fPut]
  go_simp
 refine (qf_step 18 ?_ ?_ ?_ (.int .i64 (i : Int)) (fun w' hw' => ?_) ?_ : _)
 ·exact rfl
 ·decide
 ·exact wanted_some rfl (yield_in (o := 16) rfl rfl hsz (by decide) rfl) rfl
 ·simp only [execOp, AF_eval hsz, fPut]
  go_simp
 refine (qf_step 19 ?_ ?_ ?_ (.pointer (some ⟨b1, o1 + i * 11, none⟩)) (fun w' hw' => ?_) ?_ : _)
 ·exact rfl
 ·decide
 ·exact wanted_some rfl (yield_in (o := 16) rfl rfl hsz (by decide) rfl) rfl
 ·simp only [execOp, AF_eval hsz, fPut]
  go_simp
 refine (qf_step 20 ?_ ?_ ?_ (.pointer (some ⟨b1, o1 + i * 11 + 1, none⟩)) (fun w' hw' => ?_) ?_ : _)
 ·exact rfl
 ·decide
 ·exact wanted_some rfl (yield_in (o := 16) rfl rfl hsz (by decide) rfl) rfl
 ·simp only [execOp, AF_eval hsz, fPut]
  go_simp
 refine (qf_step 21 ?_ ?_ ?_ (.slice x1 mr d1) (fun w' hw' => ?_) ?_ : _)
 ·exact rfl
 ·decide
 ·exact wanted_some rfl (yield_in (o := 16) rfl rfl hsz (by decide) rfl) rfl
 ·obtain ⟨f0, f1, f2, f3, f4⟩ := hC w' hw'
  simp only [execOp, AF_eval hsz, fPut]
  go_simp
 refine (qf_step 22 ?_ ?_ ?_ (.int .i64 (mr : Int)) (fun w' hw' => ?_) ?_ : _)
 ·exact rfl
 ·decide
 ·exact wanted_some rfl (yield_in (o := 16) rfl rfl hsz (by decide) rfl) rfl
 ·simp only [execOp, resolve, List.map_toArray, List.map_cons, List.map_nil, AF_eval hsz, fPut]
  go_simp
 refine (qf_step 23 ?_ ?_ ?_ (.slice (some ⟨b1, o1, none⟩) N c1) (fun w' hw' => ?_) ?_ : _)
 ·exact rfl
 ·decide
 ·exact wanted_some rfl (yield_in (o := 16) rfl rfl hsz (by decide) rfl) rfl
 ·simp only [execOp, AF_eval hsz, fPut]
  go_simp
 refine (qf_step 24 ?_ ?_ ?_ (.int .i64 (i : Int)) (fun w' hw' => ?_) ?_ : _)
 ·exact rfl
 ·decide
 ·exact wanted_some rfl (yield_in (o := 16) rfl rfl hsz (by decide) rfl) rfl
 ·simp only [execOp, AF_eval hsz, fPut]
  go_simp
 refine (qf_step 25 ?_ ?_ ?_ (.pointer (some ⟨b1, o1 + i * 11, none⟩)) (fun w' hw' => ?_) ?_ : _)
 ·exact rfl
 ·decide
 ·exact wanted_some rfl (yield_in (o := 16) rfl rfl hsz (by decide) rfl) rfl
 ·simp only [execOp, AF_eval hsz, fPut]
  go_simp
 refine (qf_step 26 ?_ ?_ ?_ (.pointer (some ⟨b1, o1 + i * 11 + 2, none⟩)) (fun w' hw' => ?_) ?_ : _)
 ·exact rfl
 ·decide
 ·exact wanted_some rfl (yield_in (o := 16) rfl rfl hsz (by decide) rfl) rfl
 ·simp only [execOp, AF_eval hsz, fPut]
  go_simp
 refine (qf_step 27 ?_ ?_ ?_ (.slice x2 mr d2) (fun w' hw' => ?_) ?_ : _)
 ·exact rfl
 ·decide
 ·exact wanted_some rfl (yield_in (o := 16) rfl rfl hsz (by decide) rfl) rfl
 ·obtain ⟨f0, f1, f2, f3, f4⟩ := hC w' hw'
  simp only [execOp, AF_eval hsz, fPut]
  go_simp
 refine (qf_step 28 ?_ ?_ ?_ (.int .i64 (mr : Int)) (fun w' hw' => ?_) ?_ : _)
 ·exact rfl
 ·decide
 ·exact wanted_some rfl (yield_in (o := 16) rfl rfl hsz (by decide) rfl) rfl
 ·simp only [execOp, resolve, List.map_toArray, List.map_cons, List.map_nil, AF_eval hsz, fPut]
  go_simp
 refine (qf_step 29 ?_ ?_ ?_ (.bool false) (fun w' hw' => ?_) ?_ : _)
 ·exact rfl
 ·decide
 ·exact wanted_some rfl (yield_in (o := 16) rfl rfl hsz (by decide) rfl) rfl
 ·simp only [execOp, AF_eval hsz, fPut]
  go_simp
 refine (qf_step 30 ?_ ?_ ?_ (.bool false) (fun w' hw' => ?_) ?_ : _)
 ·exact rfl
 ·decide
 ·exact wanted_none rfl
 ·simp only [execOp, AF_eval hsz, fPut]
  go_simp
 refine (qf_step 31 ?_ ?_ ?_ (.bool false) (fun w' hw' => ?_) ?_ : _)
 ·exact rfl
 ·decide
 ·exact wanted_none rfl
 ·simp only [execOp, AF_eval hsz, fPut]
  go_simp
 refine (qf_step 32 ?_ ?_ ?_ (.slice (some ⟨b1, o1, none⟩) N c1) (fun w' hw' => ?_) ?_ : _)
 ·exact rfl
 ·decide
 ·exact wanted_some rfl (yield_in (o := 31) rfl rfl hsz (by decide) rfl) rfl
 ·simp only [execOp, AF_eval hsz, fPut]
  go_simp
 refine (qf_step 33 ?_ ?_ ?_ (.int .i64 (i : Int)) (fun w' hw' => ?_) ?_ : _)
 ·exact rfl
 ·decide
 ·exact wanted_some rfl (yield_in (o := 31) rfl rfl hsz (by decide) rfl) rfl
 ·simp only [execOp, AF_eval hsz, fPut]
  go_simp
 refine (qf_step 34 ?_ ?_ ?_ (.pointer (some ⟨b1, o1 + i * 11, none⟩)) (fun w' hw' => ?_) ?_ : _)
 ·exact rfl
 ·decide
 ·exact wanted_some rfl (yield_in (o := 31) rfl rfl hsz (by decide) rfl) rfl
 ·simp only [execOp, AF_eval hsz, fPut]
  go_simp
 refine (qf_step 35 ?_ ?_ ?_ (.pointer (some ⟨b1, o1 + i * 11 + 3, none⟩)) (fun w' hw' => ?_) ?_ : _)
 ·exact rfl
 ·decide
 ·exact wanted_some rfl (yield_in (o := 31) rfl rfl hsz (by decide) rfl) rfl
 ·simp only [execOp, AF_eval hsz, fPut]
  go_simp
 refine (qf_step 36 ?_ ?_ ?_ (.slice x3 me d3) (fun w' hw' => ?_) ?_ : _)
 ·exact rfl
 ·decide
 ·exact wanted_some rfl (yield_in (o := 31) rfl rfl hsz (by decide) rfl) rfl
 ·obtain ⟨f0, f1, f2, f3, f4⟩ := hC w' hw'
  simp only [execOp, AF_eval hsz, fPut]
  go_simp
 refine (qf_step 37 ?_ ?_ ?_ (.int .i64 (me : Int)) (fun w' hw' => ?_) ?_ : _)
 ·exact rfl
 ·decide
 ·exact wanted_some rfl (yield_in (o := 31) rfl rfl hsz (by decide) rfl) rfl
 ·simp only [execOp, resolve, List.map_toArray, List.map_cons, List.map_nil, AF_eval hsz, fPut]
  go_simp
 refine (qf_step 38 ?_ ?_ ?_ (.slice (some ⟨b1, o1, none⟩) N c1) (fun w' hw' => ?_) ?_ : _)
 ·exact rfl
 ·decide
 ·exact wanted_some rfl (yield_in (o := 31) rfl rfl hsz (by decide) rfl) rfl
 ·simp only [execOp, AF_eval hsz, fPut]
  go_simp
 refine (qf_step 39 ?_ ?_ ?_ (.int .i64 (i : Int)) (fun w' hw' => ?_) ?_ : _)
 ·exact rfl
 ·decide
 ·exact wanted_some rfl (yield_in (o := 31) rfl rfl hsz (by decide) rfl) rfl
 ·simp only [execOp, AF_eval hsz, fPut]
  go_simp
 refine (qf_step 40 ?_ ?_ ?_ (.pointer (some ⟨b1, o1 + i * 11, none⟩)) (fun w' hw' => ?_) ?_ : _)
 ·exact rfl
 ·decide
 ·exact wanted_some rfl (yield_in (o := 31) rfl rfl hsz (by decide) rfl) rfl
 ·simp only [execOp, AF_eval hsz, fPut]
  go_simp
 refine (qf_step 41 ?_ ?_ ?_ (.pointer (some ⟨b1, o1 + i * 11 + 4, none⟩)) (fun w' hw' => ?_) ?_ : _)
 ·exact rfl
 ·decide
 ·exact wanted_some rfl (yield_in (o := 31) rfl rfl hsz (by decide) rfl) rfl
 ·simp only [execOp, AF_eval hsz, fPut]
  go_simp
 refine (qf_step 42 ?_ ?_ ?_ (.slice x4 me d4) (fun w' hw' => ?_) ?_ : _)
 ·exact rfl
 ·decide
 ·exact wanted_some rfl (yield_in (o := 31) rfl rfl hsz (by decide) rfl) rfl
 ·obtain ⟨f0, f1, f2, f3, f4⟩ := hC w' hw'
  simp only [execOp, AF_eval hsz, fPut]
  go_simp
 refine (qf_step 43 ?_ ?_ ?_ (.int .i64 (me : Int)) (fun w' hw' => ?_) ?_ : _)
 ·exact rfl
 ·decide
 ·exact wanted_some rfl (yield_in (o := 31) rfl rfl hsz (by decide) rfl) rfl
 ·simp only [execOp, resolve, List.map_toArray, List.map_cons, List.map_nil, AF_eval hsz, fPut]
  go_simp
 refine (qf_step 44 ?_ ?_ ?_ (.bool false) (fun w' hw' => ?_) ?_ : _)
 ·exact rfl
 ·decide
 ·exact wanted_some rfl (yield_in (o := 31) rfl rfl hsz (by decide) rfl) rfl
 ·simp only [execOp, AF_eval hsz, fPut]
  go_simp
 refine (qf_step 45 ?_ ?_ ?_ (.bool false) (fun w' hw' => ?_) ?_ : _)
 ·exact rfl
 ·decide
 ·exact wanted_none rfl
 ·simp only [execOp, AF_eval hsz, fPut]
  go_simp
 refine (wpQuiet_nil ?_ : _)
 exact hQ _ rfl
-- ops13 is above: noncomputable def ops13x : Array Oper := ((Tryz.f4.body.bind (findReg 13)).getD #[])
set_option maxRecDepth 100000 in
set_option maxHeartbeats 4000000 in
theorem reg13b {C : World → Prop} {Q : Act → Prop} (base : Array Value) (hz : base.size = 416) (i i' sh' b1 o1 N c1 mr me d1 d2 d3 d4 sh : Nat) (x1 x2 x3 x4 : Option Addr)
  (s15 : base.getD 15 undef = .slice (some ⟨b1, o1, none⟩) N c1) (s18 : base.getD 18 undef = .int .i64 (i : Int))
  (hC : ∀ w', C w' → w'.cell? ⟨b1, o1 + i * 11, none⟩ = some (.int .u32 (sh : Int)) ∧ w'.cell? ⟨b1, o1 + i * 11 + 1, none⟩ = some (.slice x1 mr d1) ∧ w'.cell? ⟨b1, o1 + i * 11 + 2, none⟩ = some (.slice x2 mr d2) ∧ w'.cell? ⟨b1, o1 + i * 11 + 3, none⟩ = some (.slice x3 me d3) ∧ w'.cell? ⟨b1, o1 + i * 11 + 4, none⟩ = some (.slice x4 me d4) ∧ w'.cell? ⟨b1, o1 + i' * 11, none⟩ = some (.int .u32 (sh' : Int))) (h6 : (i : Int) < (N : Int)) (_h0 : (0 : Int) < (i : Int)) (h0p : 0 < i) (_h0n : decide (0 < i) = true) (hs : (i : Int) - 1 = (i' : Int)) (hw : IntKind.i64.wrap (i' : Int) = (i' : Int)) (h7 : (i' : Int) < (N : Int)) (h8 : ¬ (sh : Int) ≤ (sh' : Int)) (_h9 : decide ((sh : Int) ≤ (sh' : Int)) = false)
  (hQ : ∀ f : Nat → Value, f 45 = .bool false → Q (AF base 63 46 f)) : wpQuiet Tryz.prog ops13 C Q ops13.toList ⟨base, []⟩ := by
 have hsz : 63 + 46 ≤ base.size := by omega
 have hb : (⟨base, []⟩ : Act) = AF base 63 46 (fun o => base.getD (63 + o) undef) := by
  show (⟨base, []⟩ : Act) = ⟨FsO base 63 46 _, []⟩
  rw [← FsO_self]
 rw [hb]
 conv => arg 2; whnf
 conv => arg 5; whnf
 clear hb
 refine (qf_step 0 ?_ ?_ ?_ (.int .i64 (i : Int)) (fun w' hw' => ?_) ?_ : _)
 ·exact rfl
 ·decide
 ·exact wanted_none rfl
 ·simp only [execOp, AF_eval hsz]
  go_simp
 refine (qf_step 1 ?_ ?_ ?_ (.bool true) (fun w' hw' => ?_) ?_ : _)
 ·exact rfl
 ·decide
 ·exact wanted_none rfl
 ·simp only [execOp, AF_eval hsz, fPut]
  go_simp
 refine (qf_step 2 ?_ ?_ ?_ (.bool true) (fun w' hw' => ?_) ?_ : _)
 ·exact rfl
 ·decide
 ·exact wanted_none rfl
 ·simp only [execOp, AF_eval hsz, fPut]
  go_simp
 refine (qf_step 3 ?_ ?_ ?_ (.slice (some ⟨b1, o1, none⟩) N c1) (fun w' hw' => ?_) ?_ : _)
 ·exact rfl
 ·decide
 ·exact wanted_some rfl (yield_in (o := 2) rfl rfl hsz (by decide) rfl) rfl
 ·simp only [execOp, AF_eval hsz, fPut]
  go_simp
 refine (qf_step 4 ?_ ?_ ?_ (.int .i64 (i : Int)) (fun w' hw' => ?_) ?_ : _)
 ·exact rfl
 ·decide
 ·exact wanted_some rfl (yield_in (o := 2) rfl rfl hsz (by decide) rfl) rfl
 ·simp only [execOp, AF_eval hsz, fPut]
  go_simp
 refine (qf_step 5 ?_ ?_ ?_ (.int .i64 (i' : Int)) (fun w' hw' => ?_) ?_ : _)
 ·exact rfl
 ·decide
 ·exact wanted_some rfl (yield_in (o := 2) rfl rfl hsz (by decide) rfl) rfl
 ·simp only [execOp, AF_eval hsz, fPut]
  go_simp
 refine (qf_step 6 ?_ ?_ ?_ (.pointer (some ⟨b1, o1 + i' * 11, none⟩)) (fun w' hw' => ?_) ?_ : _)
 ·exact rfl
 ·decide
 ·exact wanted_some rfl (yield_in (o := 2) rfl rfl hsz (by decide) rfl) rfl
 ·simp only [execOp, AF_eval hsz, fPut]
  go_simp
 refine (qf_step 7 ?_ ?_ ?_ (.pointer (some ⟨b1, o1 + i' * 11, none⟩)) (fun w' hw' => ?_) ?_ : _)
 ·exact rfl
 ·decide
 ·exact wanted_some rfl (yield_in (o := 2) rfl rfl hsz (by decide) rfl) rfl
 ·simp only [execOp, AF_eval hsz, fPut]
  go_simp
 refine (qf_step 8 ?_ ?_ ?_ (.int .u32 (sh' : Int)) (fun w' hw' => ?_) ?_ : _)
 ·exact rfl
 ·decide
 ·exact wanted_some rfl (yield_in (o := 2) rfl rfl hsz (by decide) rfl) rfl
 ·obtain ⟨f0, f1, f2, f3, f4, f5⟩ := hC w' hw'
  simp only [execOp, AF_eval hsz, fPut]
  go_simp
 refine (qf_step 9 ?_ ?_ ?_ (.slice (some ⟨b1, o1, none⟩) N c1) (fun w' hw' => ?_) ?_ : _)
 ·exact rfl
 ·decide
 ·exact wanted_some rfl (yield_in (o := 2) rfl rfl hsz (by decide) rfl) rfl
 ·simp only [execOp, AF_eval hsz, fPut]
  go_simp
 refine (qf_step 10 ?_ ?_ ?_ (.int .i64 (i : Int)) (fun w' hw' => ?_) ?_ : _)
 ·exact rfl
 ·decide
 ·exact wanted_some rfl (yield_in (o := 2) rfl rfl hsz (by decide) rfl) rfl
 ·simp only [execOp, AF_eval hsz, fPut]
  go_simp
 refine (qf_step 11 ?_ ?_ ?_ (.pointer (some ⟨b1, o1 + i * 11, none⟩)) (fun w' hw' => ?_) ?_ : _)
 ·exact rfl
 ·decide
 ·exact wanted_some rfl (yield_in (o := 2) rfl rfl hsz (by decide) rfl) rfl
 ·simp only [execOp, AF_eval hsz, fPut]
  go_simp
 refine (qf_step 12 ?_ ?_ ?_ (.pointer (some ⟨b1, o1 + i * 11, none⟩)) (fun w' hw' => ?_) ?_ : _)
 ·exact rfl
 ·decide
 ·exact wanted_some rfl (yield_in (o := 2) rfl rfl hsz (by decide) rfl) rfl
 ·simp only [execOp, AF_eval hsz, fPut]
  go_simp
 refine (qf_step 13 ?_ ?_ ?_ (.int .u32 (sh : Int)) (fun w' hw' => ?_) ?_ : _)
 ·exact rfl
 ·decide
 ·exact wanted_some rfl (yield_in (o := 2) rfl rfl hsz (by decide) rfl) rfl
 ·obtain ⟨f0, f1, f2, f3, f4, f5⟩ := hC w' hw'
  simp only [execOp, AF_eval hsz, fPut]
  go_simp
 refine (qf_step 14 ?_ ?_ ?_ (.bool false) (fun w' hw' => ?_) ?_ : _)
 ·exact rfl
 ·decide
 ·exact wanted_some rfl (yield_in (o := 2) rfl rfl hsz (by decide) rfl) rfl
 ·simp only [execOp, AF_eval hsz, fPut]
  go_simp
 refine (qf_step 15 ?_ ?_ ?_ (.bool false) (fun w' hw' => ?_) ?_ : _)
 ·exact rfl
 ·decide
 ·exact wanted_none rfl
 ·simp only [execOp, AF_eval hsz, fPut]
  go_simp
 refine (qf_step 16 ?_ ?_ ?_ (.bool false) (fun w' hw' => ?_) ?_ : _)
 ·exact rfl
 ·decide
 ·exact wanted_none rfl
 ·simp only [execOp, AF_eval hsz, fPut]
  go_simp
 refine (qf_step 17 ?_ ?_ ?_ (.slice (some ⟨b1, o1, none⟩) N c1) (fun w' hw' => ?_) ?_ : _)
 ·exact rfl
 ·decide
 ·exact wanted_some rfl (yield_in (o := 16) rfl rfl hsz (by decide) rfl) rfl
 ·simp only [execOp, AF_eval hsz, fPut]
  go_simp
 refine (qf_step 18 ?_ ?_ ?_ (.int .i64 (i : Int)) (fun w' hw' => ?_) ?_ : _)
 ·exact rfl
 ·decide
 ·exact wanted_some rfl (yield_in (o := 16) rfl rfl hsz (by decide) rfl) rfl
 ·simp only [execOp, AF_eval hsz, fPut]
  go_simp
 refine (qf_step 19 ?_ ?_ ?_ (.pointer (some ⟨b1, o1 + i * 11, none⟩)) (fun w' hw' => ?_) ?_ : _)
 ·exact rfl
 ·decide
 ·exact wanted_some rfl (yield_in (o := 16) rfl rfl hsz (by decide) rfl) rfl
 ·simp only [execOp, AF_eval hsz, fPut]
  go_simp
 refine (qf_step 20 ?_ ?_ ?_ (.pointer (some ⟨b1, o1 + i * 11 + 1, none⟩)) (fun w' hw' => ?_) ?_ : _)
 ·exact rfl
 ·decide
 ·exact wanted_some rfl (yield_in (o := 16) rfl rfl hsz (by decide) rfl) rfl
 ·simp only [execOp, AF_eval hsz, fPut]
  go_simp
 refine (qf_step 21 ?_ ?_ ?_ (.slice x1 mr d1) (fun w' hw' => ?_) ?_ : _)
 ·exact rfl
 ·decide
 ·exact wanted_some rfl (yield_in (o := 16) rfl rfl hsz (by decide) rfl) rfl
 ·obtain ⟨f0, f1, f2, f3, f4, f5⟩ := hC w' hw'
  simp only [execOp, AF_eval hsz, fPut]
  go_simp
 refine (qf_step 22 ?_ ?_ ?_ (.int .i64 (mr : Int)) (fun w' hw' => ?_) ?_ : _)
 ·exact rfl
 ·decide
 ·exact wanted_some rfl (yield_in (o := 16) rfl rfl hsz (by decide) rfl) rfl
 ·simp only [execOp, resolve, List.map_toArray, List.map_cons, List.map_nil, AF_eval hsz, fPut]
  go_simp
 refine (qf_step 23 ?_ ?_ ?_ (.slice (some ⟨b1, o1, none⟩) N c1) (fun w' hw' => ?_) ?_ : _)
 ·exact rfl
 ·decide
 ·exact wanted_some rfl (yield_in (o := 16) rfl rfl hsz (by decide) rfl) rfl
 ·simp only [execOp, AF_eval hsz, fPut]
  go_simp
 refine (qf_step 24 ?_ ?_ ?_ (.int .i64 (i : Int)) (fun w' hw' => ?_) ?_ : _)
 ·exact rfl
 ·decide
 ·exact wanted_some rfl (yield_in (o := 16) rfl rfl hsz (by decide) rfl) rfl
 ·simp only [execOp, AF_eval hsz, fPut]
  go_simp
 refine (qf_step 25 ?_ ?_ ?_ (.pointer (some ⟨b1, o1 + i * 11, none⟩)) (fun w' hw' => ?_) ?_ : _)
 ·exact rfl
 ·decide
 ·exact wanted_some rfl (yield_in (o := 16) rfl rfl hsz (by decide) rfl) rfl
 ·simp only [execOp, AF_eval hsz, fPut]
  go_simp
 refine (qf_step 26 ?_ ?_ ?_ (.pointer (some ⟨b1, o1 + i * 11 + 2, none⟩)) (fun w' hw' => ?_) ?_ : _)
 ·exact rfl
 ·decide
 ·exact wanted_some rfl (yield_in (o := 16) rfl rfl hsz (by decide) rfl) rfl
 ·simp only [execOp, AF_eval hsz, fPut]
  go_simp
 refine (qf_step 27 ?_ ?_ ?_ (.slice x2 mr d2) (fun w' hw' => ?_) ?_ : _)
 ·exact rfl
 ·decide
 ·exact wanted_some rfl (yield_in (o := 16) rfl rfl hsz (by decide) rfl) rfl
 ·obtain ⟨f0, f1, f2, f3, f4, f5⟩ := hC w' hw'
  simp only [execOp, AF_eval hsz, fPut]
  go_simp
 refine (qf_step 28 ?_ ?_ ?_ (.int .i64 (mr : Int)) (fun w' hw' => ?_) ?_ : _)
 ·exact rfl
 ·decide
 ·exact wanted_some rfl (yield_in (o := 16) rfl rfl hsz (by decide) rfl) rfl
 ·simp only [execOp, resolve, List.map_toArray, List.map_cons, List.map_nil, AF_eval hsz, fPut]
  go_simp
 refine (qf_step 29 ?_ ?_ ?_ (.bool false) (fun w' hw' => ?_) ?_ : _)
 ·exact rfl
 ·decide
 ·exact wanted_some rfl (yield_in (o := 16) rfl rfl hsz (by decide) rfl) rfl
 ·simp only [execOp, AF_eval hsz, fPut]
  go_simp
 refine (qf_step 30 ?_ ?_ ?_ (.bool false) (fun w' hw' => ?_) ?_ : _)
 ·exact rfl
 ·decide
 ·exact wanted_none rfl
 ·simp only [execOp, AF_eval hsz, fPut]
  go_simp
 refine (qf_step 31 ?_ ?_ ?_ (.bool false) (fun w' hw' => ?_) ?_ : _)
 ·exact rfl
 ·decide
 ·exact wanted_none rfl
 ·simp only [execOp, AF_eval hsz, fPut]
  go_simp
 refine (qf_step 32 ?_ ?_ ?_ (.slice (some ⟨b1, o1, none⟩) N c1) (fun w' hw' => ?_) ?_ : _)
 ·exact rfl
 ·decide
 ·exact wanted_some rfl (yield_in (o := 31) rfl rfl hsz (by decide) rfl) rfl
 ·simp only [execOp, AF_eval hsz, fPut]
  go_simp
 refine (qf_step 33 ?_ ?_ ?_ (.int .i64 (i : Int)) (fun w' hw' => ?_) ?_ : _)
 ·exact rfl
 ·decide
 ·exact wanted_some rfl (yield_in (o := 31) rfl rfl hsz (by decide) rfl) rfl
 ·simp only [execOp, AF_eval hsz, fPut]
  go_simp
 refine (qf_step 34 ?_ ?_ ?_ (.pointer (some ⟨b1, o1 + i * 11, none⟩)) (fun w' hw' => ?_) ?_ : _)
 ·exact rfl
 ·decide
 ·exact wanted_some rfl (yield_in (o := 31) rfl rfl hsz (by decide) rfl) rfl
 ·simp only [execOp, AF_eval hsz, fPut]
  go_simp
 refine (qf_step 35 ?_ ?_ ?_ (.pointer (some ⟨b1, o1 + i * 11 + 3, none⟩)) (fun w' hw' => ?_) ?_ : _)
 ·exact rfl
 ·decide
 ·exact wanted_some rfl (yield_in (o := 31) rfl rfl hsz (by decide) rfl) rfl
 ·simp only [execOp, AF_eval hsz, fPut]
  go_simp
 refine (qf_step 36 ?_ ?_ ?_ (.slice x3 me d3) (fun w' hw' => ?_) ?_ : _)
 ·exact rfl
 ·decide
 ·exact wanted_some rfl (yield_in (o := 31) rfl rfl hsz (by decide) rfl) rfl
 ·obtain ⟨f0, f1, f2, f3, f4, f5⟩ := hC w' hw'
  simp only [execOp, AF_eval hsz, fPut]
  go_simp
 refine (qf_step 37 ?_ ?_ ?_ (.int .i64 (me : Int)) (fun w' hw' => ?_) ?_ : _)
 ·exact rfl
 ·decide
 ·exact wanted_some rfl (yield_in (o := 31) rfl rfl hsz (by decide) rfl) rfl
 ·simp only [execOp, resolve, List.map_toArray, List.map_cons, List.map_nil, AF_eval hsz, fPut]
  go_simp
 refine (qf_step 38 ?_ ?_ ?_ (.slice (some ⟨b1, o1, none⟩) N c1) (fun w' hw' => ?_) ?_ : _)
 ·exact rfl
 ·decide
 ·exact wanted_some rfl (yield_in (o := 31) rfl rfl hsz (by decide) rfl) rfl
 ·simp only [execOp, AF_eval hsz, fPut]
  go_simp
 refine (qf_step 39 ?_ ?_ ?_ (.int .i64 (i : Int)) (fun w' hw' => ?_) ?_ : _)
 ·exact rfl
 ·decide
 ·exact wanted_some rfl (yield_in (o := 31) rfl rfl hsz (by decide) rfl) rfl
 ·simp only [execOp, AF_eval hsz, fPut]
  go_simp
 refine (qf_step 40 ?_ ?_ ?_ (.pointer (some ⟨b1, o1 + i * 11, none⟩)) (fun w' hw' => ?_) ?_ : _)
 ·exact rfl
 ·decide
 ·exact wanted_some rfl (yield_in (o := 31) rfl rfl hsz (by decide) rfl) rfl
 ·simp only [execOp, AF_eval hsz, fPut]
  go_simp
 refine (qf_step 41 ?_ ?_ ?_ (.pointer (some ⟨b1, o1 + i * 11 + 4, none⟩)) (fun w' hw' => ?_) ?_ : _)
 ·exact rfl
 ·decide
 ·exact wanted_some rfl (yield_in (o := 31) rfl rfl hsz (by decide) rfl) rfl
 ·simp only [execOp, AF_eval hsz, fPut]
  go_simp
 refine (qf_step 42 ?_ ?_ ?_ (.slice x4 me d4) (fun w' hw' => ?_) ?_ : _)
 ·exact rfl
 ·decide
 ·exact wanted_some rfl (yield_in (o := 31) rfl rfl hsz (by decide) rfl) rfl
 ·obtain ⟨f0, f1, f2, f3, f4, f5⟩ := hC w' hw'
  simp only [execOp, AF_eval hsz, fPut]
  go_simp
 refine (qf_step 43 ?_ ?_ ?_ (.int .i64 (me : Int)) (fun w' hw' => ?_) ?_ : _)
 ·exact rfl
 ·decide
 ·exact wanted_some rfl (yield_in (o := 31) rfl rfl hsz (by decide) rfl) rfl
 ·simp only [execOp, resolve, List.map_toArray, List.map_cons, List.map_nil, AF_eval hsz, fPut]
  go_simp
 refine (qf_step 44 ?_ ?_ ?_ (.bool false) (fun w' hw' => ?_) ?_ : _)
 ·exact rfl
 ·decide
 ·exact wanted_some rfl (yield_in (o := 31) rfl rfl hsz (by decide) rfl) rfl
 ·simp only [execOp, AF_eval hsz, fPut]
  go_simp
 refine (qf_step 45 ?_ ?_ ?_ (.bool false) (fun w' hw' => ?_) ?_ : _)
 ·exact rfl
 ·decide
 ·exact wanted_none rfl
 ·simp only [execOp, AF_eval hsz, fPut]
  go_simp
 refine (wpQuiet_nil ?_ : _)
 exact hQ _ rfl
end Go.Proofs.YtggdkfijioeijaaGreatDoor

