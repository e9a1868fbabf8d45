/- The log's closures: Append$1, Checkpoint$1, Checkpoint$2; the disk and the log, grown out of a world. The log's Append, plainly; and how a log in memory turns. -/
import Derived.Test.YtniflkggcceagaaQv08
namespace Go.Proofs.Ytniflkggcceagaa
open Go Go.RowKit
theorem DkG.drew {S : Nat → Prop} {d : Nat} {w w' : World} {r : Int × Dk} {e : Ending} (h : DkG S d w.drew r e w') : DkG S d w r e w' := ⟨h.1, h.2.1, h.2.2.os, h.2.2.tape, h.2.2.output, h.2.2.size, h.2.2.block⟩
structure AppC (b3 b23 b22 x d g j n cp : Nat) (f : Int) (p : List UInt8) (w : World) : Prop where
  h1 : w.cell? ⟨b3, 0, none⟩ = some (.pointer (some ⟨x, 0, none⟩))
  h2 : w.cell? ⟨x, 0, none⟩ = some (.pointer (some ⟨d, 0, none⟩))
  h3 : w.cell? ⟨x, 7, none⟩ = some (.slice (some ⟨g, 0, none⟩) n cp)
  h4 : w.cell? ⟨g, j, none⟩ = some (.int .i64 f)
  h5 : w.cell? ⟨b23, 0, none⟩ = some (.int .i64 (j : Int))
  h6 : w.cell? ⟨b22, 0, none⟩ = some (.string (bs p))
theorem AppC.but {b3 b23 b22 x d g j n cp : Nat} {f : Int} {p : List UInt8} {w w' : World} {S : Nat → Prop} (h : AppC b3 b23 b22 x d g j n cp f p w) (hb : ButS S w w') (n1 : ¬ S b3) (n2 : ¬ S x) (n3 : ¬ S g) (n4 : ¬ S b23) (n5 : ¬ S b22) : AppC b3 b23 b22 x d g j n cp f p w' :=
  ⟨(hb.cell (p := ⟨b3, 0, none⟩) (cell_lt h.h1) n1).trans h.h1, (hb.cell (p := ⟨x, 0, none⟩) (cell_lt h.h2) n2).trans h.h2, (hb.cell (p := ⟨x, 7, none⟩) (cell_lt h.h3) n2).trans h.h3, (hb.cell (p := ⟨g, j, none⟩) (cell_lt h.h4) n3).trans h.h4, (hb.cell (p := ⟨b23, 0, none⟩) (cell_lt h.h5) n4).trans h.h5, (hb.cell (p := ⟨b22, 0, none⟩) (cell_lt h.h6) n5).trans h.h6⟩
set_option maxRecDepth 100000 in
set_option maxHeartbeats 2000000 in
theorem app1 (w : World) {S : Nat → Prop} {b3 b23 b22 x d g j n cp : Nat} {f : Int} {p : List UInt8} {D : Dk} (h : DiskAt w S d D) (hk : DkOk D) (hp : p.length ≤ 1073741824) (hj : j < n) (hc : AppC b3 b23 b22 x d g j n cp f p w) (n1 : ¬ S b3) (n2 : ¬ S x) (n3 : ¬ S g) (n4 : ¬ S b23) (n5 : ¬ S b22) :
    Calls Try.prog 36 #[.pointer (some ⟨b3, 0, none⟩), .pointer (some ⟨b23, 0, none⟩), .pointer (some ⟨b22, 0, none⟩)] w (DkG S d w (D.write f p)) := by
  have HC := Lib.hid (disk_Write w.drew f p h.drew hk hp)
  have HA := Lib.hid hc
  have hji : (j : Int) < (n : Int) := by omega
  obtain ⟨r, hr⟩ : ∃ r, D.write f p = r := ⟨_, rfl⟩
  rw [hr] at HC ⊢
  clear hr h hk hp hc
  go_enter Try.func36, Try.ntmps36
  go_upto_region 1 with fail
  refine wp_region_held_drew (S := fun w' => Hid (AppC b3 b23 b22 x d g j n cp f p w')) (by kernel_rfl) (Lib.hid (HA.out.but (S := fun _ => False) ⟨rfl, rfl, rfl, Nat.le_refl _, fun _ _ _ => rfl⟩ id id id id id)) (fun hS => ?_)
  refine wpAnyH_take (i := 0) (v := .pointer (some ⟨x, 0, none⟩)) rfl (by kernel_rfl) (by kernel_rfl) (by kernel_rfl) (fun _ _ _ h => h) (Or.inl ⟨by rfl, fun w' hw => ?_⟩) hS ?_
  · obtain ⟨h1, h2, h3, h4, h5, h6⟩ := hw.out
    go_simp
  go_frame
  refine wpAnyH_take (i := 1) (v := .pointer (some ⟨x, 0, none⟩)) rfl (by kernel_rfl) (by kernel_rfl) (by kernel_rfl) (fun _ _ _ h => h) (Or.inl ⟨by rfl, fun w' hw => ?_⟩) hS ?_
  · obtain ⟨h1, h2, h3, h4, h5, h6⟩ := hw.out
    go_simp
  go_frame
  refine wpAnyH_take (i := 2) (v := .pointer (some ⟨x, 0, none⟩)) rfl (by kernel_rfl) (by kernel_rfl) (by kernel_rfl) (fun _ _ _ h => h) (Or.inl ⟨by rfl, fun w' hw => ?_⟩) hS ?_
  · obtain ⟨h1, h2, h3, h4, h5, h6⟩ := hw.out
    go_simp
  go_frame
  refine wpAnyH_take (i := 3) (v := .pointer (some ⟨d, 0, none⟩)) rfl (by kernel_rfl) (by kernel_rfl) (by kernel_rfl) (fun _ _ _ h => h) (Or.inl ⟨by rfl, fun w' hw => ?_⟩) hS ?_
  · obtain ⟨h1, h2, h3, h4, h5, h6⟩ := hw.out
    go_simp
  go_frame
  refine wpAnyH_take (i := 4) (v := .pointer (some ⟨x, 0, none⟩)) rfl (by kernel_rfl) (by kernel_rfl) (by kernel_rfl) (fun _ _ _ h => h) (Or.inl ⟨by rfl, fun w' hw => ?_⟩) hS ?_
  · obtain ⟨h1, h2, h3, h4, h5, h6⟩ := hw.out
    go_simp
  go_frame
  refine wpAnyH_take (i := 5) (v := .pointer (some ⟨x, 0, none⟩)) rfl (by kernel_rfl) (by kernel_rfl) (by kernel_rfl) (fun _ _ _ h => h) (Or.inl ⟨by rfl, fun w' hw => ?_⟩) hS ?_
  · obtain ⟨h1, h2, h3, h4, h5, h6⟩ := hw.out
    go_simp
  go_frame
  refine wpAnyH_take (i := 6) (v := .pointer (some ⟨x, 7, none⟩)) rfl (by kernel_rfl) (by kernel_rfl) (by kernel_rfl) (fun _ _ _ h => h) (Or.inl ⟨by rfl, fun w' hw => ?_⟩) hS ?_
  · obtain ⟨h1, h2, h3, h4, h5, h6⟩ := hw.out
    go_simp
  go_frame
  refine wpAnyH_take (i := 7) (v := .slice (some ⟨g, 0, none⟩) n cp) rfl (by kernel_rfl) (by kernel_rfl) (by kernel_rfl) (fun _ _ _ h => h) (Or.inl ⟨by rfl, fun w' hw => ?_⟩) hS ?_
  · obtain ⟨h1, h2, h3, h4, h5, h6⟩ := hw.out
    go_simp
  go_frame
  refine wpAnyH_take (i := 8) (v := .int .i64 (j : Int)) rfl (by kernel_rfl) (by kernel_rfl) (by kernel_rfl) (fun _ _ _ h => h) (Or.inl ⟨by rfl, fun w' hw => ?_⟩) hS ?_
  · obtain ⟨h1, h2, h3, h4, h5, h6⟩ := hw.out
    go_simp
  go_frame
  refine wpAnyH_take (i := 9) (v := .pointer (some ⟨g, j, none⟩)) rfl (by kernel_rfl) (by kernel_rfl) (by kernel_rfl) (fun _ _ _ h => h) (Or.inl ⟨by rfl, fun w' hw => ?_⟩) hS ?_
  · obtain ⟨h1, h2, h3, h4, h5, h6⟩ := hw.out
    go_simp
  go_frame
  refine wpAnyH_take (i := 10) (v := .int .i64 f) rfl (by kernel_rfl) (by kernel_rfl) (by kernel_rfl) (fun _ _ _ h => h) (Or.inl ⟨by rfl, fun w' hw => ?_⟩) hS ?_
  · obtain ⟨h1, h2, h3, h4, h5, h6⟩ := hw.out
    go_simp
  go_frame
  refine wpAnyH_take (i := 11) (v := .string (bs p)) rfl (by kernel_rfl) (by kernel_rfl) (by kernel_rfl) (fun _ _ _ h => h) (Or.inl ⟨by rfl, fun w' hw => ?_⟩) hS ?_
  · obtain ⟨h1, h2, h3, h4, h5, h6⟩ := hw.out
    go_simp
  go_frame
  refine wpAnyH_ready (rs := [12]) (by kernel_rfl) (by simp) ?_
  refine AllReadyH.cons rfl (fun K hK => ?_) AllReadyH.nil
  rw [if_pos (by rfl)]
  go_simp
  refine HC.out.mono ?_
  rintro e w1 ⟨rfl, g1, g2⟩
  have G1 := Lib.hid g1; have G2 := Lib.hid g2
  refine hK.out _ _ (Lib.hid ((HA.out.but (S := fun _ => False) (w' := w.drew) ⟨rfl, rfl, rfl, Nat.le_refl _, fun _ _ _ => rfl⟩ id id id id id).but g2 n1 n2 n3 n4 n5)) (fun hS => ?_)
  clear hK g1 g2
  (try go_frame)
  refine wpAnyH_take (i := 13) (v := .int .i64 r.1) rfl (by kernel_rfl) (by kernel_rfl) (by kernel_rfl) (fun _ _ _ h => h) (Or.inl ⟨by rfl, fun w' hw => ?_⟩) hS ?_
  · obtain ⟨h1, h2, h3, h4, h5, h6⟩ := hw.out
    go_simp
  simp only [Act.put, List.getElem_toArray, List.getElem_cons_succ, List.getElem_cons_zero, List.setIfInBounds_toArray, List.set_cons_zero, List.set_cons_succ]
  refine wpAnyH_done (by kernel_rfl) ?_ _
  go_wp2_with fail
  go_ret
  exact DkG.drew ⟨rfl, G1.out, G2.out⟩
theorem doer_app {S0 : Nat → Prop} {w0 : World} {b3 b23 b22 x d g j n cp : Nat} {f : Int} {p : List UInt8} (hj : j < n) (hc : AppC b3 b23 b22 x d g j n cp f p w0) (n1 : ¬ S0 b3) (n2 : ¬ S0 x) (n3 : ¬ S0 g) (n4 : ¬ S0 b23) (n5 : ¬ S0 b22) :
    Doer S0 w0 d (.func (.func 36) #[] #[.pointer (some ⟨b3, 0, none⟩), .pointer (some ⟨b23, 0, none⟩), .pointer (some ⟨b22, 0, none⟩)]) (.write f p) :=
  ⟨_, _, _, rfl, enters_of Try.func36 (by kernel_rfl) rfl, fun w D h hb hk hf =>
    have gr : ∀ k, ¬ S0 k → k < w0.heap.size → ¬ Gr S0 w0 w k := fun k hn hl hg => hg.elim hn (fun h => by omega)
    app1 w h hk hf hj (hc.but hb n1 n2 n3 n4 n5) (gr _ n1 (cell_lt hc.h1)) (gr _ n2 (cell_lt hc.h2)) (gr _ n3 (cell_lt hc.h4)) (gr _ n4 (cell_lt hc.h5)) (gr _ n5 (cell_lt hc.h6))⟩
structure ChkC (b2 b8 x d : Nat) (f : Int) (w : World) : Prop where
  h1 : w.cell? ⟨b2, 0, none⟩ = some (.pointer (some ⟨x, 0, none⟩))
  h2 : w.cell? ⟨x, 0, none⟩ = some (.pointer (some ⟨d, 0, none⟩))
  h5 : w.cell? ⟨b8, 0, none⟩ = some (.int .i64 f)
theorem ChkC.but {b2 b8 x d : Nat} {f : Int} {w w' : World} {S : Nat → Prop} (h : ChkC b2 b8 x d f w) (hb : ButS S w w') (n1 : ¬ S b2) (n2 : ¬ S x) (n4 : ¬ S b8) : ChkC b2 b8 x d f w' :=
  ⟨(hb.cell (p := ⟨b2, 0, none⟩) (cell_lt h.h1) n1).trans h.h1, (hb.cell (p := ⟨x, 0, none⟩) (cell_lt h.h2) n2).trans h.h2, (hb.cell (p := ⟨b8, 0, none⟩) (cell_lt h.h5) n4).trans h.h5⟩
set_option maxRecDepth 100000 in
set_option maxHeartbeats 2000000 in
theorem chk1 (w : World) {S : Nat → Prop} {b2 b8 b6 x d : Nat} {f : Int} {p : List UInt8} {D : Dk} (h : DiskAt w S d D) (hk : DkOk D) (hp : p.length ≤ 1073741824) (hc : ChkC b2 b8 x d f w) (h6 : w.cell? ⟨b6, 0, none⟩ = some (.string (bs p))) (n1 : ¬ S b2) (n2 : ¬ S x) (n4 : ¬ S b8) (n5 : ¬ S b6) :
    Calls Try.prog 40 #[.pointer (some ⟨b2, 0, none⟩), .pointer (some ⟨b8, 0, none⟩), .pointer (some ⟨b6, 0, none⟩)] w (DkG S d w (D.write f p)) := by
  have HC := Lib.hid (disk_Write w.drew f p h.drew hk hp)
  have HA := Lib.hid hc; have H6 := Lib.hid h6
  obtain ⟨r, hr⟩ : ∃ r, D.write f p = r := ⟨_, rfl⟩
  rw [hr] at HC ⊢
  clear hr h hk hp hc h6
  go_enter Try.func40, Try.ntmps40
  go_upto_region 1 with fail
  refine wp_region_held_drew (S := fun w' => Hid (ChkC b2 b8 x d f w' ∧ w'.cell? ⟨b6, 0, none⟩ = some (.string (bs p)))) (by kernel_rfl) (Lib.hid ⟨HA.out.but (S := fun _ => False) ⟨rfl, rfl, rfl, Nat.le_refl _, fun _ _ _ => rfl⟩ id id id, H6.out⟩) (fun hS => ?_)
  refine wpAnyH_take (i := 0) (v := .pointer (some ⟨x, 0, none⟩)) rfl (by kernel_rfl) (by kernel_rfl) (by kernel_rfl) (fun _ _ _ h => h) (Or.inl ⟨by rfl, fun w' hw => ?_⟩) hS ?_
  · obtain ⟨⟨h1, h2, h5⟩, h6⟩ := hw.out
    go_simp
  go_frame
  refine wpAnyH_take (i := 1) (v := .pointer (some ⟨x, 0, none⟩)) rfl (by kernel_rfl) (by kernel_rfl) (by kernel_rfl) (fun _ _ _ h => h) (Or.inl ⟨by rfl, fun w' hw => ?_⟩) hS ?_
  · obtain ⟨⟨h1, h2, h5⟩, h6⟩ := hw.out
    go_simp
  go_frame
  refine wpAnyH_take (i := 2) (v := .pointer (some ⟨x, 0, none⟩)) rfl (by kernel_rfl) (by kernel_rfl) (by kernel_rfl) (fun _ _ _ h => h) (Or.inl ⟨by rfl, fun w' hw => ?_⟩) hS ?_
  · obtain ⟨⟨h1, h2, h5⟩, h6⟩ := hw.out
    go_simp
  go_frame
  refine wpAnyH_take (i := 3) (v := .pointer (some ⟨d, 0, none⟩)) rfl (by kernel_rfl) (by kernel_rfl) (by kernel_rfl) (fun _ _ _ h => h) (Or.inl ⟨by rfl, fun w' hw => ?_⟩) hS ?_
  · obtain ⟨⟨h1, h2, h5⟩, h6⟩ := hw.out
    go_simp
  go_frame
  refine wpAnyH_take (i := 4) (v := .int .i64 f) rfl (by kernel_rfl) (by kernel_rfl) (by kernel_rfl) (fun _ _ _ h => h) (Or.inl ⟨by rfl, fun w' hw => ?_⟩) hS ?_
  · obtain ⟨⟨h1, h2, h5⟩, h6⟩ := hw.out
    go_simp
  go_frame
  refine wpAnyH_take (i := 5) (v := .string (bs p)) rfl (by kernel_rfl) (by kernel_rfl) (by kernel_rfl) (fun _ _ _ h => h) (Or.inl ⟨by rfl, fun w' hw => ?_⟩) hS ?_
  · obtain ⟨⟨h1, h2, h5⟩, h6⟩ := hw.out
    go_simp
  go_frame
  refine wpAnyH_ready (rs := [6]) (by kernel_rfl) (by simp) ?_
  refine AllReadyH.cons rfl (fun K hK => ?_) AllReadyH.nil
  rw [if_pos (by rfl)]
  go_simp
  refine HC.out.mono ?_
  rintro e w1 ⟨rfl, g1, g2⟩
  have G1 := Lib.hid g1; have G2 := Lib.hid g2
  refine hK.out _ _ (Lib.hid ⟨(HA.out.but (S := fun _ => False) (w' := w.drew) ⟨rfl, rfl, rfl, Nat.le_refl _, fun _ _ _ => rfl⟩ id id id).but g2 n1 n2 n4, (g2.cell (p := ⟨b6, 0, none⟩) (cell_lt H6.out) n5).trans H6.out⟩) (fun hS => ?_)
  clear hK g1 g2
  (try go_frame)
  refine wpAnyH_take (i := 7) (v := .int .i64 r.1) rfl (by kernel_rfl) (by kernel_rfl) (by kernel_rfl) (fun _ _ _ h => h) (Or.inl ⟨by rfl, fun w' hw => ?_⟩) hS ?_
  · obtain ⟨⟨h1, h2, h5⟩, h6⟩ := hw.out
    go_simp
  simp only [Act.put, List.getElem_toArray, List.getElem_cons_succ, List.getElem_cons_zero, List.setIfInBounds_toArray, List.set_cons_zero, List.set_cons_succ]
  refine wpAnyH_done (by kernel_rfl) ?_ _
  go_wp2_with fail
  go_ret
  exact DkG.drew ⟨rfl, G1.out, G2.out⟩
theorem doer_chk1 {S0 : Nat → Prop} {w0 : World} {b2 b8 b6 x d : Nat} {f : Int} {p : List UInt8} (hc : ChkC b2 b8 x d f w0) (h6 : w0.cell? ⟨b6, 0, none⟩ = some (.string (bs p))) (n1 : ¬ S0 b2) (n2 : ¬ S0 x) (n4 : ¬ S0 b8) (n5 : ¬ S0 b6) :
    Doer S0 w0 d (.func (.func 40) #[] #[.pointer (some ⟨b2, 0, none⟩), .pointer (some ⟨b8, 0, none⟩), .pointer (some ⟨b6, 0, none⟩)]) (.write f p) :=
  ⟨_, _, _, rfl, enters_of Try.func40 (by kernel_rfl) rfl, fun w D h hb hk hf =>
    have gr : ∀ k, ¬ S0 k → k < w0.heap.size → ¬ Gr S0 w0 w k := fun k hn hl hg => hg.elim hn (fun h => by omega)
    chk1 w h hk hf (hc.but hb n1 n2 n4) ((hb.cell (p := ⟨b6, 0, none⟩) (cell_lt h6) n5).trans h6) (gr _ n1 (cell_lt hc.h1)) (gr _ n2 (cell_lt hc.h2)) (gr _ n4 (cell_lt hc.h5)) (gr _ n5 (cell_lt h6))⟩
set_option maxRecDepth 100000 in
set_option maxHeartbeats 2000000 in
theorem chk2 (w : World) {S : Nat → Prop} {b2 b8 x d : Nat} {f : Int} {D : Dk} (h : DiskAt w S d D) (hk : DkOk D) (hc : ChkC b2 b8 x d f w) (n1 : ¬ S b2) (n2 : ¬ S x) (n4 : ¬ S b8) :
    Calls Try.prog 41 #[.pointer (some ⟨b2, 0, none⟩), .pointer (some ⟨b8, 0, none⟩)] w (DkG S d w (D.cutF f 0)) := by
  have HC := Lib.hid (disk_Cut w.drew f 0 h.drew hk (Nat.zero_le _))
  have HA := Lib.hid hc
  obtain ⟨r, hr⟩ : ∃ r, D.cutF f 0 = r := ⟨_, rfl⟩
  rw [hr] at HC ⊢
  clear hr h hk hc
  go_enter Try.func41, Try.ntmps41
  go_upto_region 1 with fail
  refine wp_region_held_drew (S := fun w' => Hid (ChkC b2 b8 x d f w')) (by kernel_rfl) (Lib.hid (HA.out.but (S := fun _ => False) ⟨rfl, rfl, rfl, Nat.le_refl _, fun _ _ _ => rfl⟩ id id id)) (fun hS => ?_)
  refine wpAnyH_take (i := 0) (v := .pointer (some ⟨x, 0, none⟩)) rfl (by kernel_rfl) (by kernel_rfl) (by kernel_rfl) (fun _ _ _ h => h) (Or.inl ⟨by rfl, fun w' hw => ?_⟩) hS ?_
  · obtain ⟨h1, h2, h5⟩ := hw.out
    go_simp
  go_frame
  refine wpAnyH_take (i := 1) (v := .pointer (some ⟨x, 0, none⟩)) rfl (by kernel_rfl) (by kernel_rfl) (by kernel_rfl) (fun _ _ _ h => h) (Or.inl ⟨by rfl, fun w' hw => ?_⟩) hS ?_
  · obtain ⟨h1, h2, h5⟩ := hw.out
    go_simp
  go_frame
  refine wpAnyH_take (i := 2) (v := .pointer (some ⟨x, 0, none⟩)) rfl (by kernel_rfl) (by kernel_rfl) (by kernel_rfl) (fun _ _ _ h => h) (Or.inl ⟨by rfl, fun w' hw => ?_⟩) hS ?_
  · obtain ⟨h1, h2, h5⟩ := hw.out
    go_simp
  go_frame
  refine wpAnyH_take (i := 3) (v := .pointer (some ⟨d, 0, none⟩)) rfl (by kernel_rfl) (by kernel_rfl) (by kernel_rfl) (fun _ _ _ h => h) (Or.inl ⟨by rfl, fun w' hw => ?_⟩) hS ?_
  · obtain ⟨h1, h2, h5⟩ := hw.out
    go_simp
  go_frame
  refine wpAnyH_take (i := 4) (v := .int .i64 f) rfl (by kernel_rfl) (by kernel_rfl) (by kernel_rfl) (fun _ _ _ h => h) (Or.inl ⟨by rfl, fun w' hw => ?_⟩) hS ?_
  · obtain ⟨h1, h2, h5⟩ := hw.out
    go_simp
  go_frame
  refine wpAnyH_ready (rs := [5]) (by kernel_rfl) (by simp) ?_
  refine AllReadyH.cons rfl (fun K hK => ?_) AllReadyH.nil
  rw [if_pos (by rfl)]
  go_simp
  refine HC.out.mono ?_
  rintro e w1 ⟨rfl, g1, g2⟩
  have G1 := Lib.hid g1; have G2 := Lib.hid g2
  refine hK.out _ _ (Lib.hid ((HA.out.but (S := fun _ => False) (w' := w.drew) ⟨rfl, rfl, rfl, Nat.le_refl _, fun _ _ _ => rfl⟩ id id id).but g2 n1 n2 n4)) (fun hS => ?_)
  clear hK g1 g2
  (try go_frame)
  refine wpAnyH_take (i := 6) (v := .int .i64 r.1) rfl (by kernel_rfl) (by kernel_rfl) (by kernel_rfl) (fun _ _ _ h => h) (Or.inl ⟨by rfl, fun w' hw => ?_⟩) hS ?_
  · obtain ⟨h1, h2, h5⟩ := hw.out
    go_simp
  simp only [Act.put, List.getElem_toArray, List.getElem_cons_succ, List.getElem_cons_zero, List.setIfInBounds_toArray, List.set_cons_zero, List.set_cons_succ]
  refine wpAnyH_done (by kernel_rfl) ?_ _
  go_wp2_with fail
  go_ret
  exact DkG.drew ⟨rfl, G1.out, G2.out⟩
theorem doer_chk2 {S0 : Nat → Prop} {w0 : World} {b2 b8 x d : Nat} {f : Int} (hc : ChkC b2 b8 x d f w0) (n1 : ¬ S0 b2) (n2 : ¬ S0 x) (n4 : ¬ S0 b8) :
    Doer S0 w0 d (.func (.func 41) #[] #[.pointer (some ⟨b2, 0, none⟩), .pointer (some ⟨b8, 0, none⟩)]) (.cut f 0) :=
  ⟨_, _, _, rfl, enters_of Try.func41 (by kernel_rfl) rfl, fun w D h hb hk _ =>
    have gr : ∀ k, ¬ S0 k → k < w0.heap.size → ¬ Gr S0 w0 w k := fun k hn hl hg => hg.elim hn (fun h => by omega)
    chk2 w h hk (hc.but hb n1 n2 n4) (gr _ n1 (cell_lt hc.h1)) (gr _ n2 (cell_lt hc.h2)) (gr _ n4 (cell_lt hc.h5))⟩
end Go.Proofs.Ytniflkggcceagaa

namespace Go.Proofs.Ytniflkggcceagaa
open Go Go.RowKit
abbrev Pc := List UInt8 × Bool
def pcs (gen : Nat) : Nat → Nat → List (List UInt8) → List Pc
  | _, _, [] => []
  | n, size, t :: r => (pieceP gen n t size, decide (100 ≤ size)) :: pcs gen (n + 1) ((if 100 ≤ size then 0 else size) + (pieceP gen n t size).length) r
theorem pcs_length (gen : Nat) : ∀ (l : List (List UInt8)) (n size : Nat), (pcs gen n size l).length = l.length
  | [], _, _ => rfl
  | t :: r, n, size => by simp [pcs, pcs_length gen r]
def needP (P : List Pc) : Nat := sumL (P.map (·.1.length))
def headsP (P : List Pc) : Nat := (P.filter (·.2)).length
theorem sumL_snoc (l : List Nat) (k : Nat) : sumL (l ++ [k]) = sumL l + k := by unfold sumL; rw [List.foldl_append]; rfl
theorem needP_snoc (P : List Pc) (y : Pc) : needP (P ++ [y]) = needP P + y.1.length := by unfold needP; rw [List.map_append]; exact sumL_snoc _ _
theorem headsP_snoc (P : List Pc) (y : Pc) : headsP (P ++ [y]) = headsP P + (if y.2 then 1 else 0) := by
  unfold headsP; rw [List.filter_append, List.length_append]; cases h : y.2 <;> simp [h]
def addLast (l : List Nat) (k : Nat) : List Nat := l.set (l.length - 1) (l.getD (l.length - 1) 0 + k)
def lastF (l : List Int) : Int := l.getD (l.length - 1) 0
def lastN (l : List Nat) : Nat := l.getD (l.length - 1) 0
def Wa.fresh (W : Wa) (D : Dk) : Wa := { W with files := W.files ++ [freeP D], sizes := W.sizes ++ [0] }
def Wa.wrote (W : Wa) (k : Nat) : Wa := { W with down := 0, sizes := addLast W.sizes k, next := W.next + 1 }
def wrs : List Pc → Dk → Wa → Int × Dk × Wa
  | [], D, W => (0, D, W)
  | y :: r, D, W =>
    if (D.write (lastF (if y.2 then W.fresh D else W).files) y.1).1 = 0
    then wrs r (D.write (lastF (if y.2 then W.fresh D else W).files) y.1).2 ((if y.2 then W.fresh D else W).wrote y.1.length)
    else ((D.write (lastF (if y.2 then W.fresh D else W).files) y.1).1, (D.write (lastF (if y.2 then W.fresh D else W).files) y.1).2, { (if y.2 then W.fresh D else W) with down := (D.write (lastF (if y.2 then W.fresh D else W).files) y.1).1 })
def apR (D : Dk) (W : Wa) (use : Int) (l : List (List UInt8)) : (Nat × Int) × Dk × Wa :=
  if W.down ≠ 0 then ((0, 121), D, W)
  else if roomP D W + use < (needP (pcs W.gen W.next (lastN W.sizes) l) : Int) ∨ freesP D < headsP (pcs W.gen W.next (lastN W.sizes) l) then ((0, 4), D, W)
  else if (wrs (pcs W.gen W.next (lastN W.sizes) l) D W).1 ≠ 0 then ((0, (wrs (pcs W.gen W.next (lastN W.sizes) l) D W).1), (wrs (pcs W.gen W.next (lastN W.sizes) l) D W).2.1, (wrs (pcs W.gen W.next (lastN W.sizes) l) D W).2.2)
  else ((W.next, 0), (wrs (pcs W.gen W.next (lastN W.sizes) l) D W).2.1, { (wrs (pcs W.gen W.next (lastN W.sizes) l) D W).2.2 with reserved := (wrs (pcs W.gen W.next (lastN W.sizes) l) D W).2.2.reserved - use })
structure AOk (W : Wa) (k : Nat) : Prop where
  fs : W.files.length = W.sizes.length
  one : 1 ≤ W.sizes.length
  le : W.sizes.length ≤ 100 + k
  sz : ∀ n ∈ W.sizes, n ≤ 1000000 + 100000 * k
  nx : W.next ≤ 1000000 + k
theorem AOk.fresh {W : Wa} {k : Nat} (h : AOk W k) (D : Dk) : (W.fresh D).files.length = (W.fresh D).sizes.length ∧ 1 ≤ (W.fresh D).sizes.length ∧ (W.fresh D).sizes.length ≤ 100 + (k + 1) ∧ (∀ n ∈ (W.fresh D).sizes, n ≤ 1000000 + 100000 * k) ∧ (W.fresh D).next = W.next := by
  refine ⟨?_, ?_, ?_, ?_, rfl⟩
  · show (W.files ++ [_]).length = (W.sizes ++ [_]).length
    rw [List.length_append, List.length_append, h.fs]; rfl
  · show 1 ≤ (W.sizes ++ [_]).length
    rw [List.length_append]; exact Nat.le_add_left _ _
  · show (W.sizes ++ [_]).length ≤ _
    rw [List.length_append]; have := h.le; simp; omega
  · intro n hn
    rcases List.mem_append.1 hn with hn | hn
    · exact h.sz n hn
    · simp at hn; omega
theorem AOk.turn {W W1 : Wa} {k : Nat} (h : AOk W k) (D : Dk) (b : Bool) (hW : W1 = if b then W.fresh D else W) : W1.files.length = W1.sizes.length ∧ 1 ≤ W1.sizes.length ∧ W1.sizes.length ≤ 100 + (k + 1) ∧ (∀ n ∈ W1.sizes, n ≤ 1000000 + 100000 * k) ∧ W1.next ≤ 1000000 + k := by
  subst hW
  cases b with
  | true => have := h.fresh D; exact ⟨this.1, this.2.1, this.2.2.1, this.2.2.2.1, by rw [show ((if true = true then W.fresh D else W)).next = W.next from rfl]; exact h.nx⟩
  | false => exact ⟨h.fs, h.one, by have := h.le; show W.sizes.length ≤ _; omega, h.sz, h.nx⟩
theorem AOk.wrote {W W1 : Wa} {k m : Nat} (h : AOk W k) (D : Dk) (b : Bool) (hW : W1 = if b then W.fresh D else W) (hm : m ≤ 100000) : AOk (W1.wrote m) (k + 1) := by
  obtain ⟨h1, h2, h3, h4, h5⟩ := h.turn D b hW
  refine ⟨?_, ?_, ?_, fun n hn => ?_, ?_⟩
  · show W1.files.length = (addLast W1.sizes m).length
    unfold addLast; rw [List.length_set]; exact h1
  · show 1 ≤ (addLast W1.sizes m).length
    unfold addLast; rw [List.length_set]; exact h2
  · show (addLast W1.sizes m).length ≤ _
    unfold addLast; rw [List.length_set]; exact h3
  · have hn2 : n ∈ W1.sizes.set (W1.sizes.length - 1) (W1.sizes.getD (W1.sizes.length - 1) 0 + m) := hn
    rcases List.mem_or_eq_of_mem_set hn2 with hn | rfl
    · have := h4 n hn; omega
    · have := h4 (W1.sizes.getD (W1.sizes.length - 1) 0) (by rw [List.getD_eq_getElem?_getD, List.getElem?_eq_getElem (by omega)]; exact List.getElem_mem _)
      omega
  · show W1.next + 1 ≤ _; omega
def LgAt (w0 : World) (S T : Nat → Prop) (x d : Nat) (D : Dk) (W : Wa) (w : World) : Prop := ∃ S' T' : Nat → Prop, DiskAt w S' d D ∧ WalAt w T' x d W ∧ (∀ k, S' k → ¬ T' k) ∧ (∀ k, S' k → S k ∨ w0.heap.size ≤ k) ∧ (∀ k, T' k → T k ∨ w0.heap.size ≤ k) ∧ ButS (fun k => S k ∨ T k) w0 w
theorem LgAt.of {w : World} {S T : Nat → Prop} {x d : Nat} {D : Dk} {W : Wa} (hd : DiskAt w S d D) (h : WalAt w T x d W) (hST : ∀ k, S k → ¬ T k) : LgAt w S T x d D W w := ⟨S, T, hd, h, hST, fun _ h => Or.inl h, fun _ h => Or.inl h, ButS.refl _⟩
theorem ButS.wide {S X : Nat → Prop} {w w1 w2 : World} (h : ButS S w w1) (k : ButS X w1 w2) (hX : ∀ k, X k → S k ∨ w.heap.size ≤ k) : ButS S w w2 :=
  ⟨k.os.trans h.os, k.tape.trans h.tape, k.output.trans h.output, Nat.le_trans h.size k.size, fun i hi hn => (k.block i (Nat.lt_of_lt_of_le hi h.size) (fun hx => (hX i hx).elim hn (fun h => by omega))).trans (h.block i hi hn)⟩
theorem LgAt.step {w0 : World} {S T : Nat → Prop} {x d : Nat} {D : Dk} {W : Wa} {w w' : World} (h : LgAt w0 S T x d D W w) (hb : Below w.heap.size w w') : LgAt w0 S T x d D W w' := by
  obtain ⟨S', T', h1, h2, h3, h4, h5, h6⟩ := h
  exact ⟨S', T', h1.step hb, h2.step hb, h3, h4, h5, h6.trans (ButS.of hb)⟩
theorem LgAt.from {w0 w1 : World} {S T : Nat → Prop} {x d : Nat} {D : Dk} {W : Wa} {w : World} (h : LgAt w1 S T x d D W w) (hb : Below w0.heap.size w0 w1) : LgAt w0 S T x d D W w := by
  obtain ⟨S', T', h1, h2, h3, h4, h5, h6⟩ := h
  have hs := hb.size
  exact ⟨S', T', h1, h2, h3, fun k hk => (h4 k hk).imp id (fun h => by omega), fun k hk => (h5 k hk).imp id (fun h => by omega), (ButS.of hb).trans h6⟩
structure A2V (W : World) (fv sv : Value) (v1 : Value) (l1 : List Value) (v2 : Value) (l2 : List Value) (W' : World) : Prop where
  r1 : W'.ownsRow 0 3 1 v1 l1.length l1
  r2 : W'.ownsRow 0 3 1 v2 l2.length l2
  ne : ∀ b, v1.ownBlock = some b → v2.ownBlock ≠ some b
  bu : ButS (fun k => fv.ownBlock = some k ∨ sv.ownBlock = some k) W W'
  o1 : ∀ b, v1.ownBlock = some b → fv.ownBlock = some b ∨ W.heap.size ≤ b
  o2 : ∀ b, v2.ownBlock = some b → sv.ownBlock = some b ∨ W.heap.size ≤ b
section
variable {W W' W'' : World} {fv sv v1 v2 : Value} {l1 l2 : List Value}
theorem A2V.step (h : A2V W fv sv v1 l1 v2 l2 W') (hb : Below W'.heap.size W' W'') : A2V W fv sv v1 l1 v2 l2 W'' :=
  ⟨ownBelow h.r1 hb, ownBelow h.r2 hb, h.ne, h.bu.trans (ButS.of hb), h.o1, h.o2⟩
theorem A2V.one {v' : Value} {l' : List Value} (h : A2V W fv sv v1 l1 v2 l2 W') (ho : W''.ownsRow 0 3 1 v' l'.length l') (hg : W'.grownBy W'' v1.ownBlock) (hat : v'.ownBlock = v1.ownBlock ∨ v'.ownBlock = some W'.heap.size) : A2V W fv sv v' l' v2 l2 W'' := by
  have hb : ButS (fun k => v1.ownBlock = some k) W' W'' := ButS.row hg (fun j e => e)
  have hs := h.bu.size
  refine ⟨ho, own_but h.r2 hb (fun g hg h2 => h.ne g h2 hg), fun b hv h2 => ?_, ⟨hg.os.trans h.bu.os, hg.tape.trans h.bu.tape, hg.output.trans h.bu.output, Nat.le_trans hs hg.size, fun k hk hn => ?_⟩, fun b hv => ?_, h.o2⟩
  · rcases hat with e | e
    · exact h.ne b (e.symm.trans hv) h2
    · rw [e] at hv; cases hv
      have := (own_k h.r2 _ h2).1; omega
  · refine (hb.block k (by omega) (fun h1 => ?_)).trans (h.bu.block k hk hn)
    rcases h.o1 k h1 with e | e
    · exact hn (Or.inl e)
    · omega
  · rcases hat with e | e
    · exact h.o1 b (e.symm.trans hv)
    · rw [e] at hv; cases hv; exact Or.inr hs
theorem A2V.swap (h : A2V W fv sv v1 l1 v2 l2 W') : A2V W sv fv v2 l2 v1 l1 W' :=
  ⟨h.r2, h.r1, fun b h1 h2 => h.ne b h2 h1, h.bu.mono (fun _k hk => hk.symm), h.o2, h.o1⟩
end
theorem wp_appV {o : Oper} {a : Act} {w : World} {K : Act → World → Prop} {Q : Exit → Act → World → Prop} (s x : Operand) (ho : o.op = .call { callee := .builtin .append, args := #[s, x], argTypes := #[60, 60] })
    {v : Value} {l : List Value} (hs : a.eval s = v) (hown : w.ownsRow 0 3 1 v l.length l) {g : Nat} {z : Int} (hx : a.eval x = .slice (some ⟨g, 0, none⟩) 1 1) (hz : Cz w g 3 #[.int .i64 z]) (hl : l.length ≤ 1000000)
    (h : ∀ v' w', w'.ownsRow 0 3 1 v' (l ++ [Value.int .i64 z]).length (l ++ [Value.int .i64 z]) → w.grownBy w' v.ownBlock → (v'.ownBlock = v.ownBlock ∨ v'.ownBlock = some w.heap.size) → K (a.put o.dst v') w') : o.wp Try.prog a w K Q := by
  obtain ⟨j0, hj, hjz, hjs, hjb⟩ := info_parts infoInt0
  obtain ⟨v', w', hr, h2, h3, h4, h5⟩ := run_append_own_at (P := Try.prog) w 0 60 o.type 3 j0 (.int .i64 0) 1 8 Try.underlying60 hj hjz hjs hjb rfl (by decide) v l.length l hown ⟨g, 0, none⟩ 1 1 [.int .i64 z] rfl (World.news_of_block hz) (by intro u hu; simp only [List.mem_cons, List.mem_nil_iff, or_false] at hu; rcases hu with rfl; rfl) (by unfold maxLen; omega) (by omega) (Nat.zero_le _)
  unfold Oper.wp execOp
  simp only [ho, resolve, invoke, builtin, Sem.run_bind, Sem.run_pure, Result.andThen_ok, List.map_toArray, List.map_cons, List.map_nil, hs, hx, hr]
  exact h v' w' (by rw [List.length_append]; exact h2) h3 h5
structure WalRows (w : World) (T : Nat → Prop) (x : Nat) (W : Wa) (fv sv : Value) : Prop where
  c7 : w.cell? ⟨x, 7, none⟩ = some fv
  c8 : w.cell? ⟨x, 8, none⟩ = some sv
  fr : w.ownsRow 0 3 1 fv W.files.length (intsV W.files)
  zr : w.ownsRow 0 3 1 sv W.sizes.length (natsV W.sizes)
  tf : ∀ b, fv.ownBlock = some b → T b ∧ b ≠ x ∧ sv.ownBlock ≠ some b
  ts : ∀ b, sv.ownBlock = some b → T b ∧ b ≠ x
theorem WalAt.look {w : World} {T : Nat → Prop} {x d : Nat} {W : Wa} (h : WalAt w T x d W) : ∃ fv sv, WalRows w T x W fv sv := by
  obtain ⟨fv, sv, l1, l2, l3, l4, l5, l6⟩ := h.rows
  exact ⟨fv, sv, l1, l2, l3, l4, l5, l6⟩
theorem WalRows.a2 {w : World} {T : Nat → Prop} {x : Nat} {W : Wa} {fv sv : Value} (h : WalRows w T x W fv sv) : A2V w fv sv fv (intsV W.files) sv (natsV W.sizes) w :=
  ⟨by have := h.fr; unfold intsV at this ⊢; rw [List.length_map]; exact this, by have := h.zr; unfold natsV at this ⊢; rw [List.length_map]; exact this, fun b hb => (h.tf b hb).2.2, ButS.refl _, fun _ h => Or.inl h, fun _ h => Or.inl h⟩
theorem WalAt.two {w w' : World} {T : Nat → Prop} {x d : Nat} {W : Wa} {fv sv v1 v2 : Value} {f : Int} {z : Nat} (h : WalAt w T x d W) (hr : WalRows w T x W fv sv) (ha : A2V w fv sv v1 (intsV W.files ++ [.int .i64 f]) v2 (natsV W.sizes ++ [.int .i64 (z : Int)]) w') :
    WalAt ((w'.setCell ⟨x, 7, none⟩ v1).setCell ⟨x, 8, none⟩ v2) (fun k => T k ∨ (w.heap.size ≤ k ∧ k < w'.heap.size)) x d { W with files := W.files ++ [f], sizes := W.sizes ++ [z] } ∧ ButS T w ((w'.setCell ⟨x, 7, none⟩ v1).setCell ⟨x, 8, none⟩ v2) := by
  have hxn : ¬ (fv.ownBlock = some x ∨ sv.ownBlock = some x) := fun e => e.elim (fun e => (hr.tf x e).2.1 rfl) (fun e => (hr.ts x e).2 rfl)
  have cc : ∀ j, w'.cell? ⟨x, j, none⟩ = w.cell? ⟨x, j, none⟩ := fun j => ha.bu.cell (p := ⟨x, j, none⟩) h.lt hxn
  have ff : ∀ j, w'.frozen? ⟨x, j, none⟩ = w.frozen? ⟨x, j, none⟩ := fun j => ha.bu.frozen (p := ⟨x, j, none⟩) h.lt hxn
  have far : ∀ j, j ≠ 7 → j ≠ 8 → ((w'.setCell ⟨x, 7, none⟩ v1).setCell ⟨x, 8, none⟩ v2).cell? ⟨x, j, none⟩ = w.cell? ⟨x, j, none⟩ := fun j h1 h2 => by
    rw [World.cell?_setCell_other _ _ _ _ (by intro e; injection e with _ e; exact h2 e.symm), World.cell?_setCell_other _ _ _ _ (by intro e; injection e with _ e; exact h1 e.symm)]; exact cc j
  have e7 : ((w'.setCell ⟨x, 7, none⟩ v1).setCell ⟨x, 8, none⟩ v2).cell? ⟨x, 7, none⟩ = some v1 := by
    rw [World.cell?_setCell_other _ _ _ _ (by intro e; injection e with _ e; exact absurd e (by decide))]
    exact World.cell?_setCell_same' _ _ _ (by rw [cc 7, hr.c7]; rfl)
  have e8 : ((w'.setCell ⟨x, 7, none⟩ v1).setCell ⟨x, 8, none⟩ v2).cell? ⟨x, 8, none⟩ = some v2 := by
    refine World.cell?_setCell_same' _ _ _ ?_
    rw [World.cell?_setCell_other _ _ _ _ (by intro e; injection e with _ e; exact absurd e (by decide)), cc 8, hr.c8]; rfl
  have hb2 : ButS (fun k => k = x) w' ((w'.setCell ⟨x, 7, none⟩ v1).setCell ⟨x, 8, none⟩ v2) := (ButS.set (S := fun k => k = x) w' (p := ⟨x, 7, none⟩) rfl v1).trans (ButS.set (S := fun k => k = x) _ (p := ⟨x, 8, none⟩) rfl v2)
  have hsz : ((w'.setCell ⟨x, 7, none⟩ v1).setCell ⟨x, 8, none⟩ v2).heap.size = w'.heap.size := by rw [setCell_size, setCell_size]
  have xl := h.lt
  have n1 : ∀ b, v1.ownBlock = some b → b ≠ x := fun b hb e => by
    subst e
    rcases ha.o1 b hb with e | e
    · exact (hr.tf b e).2.1 rfl
    · omega
  have n2 : ∀ b, v2.ownBlock = some b → b ≠ x := fun b hb e => by
    subst e
    rcases ha.o2 b hb with e | e
    · exact (hr.ts b e).2 rfl
    · omega
  have hs := ha.bu.size
  refine ⟨⟨fun k hk => ?_, Or.inl h.xx, (far 0 (by omega) (by omega)).trans h.c0, (far 1 (by omega) (by omega)).trans h.c1, (far 2 (by omega) (by omega)).trans h.c2, (far 3 (by omega) (by omega)).trans h.c3, (far 4 (by omega) (by omega)).trans h.c4, (far 5 (by omega) (by omega)).trans h.c5, (far 6 (by omega) (by omega)).trans h.c6, (far 9 (by omega) (by omega)).trans h.c9, (far 10 (by omega) (by omega)).trans h.c10, fun j => ?_, v1, v2, e7, e8, ?_, ?_, fun b hb => ⟨?_, n1 b hb, ha.ne b hb⟩, fun b hb => ⟨?_, n2 b hb⟩⟩, ?_⟩
  · rw [hsz]
    rcases hk with hk | hk
    · have := h.own k hk; omega
    · exact hk.2
  · rw [World.frozen?_setCell, World.frozen?_setCell, ff j]; exact h.fz j
  · have := own_but ha.r1 hb2 n1
    unfold intsV at this ⊢
    simpa using this
  · have := own_but ha.r2 hb2 n2
    unfold natsV at this ⊢
    simpa using this
  · rcases ha.o1 b hb with e | e
    · exact Or.inl (hr.tf b e).1
    · exact Or.inr ⟨e, (own_k ha.r1 b hb).1⟩
  · rcases ha.o2 b hb with e | e
    · exact Or.inl (hr.ts b e).1
    · exact Or.inr ⟨e, (own_k ha.r2 b hb).1⟩
  · exact (ha.bu.mono (fun k hk => hk.elim (fun e => (hr.tf k e).1) (fun e => (hr.ts k e).1))).trans (hb2.mono (fun k e => by subst e; exact h.xx))
theorem WalAt.setSize {w : World} {T : Nat → Prop} {x d gs n cp : Nat} {W : Wa} {fv : Value} (h : WalAt w T x d W) (hr : WalRows w T x W fv (.slice (some ⟨gs, 0, none⟩) n cp)) (j z : Nat) :
    WalAt (w.setCell ⟨gs, j, none⟩ (.int .i64 (z : Int))) T x d { W with sizes := W.sizes.set j z } := by
  have hn : n = W.sizes.length := by
    rcases hr.zr.2 with ⟨h1, _⟩ | ⟨g, cap, cur, h1, _⟩
    · simp at h1
    · simp only [Value.slice.injEq] at h1; exact h1.2.1
  subst hn
  have hgx := hr.ts gs rfl
  have hst := (World.ownsRow.stored hr.zr j (.int .i64 (z : Int))).1
  have hb : ButS (fun k => k = gs) w (w.setCell ⟨gs, j, none⟩ (.int .i64 (z : Int))) := ButS.set (S := fun k => k = gs) w (p := ⟨gs, j, none⟩) rfl _
  have cc : ∀ j', (w.setCell ⟨gs, j, none⟩ (.int .i64 (z : Int))).cell? ⟨x, j', none⟩ = w.cell? ⟨x, j', none⟩ := fun j' => hb.cell (p := ⟨x, j', none⟩) h.lt (fun e => hgx.2 e.symm)
  refine ⟨fun k hk => Nat.lt_of_lt_of_le (h.own k hk) hb.size, h.xx, (cc 0).trans h.c0, (cc 1).trans h.c1, (cc 2).trans h.c2, (cc 3).trans h.c3, (cc 4).trans h.c4, (cc 5).trans h.c5, (cc 6).trans h.c6, (cc 9).trans h.c9, (cc 10).trans h.c10, fun j' => (hb.frozen (p := ⟨x, j', none⟩) h.lt (fun e => hgx.2 e.symm)).trans (h.fz j'), fv, _, (cc 7).trans hr.c7, (cc 8).trans hr.c8, own_but hr.fr hb (fun g hg e => (hr.tf g hg).2.2 (by rw [e]; rfl)), ?_, hr.tf, hr.ts⟩
  show World.ownsRow _ 0 _ 1 _ (W.sizes.set j z).length (natsV (W.sizes.set j z))
  rw [List.length_set]
  unfold natsV at hst ⊢
  rw [List.map_set]
  exact hst
end Go.Proofs.Ytniflkggcceagaa
