/- Contract: the log's Append. -/
import Derived.Test.YtniflkggcceagaaQv09
namespace Go.Proofs.Ytniflkggcceagaa
open Go Go.RowKit
theorem infoBool : (Try.prog.info? 4).map (fun i => (i.zero, i.size, i.bytes)) = some (some (.bool false), 1, 1) := by kernel_rfl
theorem two_rows {B n1 n2 : Nat} {e1 e2 : TypeId} {W W1 : World} {u1 u2 : Value} {x1 x2 : List Value} (h1 : W.ownsRow B e1 1 u1 n1 x1) (h2 : W.ownsRow B e2 1 u2 n2 x2) (hne : e1 ≠ e2) (hg : W.grownBy W1 u1.ownBlock) : W1.ownsRow B e2 1 u2 n2 x2 :=
  own_kn h2 (ButS.row hg (S := fun k => u1.ownBlock = some k) (fun j e => e)) (fun k e => (own_k h1 k e).2) (by simpa using hne)
theorem steps_one (c : Dc) (D : Dk) : Dk.steps [c] D = D.do c := by
  show (if (D.do c).1 = 0 then (0, (D.do c).2) else D.do c) = _
  split
  · next h => rw [← h]
  · rfl
theorem wrs_cons {p : List UInt8} {fb : Bool} (r : List Pc) {D D2 : Dk} {W V1 : Wa} {er : Int} (hV : (if fb then W.fresh D else W) = V1) (hr : D.write (lastF V1.files) p = (er, D2)) : wrs ((p, fb) :: r) D W = if er = 0 then wrs r D2 (V1.wrote p.length) else (er, D2, { V1 with down := er }) := by
  subst hV
  show (if (D.write (lastF (if fb then W.fresh D else W).files) p).1 = 0 then _ else _) = _
  rw [hr]
def strP (P : List Pc) : List Value := P.map (fun y => .string (bs y.1))
def boolP (P : List Pc) : List Value := P.map (fun y => .bool y.2)
def ApG (S T : Nat → Prop) (x d : Nat) (r : (Nat × Int) × Dk × Wa) (w : World) (e : Ending) (w' : World) : Prop := e = .returned (.tuple #[.int .u64 (r.1.1 : Int), .int .i64 r.1.2]) ∧ LgAt w S T x d r.2.1 r.2.2 w'
set_option maxRecDepth 100000 in
set_option maxHeartbeats 4000000 in
theorem wal_Append (w : World) {S T : Nat → Prop} {x d : Nat} {W : Wa} {D : Dk} (h : WalAt w T x d W) (hd : DiskAt w S d D) (hST : ∀ k, S k → ¬ T k) (hk : DkOk D) (ho : WaOk W) (ha : AOk W 0) (hg : 1 ≤ W.gen ∧ W.gen < 128) (hn1 : 1 ≤ W.next) (hn3 : 3 ≤ D.n) (use : Int) (hu : 0 ≤ use ∧ use ≤ W.reserved)
    (l : List (List UInt8)) (lv : Value) (hl : IsStrs w lv (l.map bs)) (hlen : l.length ≤ 20) (ht : ∀ t ∈ l, t.length ≤ 65536) (hloose : D.loose.length + 20 ≤ 1000000) :
    Calls Try.prog 13 #[.pointer (some ⟨x, 0, none⟩), .int .i64 use, lv] w (ApG S T x d (apR D W use l) w) := by
  have HM := Lib.hid (fun w' (hb : Below w.heap.size w w') => wal_mayW w' (h.step hb))
  unfold Wa.mayE at HM
  obtain ⟨la, lcap, rfl, hla⟩ := hl
  have HLA : Hid (l = [] ∨ ∃ b off, la = some ⟨b, off, none⟩ ∧ b < w.heap.size ∧ ∀ i, i < l.length → w.cell? ⟨b, off + i, none⟩ = some (.string (bs (l.getD i [])))) := Lib.hid (by
    rcases hla with hla | ⟨b, off, e1, e2, e3⟩
    · exact Or.inl (List.map_eq_nil_iff.1 hla)
    · refine Or.inr ⟨b, off, e1, e2, fun i hi => ?_⟩
      rw [e3 i (by rw [List.length_map]; exact hi), List.getD_eq_getElem?_getD, List.getD_eq_getElem?_getD, List.getElem?_map, List.getElem?_eq_getElem hi]; rfl)
  rw [List.length_map]
  obtain ⟨n, hn⟩ : ∃ z, l.length = z := ⟨_, rfl⟩
  have HN := Lib.hid hn
  rw [hn] at hlen ⊢
  have H := Lib.hid h; have HD := Lib.hid hd; have HST := Lib.hid hST; have HK := Lib.hid hk; have HO := Lib.hid ho; have HAO := Lib.hid ha; have HG := Lib.hid hg; have HN1 := Lib.hid hn1; have HN3 := Lib.hid hn3; have HT := Lib.hid ht; have HLO := Lib.hid hloose
  have HXB : Hid (x < w.heap.size) := Lib.hid h.lt
  obtain ⟨dn, hdn⟩ : ∃ z, W.down = z := ⟨_, rfl⟩
  have HDN := Lib.hid hdn
  rw [hdn] at HM
  clear h hd hST hk ho ha hg hn1 hn3 ht hloose hn hdn hla
  go_enter Try.func13, Try.ntmps13
  go_upto_region 1 with fail
  refine wp_abs (F := fun W' => Hid (Below w.heap.size w W') ∧ Hid (Cz W' w.heap.size 27 #[.pointer (some ⟨x, 0, none⟩)])) ⟨Lib.hid ((Below.refl _ _).alloc (Nat.le_refl _) _), Lib.hid (Cz.new _ _ _)⟩ ?_
  rintro W0 ⟨HB0, HZ0⟩
  obtain ⟨b3, hb3⟩ : ∃ z, w.heap.size = z := ⟨_, rfl⟩
  have HBE := Lib.hid hb3
  rw [hb3] at HZ0 ⊢
  clear hb3
  have c3 := HZ0.out.c 0
  simp at c3
  by_cases hz : dn = 0
  · have HZD := Lib.hid hz
    rw [if_neg (by simpa using hz)] at HM
    clear hz
    go_wp2_with fail
    refine (HM.out W0 HB0.out).mono ?_
    rintro e w1 ⟨rfl, hw1⟩
    subst w1
    have c9 := (H.out.step HB0.out).c9
    obtain ⟨rs, hrs⟩ : ∃ z, W.reserved = z := ⟨_, rfl⟩
    have HRS := Lib.hid hrs
    rw [hrs] at c9 hu
    have hrsb : rs ≤ 1073741824 := by rw [← hrs]; exact HO.out.r.2
    obtain ⟨hu1, hu2⟩ := hu
    have hu3 : ¬ use < 0 := by omega
    have hu4 : ¬ rs < use := by omega
    have hu5 : decide (use < 0) = false := by simpa using hu1
    have hu6 : decide (rs < use) = false := by simpa using hu2
    clear hrs
    go_wp2_with fail
    go_loopw [42] (fun i wr => ∃ q : Nat, q ≤ n ∧ i = .int .i64 q ∧ wr = W0) (fun i _ => n - (intOf i).toNat)
    case atStart => exact ⟨0, Nat.zero_le _, rfl, rfl⟩
    case round =>
      obtain ⟨q, hq, rfl, hw⟩ := hrel
      subst wr
      by_cases hlt : q < n
      · have HLT := Lib.hid hlt
        have hqi : (q : Int) < (n : Int) := by omega
        obtain ⟨b, off, rfl, hbl, hcl⟩ := HLA.out.resolve_left (fun e => by have := HN.out; rw [e] at this; simp at this; omega)
        obtain ⟨t, htt⟩ : ∃ t, l.getD q [] = t := ⟨_, rfl⟩
        have cq := (HB0.out.cell (p := ⟨b, off + q, none⟩) hbl).trans (hcl q (by rw [HN.out]; exact hlt))
        rw [htt] at cq
        obtain ⟨tl, htl⟩ : ∃ z, t.length = z := ⟨_, rfl⟩
        have hts : (bs t).size = tl := by rw [bs_size, htl]
        have htb : tl ≤ 65536 := by
          rw [← htl, ← htt]
          exact HT.out _ (by rw [List.getD_eq_getElem?_getD, List.getElem?_eq_getElem (by rw [HN.out]; exact hlt)]; exact List.getElem_mem _)
        have htbi : ¬ (65536 : Int) < (tl : Int) := by omega
        have htbb : decide ((65536 : Int) < (tl : Int)) = false := by simp; omega
        clear hcl htt htl
        go_wp2_with fail
        go_roundw
        case rel => exact ⟨q + 1, by have := HLT.out; omega, by go_num, trivial⟩
        case measure => have := HLT.out; simp [intOf]; omega
      · obtain rfl : q = n := by omega
        have HW0 := Lib.hid (H.out.step HB0.out)
        obtain ⟨fv0, sv0, hlook0⟩ := HW0.out.look
        obtain ⟨a0, cp0, rfl⟩ := ownShape hlook0.zr
        obtain ⟨ns, hns⟩ : ∃ z, W.sizes.length = z := ⟨_, rfl⟩
        obtain ⟨sz0, hsz0⟩ : ∃ z, lastN W.sizes = z := ⟨_, rfl⟩
        have hns1 : 1 ≤ ns := by rw [← hns]; exact HAO.out.one
        have hns2 : ns ≤ 100 := by rw [← hns]; have := HAO.out.le; omega
        have hsz0b : sz0 ≤ 1000000 := by
          rw [← hsz0]; have := HAO.out.sz (lastN W.sizes) (by unfold lastN; rw [List.getD_eq_getElem?_getD, List.getElem?_eq_getElem (by omega)]; exact List.getElem_mem _); omega
        obtain ⟨g0, rfl, hg0⟩ := (row_at hlook0.zr (by simp [natsV])).resolve_left (by omega)
        have cs8 := hlook0.c8
        rw [hns] at cs8
        have cs0 : W0.cell? ⟨g0, ns - 1, none⟩ = some (.int .i64 (sz0 : Int)) := (hg0 (ns - 1) _ (by unfold natsV; rw [List.getElem?_map, List.getElem?_eq_getElem (by omega)]; show _ = some (Value.int .i64 (sz0 : Int)); rw [← hsz0]; unfold lastN; simp only [hns, List.getD_eq_getElem?_getD]; rw [List.getElem?_eq_getElem (by omega)]; rfl)).1
        have hnsi : (ns : Int) - 1 = ((ns - 1 : Nat) : Int) := by omega
        have hnsl : ((ns - 1 : Nat) : Int) < (ns : Int) := by omega
        obtain ⟨nj, hnj⟩ : ∃ z, ns - 1 = z := ⟨_, rfl⟩
        rw [hnj] at cs0 hnsi hnsl
        have HNS := Lib.hid hns; have HSZ0 := Lib.hid hsz0; have HNJ := Lib.hid hnj
        clear hg0 hns hsz0 hlook0 hnj hlt hq
        go_upto_region 14 with fail
        go_region
        clear cs8 cs0 c9
        obtain ⟨nx, hnx⟩ : ∃ z, W.next = z := ⟨_, rfl⟩
        have HNX := Lib.hid hnx
        have hnxb : nx ≤ 1000000 := by rw [← hnx]; exact HAO.out.nx
        have hnx1 : 1 ≤ nx := by rw [← hnx]; exact HN1.out
        have FX : Hid (∀ W', Below W0.heap.size W0 W' → W'.cell? ⟨b3, 0, none⟩ = some (.pointer (some ⟨x, 0, none⟩)) ∧ W'.cell? ⟨x, 6, none⟩ = some (.int .u64 (nx : Int))) := Lib.hid (fun W' hb => by
          have h1 := (HZ0.out.step hb).c 0
          simp at h1
          exact ⟨h1, by rw [← hnx]; exact (HW0.out.step hb).c6⟩)
        obtain ⟨PP, hPP⟩ : ∃ z, pcs W.gen W.next (lastN W.sizes) l = z := ⟨_, rfl⟩
        have HPP0 : Hid (PP = [] ++ pcs W.gen (nx + 0) sz0 (l.drop 0)) := Lib.hid (by rw [← hPP, HSZ0.out, ← hnx]; rfl)
        have HPL : Hid (PP.length = q) := Lib.hid (by rw [← hPP, pcs_length]; exact HN.out)
        have HPQ := Lib.hid hPP
        obtain ⟨i1, hi1, hi1z, hi1s, hi1b⟩ := info_parts infoStr'
        obtain ⟨i2, hi2, hi2z, hi2s, hi2b⟩ := info_parts infoBool
        clear hnx hPP
        go_wp2_with fail
        go_loopw [11, 12, 13, 14, 15, 64] (fun vp vb vn vs vh i wr => ∃ (k : Nat) (P1 : List Pc) (nd sz hh : Nat), k ≤ q ∧ i = .int .i64 k ∧ vn = .int .i64 nd ∧ vs = .int .i64 sz ∧ vh = .int .i64 hh ∧ nd ≤ k * 70000 ∧ sz ≤ 1200000 ∧ hh ≤ k ∧ Hid (PP = P1 ++ pcs W.gen (nx + k) sz (l.drop k) ∧ P1.length = k ∧ nd = needP P1 ∧ hh = headsP P1) ∧ Hid (Below W0.heap.size W0 wr) ∧ Hid (wr.ownsRow W0.heap.size 9 1 vp k (strP P1)) ∧ Hid (wr.ownsRow W0.heap.size 4 1 vb k (boolP P1))) (fun _ _ _ _ _ i _ => q - (intOf i).toNat)
        case atStart => exact ⟨0, [], 0, sz0, 0, Nat.zero_le _, rfl, rfl, rfl, rfl, Nat.zero_le _, by omega, Nat.le_refl _, Lib.hid ⟨HPP0.out, rfl, rfl, rfl⟩, Lib.hid (Below.drew (Below.refl _ _)), Lib.hid (World.ownsRow_nil _ _ _ _), Lib.hid (World.ownsRow_nil _ _ _ _)⟩
        case round =>
          obtain ⟨k, P1, nd, sz, hh, hk, rfl, rfl, rfl, rfl, hnd, hsz, hhh, HI, HBR, HRP, HRB⟩ := hrel
          clear HPP0
          by_cases hlt : k < q
          · have HLT := Lib.hid hlt
            have hqi : (k : Int) < (q : Int) := by omega
            obtain ⟨b, off, rfl, hbl, hcl⟩ := HLA.out.resolve_left (fun e => by have := HN.out; rw [e] at this; simp at this; omega)
            obtain ⟨t, htt⟩ : ∃ t, l.getD k [] = t := ⟨_, rfl⟩
            have HTT := Lib.hid htt
            have cq := (HBR.out.cell (p := ⟨b, off + k, none⟩) (by have := HB0.out.size; show b < _; omega)).trans ((HB0.out.cell (p := ⟨b, off + k, none⟩) hbl).trans (hcl k (by rw [HN.out]; exact hlt)))
            rw [htt] at cq
            have htl : t.length ≤ 65536 := by
              rw [← htt]
              exact HT.out _ (by rw [List.getD_eq_getElem?_getD, List.getElem?_eq_getElem (by rw [HN.out]; exact hlt)]; exact List.getElem_mem _)
            obtain ⟨nq, hnq⟩ : ∃ z, nx + k = z := ⟨_, rfl⟩
            have HNQ := Lib.hid hnq
            have hnqi : (nx : Int) + (k : Int) = (nq : Int) := by omega
            have hnqw : IntKind.u64.wrap (nq : Int) = (nq : Int) := by rw [IntKind.wrap_u64]; omega
            have hkw : IntKind.u64.wrap (k : Int) = (k : Int) := by rw [IntKind.wrap_u64]; omega
            obtain ⟨p, hp⟩ : ∃ z, pieceP W.gen nq t sz = z := ⟨_, rfl⟩
            obtain ⟨fb, hfb⟩ : ∃ z, decide (100 ≤ sz) = z := ⟨_, rfl⟩
            have HPC := Lib.hid (fun W' (hb : Below W0.heap.size W0 W') => wal_piece W' (HW0.out.step hb) nq t sz ⟨by omega, by omega⟩ htl HG.out)
            rw [hp, hfb] at HPC
            obtain ⟨pl, hpl⟩ : ∃ z, p.length = z := ⟨_, rfl⟩
            have hplb : pl ≤ 65570 := by
              rw [← hpl, ← hp]
              unfold pieceP
              split
              · rw [List.length_append, Wl.head_length, Wl.enc_length]; simp; omega
              · rw [Wl.enc_length]; omega
            have hps : (bs p).size = pl := by rw [bs_size, hpl]
            have HP := Lib.hid hp; have HFB := Lib.hid hfb; have HPLL := Lib.hid hpl
            clear hcl htt htl hnq hp hfb hpl
            go_upto_region 18 with fail
            refine wp_region_held_drew (S := fun w' => Hid (Below W0.heap.size W0 w')) (by kernel_rfl) (Lib.hid (Below.drew HBR.out)) (fun hS => ?_)
            refine wpAnyH_take (i := 0) (v := .pointer (some ⟨x, 0, none⟩)) rfl (by kernel_rfl) (by kernel_rfl) (by kernel_rfl) (fun _ _ _ h => h) (Or.inl ⟨by rfl, fun w' hw => ?_⟩) hS ?_
            · obtain ⟨h1, h2⟩ := FX.out _ hw.out
              go_simp
            simp only [Act.put, List.getElem_toArray, List.getElem_cons_zero, List.setIfInBounds_toArray, List.set_cons_zero, List.set_cons_succ]
            refine wpAnyH_take (i := 1) (v := .pointer (some ⟨x, 0, none⟩)) rfl (by kernel_rfl) (by kernel_rfl) (by kernel_rfl) (fun _ _ _ h => h) (Or.inl ⟨by rfl, fun w' hw => ?_⟩) hS ?_
            · obtain ⟨h1, h2⟩ := FX.out _ hw.out
              go_simp
            simp only [Act.put, List.getElem_toArray, List.getElem_cons_succ, List.getElem_cons_zero, List.setIfInBounds_toArray, List.set_cons_zero, List.set_cons_succ]
            refine wpAnyH_take (i := 2) (v := .pointer (some ⟨x, 0, none⟩)) rfl (by kernel_rfl) (by kernel_rfl) (by kernel_rfl) (fun _ _ _ h => h) (Or.inl ⟨by rfl, fun w' hw => ?_⟩) hS ?_
            · obtain ⟨h1, h2⟩ := FX.out _ hw.out
              go_simp
            simp only [Act.put, List.getElem_toArray, List.getElem_cons_succ, List.getElem_cons_zero, List.setIfInBounds_toArray, List.set_cons_zero, List.set_cons_succ]
            refine wpAnyH_take (i := 3) (v := .pointer (some ⟨x, 6, none⟩)) rfl (by kernel_rfl) (by kernel_rfl) (by kernel_rfl) (fun _ _ _ h => h) (Or.inl ⟨by rfl, fun w' hw => ?_⟩) hS ?_
            · obtain ⟨h1, h2⟩ := FX.out _ hw.out
              go_simp
            simp only [Act.put, List.getElem_toArray, List.getElem_cons_succ, List.getElem_cons_zero, List.setIfInBounds_toArray, List.set_cons_zero, List.set_cons_succ]
            refine wpAnyH_take (i := 4) (v := .int .u64 (nx : Int)) rfl (by kernel_rfl) (by kernel_rfl) (by kernel_rfl) (fun _ _ _ h => h) (Or.inl ⟨by rfl, fun w' hw => ?_⟩) hS ?_
            · obtain ⟨h1, h2⟩ := FX.out _ hw.out
              go_simp
            simp only [Act.put, List.getElem_toArray, List.getElem_cons_succ, List.getElem_cons_zero, List.setIfInBounds_toArray, List.set_cons_zero, List.set_cons_succ]
            refine wpAnyH_take (i := 5) (v := .int .i64 (k : Int)) rfl (by kernel_rfl) (by kernel_rfl) (by kernel_rfl) (fun _ _ _ h => h) (Or.inl ⟨by rfl, fun w' hw => ?_⟩) hS ?_
            · obtain ⟨h1, h2⟩ := FX.out _ hw.out
              go_simp
            simp only [Act.put, List.getElem_toArray, List.getElem_cons_succ, List.getElem_cons_zero, List.setIfInBounds_toArray, List.set_cons_zero, List.set_cons_succ]
            refine wpAnyH_take (i := 6) (v := .int .u64 (k : Int)) rfl (by kernel_rfl) (by kernel_rfl) (by kernel_rfl) (fun _ _ _ h => h) (Or.inl ⟨by rfl, fun w' hw => ?_⟩) hS ?_
            · obtain ⟨h1, h2⟩ := FX.out _ hw.out
              go_simp
            simp only [Act.put, List.getElem_toArray, List.getElem_cons_succ, List.getElem_cons_zero, List.setIfInBounds_toArray, List.set_cons_zero, List.set_cons_succ]
            refine wpAnyH_take (i := 7) (v := .int .u64 (nq : Int)) rfl (by kernel_rfl) (by kernel_rfl) (by kernel_rfl) (fun _ _ _ h => h) (Or.inl ⟨by rfl, fun w' hw => ?_⟩) hS ?_
            · obtain ⟨h1, h2⟩ := FX.out _ hw.out
              go_simp
            simp only [Act.put, List.getElem_toArray, List.getElem_cons_succ, List.getElem_cons_zero, List.setIfInBounds_toArray, List.set_cons_zero, List.set_cons_succ]
            refine wpAnyH_take (i := 8) (v := .string (bs t)) rfl (by kernel_rfl) (by kernel_rfl) (by kernel_rfl) (fun _ _ _ h => h) (Or.inl ⟨by rfl, fun w' hw => ?_⟩) hS ?_
            · obtain ⟨h1, h2⟩ := FX.out _ hw.out
              go_simp
            simp only [Act.put, List.getElem_toArray, List.getElem_cons_succ, List.getElem_cons_zero, List.setIfInBounds_toArray, List.set_cons_zero, List.set_cons_succ]
            refine wpAnyH_take (i := 9) (v := .int .i64 (sz : Int)) rfl (by kernel_rfl) (by kernel_rfl) (by kernel_rfl) (fun _ _ _ h => h) (Or.inl ⟨by rfl, fun w' hw => ?_⟩) hS ?_
            · obtain ⟨h1, h2⟩ := FX.out _ hw.out
              go_simp
            simp only [Act.put, List.getElem_toArray, List.getElem_cons_succ, List.getElem_cons_zero, List.setIfInBounds_toArray, List.set_cons_zero, List.set_cons_succ]
            refine wpAnyH_ready (rs := [10]) (by kernel_rfl) (by simp) ?_
            refine AllReadyH.cons rfl (fun K hK => ?_) AllReadyH.nil
            rw [if_pos (by rfl)]
            go_simp
            refine (HPC.out _ hS.out).mono ?_
            rintro e wn ⟨rfl, hbn⟩
            have hsn : Hid (Below W0.heap.size W0 wn) := Lib.hid (hS.out.trans (hbn.mono hS.out.size))
            refine hK.out _ _ hsn (fun hS => ?_)
            clear hK
            (try go_frame)
            refine wpAnyH_take (i := 11) (v := .tuple #[.string (bs p), .bool fb]) rfl (by kernel_rfl) (by kernel_rfl) (by kernel_rfl) (fun _ _ _ h => h) (Or.inl ⟨by rfl, fun w' hw => ?_⟩) hS ?_
            · obtain ⟨h1, h2⟩ := FX.out _ hw.out
              go_simp
            simp only [Act.put, List.getElem_toArray, List.getElem_cons_succ, List.getElem_cons_zero, List.setIfInBounds_toArray, List.set_cons_zero, List.set_cons_succ]
            refine wpAnyH_take (i := 12) (v := .string (bs p)) rfl (by kernel_rfl) (by kernel_rfl) (by kernel_rfl) (fun _ _ _ h => h) (Or.inl ⟨by rfl, fun w' hw => ?_⟩) hS ?_
            · obtain ⟨h1, h2⟩ := FX.out _ hw.out
              go_simp
            simp only [Act.put, List.getElem_toArray, List.getElem_cons_succ, List.getElem_cons_zero, List.setIfInBounds_toArray, List.set_cons_zero, List.set_cons_succ]
            refine wpAnyH_take (i := 13) (v := .bool fb) rfl (by kernel_rfl) (by kernel_rfl) (by kernel_rfl) (fun _ _ _ h => h) (Or.inl ⟨by rfl, fun w' hw => ?_⟩) hS ?_
            · obtain ⟨h1, h2⟩ := FX.out _ hw.out
              go_simp
            simp only [Act.put, List.getElem_toArray, List.getElem_cons_succ, List.getElem_cons_zero, List.setIfInBounds_toArray, List.set_cons_zero, List.set_cons_succ]
            refine wpAnyH_take (i := 14) (v := .string (bs p)) rfl (by kernel_rfl) (by kernel_rfl) (by kernel_rfl) (fun _ _ _ h => h) (Or.inl ⟨by rfl, fun w' hw => ?_⟩) hS ?_
            · obtain ⟨h1, h2⟩ := FX.out _ hw.out
              go_simp
            simp only [Act.put, List.getElem_toArray, List.getElem_cons_succ, List.getElem_cons_zero, List.setIfInBounds_toArray, List.set_cons_zero, List.set_cons_succ]
            refine wpAnyH_take (i := 15) (v := .bool fb) rfl (by kernel_rfl) (by kernel_rfl) (by kernel_rfl) (fun _ _ _ h => h) (Or.inl ⟨by rfl, fun w' hw => ?_⟩) hS ?_
            · obtain ⟨h1, h2⟩ := FX.out _ hw.out
              go_simp
            simp only [Act.put, List.getElem_toArray, List.getElem_cons_succ, List.getElem_cons_zero, List.setIfInBounds_toArray, List.set_cons_zero, List.set_cons_succ]
            refine wpAnyH_done (by kernel_rfl) ?_ _
            have HBN := hS
            have hbrn : Below wr.heap.size wr wn := (Below.drew (Below.refl _ _)).trans hbn
            have HBRN := Lib.hid hbrn
            clear hS hbrn hbn
            have HRP2 := Lib.hid (ownBelow HRP.out HBRN.out); have HRB2 := Lib.hid (ownBelow HRB.out HBRN.out)
            have HSN := Lib.hid HBN.out.size
            clear HRP HRB
            cases fb with
            | true =>
              have hsz100 : 100 ≤ sz := by simpa using HFB.out
              go_wp2_with (first
                | (at_builtin; refine wpList_append_own _ rfl _ _ 33 rfl W0.heap.size 9 i1 (.string ⟨#[]⟩) 1 16 Try.underlying33 hi1 hi1z hi1s hi1b rfl (by decide) u11 k (strP P1) rfl (ownBelow HRP2.out ((Below.refl _ _).alloc (Nat.le_refl _) _)) ⟨wn.heap.size, 0, none⟩ 1 1 [.string (bs p)] rfl rfl (World.news_of_block (MapKept.heap_alloc _ _).1) (by intro u hu; simp only [List.mem_cons, List.mem_nil_iff, or_false] at hu; rcases hu with rfl; rfl) (by unfold maxLen; omega) (by omega) (by have := HSN.out; simp; omega) ?_; intro v32 w32 hown32 hg32 _; have Hown32 := Lib.hid hown32; have Hg32 := Lib.hid hg32; clear hown32 hg32)
                | (at_builtin; refine wpList_append_own _ rfl _ _ 69 rfl W0.heap.size 4 i2 (.bool false) 1 1 Try.underlying69 hi2 hi2z hi2s hi2b rfl (by decide) u12 k (boolP P1) rfl (ownBelow (two_rows (ownBelow HRP2.out ((Below.refl _ _).alloc (Nat.le_refl _) _)) (ownBelow HRB2.out ((Below.refl _ _).alloc (Nat.le_refl _) _)) (by decide) Hg32.out) ((Below.refl _ _).alloc (Nat.le_refl _) _)) ⟨w32.heap.size, 0, none⟩ 1 1 [.bool true] rfl rfl (World.news_of_block (MapKept.heap_alloc _ _).1) (by intro u hu; simp only [List.mem_cons, List.mem_nil_iff, or_false] at hu; rcases hu with rfl; rfl) (by unfold maxLen; omega) (by omega) (by have := HSN.out; have := Hg32.out.size; simp at this ⊢; omega) ?_; intro v33 w33 hown33 hg33 _; have Hown33 := Lib.hid hown33; have Hg33 := Lib.hid hg33; clear hown33 hg33)
                | fail)
              go_roundw
              case rel =>
                refine ⟨k + 1, P1 ++ [(p, true)], nd + pl, pl, hh + 1, HLT.out, by go_num, by go_num, by go_num, by go_num, by omega, by omega, by omega, Lib.hid ?_, Lib.hid ?_, Lib.hid ?_, Lib.hid ?_⟩
                · obtain ⟨i1, i2, i3, i4⟩ := HI.out
                  have hdk : l.drop k = t :: l.drop (k + 1) := by
                    have h1 : k < l.length := by rw [HN.out]; exact HLT.out
                    rw [List.drop_eq_getElem_cons h1, ← HTT.out, List.getD_eq_getElem?_getD, List.getElem?_eq_getElem h1]; rfl
                  refine ⟨?_, by rw [List.length_append, i2]; rfl, by rw [needP_snoc, i3, HPLL.out], by rw [headsP_snoc, i4]; rfl⟩
                  rw [i1, hdk, List.append_assoc, show pcs W.gen (nx + k) sz (t :: l.drop (k + 1)) = (pieceP W.gen (nx + k) t sz, decide (100 ≤ sz)) :: pcs W.gen (nx + k + 1) ((if 100 ≤ sz then 0 else sz) + (pieceP W.gen (nx + k) t sz).length) (l.drop (k + 1)) from rfl, HNQ.out, HP.out, HPLL.out, HFB.out, ← Nat.add_assoc nx k 1, HNQ.out]
                  rw [if_pos hsz100, Nat.zero_add]
                  rfl
                · have g1 : Below W0.heap.size wn w32 := ((Below.refl wn.heap.size wn).alloc (Nat.le_refl _) _).mono HSN.out |>.grown Hg32.out (by have := HSN.out; simp; omega) (fun j e => ownAbove HRP2.out j e)
                  have g2 : Below W0.heap.size w32 w33 := ((Below.refl w32.heap.size w32).alloc (Nat.le_refl _) _).mono (by have := HSN.out; have := g1.size; omega) |>.grown Hg33.out (by have := HSN.out; have := g1.size; simp; omega) (fun j e => ownAbove HRB2.out j e)
                  exact (HBN.out.trans g1).trans g2
                · have o1 := two_rows (ownBelow (two_rows (ownBelow HRP2.out ((Below.refl _ _).alloc (Nat.le_refl _) _)) (ownBelow HRB2.out ((Below.refl _ _).alloc (Nat.le_refl _) _)) (by decide) Hg32.out) ((Below.refl _ _).alloc (Nat.le_refl _) (.cells #[.bool true] 4))) (ownBelow Hown32.out ((Below.refl _ _).alloc (Nat.le_refl _) _)) (by decide) Hg33.out
                  unfold strP
                  rw [List.map_append]
                  exact o1
                · unfold boolP
                  rw [List.map_append]
                  exact Hown33.out
              case measure => have := HLT.out; simp [intOf]; omega
            | false =>
              have hsz100 : ¬ 100 ≤ sz := by simpa using HFB.out
              go_wp2_with (first
                | (at_builtin; refine wpList_append_own _ rfl _ _ 33 rfl W0.heap.size 9 i1 (.string ⟨#[]⟩) 1 16 Try.underlying33 hi1 hi1z hi1s hi1b rfl (by decide) u11 k (strP P1) rfl (ownBelow HRP2.out ((Below.refl _ _).alloc (Nat.le_refl _) _)) ⟨wn.heap.size, 0, none⟩ 1 1 [.string (bs p)] rfl rfl (World.news_of_block (MapKept.heap_alloc _ _).1) (by intro u hu; simp only [List.mem_cons, List.mem_nil_iff, or_false] at hu; rcases hu with rfl; rfl) (by unfold maxLen; omega) (by omega) (by have := HSN.out; simp; omega) ?_; intro v32 w32 hown32 hg32 _; have Hown32 := Lib.hid hown32; have Hg32 := Lib.hid hg32; clear hown32 hg32)
                | (at_builtin; refine wpList_append_own _ rfl _ _ 69 rfl W0.heap.size 4 i2 (.bool false) 1 1 Try.underlying69 hi2 hi2z hi2s hi2b rfl (by decide) u12 k (boolP P1) rfl (ownBelow (two_rows (ownBelow HRP2.out ((Below.refl _ _).alloc (Nat.le_refl _) _)) (ownBelow HRB2.out ((Below.refl _ _).alloc (Nat.le_refl _) _)) (by decide) Hg32.out) ((Below.refl _ _).alloc (Nat.le_refl _) _)) ⟨w32.heap.size, 0, none⟩ 1 1 [.bool false] rfl rfl (World.news_of_block (MapKept.heap_alloc _ _).1) (by intro u hu; simp only [List.mem_cons, List.mem_nil_iff, or_false] at hu; rcases hu with rfl; rfl) (by unfold maxLen; omega) (by omega) (by have := HSN.out; have := Hg32.out.size; simp at this ⊢; omega) ?_; intro v33 w33 hown33 hg33 _; have Hown33 := Lib.hid hown33; have Hg33 := Lib.hid hg33; clear hown33 hg33)
                | fail)
              go_roundw
              case rel =>
                refine ⟨k + 1, P1 ++ [(p, false)], nd + pl, sz + pl, hh, HLT.out, by go_num, by go_num, by go_num, by go_num, by omega, by omega, by omega, Lib.hid ?_, Lib.hid ?_, Lib.hid ?_, Lib.hid ?_⟩
                · obtain ⟨i1, i2, i3, i4⟩ := HI.out
                  have hdk : l.drop k = t :: l.drop (k + 1) := by
                    have h1 : k < l.length := by rw [HN.out]; exact HLT.out
                    rw [List.drop_eq_getElem_cons h1, ← HTT.out, List.getD_eq_getElem?_getD, List.getElem?_eq_getElem h1]; rfl
                  refine ⟨?_, by rw [List.length_append, i2]; rfl, by rw [needP_snoc, i3, HPLL.out], by rw [headsP_snoc, i4]; rfl⟩
                  rw [i1, hdk, List.append_assoc, show pcs W.gen (nx + k) sz (t :: l.drop (k + 1)) = (pieceP W.gen (nx + k) t sz, decide (100 ≤ sz)) :: pcs W.gen (nx + k + 1) ((if 100 ≤ sz then 0 else sz) + (pieceP W.gen (nx + k) t sz).length) (l.drop (k + 1)) from rfl, HNQ.out, HP.out, HPLL.out, HFB.out, ← Nat.add_assoc nx k 1, HNQ.out]
                  rw [if_neg hsz100]
                  rfl
                · have g1 : Below W0.heap.size wn w32 := ((Below.refl wn.heap.size wn).alloc (Nat.le_refl _) _).mono HSN.out |>.grown Hg32.out (by have := HSN.out; simp; omega) (fun j e => ownAbove HRP2.out j e)
                  have g2 : Below W0.heap.size w32 w33 := ((Below.refl w32.heap.size w32).alloc (Nat.le_refl _) _).mono (by have := HSN.out; have := g1.size; omega) |>.grown Hg33.out (by have := HSN.out; have := g1.size; simp; omega) (fun j e => ownAbove HRB2.out j e)
                  exact (HBN.out.trans g1).trans g2
                · have o1 := two_rows (ownBelow (two_rows (ownBelow HRP2.out ((Below.refl _ _).alloc (Nat.le_refl _) _)) (ownBelow HRB2.out ((Below.refl _ _).alloc (Nat.le_refl _) _)) (by decide) Hg32.out) ((Below.refl _ _).alloc (Nat.le_refl _) (.cells #[.bool false] 4))) (ownBelow Hown32.out ((Below.refl _ _).alloc (Nat.le_refl _) _)) (by decide) Hg33.out
                  unfold strP
                  rw [List.map_append]
                  exact o1
                · unfold boolP
                  rw [List.map_append]
                  exact Hown33.out
              case measure => have := HLT.out; simp [intOf]; omega
          · obtain rfl : k = q := by omega
            have HPE : Hid (PP = P1 ∧ nd = needP PP ∧ hh = headsP PP) := Lib.hid (by
              obtain ⟨i1, i2, i3, i4⟩ := HI.out
              have e : l.drop k = [] := List.drop_of_length_le (by rw [HN.out]; exact Nat.le_refl _)
              rw [e] at i1
              have e2 : PP = P1 := by rw [i1]; exact List.append_nil P1
              exact ⟨e2, by rw [e2]; exact i3, by rw [e2]; exact i4⟩)
            rw [← HPE.out.1] at HRP HRB
            have hbr := HBR.out
            have hbw : Below w.heap.size w wr := HB0.out.trans (hbr.mono HB0.out.size)
            have c3' := (HZ0.out.step hbr).c 0
            simp at c3'
            have c6 := (HW0.out.step hbr).c6
            rw [HNX.out] at c6
            have HRM := Lib.hid (wal_Room wr (H.out.step hbw) (HD.out.step hbw) HK.out HO.out)
            have HFS := Lib.hid (fun n => wal_frees (wr.drewN n) ((H.out.step hbw).drewN n) ((HD.out.step hbw).step ⟨rfl, rfl, rfl, Nat.le_refl _, fun _ _ => rfl⟩) HN3.out)
            obtain ⟨rm, hrm⟩ : ∃ z, roomP D W = z := ⟨_, rfl⟩
            obtain ⟨fz, hfz⟩ : ∃ z, freesP D = z := ⟨_, rfl⟩
            have HRMV := Lib.hid hrm; have HFZV := Lib.hid hfz
            have hrmb : 0 ≤ rm ∧ rm ≤ 200 := by
              rw [← hrm]; unfold roomP openP
              have := HO.out.r.1
              omega
            rw [hrm] at HRM
            rw [hfz] at HFS
            have hruw : IntKind.i64.wrap (rm + use) = rm + use := by rw [IntKind.wrap_i64]; omega
            obtain ⟨nk, hnk⟩ : ∃ z, nx + k = z := ⟨_, rfl⟩
            have hnki : (nx : Int) + (k : Int) = (nk : Int) := by omega
            have hkw : IntKind.u64.wrap (k : Int) = (k : Int) := by rw [IntKind.wrap_u64]; omega
            have hnkw : IntKind.u64.wrap (nk : Int) = (nk : Int) := by rw [IntKind.wrap_u64]; omega
            have hnkb : ¬ (281474976710657 : Int) < (nk : Int) := by omega
            have hnkd : decide ((281474976710657 : Int) < (nk : Int)) = false := by simp; omega
            have HBWR := Lib.hid hbw
            have HAPR : Hid (apR D W use l = if rm + use < (nd : Int) ∨ fz < hh then ((0, 4), D, W) else if (wrs PP D W).1 ≠ 0 then ((0, (wrs PP D W).1), (wrs PP D W).2.1, (wrs PP D W).2.2) else ((nx, 0), (wrs PP D W).2.1, { (wrs PP D W).2.2 with reserved := (wrs PP D W).2.2.reserved - use })) := Lib.hid (by
              unfold apR
              rw [if_neg (by rw [HDN.out, HZD.out]; exact fun h => h rfl), HPQ.out, hrm, hfz, ← HPE.out.2.1, ← HPE.out.2.2, HNX.out])
            clear hrm hfz hnk hbw hbr HI
            by_cases hroom : rm + use < (nd : Int)
            · have hrb : decide (rm + use < (nd : Int)) = true := by simpa using hroom
              go_wp2_with fail
              refine HRM.out.mono ?_
              rintro e w5 ⟨rfl, nz, rfl⟩
              go_wp2_with fail
              go_ret2
              rw [HAPR.out, if_pos (Or.inl hroom)]
              exact ⟨rfl, (LgAt.of HD.out H.out HST.out).step (HBWR.out.trans ⟨rfl, rfl, rfl, Nat.le_refl _, fun _ _ => rfl⟩)⟩
            · have hrb : decide (rm + use < (nd : Int)) = false := by simpa using hroom
              by_cases hheads : fz < hh
              · have hhb : decide (((fz : Nat) : Int) < ((hh : Nat) : Int)) = true := by simpa using hheads
                go_wp2_with fail
                refine HRM.out.mono ?_
                rintro e w5 ⟨rfl, nz, rfl⟩
                have c3'' : (wr.drewN nz).cell? ⟨b3, 0, none⟩ = some (.pointer (some ⟨x, 0, none⟩)) := c3'
                go_wp2_with fail
                refine (HFS.out nz).mono ?_
                rintro e w6 ⟨rfl, hw6⟩
                subst w6
                go_wp2_with fail
                go_ret2
                rw [HAPR.out, if_pos (Or.inr hheads)]
                exact ⟨rfl, (LgAt.of HD.out H.out HST.out).step (HBWR.out.trans ⟨rfl, rfl, rfl, Nat.le_refl _, fun _ _ => rfl⟩)⟩
              · have hhb : decide (((fz : Nat) : Int) < ((hh : Nat) : Int)) = false := by simpa using hheads
                have HAP2 : Hid (apR D W use l = if (wrs PP D W).1 ≠ 0 then ((0, (wrs PP D W).1), (wrs PP D W).2.1, (wrs PP D W).2.2) else ((nx, 0), (wrs PP D W).2.1, { (wrs PP D W).2.2 with reserved := (wrs PP D W).2.2.reserved - use })) := Lib.hid (by rw [HAPR.out, if_neg (fun h => h.elim hroom hheads)])
                clear HAPR
                go_wp2_with fail
                refine HRM.out.mono ?_
                rintro e w5 ⟨rfl, nz, rfl⟩
                have c3'' : (wr.drewN nz).cell? ⟨b3, 0, none⟩ = some (.pointer (some ⟨x, 0, none⟩)) := c3'
                have c6'' : (wr.drewN nz).cell? ⟨x, 6, none⟩ = some (.int .u64 (nx : Int)) := c6
                go_wp2_with fail
                refine (HFS.out nz).mono ?_
                rintro e w6 ⟨rfl, hw6⟩
                subst w6
                obtain ⟨a11, c11, rfl⟩ := ownShape HRP.out
                obtain ⟨a12, c12, rfl⟩ := ownShape HRB.out
                have hbz : Below wr.heap.size wr (wr.drewN nz) := ⟨rfl, rfl, rfl, Nat.le_refl _, fun _ _ => rfl⟩
                have HPR : Hid (k = 0 ∨ ∃ gp gq, a11 = some ⟨gp, 0, none⟩ ∧ a12 = some ⟨gq, 0, none⟩ ∧ W0.heap.size ≤ gp ∧ W0.heap.size ≤ gq ∧ gp < (wr.drewN nz).heap.size ∧ gq < (wr.drewN nz).heap.size ∧ ∀ i y, PP[i]? = some y → (wr.drewN nz).cell? ⟨gp, i, none⟩ = some (.string (bs y.1)) ∧ (wr.drewN nz).cell? ⟨gq, i, none⟩ = some (.bool y.2)) := Lib.hid (by
                  have o1 := ownBelow HRP.out hbz; have o2 := ownBelow HRB.out hbz
                  rcases row_at (ownsRow_lower o1 (Nat.zero_le _)) (by unfold strP; rw [List.length_map]; exact HPL.out) with h1 | ⟨gp, rfl, h1⟩
                  · exact Or.inl h1
                  · rcases row_at (ownsRow_lower o2 (Nat.zero_le _)) (by unfold boolP; rw [List.length_map]; exact HPL.out) with h2 | ⟨gq, rfl, h2⟩
                    · exact Or.inl h2
                    · refine Or.inr ⟨gp, gq, rfl, rfl, ownAbove o1 gp rfl, ownAbove o2 gq rfl, (own_k o1 gp rfl).1, (own_k o2 gq rfl).1, fun i y hy => ⟨(h1 i _ ?_).1, (h2 i _ ?_).1⟩⟩
                      · unfold strP; rw [List.getElem?_map, hy]; rfl
                      · unfold boolP; rw [List.getElem?_map, hy]; rfl)
                have HLG0 : Hid (LgAt (wr.drewN nz) S T x d D W (wr.drewN nz)) := Lib.hid (LgAt.of ((HD.out.step HBWR.out).step hbz) ((H.out.step HBWR.out).step hbz) HST.out)
                have HZL := Lib.hid ((HZ0.out.step HBR.out).step hbz)
                have HBL := Lib.hid (HBWR.out.trans (hbz.mono HBWR.out.size))
                have HB0L : Hid (W0.heap.size ≤ (wr.drewN nz).heap.size ∧ w.heap.size + 1 ≤ W0.heap.size) := Lib.hid ⟨HBR.out.size, by have := HZ0.out.lt; have := HBE.out; omega⟩
                go_upto_region 29 with fail
                refine wp_abs (F := fun W' => W' = wr.drewN nz) rfl ?_
                intro wL hwL
                rw [← hwL] at HPR HLG0 HZL HBL HB0L
                clear c3' c6 c3'' c6'' hbz HRM HFS HRP HRB hwL HFZV HRMV
                have HOWN : Hid (∀ j, (S j ∨ T j) → j < w.heap.size) := Lib.hid (fun j hj => hj.elim (HD.out.own j) (H.out.own j))
                go_wp2_with fail
                go_loopw [132] (fun i wr => ∃ (q : Nat) (D' : Dk) (V : Wa), q ≤ k ∧ i = .int .i64 q ∧ Hid (wrs PP D W = wrs (PP.drop q) D' V) ∧ Hid (LgAt wL S T x d D' V wr) ∧ Hid (AOk V q ∧ DkOk D' ∧ 3 ≤ D'.n ∧ D'.loose.length ≤ D.loose.length + q ∧ V.reserved = W.reserved)) (fun i _ => k - (intOf i).toNat)
                case atStart => exact ⟨0, D, W, Nat.zero_le _, rfl, Lib.hid rfl, HLG0, Lib.hid ⟨HAO.out, HK.out, HN3.out, Nat.le_refl _, rfl⟩⟩
                case round =>
                  obtain ⟨q, D', V, hq, rfl, HWR, HLG, HOK⟩ := hrel
                  clear HLG0
                  by_cases hlt : q < k
                  · have HLT := Lib.hid hlt
                    have hqi : (q : Int) < (k : Int) := by omega
                    obtain ⟨gp, gq, rfl, rfl, hgp, hgq, hgpl, hgql, hcel⟩ := HPR.out.resolve_left (by omega)
                    obtain ⟨⟨p, fb⟩, hy⟩ : ∃ y, PP[q]? = some y := ⟨_, List.getElem?_eq_getElem (by rw [HPL.out]; exact hlt)⟩
                    obtain ⟨kp1, kp2⟩ := hcel q _ hy
                    have HDR : Hid (PP.drop q = (p, fb) :: PP.drop (q + 1)) := Lib.hid (by
                      obtain ⟨h5, h6⟩ := List.getElem?_eq_some_iff.1 hy
                      rw [List.drop_eq_getElem_cons h5, h6])
                    have hplen : p.length ≤ 100000 := by
                      have h1 : ∀ (l : List (List UInt8)) (nn sz : Nat), (∀ t ∈ l, t.length ≤ 65536) → ∀ y ∈ pcs W.gen nn sz l, y.1.length ≤ 100000 := fun l => by
                        induction l with
                        | nil => intro _ _ _ y hy; cases hy
                        | cons t r ih =>
                          intro nn sz hh y hy
                          rcases List.mem_cons.1 hy with rfl | hy
                          · have := hh t (by simp)
                            show (pieceP _ _ _ _).length ≤ _
                            unfold pieceP
                            split
                            · rw [List.length_append, Wl.head_length, Wl.enc_length]; simp; omega
                            · rw [Wl.enc_length]; omega
                          · exact ih _ _ (fun t ht => hh t (List.mem_cons_of_mem _ ht)) y hy
                      exact h1 l W.next (lastN W.sizes) HT.out (p, fb) (by rw [HPQ.out]; exact List.mem_of_getElem? hy)
                    obtain ⟨pl, hpl⟩ : ∃ z, p.length = z := ⟨_, rfl⟩
                    have hps : (bs p).size = pl := by rw [bs_size, hpl]
                    have HPLL := Lib.hid hpl
                    rw [hpl] at hplen
                    obtain ⟨S', T', l1, l2, l3, l4, l5, l6⟩ := HLG.out
                    have hown := HOWN.out
                    have hw0 := HB0L.out
                    have cp1 := (l6.cell (p := ⟨gp, q, none⟩) hgpl (fun e => by have := hown gp e; omega)).trans kp1
                    have cp2 := (l6.cell (p := ⟨gq, q, none⟩) hgql (fun e => by have := hown gq e; omega)).trans kp2
                    have hz3 := HZL.out.but l6 (fun e => by have := hown b3 e; have := HBE.out; omega)
                    have HL1 := Lib.hid l1; have HL2 := Lib.hid l2; have HL3 := Lib.hid l3; have HL4 := Lib.hid l4; have HL5 := Lib.hid l5; have HL6 := Lib.hid l6; have HZ3 := Lib.hid hz3
                    have hgpr : gp < wr.heap.size ∧ gq < wr.heap.size := by have := l6.size; omega
                    have HGP := Lib.hid hgpr
                    clear l1 l2 l3 l4 l5 l6 hz3 hcel hy kp1 kp2 hpl hown
                    go_upto_region 32 with fail
                    refine wp_abs (F := fun W' => Hid (Below wr.heap.size wr W') ∧ Hid (Cz W' wr.heap.size 9 #[.string (bs p)])) ⟨Lib.hid ((Below.refl _ _).alloc (Nat.le_refl _) _), Lib.hid (Cz.new _ _ _)⟩ ?_
                    rintro ws ⟨HBS, HZ22⟩
                    have HWRS := Lib.hid HL6.out.size
                    obtain ⟨b22, hb22⟩ : ∃ z, wr.heap.size = z := ⟨_, rfl⟩
                    have H22 := Lib.hid hb22
                    have cq2 := (HBS.out.cell (p := ⟨gq, q, none⟩) HGP.out.2).trans cp2
                    have HZ3S := Lib.hid (HZ3.out.step HBS.out)
                    have HDS := Lib.hid (HL1.out.step HBS.out); have HWS := Lib.hid (HL2.out.step HBS.out)
                    rw [hb22] at HZ22 ⊢
                    clear cp1 cp2 hb22 HZ3
                    obtain ⟨V1, hV1⟩ : ∃ z, (if fb then V.fresh D' else V) = z := ⟨_, rfl⟩
                    have HV1 := Lib.hid hV1
                    clear hV1
                    have HB3N : Hid (¬ T' b3) := Lib.hid (fun hb => by
                      rcases HL5.out b3 hb with e | e
                      · have := HOWN.out b3 (Or.inr e); have := HBE.out; omega
                      · have := HZL.out.lt; omega)
                    have H22N : Hid (¬ T' b22) := Lib.hid (fun hb => by have := HL2.out.own b22 hb; have := H22.out; omega)
                    cases fb with
                    | true =>
                      obtain ⟨fv, sv, hrw⟩ := HWS.out.look
                      obtain ⟨fr, hfr⟩ : ∃ z, freeP D' = z := ⟨_, rfl⟩
                      have HFR := Lib.hid (fun W' (hb : Below ws.heap.size ws W') => wal_free W' (HWS.out.step hb) (HDS.out.step hb) HOK.out.2.2.1)
                      rw [hfr] at HFR
                      have HFRV := Lib.hid hfr
                      have hxn : ¬ (fv.ownBlock = some x ∨ sv.ownBlock = some x) := fun e => e.elim (fun e => (hrw.tf x e).2.1 rfl) (fun e => (hrw.ts x e).2 rfl)
                      have hT3 := HB3N.out
                      have h3n : ¬ (fv.ownBlock = some b3 ∨ sv.ownBlock = some b3) := fun e => e.elim (fun e => hT3 (hrw.tf b3 e).1) (fun e => hT3 (hrw.ts b3 e).1)
                      have HB3X : Hid (b3 ≠ x) := Lib.hid (fun e => by have := HXB.out; have := HBE.out; omega)
                      have HAB : Hid (∀ W' v1 l1 v2 l2, A2V ws fv sv v1 l1 v2 l2 W' → Hid (W'.cell? ⟨x, 7, none⟩ = some fv ∧ W'.cell? ⟨x, 8, none⟩ = some sv) ∧ Hid (Cz W' b3 27 #[.pointer (some ⟨x, 0, none⟩)])) := Lib.hid (fun W' v1 l1 v2 l2 ha =>
                        ⟨Lib.hid ⟨(ha.bu.cell (p := ⟨x, 7, none⟩) HWS.out.lt hxn).trans hrw.c7, (ha.bu.cell (p := ⟨x, 8, none⟩) HWS.out.lt hxn).trans hrw.c8⟩, Lib.hid (HZ3S.out.but ha.bu h3n)⟩)
                      have HFZ : Hid (∀ W' v1 l1 v2 l2, A2V ws fv sv v1 l1 v2 l2 W' → ∀ j, W'.frozen? ⟨x, j, none⟩ = false) := Lib.hid (fun W' v1 l1 v2 l2 ha j => (ha.bu.frozen (p := ⟨x, j, none⟩) HWS.out.lt hxn).trans (HWS.out.fz j))
                      have hFIN : ∀ W' v1 v2, A2V ws fv sv v1 (intsV V.files ++ [.int .i64 fr]) v2 (natsV V.sizes ++ [.int .i64 0]) W' → ∃ T2 : Nat → Prop, Hid (WalAt ((W'.setCell ⟨x, 7, none⟩ v1).setCell ⟨x, 8, none⟩ v2) T2 x d V1) ∧ Hid (DiskAt ((W'.setCell ⟨x, 7, none⟩ v1).setCell ⟨x, 8, none⟩ v2) S' d D') ∧ Hid (∀ j, T2 j → T' j ∨ ws.heap.size ≤ j) ∧ Hid (ButS T' ws ((W'.setCell ⟨x, 7, none⟩ v1).setCell ⟨x, 8, none⟩ v2)) := fun W' v1 v2 ha => by
                        obtain ⟨t1, t2⟩ := HWS.out.two hrw (z := 0) ha
                        refine ⟨_, Lib.hid ?_, Lib.hid (HDS.out.but t2 HL3.out), Lib.hid (fun j (hj : T' j ∨ (ws.heap.size ≤ j ∧ j < W'.heap.size)) => hj.imp id (fun h => h.1)), Lib.hid t2⟩
                        rw [← HV1.out, if_pos rfl]
                        unfold Wa.fresh
                        rw [HFRV.out]
                        exact t1
                      have HFIN := Lib.hid hFIN
                      have hif : (intsV V.files).length = V.files.length := by unfold intsV; rw [List.length_map]
                      have hiz : (natsV V.sizes).length = V.sizes.length := by unfold natsV; rw [List.length_map]
                      obtain ⟨nf, hnf⟩ : ∃ z, V.sizes.length = z := ⟨_, rfl⟩
                      have hnf2 : nf ≤ 1000 := by rw [← hnf]; have := HOK.out.1.le; have := HLT.out; omega
                      have HIF : Hid ((intsV V.files).length = nf) := Lib.hid (by rw [hif, HOK.out.1.fs, hnf])
                      have HIZ : Hid ((natsV V.sizes).length = nf) := Lib.hid (by rw [hiz, hnf])
                      obtain ⟨nf1, hnf1⟩ : ∃ z, nf + 1 = z := ⟨_, rfl⟩
                      have HIF1 : Hid ((intsV V.files ++ [Value.int .i64 fr]).length = nf1) := Lib.hid (by rw [List.length_append, HIF.out, ← hnf1]; rfl)
                      have HIZ1 : Hid ((natsV V.sizes ++ [Value.int .i64 0]).length = nf1) := Lib.hid (by rw [List.length_append, HIZ.out, ← hnf1]; rfl)
                      have HRW := Lib.hid hrw
                      clear hnf1
                      clear hrw hfr hxn hT3 h3n hFIN hif hiz hnf
                      go_upto_region 33 with fail
                      go_cut [] (fun wx => ∃ T2 : Nat → Prop, Hid (WalAt wx T2 x d V1) ∧ Hid (DiskAt wx S' d D') ∧ Hid (∀ j, T2 j → T' j ∨ ws.heap.size ≤ j) ∧ Hid (ButS T' ws wx))
                      case first =>
                        refine wp_region_L 18 (fun w' => Hid (w'.cell? ⟨x, 7, none⟩ = some fv ∧ w'.cell? ⟨x, 8, none⟩ = some sv)) (fun w' => Hid (Cz w' b3 27 #[.pointer (some ⟨x, 0, none⟩)])) (by kernel_rfl) (SL.all ((HAB.out _ _ _ _ _ (HRW.out.a2.step (Below.drew (Below.refl _ _)))).1) ((HAB.out _ _ _ _ _ (HRW.out.a2.step (Below.drew (Below.refl _ _)))).2)) (fun hS => ?_)
                        have hX0b : Below ws.heap.size ws ws.drew := Below.drew (Below.refl _ _)
                        generalize ws.drew = X0 at hS hX0b ⊢
                        have ha := HRW.out.a2.step hX0b
                        have hbl := hX0b
                        refine wpAnyL_takeB (i := 0) (v := .pointer (some ⟨x, 0, none⟩)) rfl (by kernel_rfl) (by kernel_rfl) (by kernel_rfl) (fun _ _ _ h => h) (by kernel_rfl) (Or.inl ⟨by rfl, fun w' hw => ?_⟩) hS (fun hS => ?_)
                        · have h1 := hw.out.c 0; simp at h1
                          go_simp
                        simp only [Act.put, List.getElem_toArray, List.getElem_cons_zero, List.setIfInBounds_toArray, List.set_cons_zero, List.set_cons_succ]
                        refine wpAnyL_takeB (i := 1) (v := .pointer (some ⟨x, 0, none⟩)) rfl (by kernel_rfl) (by kernel_rfl) (by kernel_rfl) (fun _ _ _ h => h) (by kernel_rfl) (Or.inl ⟨by rfl, fun w' hw => ?_⟩) hS (fun hS => ?_)
                        · have h1 := hw.out.c 0; simp at h1
                          go_simp
                        simp only [Act.put, List.getElem_toArray, List.getElem_cons_succ, List.getElem_cons_zero, List.setIfInBounds_toArray, List.set_cons_zero, List.set_cons_succ]
                        refine wpAnyL_takeB (i := 2) (v := .pointer (some ⟨x, 0, none⟩)) rfl (by kernel_rfl) (by kernel_rfl) (by kernel_rfl) (fun _ _ _ h => h) (by kernel_rfl) (Or.inl ⟨by rfl, fun w' hw => ?_⟩) hS (fun hS => ?_)
                        · have h1 := hw.out.c 0; simp at h1
                          go_simp
                        simp only [Act.put, List.getElem_toArray, List.getElem_cons_succ, List.getElem_cons_zero, List.setIfInBounds_toArray, List.set_cons_zero, List.set_cons_succ]
                        refine wpAnyL_takeB (i := 3) (v := .pointer (some ⟨x, 0, none⟩)) rfl (by kernel_rfl) (by kernel_rfl) (by kernel_rfl) (fun _ _ _ h => h) (by kernel_rfl) (Or.inl ⟨by rfl, fun w' hw => ?_⟩) hS (fun hS => ?_)
                        · have h1 := hw.out.c 0; simp at h1
                          go_simp
                        simp only [Act.put, List.getElem_toArray, List.getElem_cons_succ, List.getElem_cons_zero, List.setIfInBounds_toArray, List.set_cons_zero, List.set_cons_succ]
                        refine wpAnyL_takeB (i := 4) (v := .pointer (some ⟨x, 7, none⟩)) rfl (by kernel_rfl) (by kernel_rfl) (by kernel_rfl) (fun _ _ _ h => h) (by kernel_rfl) (Or.inl ⟨by rfl, fun w' hw => ?_⟩) hS (fun hS => ?_)
                        · have h1 := hw.out.c 0; simp at h1
                          go_simp
                        simp only [Act.put, List.getElem_toArray, List.getElem_cons_succ, List.getElem_cons_zero, List.setIfInBounds_toArray, List.set_cons_zero, List.set_cons_succ]
                        refine wpAnyL_take (i := 5) (v := fv) rfl (by kernel_rfl) (by kernel_rfl) (by kernel_rfl) (fun _ _ _ h => h) (by kernel_rfl) (Or.inl ⟨by rfl, fun w' hw => ?_⟩) hS (fun hS => ?_)
                        · obtain ⟨a7, a8⟩ := hw.1.out
                          go_simp
                        simp only [Act.put, List.getElem_toArray, List.getElem_cons_succ, List.getElem_cons_zero, List.setIfInBounds_toArray, List.set_cons_zero, List.set_cons_succ]
                        refine wpAnyL_takeB (i := 6) (v := .pointer (some ⟨x, 0, none⟩)) rfl (by kernel_rfl) (by kernel_rfl) (by kernel_rfl) (fun _ _ _ h => h) (by kernel_rfl) (Or.inl ⟨by rfl, fun w' hw => ?_⟩) hS (fun hS => ?_)
                        · have h1 := hw.out.c 0; simp at h1
                          go_simp
                        simp only [Act.put, List.getElem_toArray, List.getElem_cons_succ, List.getElem_cons_zero, List.setIfInBounds_toArray, List.set_cons_zero, List.set_cons_succ]
                        refine wpAnyL_takeB (i := 10) (v := .pointer (some ⟨x, 0, none⟩)) rfl (by kernel_rfl) (by kernel_rfl) (by kernel_rfl) (fun _ _ _ h => h) (by kernel_rfl) (Or.inl ⟨by rfl, fun w' hw => ?_⟩) hS (fun hS => ?_)
                        · have h1 := hw.out.c 0; simp at h1
                          go_simp
                        simp only [Act.put, List.getElem_toArray, List.getElem_cons_succ, List.getElem_cons_zero, List.setIfInBounds_toArray, List.set_cons_zero, List.set_cons_succ]
                        refine wpAnyL_takeB (i := 11) (v := .pointer (some ⟨x, 0, none⟩)) rfl (by kernel_rfl) (by kernel_rfl) (by kernel_rfl) (fun _ _ _ h => h) (by kernel_rfl) (Or.inl ⟨by rfl, fun w' hw => ?_⟩) hS (fun hS => ?_)
                        · have h1 := hw.out.c 0; simp at h1
                          go_simp
                        simp only [Act.put, List.getElem_toArray, List.getElem_cons_succ, List.getElem_cons_zero, List.setIfInBounds_toArray, List.set_cons_zero, List.set_cons_succ]
                        refine wpAnyL_takeB (i := 12) (v := .pointer (some ⟨x, 8, none⟩)) rfl (by kernel_rfl) (by kernel_rfl) (by kernel_rfl) (fun _ _ _ h => h) (by kernel_rfl) (Or.inl ⟨by rfl, fun w' hw => ?_⟩) hS (fun hS => ?_)
                        · have h1 := hw.out.c 0; simp at h1
                          go_simp
                        simp only [Act.put, List.getElem_toArray, List.getElem_cons_succ, List.getElem_cons_zero, List.setIfInBounds_toArray, List.set_cons_zero, List.set_cons_succ]
                        refine wpAnyL_take (i := 13) (v := sv) rfl (by kernel_rfl) (by kernel_rfl) (by kernel_rfl) (fun _ _ _ h => h) (by kernel_rfl) (Or.inl ⟨by rfl, fun w' hw => ?_⟩) hS (fun hS => ?_)
                        · obtain ⟨a7, a8⟩ := hw.1.out
                          go_simp
                        simp only [Act.put, List.getElem_toArray, List.getElem_cons_succ, List.getElem_cons_zero, List.setIfInBounds_toArray, List.set_cons_zero, List.set_cons_succ]
                        refine wpAnyL_ready (rs := [7, 14]) (by kernel_rfl) (by simp) ?_
                        refine AllReadyL.cons rfl (fun K hK => ?_) ?_
                        · rw [if_pos (by rfl)]
                          go_simp
                          refine (HFR.out _ hbl).mono ?_
                          rintro e wn ⟨rfl, hwn⟩
                          rw [hwn]
                          clear hwn wn
                          refine hK.out _ _ (SL.all (HAB.out _ _ _ _ _ ha).1 (HAB.out _ _ _ _ _ ha).2) (fun hS => ?_)
                          clear hK
                          (try go_frame)
                          refine wpAnyL_ready (rs := [8, 14]) (by kernel_rfl) (by simp) ?_
                          refine AllReadyL.cons rfl (fun K hK => ?_) ?_
                          · rw [if_pos (by rfl)]
                            go_simp
                            have hz8 := Cz.new X0 #[.int .i64 fr] 3
                            have hb : Below X0.heap.size X0 (X0.alloc (.cells #[.int .i64 fr] 3)) := (Below.refl _ _).alloc (Nat.le_refl _) _
                            have hge8 : ws.heap.size ≤ X0.heap.size := ha.bu.size
                            replace ha := ha.step hb
                            replace hbl := hbl.trans (hb.mono hbl.size)
                            generalize (X0.alloc (.cells #[.int .i64 fr] 3)) = X0a at hz8 hb ha hbl ⊢
                            obtain ⟨g8, hg8⟩ : ∃ z, X0.heap.size = z := ⟨_, rfl⟩
                            rw [hg8] at hz8 hge8 ⊢
                            clear hg8 hb
                            refine hK.out _ _ (SL.all (HAB.out _ _ _ _ _ ha).1 (HAB.out _ _ _ _ _ ha).2) (fun hS => ?_)
                            clear hK
                            (try go_frame)
                            refine wpAnyL_ready (rs := [9, 14]) (by kernel_rfl) (by simp) ?_
                            refine AllReadyL.cons rfl (fun K hK => ?_) ?_
                            · rw [if_pos (by rfl)]
                              refine wp_appV (.tmp 146) (.tmp 149) rfl rfl ha.r1 rfl hz8 (by rw [HIF.out]; omega) ?_
                              intro v8 X0ap hown hg hat
                              replace ha := ha.one hown hg hat
                              clear hown hg hat hz8 hge8 hbl
                              refine hK.out _ _ (SL.all (HAB.out _ _ _ _ _ ha).1 (HAB.out _ _ _ _ _ ha).2) (fun hS => ?_)
                              clear hK
                              (try go_frame)
                              refine wpAnyL_ready (rs := [14]) (by kernel_rfl) (by simp) ?_
                              refine AllReadyL.cons rfl (fun K hK => ?_) AllReadyL.nil
                              rw [if_pos (by rfl)]
                              go_simp
                              have hz14 := Cz.new X0ap #[.int .i64 0] 3
                              have hb : Below X0ap.heap.size X0ap (X0ap.alloc (.cells #[.int .i64 0] 3)) := (Below.refl _ _).alloc (Nat.le_refl _) _
                              have hge14 : ws.heap.size ≤ X0ap.heap.size := ha.bu.size
                              replace ha := ha.step hb
                              generalize (X0ap.alloc (.cells #[.int .i64 0] 3)) = X0apb at hz14 hb ha ⊢
                              obtain ⟨g14, hg14⟩ : ∃ z, X0ap.heap.size = z := ⟨_, rfl⟩
                              rw [hg14] at hz14 hge14 ⊢
                              clear hg14 hb
                              refine hK.out _ _ (SL.all (HAB.out _ _ _ _ _ ha).1 (HAB.out _ _ _ _ _ ha).2) (fun hS => ?_)
                              clear hK
                              (try go_frame)
                              refine wpAnyL_ready (rs := [15]) (by kernel_rfl) (by simp) ?_
                              refine AllReadyL.cons rfl (fun K hK => ?_) AllReadyL.nil
                              rw [if_pos (by rfl)]
                              refine wp_appV (.tmp 154) (.tmp 155) rfl rfl ha.r2 rfl hz14 (by rw [HIZ.out]; omega) ?_
                              intro v16 X0apbq hown hg hat
                              replace ha := (ha.swap.one hown hg hat).swap
                              clear hown hg hat hz14 hge14
                              refine hK.out _ _ (SL.all (HAB.out _ _ _ _ _ ha).1 (HAB.out _ _ _ _ _ ha).2) (fun hS => ?_)
                              clear hK
                              (try go_frame)
                              refine wpAnyL_takeB (i := 16) (v := .pointer (some ⟨x, 0, none⟩)) rfl (by kernel_rfl) (by kernel_rfl) (by kernel_rfl) (fun _ _ _ h => h) (by kernel_rfl) (Or.inl ⟨by rfl, fun w' hw => ?_⟩) hS (fun hS => ?_)
                              · have h1 := hw.out.c 0; simp at h1
                                go_simp
                              simp only [Act.put, List.getElem_toArray, List.getElem_cons_succ, List.getElem_cons_zero, List.setIfInBounds_toArray, List.set_cons_zero, List.set_cons_succ]
                              refine wpAnyL_takeB (i := 17) (v := .pointer (some ⟨x, 7, none⟩)) rfl (by kernel_rfl) (by kernel_rfl) (by kernel_rfl) (fun _ _ _ h => h) (by kernel_rfl) (Or.inl ⟨by rfl, fun w' hw => ?_⟩) hS (fun hS => ?_)
                              · have h1 := hw.out.c 0; simp at h1
                                go_simp
                              simp only [Act.put, List.getElem_toArray, List.getElem_cons_succ, List.getElem_cons_zero, List.setIfInBounds_toArray, List.set_cons_zero, List.set_cons_succ]
                              refine wpAnyL_ready (rs := [18]) (by kernel_rfl) (by simp) ?_
                              refine AllReadyL.cons rfl (fun K hK => ?_) AllReadyL.nil
                              rw [if_pos (by rfl)]
                              have pz := (HAB.out _ _ _ _ _ ha).1.out.1; have qz := HFZ.out _ _ _ _ _ ha 7
                              obtain ⟨a8, c8, hv8⟩ := ownShape ha.r1
                              rw [HIF1.out] at hv8
                              subst hv8
                              obtain ⟨a16, c16, hv16⟩ := ownShape ha.r2
                              rw [HIZ1.out] at hv16
                              subst hv16
                              go_simp
                              have hB2 : Hid (Cz (X0apbq.setCell ⟨x, 7, none⟩ (.slice a8 nf1 c8)) b3 27 #[.pointer (some ⟨x, 0, none⟩)]) := Lib.hid ((HAB.out _ _ _ _ _ ha).2.out.but (ButS.set (S := fun k => k = x) X0apbq (p := ⟨x, 7, none⟩) rfl _) HB3X.out)
                              clear pz qz
                              refine hK.out _ _ (SL.late (by kernel_rfl) hB2) (fun hS => ?_)
                              clear hK
                              (try go_frame)
                              refine wpAnyL_takeB (i := 19) (v := .pointer (some ⟨x, 0, none⟩)) rfl (by kernel_rfl) (by kernel_rfl) (by kernel_rfl) (fun _ _ _ h => h) (by kernel_rfl) (Or.inl ⟨by rfl, fun w' hw => ?_⟩) hS (fun hS => ?_)
                              · have h1 := hw.out.c 0; simp at h1
                                go_simp
                              simp only [Act.put, List.getElem_toArray, List.getElem_cons_succ, List.getElem_cons_zero, List.setIfInBounds_toArray, List.set_cons_zero, List.set_cons_succ]
                              refine wpAnyL_takeB (i := 20) (v := .pointer (some ⟨x, 8, none⟩)) rfl (by kernel_rfl) (by kernel_rfl) (by kernel_rfl) (fun _ _ _ h => h) (by kernel_rfl) (Or.inl ⟨by rfl, fun w' hw => ?_⟩) hS (fun hS => ?_)
                              · have h1 := hw.out.c 0; simp at h1
                                go_simp
                              simp only [Act.put, List.getElem_toArray, List.getElem_cons_succ, List.getElem_cons_zero, List.setIfInBounds_toArray, List.set_cons_zero, List.set_cons_succ]
                              refine wpAnyL_ready (rs := [21]) (by kernel_rfl) (by simp) ?_
                              refine AllReadyL.cons rfl (fun K hK => ?_) AllReadyL.nil
                              rw [if_pos (by rfl)]
                              have pz : (X0apbq.setCell ⟨x, 7, none⟩ (.slice a8 nf1 c8)).cell? ⟨x, 8, none⟩ = some sv := (World.cell?_setCell_other _ _ _ _ (by intro e; injection e with _ e; exact absurd e (by decide))).trans (HAB.out _ _ _ _ _ ha).1.out.2
                              have qz : (X0apbq.setCell ⟨x, 7, none⟩ (.slice a8 nf1 c8)).frozen? ⟨x, 8, none⟩ = false := (by rw [World.frozen?_setCell]; exact HFZ.out _ _ _ _ _ ha 8)
                              go_simp
                              have hB3 : Hid (Cz ((X0apbq.setCell ⟨x, 7, none⟩ (.slice a8 nf1 c8)).setCell ⟨x, 8, none⟩ (.slice a16 nf1 c16)) b3 27 #[.pointer (some ⟨x, 0, none⟩)]) := Lib.hid (hB2.out.but (ButS.set (S := fun k => k = x) (X0apbq.setCell ⟨x, 7, none⟩ (.slice a8 nf1 c8)) (p := ⟨x, 8, none⟩) rfl _) HB3X.out)
                              clear pz qz hB2
                              refine hK.out _ _ (SL.late (by kernel_rfl) hB3) (fun hS => ?_)
                              clear hK
                              (try go_frame)
                              refine wpAnyL_done (by kernel_rfl) ?_ _
                              clear hS
                              go_wp2_with fail
                              go_meet
                              exact HFIN.out _ _ _ ha
                            refine AllReadyL.cons rfl (fun K hK => ?_) AllReadyL.nil
                            rw [if_pos (by rfl)]
                            go_simp
                            have hz14 := Cz.new X0a #[.int .i64 0] 3
                            have hb : Below X0a.heap.size X0a (X0a.alloc (.cells #[.int .i64 0] 3)) := (Below.refl _ _).alloc (Nat.le_refl _) _
                            have hge14 : ws.heap.size ≤ X0a.heap.size := ha.bu.size
                            replace ha := ha.step hb
                            replace hbl := hbl.trans (hb.mono hbl.size)
                            replace hz8 := hz8.step hb
                            generalize (X0a.alloc (.cells #[.int .i64 0] 3)) = X0ab at hz14 hb ha hz8 hbl ⊢
                            obtain ⟨g14, hg14⟩ : ∃ z, X0a.heap.size = z := ⟨_, rfl⟩
                            rw [hg14] at hz14 hge14 ⊢
                            clear hg14 hb
                            refine hK.out _ _ (SL.all (HAB.out _ _ _ _ _ ha).1 (HAB.out _ _ _ _ _ ha).2) (fun hS => ?_)
                            clear hK
                            (try go_frame)
                            refine wpAnyL_ready (rs := [9]) (by kernel_rfl) (by simp) ?_
                            refine AllReadyL.cons rfl (fun K hK => ?_) AllReadyL.nil
                            rw [if_pos (by rfl)]
                            refine wp_appV (.tmp 146) (.tmp 149) rfl rfl ha.r1 rfl hz8 (by rw [HIF.out]; omega) ?_
                            intro v8 X0abp hown hg hat
                            replace hz14 := hz14.but (ButS.row hg (S := fun k => fv.ownBlock = some k) (fun j e => e)) (fun e => by have := (own_k HRW.out.fr g14 e).1; omega)
                            replace ha := ha.one hown hg hat
                            clear hown hg hat hz8 hge8 hbl
                            refine hK.out _ _ (SL.all (HAB.out _ _ _ _ _ ha).1 (HAB.out _ _ _ _ _ ha).2) (fun hS => ?_)
                            clear hK
                            (try go_frame)
                            refine wpAnyL_ready (rs := [15]) (by kernel_rfl) (by simp) ?_
                            refine AllReadyL.cons rfl (fun K hK => ?_) AllReadyL.nil
                            rw [if_pos (by rfl)]
                            refine wp_appV (.tmp 154) (.tmp 155) rfl rfl ha.r2 rfl hz14 (by rw [HIZ.out]; omega) ?_
                            intro v16 X0abpq hown hg hat
                            replace ha := (ha.swap.one hown hg hat).swap
                            clear hown hg hat hz14 hge14
                            refine hK.out _ _ (SL.all (HAB.out _ _ _ _ _ ha).1 (HAB.out _ _ _ _ _ ha).2) (fun hS => ?_)
                            clear hK
                            (try go_frame)
                            refine wpAnyL_takeB (i := 16) (v := .pointer (some ⟨x, 0, none⟩)) rfl (by kernel_rfl) (by kernel_rfl) (by kernel_rfl) (fun _ _ _ h => h) (by kernel_rfl) (Or.inl ⟨by rfl, fun w' hw => ?_⟩) hS (fun hS => ?_)
                            · have h1 := hw.out.c 0; simp at h1
                              go_simp
                            simp only [Act.put, List.getElem_toArray, List.getElem_cons_succ, List.getElem_cons_zero, List.setIfInBounds_toArray, List.set_cons_zero, List.set_cons_succ]
                            refine wpAnyL_takeB (i := 17) (v := .pointer (some ⟨x, 7, none⟩)) rfl (by kernel_rfl) (by kernel_rfl) (by kernel_rfl) (fun _ _ _ h => h) (by kernel_rfl) (Or.inl ⟨by rfl, fun w' hw => ?_⟩) hS (fun hS => ?_)
                            · have h1 := hw.out.c 0; simp at h1
                              go_simp
                            simp only [Act.put, List.getElem_toArray, List.getElem_cons_succ, List.getElem_cons_zero, List.setIfInBounds_toArray, List.set_cons_zero, List.set_cons_succ]
                            refine wpAnyL_ready (rs := [18]) (by kernel_rfl) (by simp) ?_
                            refine AllReadyL.cons rfl (fun K hK => ?_) AllReadyL.nil
                            rw [if_pos (by rfl)]
                            have pz := (HAB.out _ _ _ _ _ ha).1.out.1; have qz := HFZ.out _ _ _ _ _ ha 7
                            obtain ⟨a8, c8, hv8⟩ := ownShape ha.r1
                            rw [HIF1.out] at hv8
                            subst hv8
                            obtain ⟨a16, c16, hv16⟩ := ownShape ha.r2
                            rw [HIZ1.out] at hv16
                            subst hv16
                            go_simp
                            have hB2 : Hid (Cz (X0abpq.setCell ⟨x, 7, none⟩ (.slice a8 nf1 c8)) b3 27 #[.pointer (some ⟨x, 0, none⟩)]) := Lib.hid ((HAB.out _ _ _ _ _ ha).2.out.but (ButS.set (S := fun k => k = x) X0abpq (p := ⟨x, 7, none⟩) rfl _) HB3X.out)
                            clear pz qz
                            refine hK.out _ _ (SL.late (by kernel_rfl) hB2) (fun hS => ?_)
                            clear hK
                            (try go_frame)
                            refine wpAnyL_takeB (i := 19) (v := .pointer (some ⟨x, 0, none⟩)) rfl (by kernel_rfl) (by kernel_rfl) (by kernel_rfl) (fun _ _ _ h => h) (by kernel_rfl) (Or.inl ⟨by rfl, fun w' hw => ?_⟩) hS (fun hS => ?_)
                            · have h1 := hw.out.c 0; simp at h1
                              go_simp
                            simp only [Act.put, List.getElem_toArray, List.getElem_cons_succ, List.getElem_cons_zero, List.setIfInBounds_toArray, List.set_cons_zero, List.set_cons_succ]
                            refine wpAnyL_takeB (i := 20) (v := .pointer (some ⟨x, 8, none⟩)) rfl (by kernel_rfl) (by kernel_rfl) (by kernel_rfl) (fun _ _ _ h => h) (by kernel_rfl) (Or.inl ⟨by rfl, fun w' hw => ?_⟩) hS (fun hS => ?_)
                            · have h1 := hw.out.c 0; simp at h1
                              go_simp
                            simp only [Act.put, List.getElem_toArray, List.getElem_cons_succ, List.getElem_cons_zero, List.setIfInBounds_toArray, List.set_cons_zero, List.set_cons_succ]
                            refine wpAnyL_ready (rs := [21]) (by kernel_rfl) (by simp) ?_
                            refine AllReadyL.cons rfl (fun K hK => ?_) AllReadyL.nil
                            rw [if_pos (by rfl)]
                            have pz : (X0abpq.setCell ⟨x, 7, none⟩ (.slice a8 nf1 c8)).cell? ⟨x, 8, none⟩ = some sv := (World.cell?_setCell_other _ _ _ _ (by intro e; injection e with _ e; exact absurd e (by decide))).trans (HAB.out _ _ _ _ _ ha).1.out.2
                            have qz : (X0abpq.setCell ⟨x, 7, none⟩ (.slice a8 nf1 c8)).frozen? ⟨x, 8, none⟩ = false := (by rw [World.frozen?_setCell]; exact HFZ.out _ _ _ _ _ ha 8)
                            go_simp
                            have hB3 : Hid (Cz ((X0abpq.setCell ⟨x, 7, none⟩ (.slice a8 nf1 c8)).setCell ⟨x, 8, none⟩ (.slice a16 nf1 c16)) b3 27 #[.pointer (some ⟨x, 0, none⟩)]) := Lib.hid (hB2.out.but (ButS.set (S := fun k => k = x) (X0abpq.setCell ⟨x, 7, none⟩ (.slice a8 nf1 c8)) (p := ⟨x, 8, none⟩) rfl _) HB3X.out)
                            clear pz qz hB2
                            refine hK.out _ _ (SL.late (by kernel_rfl) hB3) (fun hS => ?_)
                            clear hK
                            (try go_frame)
                            refine wpAnyL_done (by kernel_rfl) ?_ _
                            clear hS
                            go_wp2_with fail
                            go_meet
                            exact HFIN.out _ _ _ ha
                          refine AllReadyL.cons rfl (fun K hK => ?_) AllReadyL.nil
                          rw [if_pos (by rfl)]
                          go_simp
                          have hz14 := Cz.new X0 #[.int .i64 0] 3
                          have hb : Below X0.heap.size X0 (X0.alloc (.cells #[.int .i64 0] 3)) := (Below.refl _ _).alloc (Nat.le_refl _) _
                          have hge14 : ws.heap.size ≤ X0.heap.size := ha.bu.size
                          replace ha := ha.step hb
                          replace hbl := hbl.trans (hb.mono hbl.size)
                          generalize (X0.alloc (.cells #[.int .i64 0] 3)) = X0b at hz14 hb ha hbl ⊢
                          obtain ⟨g14, hg14⟩ : ∃ z, X0.heap.size = z := ⟨_, rfl⟩
                          rw [hg14] at hz14 hge14 ⊢
                          clear hg14 hb
                          refine hK.out _ _ (SL.all (HAB.out _ _ _ _ _ ha).1 (HAB.out _ _ _ _ _ ha).2) (fun hS => ?_)
                          clear hK
                          (try go_frame)
                          refine wpAnyL_ready (rs := [8]) (by kernel_rfl) (by simp) ?_
                          refine AllReadyL.cons rfl (fun K hK => ?_) AllReadyL.nil
                          rw [if_pos (by rfl)]
                          go_simp
                          have hz8 := Cz.new X0b #[.int .i64 fr] 3
                          have hb : Below X0b.heap.size X0b (X0b.alloc (.cells #[.int .i64 fr] 3)) := (Below.refl _ _).alloc (Nat.le_refl _) _
                          have hge8 : ws.heap.size ≤ X0b.heap.size := ha.bu.size
                          replace ha := ha.step hb
                          replace hbl := hbl.trans (hb.mono hbl.size)
                          replace hz14 := hz14.step hb
                          generalize (X0b.alloc (.cells #[.int .i64 fr] 3)) = X0ba at hz8 hb ha hz14 hbl ⊢
                          obtain ⟨g8, hg8⟩ : ∃ z, X0b.heap.size = z := ⟨_, rfl⟩
                          rw [hg8] at hz8 hge8 ⊢
                          clear hg8 hb
                          refine hK.out _ _ (SL.all (HAB.out _ _ _ _ _ ha).1 (HAB.out _ _ _ _ _ ha).2) (fun hS => ?_)
                          clear hK
                          (try go_frame)
                          refine wpAnyL_ready (rs := [9]) (by kernel_rfl) (by simp) ?_
                          refine AllReadyL.cons rfl (fun K hK => ?_) AllReadyL.nil
                          rw [if_pos (by rfl)]
                          refine wp_appV (.tmp 146) (.tmp 149) rfl rfl ha.r1 rfl hz8 (by rw [HIF.out]; omega) ?_
                          intro v8 X0bap hown hg hat
                          replace hz14 := hz14.but (ButS.row hg (S := fun k => fv.ownBlock = some k) (fun j e => e)) (fun e => by have := (own_k HRW.out.fr g14 e).1; omega)
                          replace ha := ha.one hown hg hat
                          clear hown hg hat hz8 hge8 hbl
                          refine hK.out _ _ (SL.all (HAB.out _ _ _ _ _ ha).1 (HAB.out _ _ _ _ _ ha).2) (fun hS => ?_)
                          clear hK
                          (try go_frame)
                          refine wpAnyL_ready (rs := [15]) (by kernel_rfl) (by simp) ?_
                          refine AllReadyL.cons rfl (fun K hK => ?_) AllReadyL.nil
                          rw [if_pos (by rfl)]
                          refine wp_appV (.tmp 154) (.tmp 155) rfl rfl ha.r2 rfl hz14 (by rw [HIZ.out]; omega) ?_
                          intro v16 X0bapq hown hg hat
                          replace ha := (ha.swap.one hown hg hat).swap
                          clear hown hg hat hz14 hge14
                          refine hK.out _ _ (SL.all (HAB.out _ _ _ _ _ ha).1 (HAB.out _ _ _ _ _ ha).2) (fun hS => ?_)
                          clear hK
                          (try go_frame)
                          refine wpAnyL_takeB (i := 16) (v := .pointer (some ⟨x, 0, none⟩)) rfl (by kernel_rfl) (by kernel_rfl) (by kernel_rfl) (fun _ _ _ h => h) (by kernel_rfl) (Or.inl ⟨by rfl, fun w' hw => ?_⟩) hS (fun hS => ?_)
                          · have h1 := hw.out.c 0; simp at h1
                            go_simp
                          simp only [Act.put, List.getElem_toArray, List.getElem_cons_succ, List.getElem_cons_zero, List.setIfInBounds_toArray, List.set_cons_zero, List.set_cons_succ]
                          refine wpAnyL_takeB (i := 17) (v := .pointer (some ⟨x, 7, none⟩)) rfl (by kernel_rfl) (by kernel_rfl) (by kernel_rfl) (fun _ _ _ h => h) (by kernel_rfl) (Or.inl ⟨by rfl, fun w' hw => ?_⟩) hS (fun hS => ?_)
                          · have h1 := hw.out.c 0; simp at h1
                            go_simp
                          simp only [Act.put, List.getElem_toArray, List.getElem_cons_succ, List.getElem_cons_zero, List.setIfInBounds_toArray, List.set_cons_zero, List.set_cons_succ]
                          refine wpAnyL_ready (rs := [18]) (by kernel_rfl) (by simp) ?_
                          refine AllReadyL.cons rfl (fun K hK => ?_) AllReadyL.nil
                          rw [if_pos (by rfl)]
                          have pz := (HAB.out _ _ _ _ _ ha).1.out.1; have qz := HFZ.out _ _ _ _ _ ha 7
                          obtain ⟨a8, c8, hv8⟩ := ownShape ha.r1
                          rw [HIF1.out] at hv8
                          subst hv8
                          obtain ⟨a16, c16, hv16⟩ := ownShape ha.r2
                          rw [HIZ1.out] at hv16
                          subst hv16
                          go_simp
                          have hB2 : Hid (Cz (X0bapq.setCell ⟨x, 7, none⟩ (.slice a8 nf1 c8)) b3 27 #[.pointer (some ⟨x, 0, none⟩)]) := Lib.hid ((HAB.out _ _ _ _ _ ha).2.out.but (ButS.set (S := fun k => k = x) X0bapq (p := ⟨x, 7, none⟩) rfl _) HB3X.out)
                          clear pz qz
                          refine hK.out _ _ (SL.late (by kernel_rfl) hB2) (fun hS => ?_)
                          clear hK
                          (try go_frame)
                          refine wpAnyL_takeB (i := 19) (v := .pointer (some ⟨x, 0, none⟩)) rfl (by kernel_rfl) (by kernel_rfl) (by kernel_rfl) (fun _ _ _ h => h) (by kernel_rfl) (Or.inl ⟨by rfl, fun w' hw => ?_⟩) hS (fun hS => ?_)
                          · have h1 := hw.out.c 0; simp at h1
                            go_simp
                          simp only [Act.put, List.getElem_toArray, List.getElem_cons_succ, List.getElem_cons_zero, List.setIfInBounds_toArray, List.set_cons_zero, List.set_cons_succ]
                          refine wpAnyL_takeB (i := 20) (v := .pointer (some ⟨x, 8, none⟩)) rfl (by kernel_rfl) (by kernel_rfl) (by kernel_rfl) (fun _ _ _ h => h) (by kernel_rfl) (Or.inl ⟨by rfl, fun w' hw => ?_⟩) hS (fun hS => ?_)
                          · have h1 := hw.out.c 0; simp at h1
                            go_simp
                          simp only [Act.put, List.getElem_toArray, List.getElem_cons_succ, List.getElem_cons_zero, List.setIfInBounds_toArray, List.set_cons_zero, List.set_cons_succ]
                          refine wpAnyL_ready (rs := [21]) (by kernel_rfl) (by simp) ?_
                          refine AllReadyL.cons rfl (fun K hK => ?_) AllReadyL.nil
                          rw [if_pos (by rfl)]
                          have pz : (X0bapq.setCell ⟨x, 7, none⟩ (.slice a8 nf1 c8)).cell? ⟨x, 8, none⟩ = some sv := (World.cell?_setCell_other _ _ _ _ (by intro e; injection e with _ e; exact absurd e (by decide))).trans (HAB.out _ _ _ _ _ ha).1.out.2
                          have qz : (X0bapq.setCell ⟨x, 7, none⟩ (.slice a8 nf1 c8)).frozen? ⟨x, 8, none⟩ = false := (by rw [World.frozen?_setCell]; exact HFZ.out _ _ _ _ _ ha 8)
                          go_simp
                          have hB3 : Hid (Cz ((X0bapq.setCell ⟨x, 7, none⟩ (.slice a8 nf1 c8)).setCell ⟨x, 8, none⟩ (.slice a16 nf1 c16)) b3 27 #[.pointer (some ⟨x, 0, none⟩)]) := Lib.hid (hB2.out.but (ButS.set (S := fun k => k = x) (X0bapq.setCell ⟨x, 7, none⟩ (.slice a8 nf1 c8)) (p := ⟨x, 8, none⟩) rfl _) HB3X.out)
                          clear pz qz hB2
                          refine hK.out _ _ (SL.late (by kernel_rfl) hB3) (fun hS => ?_)
                          clear hK
                          (try go_frame)
                          refine wpAnyL_done (by kernel_rfl) ?_ _
                          clear hS
                          go_wp2_with fail
                          go_meet
                          exact HFIN.out _ _ _ ha
                        refine AllReadyL.cons rfl (fun K hK => ?_) AllReadyL.nil
                        rw [if_pos (by rfl)]
                        go_simp
                        have hz14 := Cz.new X0 #[.int .i64 0] 3
                        have hb : Below X0.heap.size X0 (X0.alloc (.cells #[.int .i64 0] 3)) := (Below.refl _ _).alloc (Nat.le_refl _) _
                        have hge14 : ws.heap.size ≤ X0.heap.size := ha.bu.size
                        replace ha := ha.step hb
                        replace hbl := hbl.trans (hb.mono hbl.size)
                        generalize (X0.alloc (.cells #[.int .i64 0] 3)) = X0b at hz14 hb ha hbl ⊢
                        obtain ⟨g14, hg14⟩ : ∃ z, X0.heap.size = z := ⟨_, rfl⟩
                        rw [hg14] at hz14 hge14 ⊢
                        clear hg14 hb
                        refine hK.out _ _ (SL.all (HAB.out _ _ _ _ _ ha).1 (HAB.out _ _ _ _ _ ha).2) (fun hS => ?_)
                        clear hK
                        (try go_frame)
                        refine wpAnyL_ready (rs := [7]) (by kernel_rfl) (by simp) ?_
                        refine AllReadyL.cons rfl (fun K hK => ?_) AllReadyL.nil
                        rw [if_pos (by rfl)]
                        go_simp
                        refine (HFR.out _ hbl).mono ?_
                        rintro e wn ⟨rfl, hwn⟩
                        rw [hwn]
                        clear hwn wn
                        refine hK.out _ _ (SL.all (HAB.out _ _ _ _ _ ha).1 (HAB.out _ _ _ _ _ ha).2) (fun hS => ?_)
                        clear hK
                        (try go_frame)
                        refine wpAnyL_ready (rs := [8]) (by kernel_rfl) (by simp) ?_
                        refine AllReadyL.cons rfl (fun K hK => ?_) AllReadyL.nil
                        rw [if_pos (by rfl)]
                        go_simp
                        have hz8 := Cz.new X0b #[.int .i64 fr] 3
                        have hb : Below X0b.heap.size X0b (X0b.alloc (.cells #[.int .i64 fr] 3)) := (Below.refl _ _).alloc (Nat.le_refl _) _
                        have hge8 : ws.heap.size ≤ X0b.heap.size := ha.bu.size
                        replace ha := ha.step hb
                        replace hbl := hbl.trans (hb.mono hbl.size)
                        replace hz14 := hz14.step hb
                        generalize (X0b.alloc (.cells #[.int .i64 fr] 3)) = X0ba at hz8 hb ha hz14 hbl ⊢
                        obtain ⟨g8, hg8⟩ : ∃ z, X0b.heap.size = z := ⟨_, rfl⟩
                        rw [hg8] at hz8 hge8 ⊢
                        clear hg8 hb
                        refine hK.out _ _ (SL.all (HAB.out _ _ _ _ _ ha).1 (HAB.out _ _ _ _ _ ha).2) (fun hS => ?_)
                        clear hK
                        (try go_frame)
                        refine wpAnyL_ready (rs := [9]) (by kernel_rfl) (by simp) ?_
                        refine AllReadyL.cons rfl (fun K hK => ?_) AllReadyL.nil
                        rw [if_pos (by rfl)]
                        refine wp_appV (.tmp 146) (.tmp 149) rfl rfl ha.r1 rfl hz8 (by rw [HIF.out]; omega) ?_
                        intro v8 X0bap hown hg hat
                        replace hz14 := hz14.but (ButS.row hg (S := fun k => fv.ownBlock = some k) (fun j e => e)) (fun e => by have := (own_k HRW.out.fr g14 e).1; omega)
                        replace ha := ha.one hown hg hat
                        clear hown hg hat hz8 hge8 hbl
                        refine hK.out _ _ (SL.all (HAB.out _ _ _ _ _ ha).1 (HAB.out _ _ _ _ _ ha).2) (fun hS => ?_)
                        clear hK
                        (try go_frame)
                        refine wpAnyL_ready (rs := [15]) (by kernel_rfl) (by simp) ?_
                        refine AllReadyL.cons rfl (fun K hK => ?_) AllReadyL.nil
                        rw [if_pos (by rfl)]
                        refine wp_appV (.tmp 154) (.tmp 155) rfl rfl ha.r2 rfl hz14 (by rw [HIZ.out]; omega) ?_
                        intro v16 X0bapq hown hg hat
                        replace ha := (ha.swap.one hown hg hat).swap
                        clear hown hg hat hz14 hge14
                        refine hK.out _ _ (SL.all (HAB.out _ _ _ _ _ ha).1 (HAB.out _ _ _ _ _ ha).2) (fun hS => ?_)
                        clear hK
                        (try go_frame)
                        refine wpAnyL_takeB (i := 16) (v := .pointer (some ⟨x, 0, none⟩)) rfl (by kernel_rfl) (by kernel_rfl) (by kernel_rfl) (fun _ _ _ h => h) (by kernel_rfl) (Or.inl ⟨by rfl, fun w' hw => ?_⟩) hS (fun hS => ?_)
                        · have h1 := hw.out.c 0; simp at h1
                          go_simp
                        simp only [Act.put, List.getElem_toArray, List.getElem_cons_succ, List.getElem_cons_zero, List.setIfInBounds_toArray, List.set_cons_zero, List.set_cons_succ]
                        refine wpAnyL_takeB (i := 17) (v := .pointer (some ⟨x, 7, none⟩)) rfl (by kernel_rfl) (by kernel_rfl) (by kernel_rfl) (fun _ _ _ h => h) (by kernel_rfl) (Or.inl ⟨by rfl, fun w' hw => ?_⟩) hS (fun hS => ?_)
                        · have h1 := hw.out.c 0; simp at h1
                          go_simp
                        simp only [Act.put, List.getElem_toArray, List.getElem_cons_succ, List.getElem_cons_zero, List.setIfInBounds_toArray, List.set_cons_zero, List.set_cons_succ]
                        refine wpAnyL_ready (rs := [18]) (by kernel_rfl) (by simp) ?_
                        refine AllReadyL.cons rfl (fun K hK => ?_) AllReadyL.nil
                        rw [if_pos (by rfl)]
                        have pz := (HAB.out _ _ _ _ _ ha).1.out.1; have qz := HFZ.out _ _ _ _ _ ha 7
                        obtain ⟨a8, c8, hv8⟩ := ownShape ha.r1
                        rw [HIF1.out] at hv8
                        subst hv8
                        obtain ⟨a16, c16, hv16⟩ := ownShape ha.r2
                        rw [HIZ1.out] at hv16
                        subst hv16
                        go_simp
                        have hB2 : Hid (Cz (X0bapq.setCell ⟨x, 7, none⟩ (.slice a8 nf1 c8)) b3 27 #[.pointer (some ⟨x, 0, none⟩)]) := Lib.hid ((HAB.out _ _ _ _ _ ha).2.out.but (ButS.set (S := fun k => k = x) X0bapq (p := ⟨x, 7, none⟩) rfl _) HB3X.out)
                        clear pz qz
                        refine hK.out _ _ (SL.late (by kernel_rfl) hB2) (fun hS => ?_)
                        clear hK
                        (try go_frame)
                        refine wpAnyL_takeB (i := 19) (v := .pointer (some ⟨x, 0, none⟩)) rfl (by kernel_rfl) (by kernel_rfl) (by kernel_rfl) (fun _ _ _ h => h) (by kernel_rfl) (Or.inl ⟨by rfl, fun w' hw => ?_⟩) hS (fun hS => ?_)
                        · have h1 := hw.out.c 0; simp at h1
                          go_simp
                        simp only [Act.put, List.getElem_toArray, List.getElem_cons_succ, List.getElem_cons_zero, List.setIfInBounds_toArray, List.set_cons_zero, List.set_cons_succ]
                        refine wpAnyL_takeB (i := 20) (v := .pointer (some ⟨x, 8, none⟩)) rfl (by kernel_rfl) (by kernel_rfl) (by kernel_rfl) (fun _ _ _ h => h) (by kernel_rfl) (Or.inl ⟨by rfl, fun w' hw => ?_⟩) hS (fun hS => ?_)
                        · have h1 := hw.out.c 0; simp at h1
                          go_simp
                        simp only [Act.put, List.getElem_toArray, List.getElem_cons_succ, List.getElem_cons_zero, List.setIfInBounds_toArray, List.set_cons_zero, List.set_cons_succ]
                        refine wpAnyL_ready (rs := [21]) (by kernel_rfl) (by simp) ?_
                        refine AllReadyL.cons rfl (fun K hK => ?_) AllReadyL.nil
                        rw [if_pos (by rfl)]
                        have pz : (X0bapq.setCell ⟨x, 7, none⟩ (.slice a8 nf1 c8)).cell? ⟨x, 8, none⟩ = some sv := (World.cell?_setCell_other _ _ _ _ (by intro e; injection e with _ e; exact absurd e (by decide))).trans (HAB.out _ _ _ _ _ ha).1.out.2
                        have qz : (X0bapq.setCell ⟨x, 7, none⟩ (.slice a8 nf1 c8)).frozen? ⟨x, 8, none⟩ = false := (by rw [World.frozen?_setCell]; exact HFZ.out _ _ _ _ _ ha 8)
                        go_simp
                        have hB3 : Hid (Cz ((X0bapq.setCell ⟨x, 7, none⟩ (.slice a8 nf1 c8)).setCell ⟨x, 8, none⟩ (.slice a16 nf1 c16)) b3 27 #[.pointer (some ⟨x, 0, none⟩)]) := Lib.hid (hB2.out.but (ButS.set (S := fun k => k = x) (X0bapq.setCell ⟨x, 7, none⟩ (.slice a8 nf1 c8)) (p := ⟨x, 8, none⟩) rfl _) HB3X.out)
                        clear pz qz hB2
                        refine hK.out _ _ (SL.late (by kernel_rfl) hB3) (fun hS => ?_)
                        clear hK
                        (try go_frame)
                        refine wpAnyL_done (by kernel_rfl) ?_ _
                        clear hS
                        go_wp2_with fail
                        go_meet
                        exact HFIN.out _ _ _ ha
                      case rest =>
                        obtain ⟨T2, HWX, HDX, HTX, HBX⟩ := hcut
                        have hz3x := HZ3S.out.but HBX.out HB3N.out
                        have hz22x := HZ22.out.but HBX.out H22N.out
                        obtain ⟨fv1, sv1, hr1⟩ := HWX.out.look
                        obtain ⟨q1, q2, q3, q4, q5⟩ := HOK.out.1.turn D' _ HV1.out.symm
                        obtain ⟨a1, c1, rfl⟩ := ownShape hr1.fr
                        obtain ⟨nf, hnf⟩ : ∃ z, V1.files.length = z := ⟨_, rfl⟩
                        have hnf1 : 1 ≤ nf := by omega
                        have hnf2 : nf ≤ 1000 := by have := HLT.out; omega
                        have HNF := Lib.hid hnf
                        have hr7 := hr1.c7
                        rw [hnf] at hr7
                        obtain ⟨fl, hfl⟩ : ∃ z, lastF V1.files = z := ⟨_, rfl⟩
                        obtain ⟨gf, rfl, hgf⟩ := (row_at hr1.fr (by simp [intsV])).resolve_left (by omega)
                        have cgf : wc.cell? ⟨gf, nf - 1, none⟩ = some (.int .i64 fl) := (hgf (nf - 1) _ (by unfold intsV; rw [List.getElem?_map, List.getElem?_eq_getElem (by omega)]; show _ = some (Value.int .i64 fl); rw [← hfl]; unfold lastF; simp only [hnf, List.getD_eq_getElem?_getD]; rw [List.getElem?_eq_getElem (by omega)]; rfl)).1
                        obtain ⟨nj, hnj⟩ : ∃ z, nf - 1 = z := ⟨_, rfl⟩
                        rw [hnj] at cgf
                        have hnji : (nf : Int) - 1 = (nj : Int) := by omega
                        have hnjl : (nj : Int) < (nf : Int) := by omega
                        have HFL := Lib.hid hfl; have HNJ := Lib.hid hnj
                        have HGFT : Hid (T2 gf ∧ gf ≠ x) := Lib.hid ⟨(hr1.tf gf rfl).1, (hr1.tf gf rfl).2.1⟩
                        have cx3 := hz3x.c 0
                        simp at cx3
                        have HZ3X := Lib.hid hz3x; have HZ22X := Lib.hid hz22x
                        have HQQ := Lib.hid (And.intro q1 (And.intro q2 (And.intro q3 (And.intro q4 q5))))
                        have HCA : Hid (wc.cell? ⟨x, 0, none⟩ = some (.pointer (some ⟨d, 0, none⟩)) ∧ wc.cell? ⟨x, 7, none⟩ = some (.slice (some ⟨gf, 0, none⟩) nf c1) ∧ wc.cell? ⟨gf, nj, none⟩ = some (.int .i64 fl)) := Lib.hid ⟨HWX.out.c0, hr7, cgf⟩
                        clear hr1 hz3x hz22x q1 q2 q3 q4 q5 hnf hfl hgf cgf hnj
                        go_upto_region 35 with fail
                        refine wp_abs (F := fun W' => Hid (Below wc.heap.size wc W') ∧ Hid (Cz W' wc.heap.size 3 #[.int .i64 (nj : Int)])) ⟨Lib.hid ((Below.refl _ _).alloc (Nat.le_refl _) _), Lib.hid (Cz.new _ _ _)⟩ ?_
                        rintro w34 ⟨HB34, HZ23⟩
                        obtain ⟨b23, hb23⟩ : ∃ z, wc.heap.size = z := ⟨_, rfl⟩
                        have H23 := Lib.hid hb23
                        rw [hb23] at HZ23 ⊢
                        clear hb23 hr7 cx3
                        have HD34 := Lib.hid (HDX.out.step HB34.out); have HW34 := Lib.hid (HWX.out.step HB34.out)
                        have HZ334 := Lib.hid (HZ3X.out.step HB34.out); have HZ2234 := Lib.hid (HZ22X.out.step HB34.out)
                        have cx3 := HZ334.out.c 0
                        simp at cx3
                        obtain ⟨W35, hW35⟩ : ∃ z, w34.alloc (.cells #[Value.func (.func 36) #[] #[.pointer (some ⟨b3, 0, none⟩), .pointer (some ⟨b23, 0, none⟩), .pointer (some ⟨b22, 0, none⟩)]] 41) = z := ⟨_, rfl⟩
                        have hb35 : Below w34.heap.size w34 W35 := by rw [← hW35]; exact (Below.refl _ _).alloc (Nat.le_refl _) _
                        have hx35 : Cz W35 w34.heap.size 41 #[Value.func (.func 36) #[] #[.pointer (some ⟨b3, 0, none⟩), .pointer (some ⟨b23, 0, none⟩), .pointer (some ⟨b22, 0, none⟩)]] := by rw [← hW35]; exact Cz.new _ _ _
                        have hxw := HWX.out.lt
                        have hxS : ¬ S' x := fun hs => HL3.out x hs HL2.out.xx
                        have hapc : AppC b3 b23 b22 x d gf nj nf c1 fl p W35 := by
                          obtain ⟨h1, h2, h3⟩ := HCA.out
                          have e1 := (HZ334.out.step hb35).c 0; have e2 := (HZ23.out.step hb35).c 0; have e3 := (HZ2234.out.step hb35).c 0
                          simp at e1 e2 e3
                          have gl := cell_lt h3
                          have kk : ∀ b o, b < wc.heap.size → W35.cell? ⟨b, o, none⟩ = wc.cell? ⟨b, o, none⟩ := fun b o hb => (hb35.cell (p := ⟨b, o, none⟩) (by have := HB34.out.size; show b < _; omega)).trans (HB34.out.cell (p := ⟨b, o, none⟩) hb)
                          exact ⟨e1, (kk x 0 hxw).trans h1, (kk x 7 hxw).trans h2, (kk gf nj gl).trans h3, e2, e3⟩
                        have hS2 : ∀ k, S' k → ¬ T2 k := fun k hs ht => by
                          rcases HTX.out k ht with e | e
                          · exact HL3.out k hs e
                          · have := HL1.out.own k hs; have := HBS.out.size; omega
                        have hSl : ∀ k, S' k → k < wr.heap.size := HL1.out.own
                        have hw1 := HBS.out.size; have hw2 := HBX.out.size; have hw3 := HB34.out.size; have h23 := H23.out; have h22 := H22.out; have hwr := HWRS.out; have h3l := HZL.out.lt; have hbe := HBE.out
                        have hS3 : ¬ S' b3 := fun hs => by
                          rcases HL4.out b3 hs with e | e
                          · have := HOWN.out b3 (Or.inl e); omega
                          · omega
                        have hdo := wal_does W35 (HW34.out.step hb35) (HD34.out.step hb35) hS2 HOK.out.2.1 (some ⟨w34.heap.size, 0, none⟩) 1 [Value.func (.func 36) #[] #[.pointer (some ⟨b3, 0, none⟩), .pointer (some ⟨b23, 0, none⟩), .pointer (some ⟨b22, 0, none⟩)]] [.write fl p] (by have h1 := HOK.out.2.2.2.1; have h2 := HLO.out; show D'.loose.length + 1 ≤ 1000000; have := HLT.out; omega) rfl
                          (Or.inr ⟨w34.heap.size, rfl, fun hs => by have := hSl _ hs; omega, hx35.lt, fun i v hv => by
                            have hi : i = 0 := by have := (List.getElem?_eq_some_iff.1 hv).1; simpa using this
                            subst hi
                            simp only [List.getElem?_cons_zero, Option.some.injEq] at hv
                            subst hv
                            exact hx35.c 0⟩)
                          (fun i v c hv hc => by
                            have hi : i = 0 := by have := (List.getElem?_eq_some_iff.1 hv).1; simpa using this
                            subst hi
                            simp only [List.getElem?_cons_zero, Option.some.injEq] at hv hc
                            subst hv; subst hc
                            exact doer_app (by omega) hapc hS3 hxS (fun hs => by have := hS2 gf hs; exact this HGFT.out.1) (fun hs => by have := hSl _ hs; omega) (fun hs => by have := hSl _ hs; omega)) ⟨by show p.length ≤ _; rw [HPLL.out]; omega, fun _ => trivial⟩
                        rw [steps_one] at hdo
                        obtain ⟨r, hr⟩ : ∃ r, D'.write fl p = r := ⟨_, rfl⟩
                        rw [show D'.do (.write fl p) = r from hr] at hdo
                        obtain ⟨er, D2⟩ := r
                        have HWRS2 : Hid (wrs PP D W = if er = 0 then wrs (PP.drop (q + 1)) D2 (V1.wrote pl) else (er, D2, { V1 with down := er })) := Lib.hid (by
                          rw [HWR.out, HDR.out, wrs_cons (er := er) (D2 := D2) _ HV1.out (by rw [HFL.out]; exact hr), HPLL.out])
                        have hK2 := HOK.out.2.1.do HL1.out.n16.2 (.write fl p) (by show p.length ≤ _; rw [HPLL.out]; omega) (by have h1 := HOK.out.2.2.2.1; have h2 := HLO.out; have := HLT.out; omega)
                        rw [show D'.do (.write fl p) = (er, D2) from hr] at hK2
                        have HK2 := Lib.hid hK2
                        dsimp only at hdo
                        unfold LgG at hdo
                        have HDO := Lib.hid hdo
                        have HB35 := Lib.hid hb35; have HS2 := Lib.hid hS2; have HX35 := Lib.hid hx35
                        have HSL := Lib.hid hSl; have HS3 := Lib.hid hS3
                        clear hdo hapc hb35 hx35 hS2 hr hK2 hSl hS3 hxS hxw hw1 hw2 hw3 h23 h22 hwr h3l hbe
                        go_wp2_with fail
                        refine HDO.out.mono ?_
                        rintro e w36 ⟨rfl, g1, g2, g3⟩
                        have G1 := Lib.hid g1; have G2 := Lib.hid g2; have G3 := Lib.hid g3
                        clear g1 g2 g3 hW35
                        have HTG : Hid (∀ k, T2 k → T k ∨ wL.heap.size ≤ k) := Lib.hid (fun k hk => by
                          rcases HTX.out k hk with e | e
                          · exact HL5.out k e
                          · exact Or.inr (by have := HBS.out.size; have := HWRS.out; omega))
                        have HSG : Hid (∀ k, Gr S' W35 w36 k → S k ∨ wL.heap.size ≤ k) := Lib.hid (fun k hk => by
                          rcases hk with hk | hk
                          · exact HL4.out k hk
                          · exact Or.inr (by have := HBS.out.size; have := HBX.out.size; have := HB34.out.size; have := HB35.out.size; have := HWRS.out; omega))
                        have HDJ : Hid (∀ k, Gr S' W35 w36 k → ¬ T2 k) := Lib.hid (fun k hk ht => not_gr HS2.out (fun j hj => by have := HW34.out.own j hj; have := HB35.out.size; omega) k ht hk)
                        have HBU : Hid (ButS (fun k => S k ∨ T k) wL w36) := Lib.hid (by
                          refine ((((HL6.out.trans (ButS.of HBS.out)).wide HBX.out (fun k hk => ?_)).trans (ButS.of HB34.out)).trans (ButS.of HB35.out)).wide G3.out (fun k hk => ?_)
                          · rcases HL5.out k hk with e | e
                            · exact Or.inl (Or.inr e)
                            · exact Or.inr e
                          · rcases hk with hk | hk
                            · rcases HL4.out k hk with e | e
                              · exact Or.inl (Or.inl e)
                              · exact Or.inr e
                            · subst hk; exact Or.inl (Or.inr H.out.xx))
                        by_cases he : er = 0
                        · subst he
                          obtain ⟨fv2, sv2, hr2⟩ := G2.out.look
                          obtain ⟨a2, c2, rfl⟩ := ownShape hr2.zr
                          have hzn : V1.sizes.length = nf := by rw [← HQQ.out.1]; exact HNF.out
                          have c8 := hr2.c8
                          dsimp only at c8
                          rw [hzn] at c8
                          obtain ⟨sz, hsz⟩ : ∃ z, lastN V1.sizes = z := ⟨_, rfl⟩
                          have hszb : sz ≤ 4000000 := by
                            have h1 := HQQ.out.2.2.2.1 (lastN V1.sizes) (by unfold lastN; rw [List.getD_eq_getElem?_getD, List.getElem?_eq_getElem (by omega)]; exact List.getElem_mem _)
                            rw [hsz] at h1; have := HLT.out; omega
                          obtain ⟨gs, rfl, hgs⟩ := (row_at hr2.zr (by simp [natsV])).resolve_left (by dsimp only; omega)
                          obtain ⟨cgs, fgs⟩ := hgs nj (.int .i64 (sz : Int)) (by unfold natsV; dsimp only; rw [List.getElem?_map, List.getElem?_eq_getElem (by omega)]; show _ = some (Value.int .i64 (sz : Int)); rw [← hsz]; unfold lastN; simp only [hzn, HNJ.out, List.getD_eq_getElem?_getD]; rw [List.getElem?_eq_getElem (by omega)]; rfl)
                          have HGSL : Hid (gs < w36.heap.size) := Lib.hid (cell_lt cgs)
                          have HGST : Hid (T2 gs ∧ gs ≠ x) := Lib.hid (hr2.ts gs rfl)
                          have HR2 := Lib.hid hr2
                          have s1 := HBS.out.size; have s2 := HBX.out.size; have s3 := HB34.out.size; have s4 := HB35.out.size; have h23 := H23.out; have h22 := H22.out
                          have nX : ∀ b, ¬ S' b → b ≠ x → ¬ (S' b ∨ b = x) := fun b h1 h2 h3 => h3.elim h1 h2
                          have xl := HL2.out.lt
                          have hz23 := (HZ23.out.step HB35.out).but G3.out (nX b23 (fun hs => by have := HSL.out _ hs; omega) (by omega))
                          have hz22 := (HZ2234.out.step HB35.out).but G3.out (nX b22 (fun hs => by have := HSL.out _ hs; omega) (by omega))
                          have hz3 := (HZ334.out.step HB35.out).but G3.out (nX b3 HS3.out (fun e => by have := HXB.out; have := HBE.out; omega))
                          have z23 := hz23.c 0; have z22 := hz22.c 0; have z3 := hz3.c 0
                          simp at z23 z22 z3
                          have hgl : ∀ b C T0, Cz w36 b T0 C → T0 ≠ 3 → gs ≠ b := fun b C T0 hz hT e => by
                            have h1 := (own_k HR2.out.zr gs rfl).2; rw [e, hz.k] at h1; exact hT (by injection h1)
                          have HG3 : Hid (gs ≠ b3) := Lib.hid (hgl b3 _ _ hz3 (by decide))
                          have c6 := G2.out.c6
                          dsimp only at c6
                          obtain ⟨nv, hnv⟩ : ∃ z, V1.next = z := ⟨_, rfl⟩
                          have hnvb : nv ≤ 2000000 := by rw [← hnv]; have := HQQ.out.2.2.2.2; have := HLT.out; omega
                          have HNV := Lib.hid hnv
                          rw [hnv] at c6
                          have HSZ := Lib.hid hsz; have HZ33 := Lib.hid hz3; have HZN := Lib.hid hzn
                          clear hr2 hgs hz23 hz22 hz3 hgl nX hzn s1 s2 s3 s4 h23 h22 xl hnv
                          obtain ⟨szn, hszn⟩ : ∃ z, sz + pl = z := ⟨_, rfl⟩
                          have HSZN := Lib.hid hszn
                          have hszw : (sz : Int) + (pl : Int) = (szn : Int) := by omega
                          have hsznb : szn ≤ 4200000 := by omega
                          clear hszn
                          go_upto_region 38 with fail
                          go_region
                          go_upto_region 39 with fail
                          have hbg : ButS (fun k => k = gs) w36 (w36.setCell ⟨gs, nj, none⟩ (.int .i64 (szn : Int))).drew := (ButS.set (S := fun k => k = gs) w36 (p := ⟨gs, nj, none⟩) rfl _).trans ⟨rfl, rfl, rfl, Nat.le_refl _, fun _ _ _ => rfl⟩
                          have hw38 : WalAt (w36.setCell ⟨gs, nj, none⟩ (.int .i64 (szn : Int))).drew T2 x d { V1 with down := 0, sizes := V1.sizes.set nj szn } := (G2.out.setSize HR2.out nj szn).step ⟨rfl, rfl, rfl, Nat.le_refl _, fun _ _ => rfl⟩
                          refine wp_abs (F := fun W' => Hid (WalAt W' T2 x d { V1 with down := 0, sizes := V1.sizes.set nj szn }) ∧ Hid (ButS (fun k => k = gs) w36 W')) ⟨Lib.hid hw38, Lib.hid hbg⟩ ?_
                          rintro w38 ⟨HW38, HB38⟩
                          have z3 := (HZ33.out.but HB38.out (fun e => HG3.out e.symm)).c 0
                          simp at z3
                          have c6 := HW38.out.c6
                          dsimp only at c6
                          rw [HNV.out] at c6
                          have f6 := HW38.out.fz 6
                          obtain ⟨nw, hnw⟩ : ∃ z, nv + 1 = z := ⟨_, rfl⟩
                          have HNW := Lib.hid hnw
                          have hnvw : (nv : Int) + 1 = (nw : Int) := by omega
                          have hnwb : nw ≤ 2000001 := by omega
                          clear hnw
                          have hnvw2 : IntKind.u64.wrap (nw : Int) = (nw : Int) := by rw [IntKind.wrap_u64]; omega
                          have HWN := Lib.hid (HW38.out.setNext nw)
                          have HBN2 : Hid (ButS (fun k => k = x) w38 (w38.setCell ⟨x, 6, none⟩ (.int .u64 (nw : Int)))) := Lib.hid (ButS.set (S := fun k => k = x) w38 (p := ⟨x, 6, none⟩) rfl _)
                          obtain ⟨w39, hw39⟩ : ∃ z, w38.setCell ⟨x, 6, none⟩ (.int .u64 (nw : Int)) = z := ⟨_, rfl⟩
                          rw [hw39] at HWN HBN2
                          clear hw38 hbg hszw z22 z23 c8 cgs fgs
                          go_wp2_with fail
                          go_roundw
                          case rel =>
                            refine ⟨q + 1, D2, V1.wrote pl, HLT.out, by go_num, Lib.hid (by first | exact HWRS2.out.trans (if_pos rfl) | exact HWRS2.out.trans (if_pos trivial)), Lib.hid ?_, Lib.hid ?_⟩
                            · refine ⟨_, T2, (G1.out.but HB38.out (fun k hk e => by subst e; exact HDJ.out k hk HGST.out.1)).but HBN2.out (fun k hk e => by subst e; exact HDJ.out k hk G2.out.xx), ?_, HDJ.out, HSG.out, HTG.out, (HBU.out.wide HB38.out (fun k e => by subst e; exact (HTG.out k HGST.out.1).imp Or.inr id)).wide HBN2.out (fun k e => by subst e; exact Or.inl (Or.inr H.out.xx))⟩
                              have h1 := HWN.out
                              have e1 : V1.wrote pl = { ({ V1 with down := 0, sizes := V1.sizes.set nj szn } : Wa) with next := nw } := by
                                unfold Wa.wrote addLast
                                rw [HZN.out, HNJ.out, HNV.out, HNW.out, ← HSZN.out, show V1.sizes.getD nj 0 = sz from by rw [← HSZ.out]; unfold lastN; rw [HZN.out, HNJ.out]]
                              rw [e1]
                              exact h1
                            · refine ⟨HOK.out.1.wrote D' true (by first | exact HV1.out.symm | simpa using HV1.out.symm) hplen, HK2.out.1, by rw [HK2.out.2.1]; exact HOK.out.2.2.1, by have := HK2.out.2.2; have := HOK.out.2.2.2.1; dsimp only at *; omega, ?_⟩
                              show V1.reserved = _
                              rw [← HOK.out.2.2.2.2, ← HV1.out]
                              first | rfl | (split <;> rfl) | simp [Wa.fresh]
                          case measure => have := HLT.out; simp [intOf]; omega
                        · have heb : (er != 0) = true := by simpa using he
                          go_wp2_with fail
                          go_ret2
                          rw [HAP2.out, HWRS2.out, if_neg he, if_pos he]
                          exact ⟨rfl, LgAt.from ⟨_, T2, G1.out, G2.out, HDJ.out, HSG.out, HTG.out, HBU.out⟩ HBL.out⟩
                    | false =>
                      obtain ⟨T2, HWX, HDX, HTX, HBX⟩ : ∃ T2 : Nat → Prop, Hid (WalAt ws T2 x d V1) ∧ Hid (DiskAt ws S' d D') ∧ Hid (∀ j, T2 j → T' j ∨ ws.heap.size ≤ j) ∧ Hid (ButS T' ws ws) := ⟨T', Lib.hid (by rw [← HV1.out]; exact HWS.out), HDS, Lib.hid (fun j hj => Or.inl hj), Lib.hid (ButS.refl _)⟩
                      have hz3x := HZ3S.out.but HBX.out HB3N.out
                      have hz22x := HZ22.out.but HBX.out H22N.out
                      obtain ⟨fv1, sv1, hr1⟩ := HWX.out.look
                      obtain ⟨q1, q2, q3, q4, q5⟩ := HOK.out.1.turn D' _ HV1.out.symm
                      obtain ⟨a1, c1, rfl⟩ := ownShape hr1.fr
                      obtain ⟨nf, hnf⟩ : ∃ z, V1.files.length = z := ⟨_, rfl⟩
                      have hnf1 : 1 ≤ nf := by omega
                      have hnf2 : nf ≤ 1000 := by have := HLT.out; omega
                      have HNF := Lib.hid hnf
                      have hr7 := hr1.c7
                      rw [hnf] at hr7
                      obtain ⟨fl, hfl⟩ : ∃ z, lastF V1.files = z := ⟨_, rfl⟩
                      obtain ⟨gf, rfl, hgf⟩ := (row_at hr1.fr (by simp [intsV])).resolve_left (by omega)
                      have cgf : ws.cell? ⟨gf, nf - 1, none⟩ = some (.int .i64 fl) := (hgf (nf - 1) _ (by unfold intsV; rw [List.getElem?_map, List.getElem?_eq_getElem (by omega)]; show _ = some (Value.int .i64 fl); rw [← hfl]; unfold lastF; simp only [hnf, List.getD_eq_getElem?_getD]; rw [List.getElem?_eq_getElem (by omega)]; rfl)).1
                      obtain ⟨nj, hnj⟩ : ∃ z, nf - 1 = z := ⟨_, rfl⟩
                      rw [hnj] at cgf
                      have hnji : (nf : Int) - 1 = (nj : Int) := by omega
                      have hnjl : (nj : Int) < (nf : Int) := by omega
                      have HFL := Lib.hid hfl; have HNJ := Lib.hid hnj
                      have HGFT : Hid (T2 gf ∧ gf ≠ x) := Lib.hid ⟨(hr1.tf gf rfl).1, (hr1.tf gf rfl).2.1⟩
                      have cx3 := hz3x.c 0
                      simp at cx3
                      have HZ3X := Lib.hid hz3x; have HZ22X := Lib.hid hz22x
                      have HQQ := Lib.hid (And.intro q1 (And.intro q2 (And.intro q3 (And.intro q4 q5))))
                      have HCA : Hid (ws.cell? ⟨x, 0, none⟩ = some (.pointer (some ⟨d, 0, none⟩)) ∧ ws.cell? ⟨x, 7, none⟩ = some (.slice (some ⟨gf, 0, none⟩) nf c1) ∧ ws.cell? ⟨gf, nj, none⟩ = some (.int .i64 fl)) := Lib.hid ⟨HWX.out.c0, hr7, cgf⟩
                      clear hr1 hz3x hz22x q1 q2 q3 q4 q5 hnf hfl hgf cgf hnj
                      go_upto_region 35 with fail
                      refine wp_abs (F := fun W' => Hid (Below ws.heap.size ws W') ∧ Hid (Cz W' ws.heap.size 3 #[.int .i64 (nj : Int)])) ⟨Lib.hid ((Below.refl _ _).alloc (Nat.le_refl _) _), Lib.hid (Cz.new _ _ _)⟩ ?_
                      rintro w34 ⟨HB34, HZ23⟩
                      obtain ⟨b23, hb23⟩ : ∃ z, ws.heap.size = z := ⟨_, rfl⟩
                      have H23 := Lib.hid hb23
                      rw [hb23] at HZ23 ⊢
                      clear hb23 hr7 cx3
                      have HD34 := Lib.hid (HDX.out.step HB34.out); have HW34 := Lib.hid (HWX.out.step HB34.out)
                      have HZ334 := Lib.hid (HZ3X.out.step HB34.out); have HZ2234 := Lib.hid (HZ22X.out.step HB34.out)
                      have cx3 := HZ334.out.c 0
                      simp at cx3
                      obtain ⟨W35, hW35⟩ : ∃ z, w34.alloc (.cells #[Value.func (.func 36) #[] #[.pointer (some ⟨b3, 0, none⟩), .pointer (some ⟨b23, 0, none⟩), .pointer (some ⟨b22, 0, none⟩)]] 41) = z := ⟨_, rfl⟩
                      have hb35 : Below w34.heap.size w34 W35 := by rw [← hW35]; exact (Below.refl _ _).alloc (Nat.le_refl _) _
                      have hx35 : Cz W35 w34.heap.size 41 #[Value.func (.func 36) #[] #[.pointer (some ⟨b3, 0, none⟩), .pointer (some ⟨b23, 0, none⟩), .pointer (some ⟨b22, 0, none⟩)]] := by rw [← hW35]; exact Cz.new _ _ _
                      have hxw := HWX.out.lt
                      have hxS : ¬ S' x := fun hs => HL3.out x hs HL2.out.xx
                      have hapc : AppC b3 b23 b22 x d gf nj nf c1 fl p W35 := by
                        obtain ⟨h1, h2, h3⟩ := HCA.out
                        have e1 := (HZ334.out.step hb35).c 0; have e2 := (HZ23.out.step hb35).c 0; have e3 := (HZ2234.out.step hb35).c 0
                        simp at e1 e2 e3
                        have gl := cell_lt h3
                        have kk : ∀ b o, b < ws.heap.size → W35.cell? ⟨b, o, none⟩ = ws.cell? ⟨b, o, none⟩ := fun b o hb => (hb35.cell (p := ⟨b, o, none⟩) (by have := HB34.out.size; show b < _; omega)).trans (HB34.out.cell (p := ⟨b, o, none⟩) hb)
                        exact ⟨e1, (kk x 0 hxw).trans h1, (kk x 7 hxw).trans h2, (kk gf nj gl).trans h3, e2, e3⟩
                      have hS2 : ∀ k, S' k → ¬ T2 k := fun k hs ht => by
                        rcases HTX.out k ht with e | e
                        · exact HL3.out k hs e
                        · have := HL1.out.own k hs; have := HBS.out.size; omega
                      have hSl : ∀ k, S' k → k < wr.heap.size := HL1.out.own
                      have hw1 := HBS.out.size; have hw2 := HBX.out.size; have hw3 := HB34.out.size; have h23 := H23.out; have h22 := H22.out; have hwr := HWRS.out; have h3l := HZL.out.lt; have hbe := HBE.out
                      have hS3 : ¬ S' b3 := fun hs => by
                        rcases HL4.out b3 hs with e | e
                        · have := HOWN.out b3 (Or.inl e); omega
                        · omega
                      have hdo := wal_does W35 (HW34.out.step hb35) (HD34.out.step hb35) hS2 HOK.out.2.1 (some ⟨w34.heap.size, 0, none⟩) 1 [Value.func (.func 36) #[] #[.pointer (some ⟨b3, 0, none⟩), .pointer (some ⟨b23, 0, none⟩), .pointer (some ⟨b22, 0, none⟩)]] [.write fl p] (by have h1 := HOK.out.2.2.2.1; have h2 := HLO.out; show D'.loose.length + 1 ≤ 1000000; have := HLT.out; omega) rfl
                        (Or.inr ⟨w34.heap.size, rfl, fun hs => by have := hSl _ hs; omega, hx35.lt, fun i v hv => by
                          have hi : i = 0 := by have := (List.getElem?_eq_some_iff.1 hv).1; simpa using this
                          subst hi
                          simp only [List.getElem?_cons_zero, Option.some.injEq] at hv
                          subst hv
                          exact hx35.c 0⟩)
                        (fun i v c hv hc => by
                          have hi : i = 0 := by have := (List.getElem?_eq_some_iff.1 hv).1; simpa using this
                          subst hi
                          simp only [List.getElem?_cons_zero, Option.some.injEq] at hv hc
                          subst hv; subst hc
                          exact doer_app (by omega) hapc hS3 hxS (fun hs => by have := hS2 gf hs; exact this HGFT.out.1) (fun hs => by have := hSl _ hs; omega) (fun hs => by have := hSl _ hs; omega)) ⟨by show p.length ≤ _; rw [HPLL.out]; omega, fun _ => trivial⟩
                      rw [steps_one] at hdo
                      obtain ⟨r, hr⟩ : ∃ r, D'.write fl p = r := ⟨_, rfl⟩
                      rw [show D'.do (.write fl p) = r from hr] at hdo
                      obtain ⟨er, D2⟩ := r
                      have HWRS2 : Hid (wrs PP D W = if er = 0 then wrs (PP.drop (q + 1)) D2 (V1.wrote pl) else (er, D2, { V1 with down := er })) := Lib.hid (by
                        rw [HWR.out, HDR.out, wrs_cons (er := er) (D2 := D2) _ HV1.out (by rw [HFL.out]; exact hr), HPLL.out])
                      have hK2 := HOK.out.2.1.do HL1.out.n16.2 (.write fl p) (by show p.length ≤ _; rw [HPLL.out]; omega) (by have h1 := HOK.out.2.2.2.1; have h2 := HLO.out; have := HLT.out; omega)
                      rw [show D'.do (.write fl p) = (er, D2) from hr] at hK2
                      have HK2 := Lib.hid hK2
                      dsimp only at hdo
                      unfold LgG at hdo
                      have HDO := Lib.hid hdo
                      have HB35 := Lib.hid hb35; have HS2 := Lib.hid hS2; have HX35 := Lib.hid hx35
                      have HSL := Lib.hid hSl; have HS3 := Lib.hid hS3
                      clear hdo hapc hb35 hx35 hS2 hr hK2 hSl hS3 hxS hxw hw1 hw2 hw3 h23 h22 hwr h3l hbe
                      go_wp2_with fail
                      refine HDO.out.mono ?_
                      rintro e w36 ⟨rfl, g1, g2, g3⟩
                      have G1 := Lib.hid g1; have G2 := Lib.hid g2; have G3 := Lib.hid g3
                      clear g1 g2 g3 hW35
                      have HTG : Hid (∀ k, T2 k → T k ∨ wL.heap.size ≤ k) := Lib.hid (fun k hk => by
                        rcases HTX.out k hk with e | e
                        · exact HL5.out k e
                        · exact Or.inr (by have := HBS.out.size; have := HWRS.out; omega))
                      have HSG : Hid (∀ k, Gr S' W35 w36 k → S k ∨ wL.heap.size ≤ k) := Lib.hid (fun k hk => by
                        rcases hk with hk | hk
                        · exact HL4.out k hk
                        · exact Or.inr (by have := HBS.out.size; have := HBX.out.size; have := HB34.out.size; have := HB35.out.size; have := HWRS.out; omega))
                      have HDJ : Hid (∀ k, Gr S' W35 w36 k → ¬ T2 k) := Lib.hid (fun k hk ht => not_gr HS2.out (fun j hj => by have := HW34.out.own j hj; have := HB35.out.size; omega) k ht hk)
                      have HBU : Hid (ButS (fun k => S k ∨ T k) wL w36) := Lib.hid (by
                        refine ((((HL6.out.trans (ButS.of HBS.out)).wide HBX.out (fun k hk => ?_)).trans (ButS.of HB34.out)).trans (ButS.of HB35.out)).wide G3.out (fun k hk => ?_)
                        · rcases HL5.out k hk with e | e
                          · exact Or.inl (Or.inr e)
                          · exact Or.inr e
                        · rcases hk with hk | hk
                          · rcases HL4.out k hk with e | e
                            · exact Or.inl (Or.inl e)
                            · exact Or.inr e
                          · subst hk; exact Or.inl (Or.inr H.out.xx))
                      by_cases he : er = 0
                      · subst he
                        obtain ⟨fv2, sv2, hr2⟩ := G2.out.look
                        obtain ⟨a2, c2, rfl⟩ := ownShape hr2.zr
                        have hzn : V1.sizes.length = nf := by rw [← HQQ.out.1]; exact HNF.out
                        have c8 := hr2.c8
                        dsimp only at c8
                        rw [hzn] at c8
                        obtain ⟨sz, hsz⟩ : ∃ z, lastN V1.sizes = z := ⟨_, rfl⟩
                        have hszb : sz ≤ 4000000 := by
                          have h1 := HQQ.out.2.2.2.1 (lastN V1.sizes) (by unfold lastN; rw [List.getD_eq_getElem?_getD, List.getElem?_eq_getElem (by omega)]; exact List.getElem_mem _)
                          rw [hsz] at h1; have := HLT.out; omega
                        obtain ⟨gs, rfl, hgs⟩ := (row_at hr2.zr (by simp [natsV])).resolve_left (by dsimp only; omega)
                        obtain ⟨cgs, fgs⟩ := hgs nj (.int .i64 (sz : Int)) (by unfold natsV; dsimp only; rw [List.getElem?_map, List.getElem?_eq_getElem (by omega)]; show _ = some (Value.int .i64 (sz : Int)); rw [← hsz]; unfold lastN; simp only [hzn, HNJ.out, List.getD_eq_getElem?_getD]; rw [List.getElem?_eq_getElem (by omega)]; rfl)
                        have HGSL : Hid (gs < w36.heap.size) := Lib.hid (cell_lt cgs)
                        have HGST : Hid (T2 gs ∧ gs ≠ x) := Lib.hid (hr2.ts gs rfl)
                        have HR2 := Lib.hid hr2
                        have s1 := HBS.out.size; have s2 := HBX.out.size; have s3 := HB34.out.size; have s4 := HB35.out.size; have h23 := H23.out; have h22 := H22.out
                        have nX : ∀ b, ¬ S' b → b ≠ x → ¬ (S' b ∨ b = x) := fun b h1 h2 h3 => h3.elim h1 h2
                        have xl := HL2.out.lt
                        have hz23 := (HZ23.out.step HB35.out).but G3.out (nX b23 (fun hs => by have := HSL.out _ hs; omega) (by omega))
                        have hz22 := (HZ2234.out.step HB35.out).but G3.out (nX b22 (fun hs => by have := HSL.out _ hs; omega) (by omega))
                        have hz3 := (HZ334.out.step HB35.out).but G3.out (nX b3 HS3.out (fun e => by have := HXB.out; have := HBE.out; omega))
                        have z23 := hz23.c 0; have z22 := hz22.c 0; have z3 := hz3.c 0
                        simp at z23 z22 z3
                        have hgl : ∀ b C T0, Cz w36 b T0 C → T0 ≠ 3 → gs ≠ b := fun b C T0 hz hT e => by
                          have h1 := (own_k HR2.out.zr gs rfl).2; rw [e, hz.k] at h1; exact hT (by injection h1)
                        have HG3 : Hid (gs ≠ b3) := Lib.hid (hgl b3 _ _ hz3 (by decide))
                        have c6 := G2.out.c6
                        dsimp only at c6
                        obtain ⟨nv, hnv⟩ : ∃ z, V1.next = z := ⟨_, rfl⟩
                        have hnvb : nv ≤ 2000000 := by rw [← hnv]; have := HQQ.out.2.2.2.2; have := HLT.out; omega
                        have HNV := Lib.hid hnv
                        rw [hnv] at c6
                        have HSZ := Lib.hid hsz; have HZ33 := Lib.hid hz3; have HZN := Lib.hid hzn
                        clear hr2 hgs hz23 hz22 hz3 hgl nX hzn s1 s2 s3 s4 h23 h22 xl hnv
                        obtain ⟨szn, hszn⟩ : ∃ z, sz + pl = z := ⟨_, rfl⟩
                        have HSZN := Lib.hid hszn
                        have hszw : (sz : Int) + (pl : Int) = (szn : Int) := by omega
                        have hsznb : szn ≤ 4200000 := by omega
                        clear hszn
                        go_upto_region 38 with fail
                        go_region
                        go_upto_region 39 with fail
                        have hbg : ButS (fun k => k = gs) w36 (w36.setCell ⟨gs, nj, none⟩ (.int .i64 (szn : Int))).drew := (ButS.set (S := fun k => k = gs) w36 (p := ⟨gs, nj, none⟩) rfl _).trans ⟨rfl, rfl, rfl, Nat.le_refl _, fun _ _ _ => rfl⟩
                        have hw38 : WalAt (w36.setCell ⟨gs, nj, none⟩ (.int .i64 (szn : Int))).drew T2 x d { V1 with down := 0, sizes := V1.sizes.set nj szn } := (G2.out.setSize HR2.out nj szn).step ⟨rfl, rfl, rfl, Nat.le_refl _, fun _ _ => rfl⟩
                        refine wp_abs (F := fun W' => Hid (WalAt W' T2 x d { V1 with down := 0, sizes := V1.sizes.set nj szn }) ∧ Hid (ButS (fun k => k = gs) w36 W')) ⟨Lib.hid hw38, Lib.hid hbg⟩ ?_
                        rintro w38 ⟨HW38, HB38⟩
                        have z3 := (HZ33.out.but HB38.out (fun e => HG3.out e.symm)).c 0
                        simp at z3
                        have c6 := HW38.out.c6
                        dsimp only at c6
                        rw [HNV.out] at c6
                        have f6 := HW38.out.fz 6
                        obtain ⟨nw, hnw⟩ : ∃ z, nv + 1 = z := ⟨_, rfl⟩
                        have HNW := Lib.hid hnw
                        have hnvw : (nv : Int) + 1 = (nw : Int) := by omega
                        have hnwb : nw ≤ 2000001 := by omega
                        clear hnw
                        have hnvw2 : IntKind.u64.wrap (nw : Int) = (nw : Int) := by rw [IntKind.wrap_u64]; omega
                        have HWN := Lib.hid (HW38.out.setNext nw)
                        have HBN2 : Hid (ButS (fun k => k = x) w38 (w38.setCell ⟨x, 6, none⟩ (.int .u64 (nw : Int)))) := Lib.hid (ButS.set (S := fun k => k = x) w38 (p := ⟨x, 6, none⟩) rfl _)
                        obtain ⟨w39, hw39⟩ : ∃ z, w38.setCell ⟨x, 6, none⟩ (.int .u64 (nw : Int)) = z := ⟨_, rfl⟩
                        rw [hw39] at HWN HBN2
                        clear hw38 hbg hszw z22 z23 c8 cgs fgs
                        go_wp2_with fail
                        go_roundw
                        case rel =>
                          refine ⟨q + 1, D2, V1.wrote pl, HLT.out, by go_num, Lib.hid (by first | exact HWRS2.out.trans (if_pos rfl) | exact HWRS2.out.trans (if_pos trivial)), Lib.hid ?_, Lib.hid ?_⟩
                          · refine ⟨_, T2, (G1.out.but HB38.out (fun k hk e => by subst e; exact HDJ.out k hk HGST.out.1)).but HBN2.out (fun k hk e => by subst e; exact HDJ.out k hk G2.out.xx), ?_, HDJ.out, HSG.out, HTG.out, (HBU.out.wide HB38.out (fun k e => by subst e; exact (HTG.out k HGST.out.1).imp Or.inr id)).wide HBN2.out (fun k e => by subst e; exact Or.inl (Or.inr H.out.xx))⟩
                            have h1 := HWN.out
                            have e1 : V1.wrote pl = { ({ V1 with down := 0, sizes := V1.sizes.set nj szn } : Wa) with next := nw } := by
                              unfold Wa.wrote addLast
                              rw [HZN.out, HNJ.out, HNV.out, HNW.out, ← HSZN.out, show V1.sizes.getD nj 0 = sz from by rw [← HSZ.out]; unfold lastN; rw [HZN.out, HNJ.out]]
                            rw [e1]
                            exact h1
                          · refine ⟨HOK.out.1.wrote D' false (by first | exact HV1.out.symm | simpa using HV1.out.symm) hplen, HK2.out.1, by rw [HK2.out.2.1]; exact HOK.out.2.2.1, by have := HK2.out.2.2; have := HOK.out.2.2.2.1; dsimp only at *; omega, ?_⟩
                            show V1.reserved = _
                            rw [← HOK.out.2.2.2.2, ← HV1.out]
                            first | rfl | (split <;> rfl) | simp [Wa.fresh]
                        case measure => have := HLT.out; simp [intOf]; omega
                      · have heb : (er != 0) = true := by simpa using he
                        go_wp2_with fail
                        go_ret2
                        rw [HAP2.out, HWRS2.out, if_neg he, if_pos he]
                        exact ⟨rfl, LgAt.from ⟨_, T2, G1.out, G2.out, HDJ.out, HSG.out, HTG.out, HBU.out⟩ HBL.out⟩
                  · obtain rfl : q = k := by omega
                    have HWE : Hid (wrs PP D W = (0, D', V)) := Lib.hid (by rw [HWR.out, List.drop_of_length_le (by rw [HPL.out]; exact Nat.le_refl _)]; rfl)
                    obtain ⟨S', T', l1, l2, l3, l4, l5, l6⟩ := HLG.out
                    have hz3 := (HZL.out.but l6 (fun e => by have := HOWN.out b3 e; have := HBE.out; omega)).c 0
                    simp at hz3
                    have c9 := l2.c9; have f9 := l2.fz 9
                    rw [HOK.out.2.2.2.2, HRS.out] at c9
                    have hsubw : IntKind.i64.wrap (rs - use) = rs - use := by rw [IntKind.wrap_i64]; omega
                    have HWR2 := Lib.hid (l2.setReserved (rs - use))
                    have HBR2 : Hid (ButS (fun k => k = x) wr (wr.setCell ⟨x, 9, none⟩ (.int .i64 (rs - use)))) := Lib.hid (ButS.set (S := fun k => k = x) wr (p := ⟨x, 9, none⟩) rfl _)
                    have HL1 := Lib.hid l1; have HL3 := Lib.hid l3; have HL4 := Lib.hid l4; have HL5 := Lib.hid l5; have HL6 := Lib.hid l6; have HXX := Lib.hid l2.xx
                    obtain ⟨w41, hw41⟩ : ∃ z, wr.setCell ⟨x, 9, none⟩ (.int .i64 (rs - use)) = z := ⟨_, rfl⟩
                    rw [hw41] at HWR2 HBR2
                    clear l1 l2 l3 l4 l5 l6
                    go_wp2_with fail
                    go_ret2
                    rw [HAP2.out, HWE.out, if_neg (fun h => h rfl)]
                    refine ⟨rfl, LgAt.from ⟨S', T', HL1.out.but HBR2.out (fun k hk e => by subst e; exact HL3.out k hk HXX.out), ?_, HL3.out, HL4.out, HL5.out, HL6.out.wide HBR2.out (fun k e => by subst e; exact Or.inl (Or.inr H.out.xx))⟩ HBL.out⟩
                    dsimp only
                    rw [HOK.out.2.2.2.2, HRS.out]
                    exact HWR2.out
  · rw [if_pos hz] at HM
    have HAPN : Hid (apR D W use l = ((0, 121), D, W)) := Lib.hid (by unfold apR; rw [if_pos (by rw [HDN.out]; exact hz)])
    clear hz hu
    go_wp2_with fail
    refine (HM.out W0 HB0.out).mono ?_
    rintro e w1 ⟨rfl, hw1⟩
    subst w1
    go_wp2_with fail
    go_ret2
    rw [HAPN.out]
    exact ⟨rfl, (LgAt.of HD.out H.out HST.out).step HB0.out⟩
end Go.Proofs.Ytniflkggcceagaa
