/- slices.symMergeCmpFunc over places: two runs that rise become one, at all. -/
import Derived.Test.YtfbgnpfhjbiikaaGreatDoorQp04
namespace Go.Proofs.YtfbgnpfhjbiikaaGreatDoor
open Go Go.RowKit
section
variable {K : Nat → Int} {a m b md s en : Nat} {d d1 : Array Nat}
theorem Runs.congr {d2 : Array Nat} (h : Runs K a m b d) (e : ∀ k, a ≤ k → k < b → d2[k]! = d[k]!) (hm : a ≤ m ∧ m ≤ b := by omega) : Runs K a m b d2 :=
  ⟨fun i j hi hij hj => by rw [e j (by omega) (by omega), e i hi (by omega)]; exact h.l i j hi hij hj, fun i j hi hij hj => by rw [e j (by omega) hj, e i (by omega) (by omega)]; exact h.r i j hi hij hj, fun q p hq hq2 hp hp2 => by rw [e p hp (by omega), e q (by omega) hq2]; exact h.x q p hq hq2 hp hp2⟩
theorem rot_at1 (hd : ∀ k, d1[k]! = rotF s m en (fun k => d[k]!) k) (_h5 : md + m = s + en) (_h3 : m ≤ en) {k : Nat} (h : k < s) : d1[k]! = d[k]! := by
  rw [hd k]; unfold rotF; rw [if_neg (by omega), if_neg (by omega)]
theorem rot_at2 (hd : ∀ k, d1[k]! = rotF s m en (fun k => d[k]!) k) (h5 : md + m = s + en) (h3 : m ≤ en) {k : Nat} (h : s ≤ k) (h' : k < md) : d1[k]! = d[k + (m - s)]! := by
  rw [hd k]; unfold rotF; rw [if_pos (by omega)]
theorem rot_at3 (hd : ∀ k, d1[k]! = rotF s m en (fun k => d[k]!) k) (h5 : md + m = s + en) (_h2 : s ≤ m) (h3 : m ≤ en) {k : Nat} (h : md ≤ k) (h' : k < en) : d1[k]! = d[k - (en - m)]! := by
  rw [hd k]; unfold rotF; rw [if_neg (by omega), if_pos (by omega)]
theorem rot_at4 (hd : ∀ k, d1[k]! = rotF s m en (fun k => d[k]!) k) (h2 : s ≤ m) (h3 : m ≤ en) {k : Nat} (h : en ≤ k) : d1[k]! = d[k]! := by
  rw [hd k]; unfold rotF; rw [if_neg (by omega), if_neg (by omega)]
theorem mid_left (hr : Runs K a m b d) (hd : ∀ k, d1[k]! = rotF s m en (fun k => d[k]!) k) (h5 : md + m = s + en) (h2 : s ≤ m) (h3 : m ≤ en) (h4 : en ≤ b) : Runs K a s md d1 := by
  refine ⟨fun i j hi hij hj => ?_, fun i j hi hij hj => ?_, fun q p hq hq2 hp hp2 => ?_⟩
  · rw [rot_at1 hd h5 h3 hj, rot_at1 hd h5 h3 (show i < s by omega)]; exact hr.l i j hi hij (by omega)
  · rw [rot_at2 hd h5 h3 (show s ≤ j by omega) hj, rot_at2 hd h5 h3 hi (by omega)]; exact hr.r _ _ (by omega) (by omega) (by omega)
  · rw [rot_at1 hd h5 h3 hp2, rot_at2 hd h5 h3 hq hq2]; exact hr.x _ _ (by omega) (by omega) hp (by omega)
theorem mid_right (hr : Runs K a m b d) (hd : ∀ k, d1[k]! = rotF s m en (fun k => d[k]!) k) (h5 : md + m = s + en) (h1 : a ≤ s) (h2 : s ≤ m) (h3 : m ≤ en) : Runs K md en b d1 := by
  refine ⟨fun i j hi hij hj => ?_, fun i j hi hij hj => ?_, fun q p hq hq2 hp hp2 => ?_⟩
  · rw [rot_at3 hd h5 h2 h3 (show md ≤ j by omega) hj, rot_at3 hd h5 h2 h3 hi (by omega)]; exact hr.l _ _ (by omega) (by omega) (by omega)
  · rw [rot_at4 hd h2 h3 (show en ≤ j by omega), rot_at4 hd h2 h3 hi]; exact hr.r _ _ (by omega) hij hj
  · rw [rot_at3 hd h5 h2 h3 hp hp2, rot_at4 hd h2 h3 hq]; exact hr.x _ _ (by omega) hq2 (by omega) (by omega)
theorem mid_cross (hr : Runs K a m b d) (hd : ∀ k, d1[k]! = rotF s m en (fun k => d[k]!) k) (h5 : md + m = s + en) (h1 : a ≤ s) (h2 : s ≤ m) (h3 : m ≤ en) (_h4 : en ≤ b)
    (hP : ∀ i j, a ≤ i → i < s → en ≤ j → j < b → ltS K d[j]! d[i]! = false) (hQ : ∀ i j, m ≤ i → i < en → s ≤ j → j < m → ltS K d[j]! d[i]! = false) :
    ∀ i j, a ≤ i → i < md → md ≤ j → j < b → ltS K d1[j]! d1[i]! = false := by
  intro i j hi hi2 hj hj2
  by_cases c1 : i < s
  · rw [rot_at1 hd h5 h3 c1]
    by_cases c2 : j < en
    · rw [rot_at3 hd h5 h2 h3 hj c2]; exact hr.l _ _ hi (by omega) (by omega)
    · rw [rot_at4 hd h2 h3 (show en ≤ j by omega)]; exact hP i j hi c1 (by omega) hj2
  · rw [rot_at2 hd h5 h3 (show s ≤ i by omega) hi2]
    by_cases c2 : j < en
    · rw [rot_at3 hd h5 h2 h3 hj c2]; exact hQ _ _ (by omega) (by omega) (by omega) (by omega)
    · rw [rot_at4 hd h2 h3 (show en ≤ j by omega)]; exact hr.r _ _ (by omega) (by omega) hj2
theorem halves {d2 d3 : Array Nat} (hb : b ≤ d1.size) (hmd : md ≤ b) (hc : ∀ i j, a ≤ i → i < md → md ≤ j → j < b → ltS K d1[j]! d1[i]! = false) (p2 : Sort.PermIn a md d1 d2) (s2 : Sort.SortedIn (ltS K) a md d2) (p3 : Sort.PermIn md b d2 d3) (s3 : Sort.SortedIn (ltS K) md b d3) : Sort.SortedIn (ltS K) a b d3 := by
  have e3 : ∀ i, i < md → d3[i]! = d2[i]! := fun i hi => p3.2.1 i (Or.inl hi)
  have e2 : ∀ i, md ≤ i → d2[i]! = d1[i]! := fun i hi => p2.2.1 i (Or.inr hi)
  intro i j hi hij hj
  by_cases c1 : j < md
  · rw [e3 j c1, e3 i (by omega)]; exact s2 i j hi hij c1
  · by_cases c2 : i < md
    · rw [e3 i c2]
      have hx : ∀ t, a ≤ t → t < md → ∀ u, md ≤ u → u < b → ltS K d1[u]! d2[t]! = false := fun t ht1 ht2 u hu1 hu2 =>
        Sort.permIn_all d1 d2 a md (fun y => ltS K d1[u]! y = false) (by omega) p2 (fun q hq1 hq2 => hc q u hq1 hq2 hu1 hu2) t ht1 ht2
      exact Sort.permIn_all d2 d3 md b (fun y => ltS K y d2[i]! = false) (by rw [p2.1]; exact hb) p3 (fun q hq1 hq2 => by rw [e2 q hq1]; exact hx i hi c2 q hq1 hq2) j (by omega) hj
    · exact s3 i j (by omega) hij hj
end
section
variable {enc : Nat → Value} {w0 : World} {blk cap : Nat} {d0 : Array Nat}
set_option maxRecDepth 1000000 in
set_option maxHeartbeats 16000000 in
theorem sym_s {cf : Nat → Nat → Int} {K : Nat → Int} {cb : Array Value} (hcf : ∀ x y, ltOf cf x y = ltC K x y) (hcmp : CmpLays1 Tryz.prog 70 cb enc cf blk 0 d0.size w0) (R : Row1 enc w0 blk 0 d0) (hsz : d0.size < 1000000) :
    ∀ (N : Nat) (d : Array Nat) (w : World) (a m b : Nat), b - a ≤ N → d.size = d0.size → SW enc w0 blk 0 d w → a < m → m < b → b ≤ d0.size → Runs K a m b d →
    Calls Tryz.prog 121 #[.slice (some ⟨blk, 0, none⟩) d0.size cap, .int .i64 a, .int .i64 m, .int .i64 b, .func (.func 70) #[] cb] w (SymG K enc w0 blk d a b) := by
  intro N
  induction N with
  | zero => intro d w a m b h1 _ _ h2 h3; omega
  | succ N ih =>
    intro d w a m b hN hs S ham hmb hb hr
    by_cases hc1 : m = a + 1
    · exact sym_one hcf hcmp R d w a m b hs S hc1 hmb hb hsz hr
    by_cases hc2 : b = m + 1
    · exact sym_last hcf hcmp R d w a m b hs S hc2 (by omega) hb hsz hr
    have IH := Lib.hid ih
    have hcl0 := R.hO.cells
    simp only [Value.cells] at hcl0
    have hst := R.hO.store Tryz.prog
    have mixed : Tryz.prog.follows Departure.mixedOrders = true := by kernel_rfl
    have HC := Lib.hid hcmp
    have eg := enters_cmp
    have S0 := Lib.hid S
    have HR := Lib.hid hr
    have hm1 : ((m : Int) - (a : Int) == 1) = false := by simp; omega
    have hm2 : ¬ (m : Int) - (a : Int) = 1 := by omega
    have hm3 : ((b : Int) - (m : Int) == 1) = false := by simp; omega
    have hm4 : ¬ (b : Int) - (m : Int) = 1 := by omega
    obtain ⟨md, hmd⟩ : ∃ md, (a + b) / 2 = md := ⟨_, rfl⟩
    have hmdI : ((a : Int) + (b : Int)) / 2 = (md : Int) := by omega
    obtain ⟨p, hp⟩ : ∃ p, md + m - 1 = p := ⟨_, rfl⟩
    have hpI : (md : Int) + (m : Int) - 1 = (p : Int) := by omega
    have hmd1 : 2 * md ≤ a + b := by omega
    have hmd2 : a + b ≤ 2 * md + 1 := by omega
    have hpE : p + 1 = md + m := by omega
    clear S hcmp hr ih hc1 hc2 hmd hp
    by_cases hA : md < m
    · have hAI : (md : Int) < (m : Int) := by omega
      obtain ⟨s0, hs0⟩ : ∃ s0, md + m - b = s0 := ⟨_, rfl⟩
      have hs0I : (md : Int) + (m : Int) - (b : Int) = (s0 : Int) := by omega
      have hs0E : s0 + b = md + m := by omega
      clear hs0
      go_enter Tryz.func121, Tryz.ntmps121
      go_wp2_with fail
      go_loopw [20, 21, 23] (fun v u _ wr => ∃ (s r : Nat), v = .int .i64 s ∧ u = .int .i64 r ∧ s0 ≤ s ∧ s ≤ r ∧ r ≤ md ∧ Hid (SW enc w0 blk 0 d wr) ∧ Hid (∀ c, s0 ≤ c → c < s → ltS K d[p - c]! d[c]! = false) ∧ Hid (∀ c, r ≤ c → c < md → ltS K d[p - c]! d[c]! = true)) (fun v u _ _ => (intOf u).toNat - (intOf v).toNat)
      case atStart => exact ⟨s0, md, by first | rfl | go_num, rfl, Nat.le_refl _, by omega, Nat.le_refl _, S0, Lib.hid (fun h h1 h2 => by omega), Lib.hid (fun h h1 h2 => by omega)⟩
      case round =>
        clear S0
        obtain ⟨s, r, rfl, rfl, hs0, hsr, hr0, SJ, HI, HJ⟩ := hrel
        by_cases hlt : s < r
        · have hltI : (s : Int) < (r : Int) := by omega
          obtain ⟨c, hh⟩ : ∃ h, (s + r) / 2 = h := ⟨_, rfl⟩
          have hhI : ((s : Int) + (r : Int)) / 2 = (c : Int) := by omega
          have h1 : s ≤ c := by omega
          have h2 : c < r := by omega
          clear hh
          obtain ⟨pc, hpc⟩ : ∃ q, p - c = q := ⟨_, rfl⟩
          have hpcI : (p : Int) - (c : Int) = (pc : Int) := by omega
          cases hq : ltS K d[p - c]! d[c]! with
          | true =>
            have hqp : ltS K d[pc]! d[c]! = true := by rw [← hpc]; exact hq
            have HQ : Hid (∀ t, c ≤ t → t < md → ltS K d[p - t]! d[t]! = true) := Lib.hid (fun t ht1 ht2 => by
              by_cases e : t = c
              · rw [e]; exact hq
              · exact ltS_tl (ltS_lt (HR.out.r (p - t) (p - c) (by omega) (by omega) (by omega)) hq) (HR.out.l c t (by omega) (by omega) (by omega)))
            obtain ⟨iN1x, hiN1x⟩ : ∃ q, q = pc := ⟨_, rfl⟩
            obtain ⟨jN1x, hjN1x⟩ : ∃ q, q = c := ⟨_, rfl⟩
            have ea1x : ((pc : Int)).toNat = iN1x := by omega
            have pa1x : (0 : Int) ≤ (pc : Int) := by omega
            have ba1x : (pc : Int) < (d0.size : Int) := by omega
            have ra1x : IntKind.i64.wrap ((pc : Int)) = (pc : Int) := by rw [IntKind.wrap_i64]; omega
            have ec1x : ((c : Int)).toNat = jN1x := by omega
            have pc1x : (0 : Int) ≤ (c : Int) := by omega
            have bc1x : (c : Int) < (d0.size : Int) := by omega
            have rc1x : IntKind.i64.wrap ((c : Int)) = (c : Int) := by rw [IntKind.wrap_i64]; omega
            have hlt1x : ltS K d[pc]! d[c]! = true := hqp
            have hlu1x : ltOf cf d[pc]! d[c]! = true := by rw [hcf, ltS_of (HR.out.x (pc) (c) (by omega) (by omega) (by omega) (by omega))]; exact hlt1x
            obtain ⟨x1x, hx1x⟩ : ∃ x, x = d[pc]! := ⟨_, rfl⟩
            obtain ⟨y1x, hy1x⟩ : ∃ x, x = d[c]! := ⟨_, rfl⟩
            have l1xa := SJ.out.cl R (by omega) (pc) (by omega)
            have l1xb := SJ.out.cl R (by omega) (c) (by omega)
            rw [← hx1x, ← hiN1x] at l1xa
            rw [← hy1x, ← hjN1x] at l1xb
            rw [Nat.zero_add] at l1xa l1xb
            have hc1x := SJ.out.cmp HC.out (by omega) x1x y1x
            have hv1x : cf x1x y1x < 0 := by rw [hx1x, hy1x]; exact of_decide_eq_true hlu1x
            have hd1x : decide (cf x1x y1x < 0) = true := decide_eq_true hv1x
            clear hx1x hy1x hiN1x hjN1x hlt1x hlu1x
            go_wp2_with fail
            go_quiet_grown (first | (go_at_fn 70; refine Calls.grown_of (hc1x _ _)))
            have SC1x : Hid (SW enc w0 blk 0 d (Sort.grow (wr.drewN nq) osq)) := Lib.hid (SJ.out.grown nq osq)
            clear l1xa l1xb hc1x
            generalize Sort.grow (wr.drewN nq) osq = wc1x at SC1x ⊢
            clear nq osq
            clear ea1x ec1x
            go_wp2_with fail
            go_roundw
            case rel => exact ⟨s, c, rfl, by go_num, hs0, h1, by omega, SC1x, HI, HQ⟩
            case measure => simp [intOf]; omega
          | false =>
            have hqp : ltS K d[pc]! d[c]! = false := by rw [← hpc]; exact hq
            have HQ : Hid (∀ t, s0 ≤ t → t < c + 1 → ltS K d[p - t]! d[t]! = false) := Lib.hid (fun t ht1 ht2 => by
              by_cases e : t = c
              · rw [e]; exact hq
              · exact ltS_tr (ltS_tr (HR.out.l t c (by omega) (by omega) (by omega)) hq) (HR.out.r (p - c) (p - t) (by omega) (by omega) (by omega)))
            obtain ⟨iN2x, hiN2x⟩ : ∃ q, q = pc := ⟨_, rfl⟩
            obtain ⟨jN2x, hjN2x⟩ : ∃ q, q = c := ⟨_, rfl⟩
            have ea2x : ((pc : Int)).toNat = iN2x := by omega
            have pa2x : (0 : Int) ≤ (pc : Int) := by omega
            have ba2x : (pc : Int) < (d0.size : Int) := by omega
            have ra2x : IntKind.i64.wrap ((pc : Int)) = (pc : Int) := by rw [IntKind.wrap_i64]; omega
            have ec2x : ((c : Int)).toNat = jN2x := by omega
            have pc2x : (0 : Int) ≤ (c : Int) := by omega
            have bc2x : (c : Int) < (d0.size : Int) := by omega
            have rc2x : IntKind.i64.wrap ((c : Int)) = (c : Int) := by rw [IntKind.wrap_i64]; omega
            have hlt2x : ltS K d[pc]! d[c]! = false := hqp
            have hlu2x : ltOf cf d[pc]! d[c]! = false := by rw [hcf, ltS_of (HR.out.x (pc) (c) (by omega) (by omega) (by omega) (by omega))]; exact hlt2x
            obtain ⟨x2x, hx2x⟩ : ∃ x, x = d[pc]! := ⟨_, rfl⟩
            obtain ⟨y2x, hy2x⟩ : ∃ x, x = d[c]! := ⟨_, rfl⟩
            have l2xa := SJ.out.cl R (by omega) (pc) (by omega)
            have l2xb := SJ.out.cl R (by omega) (c) (by omega)
            rw [← hx2x, ← hiN2x] at l2xa
            rw [← hy2x, ← hjN2x] at l2xb
            rw [Nat.zero_add] at l2xa l2xb
            have hc2x := SJ.out.cmp HC.out (by omega) x2x y2x
            have hv2x : ¬ cf x2x y2x < 0 := by rw [hx2x, hy2x]; exact of_decide_eq_false hlu2x
            have hd2x : decide (cf x2x y2x < 0) = false := decide_eq_false hv2x
            clear hx2x hy2x hiN2x hjN2x hlt2x hlu2x
            go_wp2_with fail
            go_quiet_grown (first | (go_at_fn 70; refine Calls.grown_of (hc2x _ _)))
            have SC2x : Hid (SW enc w0 blk 0 d (Sort.grow (wr.drewN nq) osq)) := Lib.hid (SJ.out.grown nq osq)
            clear l2xa l2xb hc2x
            generalize Sort.grow (wr.drewN nq) osq = wc2x at SC2x ⊢
            clear nq osq
            clear ea2x ec2x
            go_wp2_with fail
            go_roundw
            case rel => exact ⟨c + 1, r, by go_num, rfl, by omega, by omega, hr0, SC2x, HQ, HJ⟩
            case measure => simp [intOf]; omega
        · have hltI : ¬ (s : Int) < (r : Int) := by omega
          obtain rfl : s = r := by omega
          obtain ⟨en, hen⟩ : ∃ en, md + m - s = en := ⟨_, rfl⟩
          have henI : (md : Int) + (m : Int) - (s : Int) = (en : Int) := by omega
          have k1 : a ≤ s := by omega
          have k2 : s ≤ m := by omega
          have k3 : m ≤ en := by omega
          have k4 : en ≤ b := by omega
          have k5 : md + m = s + en := by omega
          have k6 : s ≤ md := by omega
          have k7 : md ≤ en := by omega
          have HPQ : Hid ((∀ i j, a ≤ i → i < s → en ≤ j → j < b → ltS K d[j]! d[i]! = false) ∧ ∀ i j, m ≤ i → i < en → s ≤ j → j < m → ltS K d[j]! d[i]! = false) := Lib.hid (by
            constructor
            · intro i j hi1 hi2 hj1 hj2
              have hx := HI.out (s - 1) (by omega) (by omega)
              rw [show p - (s - 1) = en by omega] at hx
              have e1 : ltS K d[s - 1]! d[i]! = false := by
                by_cases e : i = s - 1
                · rw [e]; exact ltS_self _
                · exact HR.out.l i (s - 1) hi1 (by omega) (by omega)
              have e2 : ltS K d[j]! d[en]! = false := by
                by_cases e : j = en
                · rw [e]; exact ltS_self _
                · exact HR.out.r en j (by omega) (by omega) hj2
              exact ltS_tr (ltS_tr e1 hx) e2
            · intro i j hi1 hi2 hj1 hj2
              have hx := HJ.out s (Nat.le_refl _) (by omega)
              rw [show p - s = en - 1 by omega] at hx
              have e1 : ltS K d[en - 1]! d[i]! = false := by
                by_cases e : i = en - 1
                · rw [e]; exact ltS_self _
                · exact HR.out.r i (en - 1) hi1 (by omega) (by omega)
              have e2 : ltS K d[j]! d[s]! = false := by
                by_cases e : j = s
                · rw [e]; exact ltS_self _
                · exact HR.out.l s j (by omega) (by omega) hj2
              exact ltS_as (ltS_tl (ltS_lt e1 hx) e2))
          have HAft := Lib.hid (fun (d1 : Array Nat) (w1 : World) (h1 : SW enc w0 blk 0 d1 w1) (h2 : Sort.PermIn a b d d1) (h3 : ∀ k, d1[k]! = rotF s m en (fun k => d[k]!) k) => (⟨mid_left HR.out h3 k5 k2 k3 k4, mid_right HR.out h3 k5 k1 k2 k3, mid_cross HR.out h3 k5 k1 k2 k3 k4 HPQ.out.1 HPQ.out.2⟩ : Runs K a s md d1 ∧ Runs K md en b d1 ∧ ∀ i j, a ≤ i → i < md → md ≤ j → j < b → ltS K d1[j]! d1[i]! = false))
          have HRot := Lib.hid (fun (h1 : s < m) (h2 : m < en) => rot_s (cap := cap) R (.func (.func 70) #[] cb) d wr s m en hs SJ.out h1 h2 (by omega) (by omega))
          have HEN := Lib.hid hen
          clear HI HJ hen HPQ
          by_cases c1 : s < m ∧ m < en
          · have c1a : (s : Int) < (m : Int) := by omega
            have c1b : (m : Int) < (en : Int) := by omega
            have HRo := Lib.hid (HRot.out c1.1 c1.2)
            clear c1
            go_wp2_with fail
            refine HRo.out.mono ?_
            rintro e w3 ⟨rfl, d1, h1, h2, h3⟩
            have HS1 := Lib.hid h1
            have HP1 : Hid (Sort.PermIn a b d d1) := Lib.hid (Sort.permIn_mono _ _ _ _ _ _ k1 k4 (by rw [hs]; exact hb) h2)
            have HF1 := Lib.hid h3
            clear h1 h2 h3
            obtain ⟨hL, hRR, hX⟩ := HAft.out d1 w3 HS1.out HP1.out HF1.out
            have HL := Lib.hid hL; have HR1 := Lib.hid hRR; have HX := Lib.hid hX
            clear hL hRR hX
            by_cases c2 : a < s ∧ s < md
            · have c2a : (a : Int) < (s : Int) := by omega
              have c2b : (s : Int) < (md : Int) := by omega
              have HI2 := Lib.hid (IH.out d1 w3 a s md (by omega) (by rw [HP1.out.1]; exact hs) HS1.out c2.1 c2.2 (by omega) HL.out)
              clear c2
              go_wp2_with fail
              refine HI2.out.mono ?_
              rintro e w4 ⟨rfl, d2, h1, h2, h3⟩
              have HS2 := Lib.hid h1; have HPL := Lib.hid h2; have HSL := Lib.hid h3
              have HP2 : Hid (Sort.PermIn a b d d2) := Lib.hid (Sort.permIn_trans _ _ _ _ _ HP1.out (Sort.permIn_mono _ _ _ _ _ _ (Nat.le_refl _) (by omega) (by rw [HP1.out.1, hs]; exact hb) h2))
              have HRR : Hid (Runs K md en b d2) := Lib.hid (HR1.out.congr (fun k hk _ => h2.2.1 k (Or.inr hk)))
              clear h1 h2 h3
              by_cases c3 : md < en ∧ en < b
              · have c3a : (md : Int) < (en : Int) := by omega
                have c3b : (en : Int) < (b : Int) := by omega
                have HI3 := Lib.hid (IH.out d2 w4 md en b (by omega) (by rw [HP2.out.1]; exact hs) HS2.out c3.1 c3.2 hb HRR.out)
                clear c3
                go_wp2_with fail
                refine HI3.out.mono ?_
                rintro e w5 ⟨rfl, d3, h1, h2, h3⟩
                have HS3 := Lib.hid h1; have HP3 := Lib.hid h2; have HO3 := Lib.hid h3
                clear h1 h2 h3
                go_wp2_with fail
                go_end0
                exact ⟨rfl, d3, HS3.out, Sort.permIn_trans _ _ _ _ _ HP2.out (Sort.permIn_mono _ _ _ _ _ _ (by omega) (Nat.le_refl _) (by rw [HP2.out.1, hs]; exact hb) HP3.out), halves (by rw [HP1.out.1, hs]; exact hb) (by omega) HX.out HPL.out HSL.out HP3.out HO3.out⟩
              · have HO3 : Hid (Sort.SortedIn (ltS K) md b d2) := Lib.hid (by
                  by_cases e : md = en
                  · have := HRR.out.r; rw [← e] at this; exact this
                  · have e2 : en = b := by omega
                    have := HRR.out.l; rw [e2] at this; exact this)
                by_cases c4 : md < en
                · have c3a : (md : Int) < (en : Int) := by omega
                  have c3b : ¬ (en : Int) < (b : Int) := by omega
                  clear c3
                  first
                  | (exfalso; omega)
                  | (go_wp2_with fail
                     go_end0
                     exact ⟨rfl, d2, HS2.out, Sort.permIn_trans _ _ _ _ _ HP2.out (Sort.permIn_mono _ _ _ _ _ _ (by omega) (Nat.le_refl _) (by rw [HP2.out.1, hs]; exact hb) (Sort.permIn_refl _ _ _)), halves (by rw [HP1.out.1, hs]; exact hb) (by omega) HX.out HPL.out HSL.out (Sort.permIn_refl _ _ _) HO3.out⟩)
                · have c3a : ¬ (md : Int) < (en : Int) := by omega
                  clear c3
                  first
                  | (exfalso; omega)
                  | (go_wp2_with fail
                     go_end0
                     exact ⟨rfl, d2, HS2.out, Sort.permIn_trans _ _ _ _ _ HP2.out (Sort.permIn_mono _ _ _ _ _ _ (by omega) (Nat.le_refl _) (by rw [HP2.out.1, hs]; exact hb) (Sort.permIn_refl _ _ _)), halves (by rw [HP1.out.1, hs]; exact hb) (by omega) HX.out HPL.out HSL.out (Sort.permIn_refl _ _ _) HO3.out⟩)
            · have HSL : Hid (Sort.SortedIn (ltS K) a md d1) := Lib.hid (by
                by_cases e : a = s
                · have := HL.out.r; rw [← e] at this; exact this
                · have e2 : s = md := by omega
                  have := HL.out.l; rw [e2] at this; exact this)
              have HPL : Hid (Sort.PermIn a md d1 d1) := Lib.hid (Sort.permIn_refl _ _ _)
              have HP2 := HP1
              have HRR := HR1
              by_cases c5 : a < s
              · have c2a : (a : Int) < (s : Int) := by omega
                have c2b : ¬ (s : Int) < (md : Int) := by omega
                clear c2
                first
                | (exfalso; omega)
                | (by_cases c3 : md < en ∧ en < b
                   · have c3a : (md : Int) < (en : Int) := by omega
                     have c3b : (en : Int) < (b : Int) := by omega
                     have HI3 := Lib.hid (IH.out d1 w3 md en b (by omega) (by rw [HP2.out.1]; exact hs) HS1.out c3.1 c3.2 hb HRR.out)
                     clear c3
                     go_wp2_with fail
                     refine HI3.out.mono ?_
                     rintro e w5 ⟨rfl, d3, h1, h2, h3⟩
                     have HS3 := Lib.hid h1; have HP3 := Lib.hid h2; have HO3 := Lib.hid h3
                     clear h1 h2 h3
                     go_wp2_with fail
                     go_end0
                     exact ⟨rfl, d3, HS3.out, Sort.permIn_trans _ _ _ _ _ HP2.out (Sort.permIn_mono _ _ _ _ _ _ (by omega) (Nat.le_refl _) (by rw [HP2.out.1, hs]; exact hb) HP3.out), halves (by rw [HP1.out.1, hs]; exact hb) (by omega) HX.out HPL.out HSL.out HP3.out HO3.out⟩
                   · have HO3 : Hid (Sort.SortedIn (ltS K) md b d1) := Lib.hid (by
                       by_cases e : md = en
                       · have := HRR.out.r; rw [← e] at this; exact this
                       · have e2 : en = b := by omega
                         have := HRR.out.l; rw [e2] at this; exact this)
                     by_cases c4 : md < en
                     · have c3a : (md : Int) < (en : Int) := by omega
                       have c3b : ¬ (en : Int) < (b : Int) := by omega
                       clear c3
                       first
                       | (exfalso; omega)
                       | (go_wp2_with fail
                          go_end0
                          exact ⟨rfl, d1, HS1.out, Sort.permIn_trans _ _ _ _ _ HP2.out (Sort.permIn_mono _ _ _ _ _ _ (by omega) (Nat.le_refl _) (by rw [HP2.out.1, hs]; exact hb) (Sort.permIn_refl _ _ _)), halves (by rw [HP1.out.1, hs]; exact hb) (by omega) HX.out HPL.out HSL.out (Sort.permIn_refl _ _ _) HO3.out⟩)
                     · have c3a : ¬ (md : Int) < (en : Int) := by omega
                       clear c3
                       first
                       | (exfalso; omega)
                       | (go_wp2_with fail
                          go_end0
                          exact ⟨rfl, d1, HS1.out, Sort.permIn_trans _ _ _ _ _ HP2.out (Sort.permIn_mono _ _ _ _ _ _ (by omega) (Nat.le_refl _) (by rw [HP2.out.1, hs]; exact hb) (Sort.permIn_refl _ _ _)), halves (by rw [HP1.out.1, hs]; exact hb) (by omega) HX.out HPL.out HSL.out (Sort.permIn_refl _ _ _) HO3.out⟩))
              · have c2a : ¬ (a : Int) < (s : Int) := by omega
                clear c2
                first
                | (exfalso; omega)
                | (by_cases c3 : md < en ∧ en < b
                   · have c3a : (md : Int) < (en : Int) := by omega
                     have c3b : (en : Int) < (b : Int) := by omega
                     have HI3 := Lib.hid (IH.out d1 w3 md en b (by omega) (by rw [HP2.out.1]; exact hs) HS1.out c3.1 c3.2 hb HRR.out)
                     clear c3
                     go_wp2_with fail
                     refine HI3.out.mono ?_
                     rintro e w5 ⟨rfl, d3, h1, h2, h3⟩
                     have HS3 := Lib.hid h1; have HP3 := Lib.hid h2; have HO3 := Lib.hid h3
                     clear h1 h2 h3
                     go_wp2_with fail
                     go_end0
                     exact ⟨rfl, d3, HS3.out, Sort.permIn_trans _ _ _ _ _ HP2.out (Sort.permIn_mono _ _ _ _ _ _ (by omega) (Nat.le_refl _) (by rw [HP2.out.1, hs]; exact hb) HP3.out), halves (by rw [HP1.out.1, hs]; exact hb) (by omega) HX.out HPL.out HSL.out HP3.out HO3.out⟩
                   · have HO3 : Hid (Sort.SortedIn (ltS K) md b d1) := Lib.hid (by
                       by_cases e : md = en
                       · have := HRR.out.r; rw [← e] at this; exact this
                       · have e2 : en = b := by omega
                         have := HRR.out.l; rw [e2] at this; exact this)
                     by_cases c4 : md < en
                     · have c3a : (md : Int) < (en : Int) := by omega
                       have c3b : ¬ (en : Int) < (b : Int) := by omega
                       clear c3
                       first
                       | (exfalso; omega)
                       | (go_wp2_with fail
                          go_end0
                          exact ⟨rfl, d1, HS1.out, Sort.permIn_trans _ _ _ _ _ HP2.out (Sort.permIn_mono _ _ _ _ _ _ (by omega) (Nat.le_refl _) (by rw [HP2.out.1, hs]; exact hb) (Sort.permIn_refl _ _ _)), halves (by rw [HP1.out.1, hs]; exact hb) (by omega) HX.out HPL.out HSL.out (Sort.permIn_refl _ _ _) HO3.out⟩)
                     · have c3a : ¬ (md : Int) < (en : Int) := by omega
                       clear c3
                       first
                       | (exfalso; omega)
                       | (go_wp2_with fail
                          go_end0
                          exact ⟨rfl, d1, HS1.out, Sort.permIn_trans _ _ _ _ _ HP2.out (Sort.permIn_mono _ _ _ _ _ _ (by omega) (Nat.le_refl _) (by rw [HP2.out.1, hs]; exact hb) (Sort.permIn_refl _ _ _)), halves (by rw [HP1.out.1, hs]; exact hb) (by omega) HX.out HPL.out HSL.out (Sort.permIn_refl _ _ _) HO3.out⟩))
          · have HP1 : Hid (Sort.PermIn a b d d) := Lib.hid (Sort.permIn_refl _ _ _)
            have HF1 : Hid (∀ k, d[k]! = rotF s m en (fun k => d[k]!) k) := Lib.hid (fun k => by
              unfold rotF
              dsimp only
              repeat' split
              all_goals first | (exfalso; omega) | rfl | (congr 1; omega))
            by_cases c6 : s < m
            · have c1a : (s : Int) < (m : Int) := by omega
              have c1b : ¬ (m : Int) < (en : Int) := by omega
              clear c1
              obtain ⟨hL, hRR, hX⟩ := HAft.out d wr SJ.out HP1.out HF1.out
              have HL := Lib.hid hL; have HR1 := Lib.hid hRR; have HX := Lib.hid hX
              clear hL hRR hX
              by_cases c2 : a < s ∧ s < md
              · have c2a : (a : Int) < (s : Int) := by omega
                have c2b : (s : Int) < (md : Int) := by omega
                have HI2 := Lib.hid (IH.out d wr a s md (by omega) (by rw [HP1.out.1]; exact hs) SJ.out c2.1 c2.2 (by omega) HL.out)
                clear c2
                go_wp2_with fail
                refine HI2.out.mono ?_
                rintro e w4 ⟨rfl, d2, h1, h2, h3⟩
                have HS2 := Lib.hid h1; have HPL := Lib.hid h2; have HSL := Lib.hid h3
                have HP2 : Hid (Sort.PermIn a b d d2) := Lib.hid (Sort.permIn_trans _ _ _ _ _ HP1.out (Sort.permIn_mono _ _ _ _ _ _ (Nat.le_refl _) (by omega) (by rw [HP1.out.1, hs]; exact hb) h2))
                have HRR : Hid (Runs K md en b d2) := Lib.hid (HR1.out.congr (fun k hk _ => h2.2.1 k (Or.inr hk)))
                clear h1 h2 h3
                by_cases c3 : md < en ∧ en < b
                · have c3a : (md : Int) < (en : Int) := by omega
                  have c3b : (en : Int) < (b : Int) := by omega
                  have HI3 := Lib.hid (IH.out d2 w4 md en b (by omega) (by rw [HP2.out.1]; exact hs) HS2.out c3.1 c3.2 hb HRR.out)
                  clear c3
                  go_wp2_with fail
                  refine HI3.out.mono ?_
                  rintro e w5 ⟨rfl, d3, h1, h2, h3⟩
                  have HS3 := Lib.hid h1; have HP3 := Lib.hid h2; have HO3 := Lib.hid h3
                  clear h1 h2 h3
                  go_wp2_with fail
                  go_end0
                  exact ⟨rfl, d3, HS3.out, Sort.permIn_trans _ _ _ _ _ HP2.out (Sort.permIn_mono _ _ _ _ _ _ (by omega) (Nat.le_refl _) (by rw [HP2.out.1, hs]; exact hb) HP3.out), halves (by rw [HP1.out.1, hs]; exact hb) (by omega) HX.out HPL.out HSL.out HP3.out HO3.out⟩
                · have HO3 : Hid (Sort.SortedIn (ltS K) md b d2) := Lib.hid (by
                    by_cases e : md = en
                    · have := HRR.out.r; rw [← e] at this; exact this
                    · have e2 : en = b := by omega
                      have := HRR.out.l; rw [e2] at this; exact this)
                  by_cases c4 : md < en
                  · have c3a : (md : Int) < (en : Int) := by omega
                    have c3b : ¬ (en : Int) < (b : Int) := by omega
                    clear c3
                    first
                    | (exfalso; omega)
                    | (go_wp2_with fail
                       go_end0
                       exact ⟨rfl, d2, HS2.out, Sort.permIn_trans _ _ _ _ _ HP2.out (Sort.permIn_mono _ _ _ _ _ _ (by omega) (Nat.le_refl _) (by rw [HP2.out.1, hs]; exact hb) (Sort.permIn_refl _ _ _)), halves (by rw [HP1.out.1, hs]; exact hb) (by omega) HX.out HPL.out HSL.out (Sort.permIn_refl _ _ _) HO3.out⟩)
                  · have c3a : ¬ (md : Int) < (en : Int) := by omega
                    clear c3
                    first
                    | (exfalso; omega)
                    | (go_wp2_with fail
                       go_end0
                       exact ⟨rfl, d2, HS2.out, Sort.permIn_trans _ _ _ _ _ HP2.out (Sort.permIn_mono _ _ _ _ _ _ (by omega) (Nat.le_refl _) (by rw [HP2.out.1, hs]; exact hb) (Sort.permIn_refl _ _ _)), halves (by rw [HP1.out.1, hs]; exact hb) (by omega) HX.out HPL.out HSL.out (Sort.permIn_refl _ _ _) HO3.out⟩)
              · have HSL : Hid (Sort.SortedIn (ltS K) a md d) := Lib.hid (by
                  by_cases e : a = s
                  · have := HL.out.r; rw [← e] at this; exact this
                  · have e2 : s = md := by omega
                    have := HL.out.l; rw [e2] at this; exact this)
                have HPL : Hid (Sort.PermIn a md d d) := Lib.hid (Sort.permIn_refl _ _ _)
                have HP2 := HP1
                have HRR := HR1
                by_cases c5 : a < s
                · have c2a : (a : Int) < (s : Int) := by omega
                  have c2b : ¬ (s : Int) < (md : Int) := by omega
                  clear c2
                  first
                  | (exfalso; omega)
                  | (by_cases c3 : md < en ∧ en < b
                     · have c3a : (md : Int) < (en : Int) := by omega
                       have c3b : (en : Int) < (b : Int) := by omega
                       have HI3 := Lib.hid (IH.out d wr md en b (by omega) (by rw [HP2.out.1]; exact hs) SJ.out c3.1 c3.2 hb HRR.out)
                       clear c3
                       go_wp2_with fail
                       refine HI3.out.mono ?_
                       rintro e w5 ⟨rfl, d3, h1, h2, h3⟩
                       have HS3 := Lib.hid h1; have HP3 := Lib.hid h2; have HO3 := Lib.hid h3
                       clear h1 h2 h3
                       go_wp2_with fail
                       go_end0
                       exact ⟨rfl, d3, HS3.out, Sort.permIn_trans _ _ _ _ _ HP2.out (Sort.permIn_mono _ _ _ _ _ _ (by omega) (Nat.le_refl _) (by rw [HP2.out.1, hs]; exact hb) HP3.out), halves (by rw [HP1.out.1, hs]; exact hb) (by omega) HX.out HPL.out HSL.out HP3.out HO3.out⟩
                     · have HO3 : Hid (Sort.SortedIn (ltS K) md b d) := Lib.hid (by
                         by_cases e : md = en
                         · have := HRR.out.r; rw [← e] at this; exact this
                         · have e2 : en = b := by omega
                           have := HRR.out.l; rw [e2] at this; exact this)
                       by_cases c4 : md < en
                       · have c3a : (md : Int) < (en : Int) := by omega
                         have c3b : ¬ (en : Int) < (b : Int) := by omega
                         clear c3
                         first
                         | (exfalso; omega)
                         | (go_wp2_with fail
                            go_end0
                            exact ⟨rfl, d, SJ.out, Sort.permIn_trans _ _ _ _ _ HP2.out (Sort.permIn_mono _ _ _ _ _ _ (by omega) (Nat.le_refl _) (by rw [HP2.out.1, hs]; exact hb) (Sort.permIn_refl _ _ _)), halves (by rw [HP1.out.1, hs]; exact hb) (by omega) HX.out HPL.out HSL.out (Sort.permIn_refl _ _ _) HO3.out⟩)
                       · have c3a : ¬ (md : Int) < (en : Int) := by omega
                         clear c3
                         first
                         | (exfalso; omega)
                         | (go_wp2_with fail
                            go_end0
                            exact ⟨rfl, d, SJ.out, Sort.permIn_trans _ _ _ _ _ HP2.out (Sort.permIn_mono _ _ _ _ _ _ (by omega) (Nat.le_refl _) (by rw [HP2.out.1, hs]; exact hb) (Sort.permIn_refl _ _ _)), halves (by rw [HP1.out.1, hs]; exact hb) (by omega) HX.out HPL.out HSL.out (Sort.permIn_refl _ _ _) HO3.out⟩))
                · have c2a : ¬ (a : Int) < (s : Int) := by omega
                  clear c2
                  first
                  | (exfalso; omega)
                  | (by_cases c3 : md < en ∧ en < b
                     · have c3a : (md : Int) < (en : Int) := by omega
                       have c3b : (en : Int) < (b : Int) := by omega
                       have HI3 := Lib.hid (IH.out d wr md en b (by omega) (by rw [HP2.out.1]; exact hs) SJ.out c3.1 c3.2 hb HRR.out)
                       clear c3
                       go_wp2_with fail
                       refine HI3.out.mono ?_
                       rintro e w5 ⟨rfl, d3, h1, h2, h3⟩
                       have HS3 := Lib.hid h1; have HP3 := Lib.hid h2; have HO3 := Lib.hid h3
                       clear h1 h2 h3
                       go_wp2_with fail
                       go_end0
                       exact ⟨rfl, d3, HS3.out, Sort.permIn_trans _ _ _ _ _ HP2.out (Sort.permIn_mono _ _ _ _ _ _ (by omega) (Nat.le_refl _) (by rw [HP2.out.1, hs]; exact hb) HP3.out), halves (by rw [HP1.out.1, hs]; exact hb) (by omega) HX.out HPL.out HSL.out HP3.out HO3.out⟩
                     · have HO3 : Hid (Sort.SortedIn (ltS K) md b d) := Lib.hid (by
                         by_cases e : md = en
                         · have := HRR.out.r; rw [← e] at this; exact this
                         · have e2 : en = b := by omega
                           have := HRR.out.l; rw [e2] at this; exact this)
                       by_cases c4 : md < en
                       · have c3a : (md : Int) < (en : Int) := by omega
                         have c3b : ¬ (en : Int) < (b : Int) := by omega
                         clear c3
                         first
                         | (exfalso; omega)
                         | (go_wp2_with fail
                            go_end0
                            exact ⟨rfl, d, SJ.out, Sort.permIn_trans _ _ _ _ _ HP2.out (Sort.permIn_mono _ _ _ _ _ _ (by omega) (Nat.le_refl _) (by rw [HP2.out.1, hs]; exact hb) (Sort.permIn_refl _ _ _)), halves (by rw [HP1.out.1, hs]; exact hb) (by omega) HX.out HPL.out HSL.out (Sort.permIn_refl _ _ _) HO3.out⟩)
                       · have c3a : ¬ (md : Int) < (en : Int) := by omega
                         clear c3
                         first
                         | (exfalso; omega)
                         | (go_wp2_with fail
                            go_end0
                            exact ⟨rfl, d, SJ.out, Sort.permIn_trans _ _ _ _ _ HP2.out (Sort.permIn_mono _ _ _ _ _ _ (by omega) (Nat.le_refl _) (by rw [HP2.out.1, hs]; exact hb) (Sort.permIn_refl _ _ _)), halves (by rw [HP1.out.1, hs]; exact hb) (by omega) HX.out HPL.out HSL.out (Sort.permIn_refl _ _ _) HO3.out⟩))
            · have c1a : ¬ (s : Int) < (m : Int) := by omega
              clear c1
              obtain ⟨hL, hRR, hX⟩ := HAft.out d wr SJ.out HP1.out HF1.out
              have HL := Lib.hid hL; have HR1 := Lib.hid hRR; have HX := Lib.hid hX
              clear hL hRR hX
              by_cases c2 : a < s ∧ s < md
              · have c2a : (a : Int) < (s : Int) := by omega
                have c2b : (s : Int) < (md : Int) := by omega
                have HI2 := Lib.hid (IH.out d wr a s md (by omega) (by rw [HP1.out.1]; exact hs) SJ.out c2.1 c2.2 (by omega) HL.out)
                clear c2
                go_wp2_with fail
                refine HI2.out.mono ?_
                rintro e w4 ⟨rfl, d2, h1, h2, h3⟩
                have HS2 := Lib.hid h1; have HPL := Lib.hid h2; have HSL := Lib.hid h3
                have HP2 : Hid (Sort.PermIn a b d d2) := Lib.hid (Sort.permIn_trans _ _ _ _ _ HP1.out (Sort.permIn_mono _ _ _ _ _ _ (Nat.le_refl _) (by omega) (by rw [HP1.out.1, hs]; exact hb) h2))
                have HRR : Hid (Runs K md en b d2) := Lib.hid (HR1.out.congr (fun k hk _ => h2.2.1 k (Or.inr hk)))
                clear h1 h2 h3
                by_cases c3 : md < en ∧ en < b
                · have c3a : (md : Int) < (en : Int) := by omega
                  have c3b : (en : Int) < (b : Int) := by omega
                  have HI3 := Lib.hid (IH.out d2 w4 md en b (by omega) (by rw [HP2.out.1]; exact hs) HS2.out c3.1 c3.2 hb HRR.out)
                  clear c3
                  go_wp2_with fail
                  refine HI3.out.mono ?_
                  rintro e w5 ⟨rfl, d3, h1, h2, h3⟩
                  have HS3 := Lib.hid h1; have HP3 := Lib.hid h2; have HO3 := Lib.hid h3
                  clear h1 h2 h3
                  go_wp2_with fail
                  go_end0
                  exact ⟨rfl, d3, HS3.out, Sort.permIn_trans _ _ _ _ _ HP2.out (Sort.permIn_mono _ _ _ _ _ _ (by omega) (Nat.le_refl _) (by rw [HP2.out.1, hs]; exact hb) HP3.out), halves (by rw [HP1.out.1, hs]; exact hb) (by omega) HX.out HPL.out HSL.out HP3.out HO3.out⟩
                · have HO3 : Hid (Sort.SortedIn (ltS K) md b d2) := Lib.hid (by
                    by_cases e : md = en
                    · have := HRR.out.r; rw [← e] at this; exact this
                    · have e2 : en = b := by omega
                      have := HRR.out.l; rw [e2] at this; exact this)
                  by_cases c4 : md < en
                  · have c3a : (md : Int) < (en : Int) := by omega
                    have c3b : ¬ (en : Int) < (b : Int) := by omega
                    clear c3
                    first
                    | (exfalso; omega)
                    | (go_wp2_with fail
                       go_end0
                       exact ⟨rfl, d2, HS2.out, Sort.permIn_trans _ _ _ _ _ HP2.out (Sort.permIn_mono _ _ _ _ _ _ (by omega) (Nat.le_refl _) (by rw [HP2.out.1, hs]; exact hb) (Sort.permIn_refl _ _ _)), halves (by rw [HP1.out.1, hs]; exact hb) (by omega) HX.out HPL.out HSL.out (Sort.permIn_refl _ _ _) HO3.out⟩)
                  · have c3a : ¬ (md : Int) < (en : Int) := by omega
                    clear c3
                    first
                    | (exfalso; omega)
                    | (go_wp2_with fail
                       go_end0
                       exact ⟨rfl, d2, HS2.out, Sort.permIn_trans _ _ _ _ _ HP2.out (Sort.permIn_mono _ _ _ _ _ _ (by omega) (Nat.le_refl _) (by rw [HP2.out.1, hs]; exact hb) (Sort.permIn_refl _ _ _)), halves (by rw [HP1.out.1, hs]; exact hb) (by omega) HX.out HPL.out HSL.out (Sort.permIn_refl _ _ _) HO3.out⟩)
              · have HSL : Hid (Sort.SortedIn (ltS K) a md d) := Lib.hid (by
                  by_cases e : a = s
                  · have := HL.out.r; rw [← e] at this; exact this
                  · have e2 : s = md := by omega
                    have := HL.out.l; rw [e2] at this; exact this)
                have HPL : Hid (Sort.PermIn a md d d) := Lib.hid (Sort.permIn_refl _ _ _)
                have HP2 := HP1
                have HRR := HR1
                by_cases c5 : a < s
                · have c2a : (a : Int) < (s : Int) := by omega
                  have c2b : ¬ (s : Int) < (md : Int) := by omega
                  clear c2
                  first
                  | (exfalso; omega)
                  | (by_cases c3 : md < en ∧ en < b
                     · have c3a : (md : Int) < (en : Int) := by omega
                       have c3b : (en : Int) < (b : Int) := by omega
                       have HI3 := Lib.hid (IH.out d wr md en b (by omega) (by rw [HP2.out.1]; exact hs) SJ.out c3.1 c3.2 hb HRR.out)
                       clear c3
                       go_wp2_with fail
                       refine HI3.out.mono ?_
                       rintro e w5 ⟨rfl, d3, h1, h2, h3⟩
                       have HS3 := Lib.hid h1; have HP3 := Lib.hid h2; have HO3 := Lib.hid h3
                       clear h1 h2 h3
                       go_wp2_with fail
                       go_end0
                       exact ⟨rfl, d3, HS3.out, Sort.permIn_trans _ _ _ _ _ HP2.out (Sort.permIn_mono _ _ _ _ _ _ (by omega) (Nat.le_refl _) (by rw [HP2.out.1, hs]; exact hb) HP3.out), halves (by rw [HP1.out.1, hs]; exact hb) (by omega) HX.out HPL.out HSL.out HP3.out HO3.out⟩
                     · have HO3 : Hid (Sort.SortedIn (ltS K) md b d) := Lib.hid (by
                         by_cases e : md = en
                         · have := HRR.out.r; rw [← e] at this; exact this
                         · have e2 : en = b := by omega
                           have := HRR.out.l; rw [e2] at this; exact this)
                       by_cases c4 : md < en
                       · have c3a : (md : Int) < (en : Int) := by omega
                         have c3b : ¬ (en : Int) < (b : Int) := by omega
                         clear c3
                         first
                         | (exfalso; omega)
                         | (go_wp2_with fail
                            go_end0
                            exact ⟨rfl, d, SJ.out, Sort.permIn_trans _ _ _ _ _ HP2.out (Sort.permIn_mono _ _ _ _ _ _ (by omega) (Nat.le_refl _) (by rw [HP2.out.1, hs]; exact hb) (Sort.permIn_refl _ _ _)), halves (by rw [HP1.out.1, hs]; exact hb) (by omega) HX.out HPL.out HSL.out (Sort.permIn_refl _ _ _) HO3.out⟩)
                       · have c3a : ¬ (md : Int) < (en : Int) := by omega
                         clear c3
                         first
                         | (exfalso; omega)
                         | (go_wp2_with fail
                            go_end0
                            exact ⟨rfl, d, SJ.out, Sort.permIn_trans _ _ _ _ _ HP2.out (Sort.permIn_mono _ _ _ _ _ _ (by omega) (Nat.le_refl _) (by rw [HP2.out.1, hs]; exact hb) (Sort.permIn_refl _ _ _)), halves (by rw [HP1.out.1, hs]; exact hb) (by omega) HX.out HPL.out HSL.out (Sort.permIn_refl _ _ _) HO3.out⟩))
                · have c2a : ¬ (a : Int) < (s : Int) := by omega
                  clear c2
                  first
                  | (exfalso; omega)
                  | (by_cases c3 : md < en ∧ en < b
                     · have c3a : (md : Int) < (en : Int) := by omega
                       have c3b : (en : Int) < (b : Int) := by omega
                       have HI3 := Lib.hid (IH.out d wr md en b (by omega) (by rw [HP2.out.1]; exact hs) SJ.out c3.1 c3.2 hb HRR.out)
                       clear c3
                       go_wp2_with fail
                       refine HI3.out.mono ?_
                       rintro e w5 ⟨rfl, d3, h1, h2, h3⟩
                       have HS3 := Lib.hid h1; have HP3 := Lib.hid h2; have HO3 := Lib.hid h3
                       clear h1 h2 h3
                       go_wp2_with fail
                       go_end0
                       exact ⟨rfl, d3, HS3.out, Sort.permIn_trans _ _ _ _ _ HP2.out (Sort.permIn_mono _ _ _ _ _ _ (by omega) (Nat.le_refl _) (by rw [HP2.out.1, hs]; exact hb) HP3.out), halves (by rw [HP1.out.1, hs]; exact hb) (by omega) HX.out HPL.out HSL.out HP3.out HO3.out⟩
                     · have HO3 : Hid (Sort.SortedIn (ltS K) md b d) := Lib.hid (by
                         by_cases e : md = en
                         · have := HRR.out.r; rw [← e] at this; exact this
                         · have e2 : en = b := by omega
                           have := HRR.out.l; rw [e2] at this; exact this)
                       by_cases c4 : md < en
                       · have c3a : (md : Int) < (en : Int) := by omega
                         have c3b : ¬ (en : Int) < (b : Int) := by omega
                         clear c3
                         first
                         | (exfalso; omega)
                         | (go_wp2_with fail
                            go_end0
                            exact ⟨rfl, d, SJ.out, Sort.permIn_trans _ _ _ _ _ HP2.out (Sort.permIn_mono _ _ _ _ _ _ (by omega) (Nat.le_refl _) (by rw [HP2.out.1, hs]; exact hb) (Sort.permIn_refl _ _ _)), halves (by rw [HP1.out.1, hs]; exact hb) (by omega) HX.out HPL.out HSL.out (Sort.permIn_refl _ _ _) HO3.out⟩)
                       · have c3a : ¬ (md : Int) < (en : Int) := by omega
                         clear c3
                         first
                         | (exfalso; omega)
                         | (go_wp2_with fail
                            go_end0
                            exact ⟨rfl, d, SJ.out, Sort.permIn_trans _ _ _ _ _ HP2.out (Sort.permIn_mono _ _ _ _ _ _ (by omega) (Nat.le_refl _) (by rw [HP2.out.1, hs]; exact hb) (Sort.permIn_refl _ _ _)), halves (by rw [HP1.out.1, hs]; exact hb) (by omega) HX.out HPL.out HSL.out (Sort.permIn_refl _ _ _) HO3.out⟩))
    · have hAI : ¬ (md : Int) < (m : Int) := by omega
      go_enter Tryz.func121, Tryz.ntmps121
      go_wp2_with fail
      go_loopw [20, 21, 23] (fun v u _ wr => ∃ (s r : Nat), v = .int .i64 s ∧ u = .int .i64 r ∧ a ≤ s ∧ s ≤ r ∧ r ≤ m ∧ Hid (SW enc w0 blk 0 d wr) ∧ Hid (∀ c, a ≤ c → c < s → ltS K d[p - c]! d[c]! = false) ∧ Hid (∀ c, r ≤ c → c < m → ltS K d[p - c]! d[c]! = true)) (fun v u _ _ => (intOf u).toNat - (intOf v).toNat)
      case atStart => exact ⟨a, m, by first | rfl | go_num, rfl, Nat.le_refl _, by omega, Nat.le_refl _, S0, Lib.hid (fun h h1 h2 => by omega), Lib.hid (fun h h1 h2 => by omega)⟩
      case round =>
        clear S0
        obtain ⟨s, r, rfl, rfl, hs0, hsr, hr0, SJ, HI, HJ⟩ := hrel
        by_cases hlt : s < r
        · have hltI : (s : Int) < (r : Int) := by omega
          obtain ⟨c, hh⟩ : ∃ h, (s + r) / 2 = h := ⟨_, rfl⟩
          have hhI : ((s : Int) + (r : Int)) / 2 = (c : Int) := by omega
          have h1 : s ≤ c := by omega
          have h2 : c < r := by omega
          clear hh
          obtain ⟨pc, hpc⟩ : ∃ q, p - c = q := ⟨_, rfl⟩
          have hpcI : (p : Int) - (c : Int) = (pc : Int) := by omega
          cases hq : ltS K d[p - c]! d[c]! with
          | true =>
            have hqp : ltS K d[pc]! d[c]! = true := by rw [← hpc]; exact hq
            have HQ : Hid (∀ t, c ≤ t → t < m → ltS K d[p - t]! d[t]! = true) := Lib.hid (fun t ht1 ht2 => by
              by_cases e : t = c
              · rw [e]; exact hq
              · exact ltS_tl (ltS_lt (HR.out.r (p - t) (p - c) (by omega) (by omega) (by omega)) hq) (HR.out.l c t (by omega) (by omega) (by omega)))
            obtain ⟨iN1y, hiN1y⟩ : ∃ q, q = pc := ⟨_, rfl⟩
            obtain ⟨jN1y, hjN1y⟩ : ∃ q, q = c := ⟨_, rfl⟩
            have ea1y : ((pc : Int)).toNat = iN1y := by omega
            have pa1y : (0 : Int) ≤ (pc : Int) := by omega
            have ba1y : (pc : Int) < (d0.size : Int) := by omega
            have ra1y : IntKind.i64.wrap ((pc : Int)) = (pc : Int) := by rw [IntKind.wrap_i64]; omega
            have ec1y : ((c : Int)).toNat = jN1y := by omega
            have pc1y : (0 : Int) ≤ (c : Int) := by omega
            have bc1y : (c : Int) < (d0.size : Int) := by omega
            have rc1y : IntKind.i64.wrap ((c : Int)) = (c : Int) := by rw [IntKind.wrap_i64]; omega
            have hlt1y : ltS K d[pc]! d[c]! = true := hqp
            have hlu1y : ltOf cf d[pc]! d[c]! = true := by rw [hcf, ltS_of (HR.out.x (pc) (c) (by omega) (by omega) (by omega) (by omega))]; exact hlt1y
            obtain ⟨x1y, hx1y⟩ : ∃ x, x = d[pc]! := ⟨_, rfl⟩
            obtain ⟨y1y, hy1y⟩ : ∃ x, x = d[c]! := ⟨_, rfl⟩
            have l1ya := SJ.out.cl R (by omega) (pc) (by omega)
            have l1yb := SJ.out.cl R (by omega) (c) (by omega)
            rw [← hx1y, ← hiN1y] at l1ya
            rw [← hy1y, ← hjN1y] at l1yb
            rw [Nat.zero_add] at l1ya l1yb
            have hc1y := SJ.out.cmp HC.out (by omega) x1y y1y
            have hv1y : cf x1y y1y < 0 := by rw [hx1y, hy1y]; exact of_decide_eq_true hlu1y
            have hd1y : decide (cf x1y y1y < 0) = true := decide_eq_true hv1y
            clear hx1y hy1y hiN1y hjN1y hlt1y hlu1y
            go_wp2_with fail
            go_quiet_grown (first | (go_at_fn 70; refine Calls.grown_of (hc1y _ _)))
            have SC1y : Hid (SW enc w0 blk 0 d (Sort.grow (wr.drewN nq) osq)) := Lib.hid (SJ.out.grown nq osq)
            clear l1ya l1yb hc1y
            generalize Sort.grow (wr.drewN nq) osq = wc1y at SC1y ⊢
            clear nq osq
            clear ea1y ec1y
            go_wp2_with fail
            go_roundw
            case rel => exact ⟨s, c, rfl, by go_num, hs0, h1, by omega, SC1y, HI, HQ⟩
            case measure => simp [intOf]; omega
          | false =>
            have hqp : ltS K d[pc]! d[c]! = false := by rw [← hpc]; exact hq
            have HQ : Hid (∀ t, a ≤ t → t < c + 1 → ltS K d[p - t]! d[t]! = false) := Lib.hid (fun t ht1 ht2 => by
              by_cases e : t = c
              · rw [e]; exact hq
              · exact ltS_tr (ltS_tr (HR.out.l t c (by omega) (by omega) (by omega)) hq) (HR.out.r (p - c) (p - t) (by omega) (by omega) (by omega)))
            obtain ⟨iN2y, hiN2y⟩ : ∃ q, q = pc := ⟨_, rfl⟩
            obtain ⟨jN2y, hjN2y⟩ : ∃ q, q = c := ⟨_, rfl⟩
            have ea2y : ((pc : Int)).toNat = iN2y := by omega
            have pa2y : (0 : Int) ≤ (pc : Int) := by omega
            have ba2y : (pc : Int) < (d0.size : Int) := by omega
            have ra2y : IntKind.i64.wrap ((pc : Int)) = (pc : Int) := by rw [IntKind.wrap_i64]; omega
            have ec2y : ((c : Int)).toNat = jN2y := by omega
            have pc2y : (0 : Int) ≤ (c : Int) := by omega
            have bc2y : (c : Int) < (d0.size : Int) := by omega
            have rc2y : IntKind.i64.wrap ((c : Int)) = (c : Int) := by rw [IntKind.wrap_i64]; omega
            have hlt2y : ltS K d[pc]! d[c]! = false := hqp
            have hlu2y : ltOf cf d[pc]! d[c]! = false := by rw [hcf, ltS_of (HR.out.x (pc) (c) (by omega) (by omega) (by omega) (by omega))]; exact hlt2y
            obtain ⟨x2y, hx2y⟩ : ∃ x, x = d[pc]! := ⟨_, rfl⟩
            obtain ⟨y2y, hy2y⟩ : ∃ x, x = d[c]! := ⟨_, rfl⟩
            have l2ya := SJ.out.cl R (by omega) (pc) (by omega)
            have l2yb := SJ.out.cl R (by omega) (c) (by omega)
            rw [← hx2y, ← hiN2y] at l2ya
            rw [← hy2y, ← hjN2y] at l2yb
            rw [Nat.zero_add] at l2ya l2yb
            have hc2y := SJ.out.cmp HC.out (by omega) x2y y2y
            have hv2y : ¬ cf x2y y2y < 0 := by rw [hx2y, hy2y]; exact of_decide_eq_false hlu2y
            have hd2y : decide (cf x2y y2y < 0) = false := decide_eq_false hv2y
            clear hx2y hy2y hiN2y hjN2y hlt2y hlu2y
            go_wp2_with fail
            go_quiet_grown (first | (go_at_fn 70; refine Calls.grown_of (hc2y _ _)))
            have SC2y : Hid (SW enc w0 blk 0 d (Sort.grow (wr.drewN nq) osq)) := Lib.hid (SJ.out.grown nq osq)
            clear l2ya l2yb hc2y
            generalize Sort.grow (wr.drewN nq) osq = wc2y at SC2y ⊢
            clear nq osq
            clear ea2y ec2y
            go_wp2_with fail
            go_roundw
            case rel => exact ⟨c + 1, r, by go_num, rfl, by omega, by omega, hr0, SC2y, HQ, HJ⟩
            case measure => simp [intOf]; omega
        · have hltI : ¬ (s : Int) < (r : Int) := by omega
          obtain rfl : s = r := by omega
          obtain ⟨en, hen⟩ : ∃ en, md + m - s = en := ⟨_, rfl⟩
          have henI : (md : Int) + (m : Int) - (s : Int) = (en : Int) := by omega
          have k1 : a ≤ s := by omega
          have k2 : s ≤ m := by omega
          have k3 : m ≤ en := by omega
          have k4 : en ≤ b := by omega
          have k5 : md + m = s + en := by omega
          have k6 : s ≤ md := by omega
          have k7 : md ≤ en := by omega
          have HPQ : Hid ((∀ i j, a ≤ i → i < s → en ≤ j → j < b → ltS K d[j]! d[i]! = false) ∧ ∀ i j, m ≤ i → i < en → s ≤ j → j < m → ltS K d[j]! d[i]! = false) := Lib.hid (by
            constructor
            · intro i j hi1 hi2 hj1 hj2
              have hx := HI.out (s - 1) (by omega) (by omega)
              rw [show p - (s - 1) = en by omega] at hx
              have e1 : ltS K d[s - 1]! d[i]! = false := by
                by_cases e : i = s - 1
                · rw [e]; exact ltS_self _
                · exact HR.out.l i (s - 1) hi1 (by omega) (by omega)
              have e2 : ltS K d[j]! d[en]! = false := by
                by_cases e : j = en
                · rw [e]; exact ltS_self _
                · exact HR.out.r en j (by omega) (by omega) hj2
              exact ltS_tr (ltS_tr e1 hx) e2
            · intro i j hi1 hi2 hj1 hj2
              have hx := HJ.out s (Nat.le_refl _) (by omega)
              rw [show p - s = en - 1 by omega] at hx
              have e1 : ltS K d[en - 1]! d[i]! = false := by
                by_cases e : i = en - 1
                · rw [e]; exact ltS_self _
                · exact HR.out.r i (en - 1) hi1 (by omega) (by omega)
              have e2 : ltS K d[j]! d[s]! = false := by
                by_cases e : j = s
                · rw [e]; exact ltS_self _
                · exact HR.out.l s j (by omega) (by omega) hj2
              exact ltS_as (ltS_tl (ltS_lt e1 hx) e2))
          have HAft := Lib.hid (fun (d1 : Array Nat) (w1 : World) (h1 : SW enc w0 blk 0 d1 w1) (h2 : Sort.PermIn a b d d1) (h3 : ∀ k, d1[k]! = rotF s m en (fun k => d[k]!) k) => (⟨mid_left HR.out h3 k5 k2 k3 k4, mid_right HR.out h3 k5 k1 k2 k3, mid_cross HR.out h3 k5 k1 k2 k3 k4 HPQ.out.1 HPQ.out.2⟩ : Runs K a s md d1 ∧ Runs K md en b d1 ∧ ∀ i j, a ≤ i → i < md → md ≤ j → j < b → ltS K d1[j]! d1[i]! = false))
          have HRot := Lib.hid (fun (h1 : s < m) (h2 : m < en) => rot_s (cap := cap) R (.func (.func 70) #[] cb) d wr s m en hs SJ.out h1 h2 (by omega) (by omega))
          have HEN := Lib.hid hen
          clear HI HJ hen HPQ
          by_cases c1 : s < m ∧ m < en
          · have c1a : (s : Int) < (m : Int) := by omega
            have c1b : (m : Int) < (en : Int) := by omega
            have HRo := Lib.hid (HRot.out c1.1 c1.2)
            clear c1
            go_wp2_with fail
            refine HRo.out.mono ?_
            rintro e w3 ⟨rfl, d1, h1, h2, h3⟩
            have HS1 := Lib.hid h1
            have HP1 : Hid (Sort.PermIn a b d d1) := Lib.hid (Sort.permIn_mono _ _ _ _ _ _ k1 k4 (by rw [hs]; exact hb) h2)
            have HF1 := Lib.hid h3
            clear h1 h2 h3
            obtain ⟨hL, hRR, hX⟩ := HAft.out d1 w3 HS1.out HP1.out HF1.out
            have HL := Lib.hid hL; have HR1 := Lib.hid hRR; have HX := Lib.hid hX
            clear hL hRR hX
            by_cases c2 : a < s ∧ s < md
            · have c2a : (a : Int) < (s : Int) := by omega
              have c2b : (s : Int) < (md : Int) := by omega
              have HI2 := Lib.hid (IH.out d1 w3 a s md (by omega) (by rw [HP1.out.1]; exact hs) HS1.out c2.1 c2.2 (by omega) HL.out)
              clear c2
              go_wp2_with fail
              refine HI2.out.mono ?_
              rintro e w4 ⟨rfl, d2, h1, h2, h3⟩
              have HS2 := Lib.hid h1; have HPL := Lib.hid h2; have HSL := Lib.hid h3
              have HP2 : Hid (Sort.PermIn a b d d2) := Lib.hid (Sort.permIn_trans _ _ _ _ _ HP1.out (Sort.permIn_mono _ _ _ _ _ _ (Nat.le_refl _) (by omega) (by rw [HP1.out.1, hs]; exact hb) h2))
              have HRR : Hid (Runs K md en b d2) := Lib.hid (HR1.out.congr (fun k hk _ => h2.2.1 k (Or.inr hk)))
              clear h1 h2 h3
              by_cases c3 : md < en ∧ en < b
              · have c3a : (md : Int) < (en : Int) := by omega
                have c3b : (en : Int) < (b : Int) := by omega
                have HI3 := Lib.hid (IH.out d2 w4 md en b (by omega) (by rw [HP2.out.1]; exact hs) HS2.out c3.1 c3.2 hb HRR.out)
                clear c3
                go_wp2_with fail
                refine HI3.out.mono ?_
                rintro e w5 ⟨rfl, d3, h1, h2, h3⟩
                have HS3 := Lib.hid h1; have HP3 := Lib.hid h2; have HO3 := Lib.hid h3
                clear h1 h2 h3
                go_wp2_with fail
                go_end0
                exact ⟨rfl, d3, HS3.out, Sort.permIn_trans _ _ _ _ _ HP2.out (Sort.permIn_mono _ _ _ _ _ _ (by omega) (Nat.le_refl _) (by rw [HP2.out.1, hs]; exact hb) HP3.out), halves (by rw [HP1.out.1, hs]; exact hb) (by omega) HX.out HPL.out HSL.out HP3.out HO3.out⟩
              · have HO3 : Hid (Sort.SortedIn (ltS K) md b d2) := Lib.hid (by
                  by_cases e : md = en
                  · have := HRR.out.r; rw [← e] at this; exact this
                  · have e2 : en = b := by omega
                    have := HRR.out.l; rw [e2] at this; exact this)
                by_cases c4 : md < en
                · have c3a : (md : Int) < (en : Int) := by omega
                  have c3b : ¬ (en : Int) < (b : Int) := by omega
                  clear c3
                  first
                  | (exfalso; omega)
                  | (go_wp2_with fail
                     go_end0
                     exact ⟨rfl, d2, HS2.out, Sort.permIn_trans _ _ _ _ _ HP2.out (Sort.permIn_mono _ _ _ _ _ _ (by omega) (Nat.le_refl _) (by rw [HP2.out.1, hs]; exact hb) (Sort.permIn_refl _ _ _)), halves (by rw [HP1.out.1, hs]; exact hb) (by omega) HX.out HPL.out HSL.out (Sort.permIn_refl _ _ _) HO3.out⟩)
                · have c3a : ¬ (md : Int) < (en : Int) := by omega
                  clear c3
                  first
                  | (exfalso; omega)
                  | (go_wp2_with fail
                     go_end0
                     exact ⟨rfl, d2, HS2.out, Sort.permIn_trans _ _ _ _ _ HP2.out (Sort.permIn_mono _ _ _ _ _ _ (by omega) (Nat.le_refl _) (by rw [HP2.out.1, hs]; exact hb) (Sort.permIn_refl _ _ _)), halves (by rw [HP1.out.1, hs]; exact hb) (by omega) HX.out HPL.out HSL.out (Sort.permIn_refl _ _ _) HO3.out⟩)
            · have HSL : Hid (Sort.SortedIn (ltS K) a md d1) := Lib.hid (by
                by_cases e : a = s
                · have := HL.out.r; rw [← e] at this; exact this
                · have e2 : s = md := by omega
                  have := HL.out.l; rw [e2] at this; exact this)
              have HPL : Hid (Sort.PermIn a md d1 d1) := Lib.hid (Sort.permIn_refl _ _ _)
              have HP2 := HP1
              have HRR := HR1
              by_cases c5 : a < s
              · have c2a : (a : Int) < (s : Int) := by omega
                have c2b : ¬ (s : Int) < (md : Int) := by omega
                clear c2
                first
                | (exfalso; omega)
                | (by_cases c3 : md < en ∧ en < b
                   · have c3a : (md : Int) < (en : Int) := by omega
                     have c3b : (en : Int) < (b : Int) := by omega
                     have HI3 := Lib.hid (IH.out d1 w3 md en b (by omega) (by rw [HP2.out.1]; exact hs) HS1.out c3.1 c3.2 hb HRR.out)
                     clear c3
                     go_wp2_with fail
                     refine HI3.out.mono ?_
                     rintro e w5 ⟨rfl, d3, h1, h2, h3⟩
                     have HS3 := Lib.hid h1; have HP3 := Lib.hid h2; have HO3 := Lib.hid h3
                     clear h1 h2 h3
                     go_wp2_with fail
                     go_end0
                     exact ⟨rfl, d3, HS3.out, Sort.permIn_trans _ _ _ _ _ HP2.out (Sort.permIn_mono _ _ _ _ _ _ (by omega) (Nat.le_refl _) (by rw [HP2.out.1, hs]; exact hb) HP3.out), halves (by rw [HP1.out.1, hs]; exact hb) (by omega) HX.out HPL.out HSL.out HP3.out HO3.out⟩
                   · have HO3 : Hid (Sort.SortedIn (ltS K) md b d1) := Lib.hid (by
                       by_cases e : md = en
                       · have := HRR.out.r; rw [← e] at this; exact this
                       · have e2 : en = b := by omega
                         have := HRR.out.l; rw [e2] at this; exact this)
                     by_cases c4 : md < en
                     · have c3a : (md : Int) < (en : Int) := by omega
                       have c3b : ¬ (en : Int) < (b : Int) := by omega
                       clear c3
                       first
                       | (exfalso; omega)
                       | (go_wp2_with fail
                          go_end0
                          exact ⟨rfl, d1, HS1.out, Sort.permIn_trans _ _ _ _ _ HP2.out (Sort.permIn_mono _ _ _ _ _ _ (by omega) (Nat.le_refl _) (by rw [HP2.out.1, hs]; exact hb) (Sort.permIn_refl _ _ _)), halves (by rw [HP1.out.1, hs]; exact hb) (by omega) HX.out HPL.out HSL.out (Sort.permIn_refl _ _ _) HO3.out⟩)
                     · have c3a : ¬ (md : Int) < (en : Int) := by omega
                       clear c3
                       first
                       | (exfalso; omega)
                       | (go_wp2_with fail
                          go_end0
                          exact ⟨rfl, d1, HS1.out, Sort.permIn_trans _ _ _ _ _ HP2.out (Sort.permIn_mono _ _ _ _ _ _ (by omega) (Nat.le_refl _) (by rw [HP2.out.1, hs]; exact hb) (Sort.permIn_refl _ _ _)), halves (by rw [HP1.out.1, hs]; exact hb) (by omega) HX.out HPL.out HSL.out (Sort.permIn_refl _ _ _) HO3.out⟩))
              · have c2a : ¬ (a : Int) < (s : Int) := by omega
                clear c2
                first
                | (exfalso; omega)
                | (by_cases c3 : md < en ∧ en < b
                   · have c3a : (md : Int) < (en : Int) := by omega
                     have c3b : (en : Int) < (b : Int) := by omega
                     have HI3 := Lib.hid (IH.out d1 w3 md en b (by omega) (by rw [HP2.out.1]; exact hs) HS1.out c3.1 c3.2 hb HRR.out)
                     clear c3
                     go_wp2_with fail
                     refine HI3.out.mono ?_
                     rintro e w5 ⟨rfl, d3, h1, h2, h3⟩
                     have HS3 := Lib.hid h1; have HP3 := Lib.hid h2; have HO3 := Lib.hid h3
                     clear h1 h2 h3
                     go_wp2_with fail
                     go_end0
                     exact ⟨rfl, d3, HS3.out, Sort.permIn_trans _ _ _ _ _ HP2.out (Sort.permIn_mono _ _ _ _ _ _ (by omega) (Nat.le_refl _) (by rw [HP2.out.1, hs]; exact hb) HP3.out), halves (by rw [HP1.out.1, hs]; exact hb) (by omega) HX.out HPL.out HSL.out HP3.out HO3.out⟩
                   · have HO3 : Hid (Sort.SortedIn (ltS K) md b d1) := Lib.hid (by
                       by_cases e : md = en
                       · have := HRR.out.r; rw [← e] at this; exact this
                       · have e2 : en = b := by omega
                         have := HRR.out.l; rw [e2] at this; exact this)
                     by_cases c4 : md < en
                     · have c3a : (md : Int) < (en : Int) := by omega
                       have c3b : ¬ (en : Int) < (b : Int) := by omega
                       clear c3
                       first
                       | (exfalso; omega)
                       | (go_wp2_with fail
                          go_end0
                          exact ⟨rfl, d1, HS1.out, Sort.permIn_trans _ _ _ _ _ HP2.out (Sort.permIn_mono _ _ _ _ _ _ (by omega) (Nat.le_refl _) (by rw [HP2.out.1, hs]; exact hb) (Sort.permIn_refl _ _ _)), halves (by rw [HP1.out.1, hs]; exact hb) (by omega) HX.out HPL.out HSL.out (Sort.permIn_refl _ _ _) HO3.out⟩)
                     · have c3a : ¬ (md : Int) < (en : Int) := by omega
                       clear c3
                       first
                       | (exfalso; omega)
                       | (go_wp2_with fail
                          go_end0
                          exact ⟨rfl, d1, HS1.out, Sort.permIn_trans _ _ _ _ _ HP2.out (Sort.permIn_mono _ _ _ _ _ _ (by omega) (Nat.le_refl _) (by rw [HP2.out.1, hs]; exact hb) (Sort.permIn_refl _ _ _)), halves (by rw [HP1.out.1, hs]; exact hb) (by omega) HX.out HPL.out HSL.out (Sort.permIn_refl _ _ _) HO3.out⟩))
          · have HP1 : Hid (Sort.PermIn a b d d) := Lib.hid (Sort.permIn_refl _ _ _)
            have HF1 : Hid (∀ k, d[k]! = rotF s m en (fun k => d[k]!) k) := Lib.hid (fun k => by
              unfold rotF
              dsimp only
              repeat' split
              all_goals first | (exfalso; omega) | rfl | (congr 1; omega))
            by_cases c6 : s < m
            · have c1a : (s : Int) < (m : Int) := by omega
              have c1b : ¬ (m : Int) < (en : Int) := by omega
              clear c1
              obtain ⟨hL, hRR, hX⟩ := HAft.out d wr SJ.out HP1.out HF1.out
              have HL := Lib.hid hL; have HR1 := Lib.hid hRR; have HX := Lib.hid hX
              clear hL hRR hX
              by_cases c2 : a < s ∧ s < md
              · have c2a : (a : Int) < (s : Int) := by omega
                have c2b : (s : Int) < (md : Int) := by omega
                have HI2 := Lib.hid (IH.out d wr a s md (by omega) (by rw [HP1.out.1]; exact hs) SJ.out c2.1 c2.2 (by omega) HL.out)
                clear c2
                go_wp2_with fail
                refine HI2.out.mono ?_
                rintro e w4 ⟨rfl, d2, h1, h2, h3⟩
                have HS2 := Lib.hid h1; have HPL := Lib.hid h2; have HSL := Lib.hid h3
                have HP2 : Hid (Sort.PermIn a b d d2) := Lib.hid (Sort.permIn_trans _ _ _ _ _ HP1.out (Sort.permIn_mono _ _ _ _ _ _ (Nat.le_refl _) (by omega) (by rw [HP1.out.1, hs]; exact hb) h2))
                have HRR : Hid (Runs K md en b d2) := Lib.hid (HR1.out.congr (fun k hk _ => h2.2.1 k (Or.inr hk)))
                clear h1 h2 h3
                by_cases c3 : md < en ∧ en < b
                · have c3a : (md : Int) < (en : Int) := by omega
                  have c3b : (en : Int) < (b : Int) := by omega
                  have HI3 := Lib.hid (IH.out d2 w4 md en b (by omega) (by rw [HP2.out.1]; exact hs) HS2.out c3.1 c3.2 hb HRR.out)
                  clear c3
                  go_wp2_with fail
                  refine HI3.out.mono ?_
                  rintro e w5 ⟨rfl, d3, h1, h2, h3⟩
                  have HS3 := Lib.hid h1; have HP3 := Lib.hid h2; have HO3 := Lib.hid h3
                  clear h1 h2 h3
                  go_wp2_with fail
                  go_end0
                  exact ⟨rfl, d3, HS3.out, Sort.permIn_trans _ _ _ _ _ HP2.out (Sort.permIn_mono _ _ _ _ _ _ (by omega) (Nat.le_refl _) (by rw [HP2.out.1, hs]; exact hb) HP3.out), halves (by rw [HP1.out.1, hs]; exact hb) (by omega) HX.out HPL.out HSL.out HP3.out HO3.out⟩
                · have HO3 : Hid (Sort.SortedIn (ltS K) md b d2) := Lib.hid (by
                    by_cases e : md = en
                    · have := HRR.out.r; rw [← e] at this; exact this
                    · have e2 : en = b := by omega
                      have := HRR.out.l; rw [e2] at this; exact this)
                  by_cases c4 : md < en
                  · have c3a : (md : Int) < (en : Int) := by omega
                    have c3b : ¬ (en : Int) < (b : Int) := by omega
                    clear c3
                    first
                    | (exfalso; omega)
                    | (go_wp2_with fail
                       go_end0
                       exact ⟨rfl, d2, HS2.out, Sort.permIn_trans _ _ _ _ _ HP2.out (Sort.permIn_mono _ _ _ _ _ _ (by omega) (Nat.le_refl _) (by rw [HP2.out.1, hs]; exact hb) (Sort.permIn_refl _ _ _)), halves (by rw [HP1.out.1, hs]; exact hb) (by omega) HX.out HPL.out HSL.out (Sort.permIn_refl _ _ _) HO3.out⟩)
                  · have c3a : ¬ (md : Int) < (en : Int) := by omega
                    clear c3
                    first
                    | (exfalso; omega)
                    | (go_wp2_with fail
                       go_end0
                       exact ⟨rfl, d2, HS2.out, Sort.permIn_trans _ _ _ _ _ HP2.out (Sort.permIn_mono _ _ _ _ _ _ (by omega) (Nat.le_refl _) (by rw [HP2.out.1, hs]; exact hb) (Sort.permIn_refl _ _ _)), halves (by rw [HP1.out.1, hs]; exact hb) (by omega) HX.out HPL.out HSL.out (Sort.permIn_refl _ _ _) HO3.out⟩)
              · have HSL : Hid (Sort.SortedIn (ltS K) a md d) := Lib.hid (by
                  by_cases e : a = s
                  · have := HL.out.r; rw [← e] at this; exact this
                  · have e2 : s = md := by omega
                    have := HL.out.l; rw [e2] at this; exact this)
                have HPL : Hid (Sort.PermIn a md d d) := Lib.hid (Sort.permIn_refl _ _ _)
                have HP2 := HP1
                have HRR := HR1
                by_cases c5 : a < s
                · have c2a : (a : Int) < (s : Int) := by omega
                  have c2b : ¬ (s : Int) < (md : Int) := by omega
                  clear c2
                  first
                  | (exfalso; omega)
                  | (by_cases c3 : md < en ∧ en < b
                     · have c3a : (md : Int) < (en : Int) := by omega
                       have c3b : (en : Int) < (b : Int) := by omega
                       have HI3 := Lib.hid (IH.out d wr md en b (by omega) (by rw [HP2.out.1]; exact hs) SJ.out c3.1 c3.2 hb HRR.out)
                       clear c3
                       go_wp2_with fail
                       refine HI3.out.mono ?_
                       rintro e w5 ⟨rfl, d3, h1, h2, h3⟩
                       have HS3 := Lib.hid h1; have HP3 := Lib.hid h2; have HO3 := Lib.hid h3
                       clear h1 h2 h3
                       go_wp2_with fail
                       go_end0
                       exact ⟨rfl, d3, HS3.out, Sort.permIn_trans _ _ _ _ _ HP2.out (Sort.permIn_mono _ _ _ _ _ _ (by omega) (Nat.le_refl _) (by rw [HP2.out.1, hs]; exact hb) HP3.out), halves (by rw [HP1.out.1, hs]; exact hb) (by omega) HX.out HPL.out HSL.out HP3.out HO3.out⟩
                     · have HO3 : Hid (Sort.SortedIn (ltS K) md b d) := Lib.hid (by
                         by_cases e : md = en
                         · have := HRR.out.r; rw [← e] at this; exact this
                         · have e2 : en = b := by omega
                           have := HRR.out.l; rw [e2] at this; exact this)
                       by_cases c4 : md < en
                       · have c3a : (md : Int) < (en : Int) := by omega
                         have c3b : ¬ (en : Int) < (b : Int) := by omega
                         clear c3
                         first
                         | (exfalso; omega)
                         | (go_wp2_with fail
                            go_end0
                            exact ⟨rfl, d, SJ.out, Sort.permIn_trans _ _ _ _ _ HP2.out (Sort.permIn_mono _ _ _ _ _ _ (by omega) (Nat.le_refl _) (by rw [HP2.out.1, hs]; exact hb) (Sort.permIn_refl _ _ _)), halves (by rw [HP1.out.1, hs]; exact hb) (by omega) HX.out HPL.out HSL.out (Sort.permIn_refl _ _ _) HO3.out⟩)
                       · have c3a : ¬ (md : Int) < (en : Int) := by omega
                         clear c3
                         first
                         | (exfalso; omega)
                         | (go_wp2_with fail
                            go_end0
                            exact ⟨rfl, d, SJ.out, Sort.permIn_trans _ _ _ _ _ HP2.out (Sort.permIn_mono _ _ _ _ _ _ (by omega) (Nat.le_refl _) (by rw [HP2.out.1, hs]; exact hb) (Sort.permIn_refl _ _ _)), halves (by rw [HP1.out.1, hs]; exact hb) (by omega) HX.out HPL.out HSL.out (Sort.permIn_refl _ _ _) HO3.out⟩))
                · have c2a : ¬ (a : Int) < (s : Int) := by omega
                  clear c2
                  first
                  | (exfalso; omega)
                  | (by_cases c3 : md < en ∧ en < b
                     · have c3a : (md : Int) < (en : Int) := by omega
                       have c3b : (en : Int) < (b : Int) := by omega
                       have HI3 := Lib.hid (IH.out d wr md en b (by omega) (by rw [HP2.out.1]; exact hs) SJ.out c3.1 c3.2 hb HRR.out)
                       clear c3
                       go_wp2_with fail
                       refine HI3.out.mono ?_
                       rintro e w5 ⟨rfl, d3, h1, h2, h3⟩
                       have HS3 := Lib.hid h1; have HP3 := Lib.hid h2; have HO3 := Lib.hid h3
                       clear h1 h2 h3
                       go_wp2_with fail
                       go_end0
                       exact ⟨rfl, d3, HS3.out, Sort.permIn_trans _ _ _ _ _ HP2.out (Sort.permIn_mono _ _ _ _ _ _ (by omega) (Nat.le_refl _) (by rw [HP2.out.1, hs]; exact hb) HP3.out), halves (by rw [HP1.out.1, hs]; exact hb) (by omega) HX.out HPL.out HSL.out HP3.out HO3.out⟩
                     · have HO3 : Hid (Sort.SortedIn (ltS K) md b d) := Lib.hid (by
                         by_cases e : md = en
                         · have := HRR.out.r; rw [← e] at this; exact this
                         · have e2 : en = b := by omega
                           have := HRR.out.l; rw [e2] at this; exact this)
                       by_cases c4 : md < en
                       · have c3a : (md : Int) < (en : Int) := by omega
                         have c3b : ¬ (en : Int) < (b : Int) := by omega
                         clear c3
                         first
                         | (exfalso; omega)
                         | (go_wp2_with fail
                            go_end0
                            exact ⟨rfl, d, SJ.out, Sort.permIn_trans _ _ _ _ _ HP2.out (Sort.permIn_mono _ _ _ _ _ _ (by omega) (Nat.le_refl _) (by rw [HP2.out.1, hs]; exact hb) (Sort.permIn_refl _ _ _)), halves (by rw [HP1.out.1, hs]; exact hb) (by omega) HX.out HPL.out HSL.out (Sort.permIn_refl _ _ _) HO3.out⟩)
                       · have c3a : ¬ (md : Int) < (en : Int) := by omega
                         clear c3
                         first
                         | (exfalso; omega)
                         | (go_wp2_with fail
                            go_end0
                            exact ⟨rfl, d, SJ.out, Sort.permIn_trans _ _ _ _ _ HP2.out (Sort.permIn_mono _ _ _ _ _ _ (by omega) (Nat.le_refl _) (by rw [HP2.out.1, hs]; exact hb) (Sort.permIn_refl _ _ _)), halves (by rw [HP1.out.1, hs]; exact hb) (by omega) HX.out HPL.out HSL.out (Sort.permIn_refl _ _ _) HO3.out⟩))
            · have c1a : ¬ (s : Int) < (m : Int) := by omega
              clear c1
              obtain ⟨hL, hRR, hX⟩ := HAft.out d wr SJ.out HP1.out HF1.out
              have HL := Lib.hid hL; have HR1 := Lib.hid hRR; have HX := Lib.hid hX
              clear hL hRR hX
              by_cases c2 : a < s ∧ s < md
              · have c2a : (a : Int) < (s : Int) := by omega
                have c2b : (s : Int) < (md : Int) := by omega
                have HI2 := Lib.hid (IH.out d wr a s md (by omega) (by rw [HP1.out.1]; exact hs) SJ.out c2.1 c2.2 (by omega) HL.out)
                clear c2
                go_wp2_with fail
                refine HI2.out.mono ?_
                rintro e w4 ⟨rfl, d2, h1, h2, h3⟩
                have HS2 := Lib.hid h1; have HPL := Lib.hid h2; have HSL := Lib.hid h3
                have HP2 : Hid (Sort.PermIn a b d d2) := Lib.hid (Sort.permIn_trans _ _ _ _ _ HP1.out (Sort.permIn_mono _ _ _ _ _ _ (Nat.le_refl _) (by omega) (by rw [HP1.out.1, hs]; exact hb) h2))
                have HRR : Hid (Runs K md en b d2) := Lib.hid (HR1.out.congr (fun k hk _ => h2.2.1 k (Or.inr hk)))
                clear h1 h2 h3
                by_cases c3 : md < en ∧ en < b
                · have c3a : (md : Int) < (en : Int) := by omega
                  have c3b : (en : Int) < (b : Int) := by omega
                  have HI3 := Lib.hid (IH.out d2 w4 md en b (by omega) (by rw [HP2.out.1]; exact hs) HS2.out c3.1 c3.2 hb HRR.out)
                  clear c3
                  go_wp2_with fail
                  refine HI3.out.mono ?_
                  rintro e w5 ⟨rfl, d3, h1, h2, h3⟩
                  have HS3 := Lib.hid h1; have HP3 := Lib.hid h2; have HO3 := Lib.hid h3
                  clear h1 h2 h3
                  go_wp2_with fail
                  go_end0
                  exact ⟨rfl, d3, HS3.out, Sort.permIn_trans _ _ _ _ _ HP2.out (Sort.permIn_mono _ _ _ _ _ _ (by omega) (Nat.le_refl _) (by rw [HP2.out.1, hs]; exact hb) HP3.out), halves (by rw [HP1.out.1, hs]; exact hb) (by omega) HX.out HPL.out HSL.out HP3.out HO3.out⟩
                · have HO3 : Hid (Sort.SortedIn (ltS K) md b d2) := Lib.hid (by
                    by_cases e : md = en
                    · have := HRR.out.r; rw [← e] at this; exact this
                    · have e2 : en = b := by omega
                      have := HRR.out.l; rw [e2] at this; exact this)
                  by_cases c4 : md < en
                  · have c3a : (md : Int) < (en : Int) := by omega
                    have c3b : ¬ (en : Int) < (b : Int) := by omega
                    clear c3
                    first
                    | (exfalso; omega)
                    | (go_wp2_with fail
                       go_end0
                       exact ⟨rfl, d2, HS2.out, Sort.permIn_trans _ _ _ _ _ HP2.out (Sort.permIn_mono _ _ _ _ _ _ (by omega) (Nat.le_refl _) (by rw [HP2.out.1, hs]; exact hb) (Sort.permIn_refl _ _ _)), halves (by rw [HP1.out.1, hs]; exact hb) (by omega) HX.out HPL.out HSL.out (Sort.permIn_refl _ _ _) HO3.out⟩)
                  · have c3a : ¬ (md : Int) < (en : Int) := by omega
                    clear c3
                    first
                    | (exfalso; omega)
                    | (go_wp2_with fail
                       go_end0
                       exact ⟨rfl, d2, HS2.out, Sort.permIn_trans _ _ _ _ _ HP2.out (Sort.permIn_mono _ _ _ _ _ _ (by omega) (Nat.le_refl _) (by rw [HP2.out.1, hs]; exact hb) (Sort.permIn_refl _ _ _)), halves (by rw [HP1.out.1, hs]; exact hb) (by omega) HX.out HPL.out HSL.out (Sort.permIn_refl _ _ _) HO3.out⟩)
              · have HSL : Hid (Sort.SortedIn (ltS K) a md d) := Lib.hid (by
                  by_cases e : a = s
                  · have := HL.out.r; rw [← e] at this; exact this
                  · have e2 : s = md := by omega
                    have := HL.out.l; rw [e2] at this; exact this)
                have HPL : Hid (Sort.PermIn a md d d) := Lib.hid (Sort.permIn_refl _ _ _)
                have HP2 := HP1
                have HRR := HR1
                by_cases c5 : a < s
                · have c2a : (a : Int) < (s : Int) := by omega
                  have c2b : ¬ (s : Int) < (md : Int) := by omega
                  clear c2
                  first
                  | (exfalso; omega)
                  | (by_cases c3 : md < en ∧ en < b
                     · have c3a : (md : Int) < (en : Int) := by omega
                       have c3b : (en : Int) < (b : Int) := by omega
                       have HI3 := Lib.hid (IH.out d wr md en b (by omega) (by rw [HP2.out.1]; exact hs) SJ.out c3.1 c3.2 hb HRR.out)
                       clear c3
                       go_wp2_with fail
                       refine HI3.out.mono ?_
                       rintro e w5 ⟨rfl, d3, h1, h2, h3⟩
                       have HS3 := Lib.hid h1; have HP3 := Lib.hid h2; have HO3 := Lib.hid h3
                       clear h1 h2 h3
                       go_wp2_with fail
                       go_end0
                       exact ⟨rfl, d3, HS3.out, Sort.permIn_trans _ _ _ _ _ HP2.out (Sort.permIn_mono _ _ _ _ _ _ (by omega) (Nat.le_refl _) (by rw [HP2.out.1, hs]; exact hb) HP3.out), halves (by rw [HP1.out.1, hs]; exact hb) (by omega) HX.out HPL.out HSL.out HP3.out HO3.out⟩
                     · have HO3 : Hid (Sort.SortedIn (ltS K) md b d) := Lib.hid (by
                         by_cases e : md = en
                         · have := HRR.out.r; rw [← e] at this; exact this
                         · have e2 : en = b := by omega
                           have := HRR.out.l; rw [e2] at this; exact this)
                       by_cases c4 : md < en
                       · have c3a : (md : Int) < (en : Int) := by omega
                         have c3b : ¬ (en : Int) < (b : Int) := by omega
                         clear c3
                         first
                         | (exfalso; omega)
                         | (go_wp2_with fail
                            go_end0
                            exact ⟨rfl, d, SJ.out, Sort.permIn_trans _ _ _ _ _ HP2.out (Sort.permIn_mono _ _ _ _ _ _ (by omega) (Nat.le_refl _) (by rw [HP2.out.1, hs]; exact hb) (Sort.permIn_refl _ _ _)), halves (by rw [HP1.out.1, hs]; exact hb) (by omega) HX.out HPL.out HSL.out (Sort.permIn_refl _ _ _) HO3.out⟩)
                       · have c3a : ¬ (md : Int) < (en : Int) := by omega
                         clear c3
                         first
                         | (exfalso; omega)
                         | (go_wp2_with fail
                            go_end0
                            exact ⟨rfl, d, SJ.out, Sort.permIn_trans _ _ _ _ _ HP2.out (Sort.permIn_mono _ _ _ _ _ _ (by omega) (Nat.le_refl _) (by rw [HP2.out.1, hs]; exact hb) (Sort.permIn_refl _ _ _)), halves (by rw [HP1.out.1, hs]; exact hb) (by omega) HX.out HPL.out HSL.out (Sort.permIn_refl _ _ _) HO3.out⟩))
                · have c2a : ¬ (a : Int) < (s : Int) := by omega
                  clear c2
                  first
                  | (exfalso; omega)
                  | (by_cases c3 : md < en ∧ en < b
                     · have c3a : (md : Int) < (en : Int) := by omega
                       have c3b : (en : Int) < (b : Int) := by omega
                       have HI3 := Lib.hid (IH.out d wr md en b (by omega) (by rw [HP2.out.1]; exact hs) SJ.out c3.1 c3.2 hb HRR.out)
                       clear c3
                       go_wp2_with fail
                       refine HI3.out.mono ?_
                       rintro e w5 ⟨rfl, d3, h1, h2, h3⟩
                       have HS3 := Lib.hid h1; have HP3 := Lib.hid h2; have HO3 := Lib.hid h3
                       clear h1 h2 h3
                       go_wp2_with fail
                       go_end0
                       exact ⟨rfl, d3, HS3.out, Sort.permIn_trans _ _ _ _ _ HP2.out (Sort.permIn_mono _ _ _ _ _ _ (by omega) (Nat.le_refl _) (by rw [HP2.out.1, hs]; exact hb) HP3.out), halves (by rw [HP1.out.1, hs]; exact hb) (by omega) HX.out HPL.out HSL.out HP3.out HO3.out⟩
                     · have HO3 : Hid (Sort.SortedIn (ltS K) md b d) := Lib.hid (by
                         by_cases e : md = en
                         · have := HRR.out.r; rw [← e] at this; exact this
                         · have e2 : en = b := by omega
                           have := HRR.out.l; rw [e2] at this; exact this)
                       by_cases c4 : md < en
                       · have c3a : (md : Int) < (en : Int) := by omega
                         have c3b : ¬ (en : Int) < (b : Int) := by omega
                         clear c3
                         first
                         | (exfalso; omega)
                         | (go_wp2_with fail
                            go_end0
                            exact ⟨rfl, d, SJ.out, Sort.permIn_trans _ _ _ _ _ HP2.out (Sort.permIn_mono _ _ _ _ _ _ (by omega) (Nat.le_refl _) (by rw [HP2.out.1, hs]; exact hb) (Sort.permIn_refl _ _ _)), halves (by rw [HP1.out.1, hs]; exact hb) (by omega) HX.out HPL.out HSL.out (Sort.permIn_refl _ _ _) HO3.out⟩)
                       · have c3a : ¬ (md : Int) < (en : Int) := by omega
                         clear c3
                         first
                         | (exfalso; omega)
                         | (go_wp2_with fail
                            go_end0
                            exact ⟨rfl, d, SJ.out, Sort.permIn_trans _ _ _ _ _ HP2.out (Sort.permIn_mono _ _ _ _ _ _ (by omega) (Nat.le_refl _) (by rw [HP2.out.1, hs]; exact hb) (Sort.permIn_refl _ _ _)), halves (by rw [HP1.out.1, hs]; exact hb) (by omega) HX.out HPL.out HSL.out (Sort.permIn_refl _ _ _) HO3.out⟩))
end
end Go.Proofs.YtfbgnpfhjbiikaaGreatDoor
