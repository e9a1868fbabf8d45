/- Contract: model.Check. Contracts: scriniumlaw31.put, get. Contracts: ref31.Table, Does. A slice of none, to which a whole slice is appended: what is had is a copy; what keeps lists where blocks turn. -/
import Derived.Test.YtfbgnpfhjbiikaaGreatDoorQr09
import Derived.Deep.Upon
namespace Go.Proofs.YtfbgnpfhjbiikaaGreatDoor
open Go Go.RowKit
open Pth
open Go.Maps (has size Canon CanonK Tidy IsMap KeysOf Keyed Merged)
theorem zeroVd (w : World) : (zeroValue 72).run Tryz.prog w = .ok (.agg #[.bool false, .int .i64 0, .int .u8 0]) w := by kernel_rfl
structure Vd where
  right : Bool
  story : Nat
  why : Nat
def vdVal (v : Vd) : Value := .agg #[.bool v.right, .int .i64 v.story, .int .u8 v.why]
def SameR (d : Done) (s : Sto) : Prop := same3 d.got s.got d.nums s.nums d.names s.names
noncomputable def wrongR (d : Done) (s : Sto) : Bool := @decide (0 < s.til ∧ ¬ SameR d s) (Classical.propDecidable _)
noncomputable def chkT (l : List Sto) (o : List Nat) : Nat → List Nat → DataW Cel × Int → Vd
  | _, [], _ => ⟨true, 0, 0⟩
  | k, i :: r, s =>
    if lateT l o k then ⟨false, i, 1⟩
    else if (doesT s.1 s.2 QQ QQ (l.getD i dS).call).is = false then ⟨false, i, 3⟩
    else if wrongR (doesT s.1 s.2 QQ QQ (l.getD i dS).call) (l.getD i dS) then ⟨false, i, 4⟩
    else chkT l o (k + 1) r ((doesT s.1 s.2 QQ QQ (l.getD i dS).call).M, (doesT s.1 s.2 QQ QQ (l.getD i dS).call).B)
def badA (s : Sto) : Bool := aloneT s != 0
noncomputable def checkT (l : List Sto) : Vd := if l.findIdx badA < l.length then ⟨false, l.findIdx badA, aloneT (l.getD (l.findIdx badA) dS)⟩ else chkT l (ordS l) 0 (ordS l) (.map [], 0)
def CheckG (l : List Sto) (w : World) (e : Ending) (w' : World) : Prop := e = .returned (vdVal (checkT l)) ∧ Below w.heap.size w w'
theorem bad_hit {l : List Sto} {k : Nat} (hk : k < l.length) (hm : ∀ j, j < k → aloneT (l.getD j dS) = 0) (hn : aloneT (l.getD k dS) ≠ 0) : checkT l = ⟨false, k, aloneT (l.getD k dS)⟩ := by
  have h : l.findIdx badA = k := by
    rw [List.findIdx_eq hk]
    refine ⟨?_, fun j hj => ?_⟩
    · rw [List.getD_eq_getElem?_getD, List.getElem?_eq_getElem hk] at hn
      simpa [badA] using hn
    · have := hm j hj
      rw [List.getD_eq_getElem?_getD, List.getElem?_eq_getElem (by omega)] at this
      simpa [badA] using this
  unfold checkT
  rw [h, if_pos hk]
theorem bad_miss {l : List Sto} (hm : ∀ j, j < l.length → aloneT (l.getD j dS) = 0) : checkT l = chkT l (ordS l) 0 (ordS l) (.map [], 0) := by
  have h : l.findIdx badA = l.length := by
    rw [List.findIdx_eq_length]
    intro x hx
    obtain ⟨j, hj, rfl⟩ := List.getElem_of_mem hx
    have := hm j hj
    rw [List.getD_eq_getElem?_getD, List.getElem?_eq_getElem hj] at this
    simpa [badA] using this
  unfold checkT
  rw [h, if_neg (Nat.lt_irrefl _)]
theorem wrongR_false {d : Done} {s : Sto} (h : ¬ 0 < s.til) : wrongR d s = false := by unfold wrongR; exact @decide_eq_false _ (Classical.propDecidable _) (fun h2 => h h2.1)
theorem wrongR_of {d : Done} {s : Sto} {r : Bool} (h : 0 < s.til) (hr : r = true ↔ SameR d s) : wrongR d s = !r := by
  unfold wrongR
  cases r with
  | true => exact @decide_eq_false _ (Classical.propDecidable _) (fun h2 => h2.2 (hr.1 rfl))
  | false => exact @decide_eq_true _ (Classical.propDecidable _) ⟨h, fun h2 => by have := hr.2 h2; cases this⟩

theorem does_lens {M : DataW Cel} {B q1 q2 : Int} {c : Cal} (hg : Good Tryz.prog 9 M) : (doesT M B q1 q2 c).got.length ≤ c.rds.length ∧ (doesT M B q1 q2 c).nums.length ≤ c.eds.length ∧ (doesT M B q1 q2 c).names.length ≤ size M := by
  unfold doesT
  split
  · refine ⟨?_, ?_, by simp⟩
    · show (gotsT M c.rds).length ≤ _
      unfold gotsT; rw [List.length_map]; exact Nat.le_refl _
    · exact next_len (q1 := q1) (q2 := q2) (M := M) (B := B) (l := c.eds)
  · split
    · refine ⟨by simp, by simp, ?_⟩
      show (namesT (rowsL M) c.pre).length ≤ _
      rw [← rows_length hg.canon]
      exact namesT_len _ _
    · exact ⟨by simp, by simp, by simp⟩
set_option maxRecDepth 100000 in
set_option maxHeartbeats 8000000 in
theorem model_check (l : List Sto) (v : Value) (w : World) (hv : IsStos w v l) (hl : l.length ≤ 1048576) (hk : (idxO l l.length).length ≤ 20) (hz : StosSz l) (hm : MX w) :
    Calls Tryz.prog 32 #[v] w (CheckG l w) := by
  have HV := Lib.hid hv; have HZ := Lib.hid hz; have HM := Lib.hid hm; have HK := Lib.hid hk
  obtain ⟨a, cap, rfl, hcap, hcc⟩ := hv
  have HC := Lib.hid hcc
  clear hcc hz hm hk
  have hzv := zeroVd; have hzs := zeroSto; have hzr := zeroReply
  go_enter Tryz.func32, Tryz.ntmps32
  go_upto_region 1 with fail
  refine wp_abs (F := fun W => One w.heap.size #[.bool false, .int .i64 0, .int .u8 0] W ∧ Below w.heap.size w W) ⟨One.of _ _ _, (Below.refl _ _).alloc (Nat.le_refl _) _⟩ ?_
  rintro W1 ⟨hO1, hb1⟩
  have HO1 := Lib.hid hO1; have Hb1 := Lib.hid hb1
  clear hO1 hb1
  have HEnd : Hid (∀ (W : World) (st why : Nat), Below W1.heap.size W1 W → Below w.heap.size w (((W.setCell ⟨w.heap.size, 0, none⟩ (.bool false)).setCell ⟨w.heap.size, 1, none⟩ (.int .i64 st)).setCell ⟨w.heap.size, 2, none⟩ (.int .u8 why))) := Lib.hid (fun W st why h =>
    (((Hb1.out.trans (h.mono Hb1.out.size)).setCell (by simp) _).setCell (by simp) _).setCell (by simp) _)
  go_wp2_with fail
  go_loopw [14] (fun s14 wr => ∃ k : Nat, k ≤ l.length ∧ s14 = .int .i64 k ∧ Hid (∀ j, j < k → aloneT (l.getD j dS) = 0) ∧ Hid (Below W1.heap.size W1 wr)) (fun i _ => l.length - (intOf i).toNat)
  case atStart => exact ⟨0, Nat.zero_le _, rfl, Lib.hid (fun j hj => by omega), Lib.hid (Below.refl _ _)⟩
  case round =>
    obtain ⟨k, hk, rfl, hno, hbw⟩ := hrel
    have HBr : Hid (Below w.heap.size w wr) := Lib.hid (Hb1.out.trans (hbw.out.mono Hb1.out.size))
    by_cases hlt : k < l.length
    · have hltI : (k : Int) < (l.length : Int) := by omega
      rcases HC.out with hn | ⟨b1, o1, rfl, hblt, hst⟩
      · rw [hn] at hlt; simp at hlt
      obtain ⟨f, hsi, hat⟩ := hst k hlt
      have HAT := Lib.hid (hat.below HBr.out hblt)
      have Hone := Lib.hid (five_one hsi)
      have Hx : Hid (∀ j, j < k + 1 → j = k ∨ aloneT (l.getD j dS) = 0) := Lib.hid (fun j hj => by
        by_cases e : j = k
        · exact Or.inl e
        · exact Or.inr (hno.out j (by omega)))
      have Hhit : Hid (aloneT (l.getD k dS) ≠ 0 → checkT l = ⟨false, k, aloneT (l.getD k dS)⟩) := Lib.hid (fun h => bad_hit hlt hno.out h)
      obtain ⟨x, hx⟩ : ∃ x, l.getD k dS = x := ⟨_, rfl⟩
      rw [hx] at HAT Hone Hhit
      have HX := Lib.hid hx
      clear hx hst hsi hat
      go_upto_region 4 with (first
        | (refine wpl_load_sto rfl (.tmp 17) rfl rfl HAT.out ?_)
        | (refine wpl_store_sto rfl (.tmp 4) (.tmp 18) rfl rfl rfl rfl Hone.out ?_)
        | fail)
      refine wp_abs (F := fun W => StoAt W wr.heap.size 0 f x ∧ Below wr.heap.size wr W) ⟨one_sto _ _ _, (Below.refl _ _).alloc (Nat.le_refl _) _⟩ ?_
      rintro W2 ⟨hs2, hb2⟩
      have HS2 := Lib.hid hs2; have HB2 : Hid (Below W1.heap.size W1 W2) := Lib.hid (hbw.out.trans (hb2.mono hbw.out.size))
      have HAl := Lib.hid (model_alone f x W2)
      have HAx : Hid (aloneT x < 256) := Lib.hid (by unfold aloneT; split; omega; split <;> omega)
      obtain ⟨y, hy⟩ : ∃ y, aloneT x = y := ⟨_, rfl⟩
      rw [hy] at HAl Hhit HAx
      have HY := Lib.hid hy
      clear hs2 hb2 HAT Hone hy
      go_wp2_with (first
        | (refine wpl_load_sto rfl (.tmp 4) rfl rfl HS2.out ?_)
        | fail)
      refine HAl.out.mono ?_
      rintro e w3 ⟨rfl, hb3⟩
      have HB3 : Hid (Below W1.heap.size W1 w3) := Lib.hid (HB2.out.trans (hb3.mono HB2.out.size))
      have hO3 := HO1.out.step HB3.out
      have n0 := hO3.c 0; have n1 := hO3.c 1; have n2 := hO3.c 2
      have p0 := hO3.f 0; have p1 := hO3.f 1; have p2 := hO3.f 2
      simp at n0 n1 n2
      clear hb3 HAl hO3
      by_cases hy0 : y = 0
      · have hyb : ((y : Int) != 0) = false := by simp [hy0]
        have HYz := Lib.hid hy0
        clear hy0
        go_wp2_with fail
        go_roundw
        case rel => exact ⟨k + 1, by omega, by go_num, Lib.hid (fun j hj => by
            rcases Hx.out j hj with e | e
            · subst e; rw [HX.out, HY.out, HYz.out]
            · exact e), HB3⟩
        case measure => simp [intOf]; omega
      · have hyb : ((y : Int) != 0) = true := by simp [hy0]
        have HR := Lib.hid (Hhit.out hy0)
        clear hy0
        go_wp2_with fail
        exact bodyPost_ret (v := .agg #[.bool false, .int .i64 k, .int .u8 y]) (by simp [results, Tryz.results32, go_sem, n0, n1, n2]) rfl ⟨by rw [HR.out]; rfl, HEnd.out _ _ _ HB3.out⟩
    · have hge : ¬ (k : Int) < (l.length : Int) := by omega
      have Hck : Hid (checkT l = chkT l (ordS l) 0 (ordS l) (.map [], 0)) := Lib.hid (bad_miss (fun j hj => hno.out j (by omega)))
      have HB0 : Hid (Below W1.heap.size W1 wr) := Lib.hid hbw.out
      have HOr := Lib.hid (model_order l _ wr (HV.out.below HBr.out (Nat.le_refl _)) hl HK.out)
      clear hno hbw
      go_wp2_with fail
      refine HOr.out.mono ?_
      rintro e w3 ⟨vo, rfl, hio, _, hb3⟩
      have HB3 : Hid (Below W1.heap.size W1 w3) := Lib.hid (HB0.out.trans (hb3.mono HB0.out.size))
      have HIO := Lib.hid hio
      have HWo := Lib.hid (model_without w3)
      clear hb3 HOr
      go_wp2_with fail
      refine HWo.out.mono ?_
      rintro e w4 ⟨rfl, hb4⟩
      have HB4 : Hid (Below W1.heap.size W1 w4) := Lib.hid (HB3.out.trans (hb4.mono HB3.out.size))
      have HIO4 := Lib.hid (HIO.out.below hb4 (Nat.le_refl _))
      have HNe := Lib.hid (tab_new QQ QQ w4)
      clear hb4 HWo HIO
      go_wp2_with fail
      refine HNe.out.mono ?_
      rintro e w5 ⟨t, b, rfl, ht, hb, hT, hb5⟩
      have HB5 : Hid (Below W1.heap.size W1 w5) := Lib.hid (HB4.out.trans (hb5.mono HB4.out.size))
      have HIO5 := Lib.hid (HIO4.out.below hb5 (Nat.le_refl _))
      have HIlt : Hid (∀ k, vo.ownBlock = some k → (ordS l ≠ [] → k < w4.heap.size)) := Lib.hid (fun k hk hne => by
        obtain ⟨a', c', hv', _, hoo⟩ := HIO4.out
        rcases hoo with h0 | ⟨ob, oo, ha, hlt', _⟩
        · exact absurd h0 hne
        · rw [hv', ha] at hk; cases hk; exact hlt')
      have Ht : Hid (W1.heap.size ≤ t ∧ W1.heap.size ≤ b) := Lib.hid (by have := HB4.out.size; omega)
      have Ht4 : Hid (w4.heap.size ≤ t ∧ w4.heap.size ≤ b) := Lib.hid ⟨ht, hb⟩
      have HT := Lib.hid hT
      obtain ⟨ao, co, rfl, hoc, _⟩ := hio
      have hol : (ordS l).length ≤ 1048576 := Nat.le_trans (ordL_le _ _) hl
      have HLen : Hid ((ordS l).length ≤ 20) := Lib.hid (by unfold ordS; rw [ordL_length]; exact HK.out)
      clear hb5 ht hb hT HNe HIO4
      go_wp2_with fail
      go_loopw [33] (fun s33 wx => ∃ (k : Nat) (M : DataW Cel), k ≤ (ordS l).length ∧ s33 = .int .i64 k ∧ Hid (TabAt wx t b QQ QQ M (bytesR (rowsL M))) ∧ Hid (Good Tryz.prog 9 M) ∧ Hid (checkT l = chkT l (ordS l) k ((ordS l).drop k) (M, (bytesR (rowsL M) : Int))) ∧ Hid (size M ≤ k * 1024) ∧ Hid (ButS (fun k => k = t ∨ k = b) w5 wx)) (fun i _ => (ordS l).length - (intOf i).toNat)
      case atStart => exact ⟨0, .map [], Nat.zero_le _, rfl, Lib.hid (by rw [rowsL_nil]; exact HT.out), Lib.hid (good_none _ _), Lib.hid (by rw [rowsL_nil]; exact Hck.out), Lib.hid (by simp [size]), Lib.hid (ButS.of (Below.refl _ _))⟩
      case round =>
        clear HBr
        obtain ⟨k, M, hk2, rfl, hT, hG, hrun, hsz, hbw⟩ := hrel
        have HB6 : Hid (Below W1.heap.size W1 wr) := Lib.hid (HB5.out.trans (hbw.out.below (by rintro k (rfl | rfl); exact Ht.out.1; exact Ht.out.2) HB5.out.size))
        have HBr : Hid (Below w.heap.size w wr) := Lib.hid (Hb1.out.trans (HB6.out.mono Hb1.out.size))
        have hsM : size M ≤ 1048576 := by have := hsz.out; have := HLen.out; omega
        have hby := good_bytes hG.out
        by_cases hlt : k < (ordS l).length
        · have hltI : (k : Int) < ((ordS l).length : Int) := by omega
          have hone : ordS l ≠ [] := fun h => by rw [h] at hlt; simp at hlt
          have hio := HIO5.out.but hbw.out (fun kk hkk h => by have := HIlt.out kk hkk hone; have := Ht4.out; omega)
          have HIOr := Lib.hid hio
          obtain ⟨ao', co', hvo, _, hoo⟩ := hio
          injection hvo with e1 _ e3
          subst e1; subst e3
          rcases hoo with h0 | ⟨ob, oo, rfl, hoblt, hoc2⟩
          · exact absurd h0 hone
          have hck := hoc2 k hlt
          have him : (ordS l).getD k 0 ∈ ordS l := by rw [List.getD_eq_getElem?_getD, List.getElem?_eq_getElem hlt]; exact List.getElem_mem hlt
          have hil := (mem_ordL.1 him).1
          have Hdr : Hid ((ordS l).drop k = (ordS l).getD k 0 :: (ordS l).drop (k + 1)) := Lib.hid (by rw [List.drop_eq_getElem_cons hlt, List.getD_eq_getElem?_getD, List.getElem?_eq_getElem hlt]; rfl)
          obtain ⟨i, hi⟩ : ∃ i, (ordS l).getD k 0 = i := ⟨_, rfl⟩
          rw [hi] at hck hil Hdr
          rcases HC.out with hn | ⟨b1, o1, rfl, hblt, hst⟩
          · rw [hn] at hil; simp at hil
          obtain ⟨f, hsi, hat⟩ := hst i hil
          have HAT := Lib.hid (hat.below HBr.out hblt)
          have HAT0 := Lib.hid hat
          have Hblt := Lib.hid hblt
          have HSI := Lib.hid hsi
          have hsz1 := HZ.out i hil
          have HSZ := Lib.hid hsz1
          have HLa := Lib.hid (model_late l (.slice (some ⟨b1, o1, none⟩) l.length cap) (.slice (some ⟨ob, oo, none⟩) (ordS l).length co) (ordS l) k wr (HV.out.below HBr.out (Nat.le_refl _)) HIOr.out hl hol hlt (fun j hj => (mem_ordL.1 hj).1))
          have hel := hsz1.e
          have HGd := Lib.hid (does_good (q1 := QQ) (q2 := QQ) (c := (l.getD i dS).call) hG.out)
          have HRn : Hid (checkT l = if lateT l (ordS l) k then ⟨false, i, 1⟩ else if (doesT M (bytesR (rowsL M)) QQ QQ (l.getD i dS).call).is = false then ⟨false, i, 3⟩ else if wrongR (doesT M (bytesR (rowsL M)) QQ QQ (l.getD i dS).call) (l.getD i dS) then ⟨false, i, 4⟩ else chkT l (ordS l) (k + 1) ((ordS l).drop (k + 1)) ((doesT M (bytesR (rowsL M)) QQ QQ (l.getD i dS).call).M, (doesT M (bytesR (rowsL M)) QQ QQ (l.getD i dS).call).B)) := Lib.hid (by rw [hrun.out, Hdr.out]; rfl)
          have hiI : (i : Int) < (l.length : Int) := by omega
          obtain ⟨x, hx⟩ : ∃ x, l.getD i dS = x := ⟨_, rfl⟩
          rw [hx] at HAT HAT0 HSI HSZ HGd HRn hel
          obtain ⟨lt0, hlt0⟩ : ∃ z, lateT l (ordS l) k = z := ⟨_, rfl⟩
          rw [hlt0] at HLa HRn
          clear hi him hoc2 hone hst hsi hat hsz1 Hdr hx hlt0
          go_wp2_with fail
          refine HLa.out.mono ?_
          rintro e w6 ⟨rfl, hb6⟩
          have HB9 : Hid (Below W1.heap.size W1 w6) := Lib.hid (HB6.out.trans (hb6.mono HB6.out.size))
          cases lt0 with
          | true =>
            have HR : Hid (checkT l = ⟨false, i, 1⟩) := Lib.hid (by rw [HRn.out, if_pos rfl])
            clear HRn hb6
            have hO9 := HO1.out.step HB9.out
            have n0 := hO9.c 0; have n1 := hO9.c 1; have n2 := hO9.c 2
            have p0 := hO9.f 0; have p1 := hO9.f 1; have p2 := hO9.f 2
            simp at n0 n1 n2
            clear hO9
            go_wp2_with fail
            exact bodyPost_ret (v := .agg #[.bool false, .int .i64 i, .int .u8 1]) (by simp [results, Tryz.results32, go_sem, n0, n1, n2]) rfl ⟨by rw [HR.out]; rfl, HEnd.out _ _ _ HB9.out⟩
          | false =>
            have HRn2 : Hid (checkT l = if (doesT M (bytesR (rowsL M)) QQ QQ x.call).is = false then ⟨false, i, 3⟩ else if wrongR (doesT M (bytesR (rowsL M)) QQ QQ x.call) x then ⟨false, i, 4⟩ else chkT l (ordS l) (k + 1) ((ordS l).drop (k + 1)) ((doesT M (bytesR (rowsL M)) QQ QQ x.call).M, (doesT M (bytesR (rowsL M)) QQ QQ x.call).B)) := Lib.hid (by rw [HRn.out]; simp)
            have HT6 := Lib.hid (hT.out.below hb6)
            have HBw6 : Hid (Below w.heap.size w w6) := Lib.hid (HBr.out.trans (hb6.mono HBr.out.size))
            have HAT6 := Lib.hid (HAT.out.below hb6 (by have := HBr.out.size; omega))
            have HBU6 : Hid (ButS (fun k => k = t ∨ k = b) w5 w6) := Lib.hid (hbw.out.trans (ButS.of hb6))
            have HCal := Lib.hid HAT6.out.cal
            have HDo := Lib.hid (model_does w w6 f.r f.e x.call HBw6.out HSI.out.c (by have := Hb1.out.size; have := Ht.out.1; omega) (by have := Hb1.out.size; have := Ht.out.2; omega) HT6.out hG.out HM.out HSZ.out.c (by omega) (by omega) (by omega))
            obtain ⟨d, hd⟩ : ∃ d, doesT M (bytesR (rowsL M)) QQ QQ x.call = d := ⟨_, rfl⟩
            have HLn := Lib.hid (does_lens (B := (bytesR (rowsL M) : Int)) (q1 := QQ) (q2 := QQ) (c := x.call) hG.out)
            rw [hd] at HDo HGd HRn2 HLn
            have hrl := HSZ.out.c.r
            clear hd HRn hb6 hbw hT HAT HT6
            go_wp2_with (first
              | (refine wpl_load_cal rfl (.tmp 49) rfl rfl HCal.out ?_)
              | fail)
            refine HDo.out.mono ?_
            rintro e w7 ⟨vG, vN, vM, rfl, hG7, hN7, hM7, hT7, hB7⟩
            obtain ⟨dg, dn, dm, di, dM, dB⟩ := d
            dsimp only at hG7 hN7 hM7 hT7 HGd HRn2 HLn
            have HB7 : Hid (Below W1.heap.size W1 w7) := Lib.hid (HB9.out.trans (hB7.below (by rintro k (rfl | rfl); exact Ht.out.1; exact Ht.out.2) HB9.out.size))
            have HBw7 : Hid (Below w.heap.size w w7) := Lib.hid (Hb1.out.trans (HB7.out.mono Hb1.out.size))
            have HG7 := Lib.hid hG7; have HN7 := Lib.hid hN7; have HM7 := Lib.hid hM7; have HT7 := Lib.hid hT7; have HBU7 := Lib.hid (HBU6.out.trans hB7)
            obtain ⟨aG, cG, rfl, _⟩ := hG7
            obtain ⟨aN, cN, rfl, _⟩ := hN7
            obtain ⟨aM, cM, rfl, _⟩ := hM7
            clear hT7 hB7 HDo HCal HAT6 HBU6 hby hck
            go_upto_region 15 with fail
            refine wp_abs (F := fun W => One w7.heap.size #[.slice aG dg.length cG, .slice aN dn.length cN, .slice aM dm.length cM] W ∧ Below w7.heap.size w7 W) ⟨One.of _ _ _, (Below.refl _ _).alloc (Nat.le_refl _) _⟩ ?_
            rintro W8 ⟨hO8, hb8⟩
            have HO8 := Lib.hid hO8
            have HB8 : Hid (Below W1.heap.size W1 W8) := Lib.hid (HB7.out.trans (hb8.mono HB7.out.size))
            have HBU8 : Hid (ButS (fun k => k = t ∨ k = b) w5 W8) := Lib.hid (HBU7.out.trans (ButS.of hb8))
            have HT8 : Hid (TabAt W8 t b QQ QQ dM (bytesR (rowsL dM))) := Lib.hid (by rw [← HGd.out.2.1]; exact HT7.out.below hb8)
            have HGd9 := Lib.hid HGd.out.1
            have Hs9 : Hid (size dM ≤ (k + 1) * 1024) := Lib.hid (by have := HGd.out.2.2; have := hsz.out; omega)
            have HG8 := Lib.hid (HG7.out.below hb8 (Nat.le_refl _)); have HN8 := Lib.hid (HN7.out.below hb8 (Nat.le_refl _)); have HM8 := Lib.hid (HM7.out.below hb8 (Nat.le_refl _))
            have HBw8 : Hid (Below w.heap.size w W8) := Lib.hid (HBw7.out.trans (hb8.mono HBw7.out.size))
            clear hO8 hb8 HG7 HN7 HM7 HT7 HBU7
            cases di with
            | false =>
              have HR : Hid (checkT l = ⟨false, i, 3⟩) := Lib.hid (by rw [HRn2.out, if_pos rfl])
              have HB9 := HB8
              clear HRn2
              have hO9 := HO1.out.step HB9.out
              have n0 := hO9.c 0; have n1 := hO9.c 1; have n2 := hO9.c 2
              have p0 := hO9.f 0; have p1 := hO9.f 1; have p2 := hO9.f 2
              simp at n0 n1 n2
              clear hO9
              go_wp2_with fail
              exact bodyPost_ret (v := .agg #[.bool false, .int .i64 i, .int .u8 3]) (by simp [results, Tryz.results32, go_sem, n0, n1, n2]) rfl ⟨by rw [HR.out]; rfl, HEnd.out _ _ _ HB9.out⟩
            | true =>
              have HRn3 : Hid (checkT l = if wrongR ⟨dg, dn, dm, true, dM, dB⟩ x then ⟨false, i, 4⟩ else chkT l (ordS l) (k + 1) ((ordS l).drop (k + 1)) (dM, dB)) := Lib.hid (by rw [HRn2.out]; simp)
              have hdB : dB = (bytesR (rowsL dM) : Int) := HGd.out.2.1
              rw [hdB] at HRn3
              clear HRn2 hdB
              have hat8 := (HAT0.out.below HBw8.out Hblt.out).all
              obtain ⟨_, _, _, _, _, _, _, _, _, g9, _, _, _, _, _, g15, g16, g17⟩ := hat8
              by_cases htl : 0 < x.til
              · have htlb : decide (x.til > 0) = true := decide_eq_true htl
                have Htl := Lib.hid htl
                have e0 := HO8.out.c 0; have e1 := HO8.out.c 1; have e2 := HO8.out.c 2
                simp at e0 e1 e2
                have HKp : Hid (∀ W : World, Below W8.heap.size W8 W → (W.cell? ⟨b1, o1 + i * 18 + 9, none⟩ = some (.int .i64 x.til) ∧ W.cell? ⟨b1, o1 + i * 18 + 15, none⟩ = some f.g ∧ W.cell? ⟨b1, o1 + i * 18 + 16, none⟩ = some f.n ∧ W.cell? ⟨b1, o1 + i * 18 + 17, none⟩ = some f.m ∧ W.cell? ⟨w7.heap.size, 0, none⟩ = some (.slice aG dg.length cG) ∧ W.cell? ⟨w7.heap.size, 1, none⟩ = some (.slice aN dn.length cN) ∧ W.cell? ⟨w7.heap.size, 2, none⟩ = some (.slice aM dm.length cM) ∧ Hid (Below W8.heap.size W8 W))) := Lib.hid (fun W hW =>
                  ⟨(hW.cell (p := ⟨b1, _, none⟩) (cell_lt g9)).trans g9, (hW.cell (p := ⟨b1, _, none⟩) (cell_lt g9)).trans g15, (hW.cell (p := ⟨b1, _, none⟩) (cell_lt g9)).trans g16, (hW.cell (p := ⟨b1, _, none⟩) (cell_lt g9)).trans g17,
                   (hW.cell (p := ⟨w7.heap.size, 0, none⟩) HO8.out.lt).trans e0, (hW.cell (p := ⟨w7.heap.size, 1, none⟩) HO8.out.lt).trans e1, (hW.cell (p := ⟨w7.heap.size, 2, none⟩) HO8.out.lt).trans e2, Lib.hid hW⟩)
                have HSm := Lib.hid (fun (W : World) (hW : Below W8.heap.size W8 W) => model_same dg x.got dn x.nums dm x.names (.slice aG dg.length cG) f.g (.slice aN dn.length cN) f.n (.slice aM dm.length cM) f.m W (HG8.out.below hW (Nat.le_refl _)) ((HSI.out.g.below HBw8.out (Nat.le_refl _)).below hW (Nat.le_refl _)) (HN8.out.below hW (Nat.le_refl _)) ((HSI.out.n.below HBw8.out (Nat.le_refl _)).below hW (Nat.le_refl _)) (HM8.out.below hW (Nat.le_refl _)) ((HSI.out.m.below HBw8.out (Nat.le_refl _)).below hW (Nat.le_refl _)) (by have := HLn.out.1; omega) HSZ.out.g (by have := HLn.out.2.1; omega) HSZ.out.n (by have := HLn.out.2.2; omega) HSZ.out.m)
                clear htl
                go_wp2_with fail
                go_region_held3 (fun W : World => W.cell? ⟨b1, o1 + i * 18 + 9, none⟩ = some (.int .i64 x.til) ∧ W.cell? ⟨b1, o1 + i * 18 + 15, none⟩ = some f.g ∧ W.cell? ⟨b1, o1 + i * 18 + 16, none⟩ = some f.n ∧ W.cell? ⟨b1, o1 + i * 18 + 17, none⟩ = some f.m ∧ W.cell? ⟨w7.heap.size, 0, none⟩ = some (.slice aG dg.length cG) ∧ W.cell? ⟨w7.heap.size, 1, none⟩ = some (.slice aN dn.length cN) ∧ W.cell? ⟨w7.heap.size, 2, none⟩ = some (.slice aM dm.length cM) ∧ Hid (Below W8.heap.size W8 W)) (first | with_reducible exact HKp.out _ HBc.out | with_reducible exact HKp.out _ (Below.drew (Below.refl _ _)))
                  (first
                    | (go_at_call 68; refine (HSm.out _ (Below.drew (Below.refl _ _))).mono ?_; rintro e w9 ⟨r9, rfl, hr9, hb9⟩; have HR9 := Lib.hid hr9; have HBc : Hid (Below W8.heap.size W8 w9) := Lib.hid ((Below.drew (Below.refl _ _)).trans hb9); clear hr9 hb9))
                cases r9 with
                | true =>
                  have HNx : Hid (checkT l = chkT l (ordS l) (k + 1) ((ordS l).drop (k + 1)) (dM, (bytesR (rowsL dM) : Int))) := Lib.hid (by rw [HRn3.out, wrongR_of (d := ⟨dg, dn, dm, true, dM, bytesR (rowsL dM)⟩) (r := true) Htl.out HR9.out]; rfl)
                  have HT9 := Lib.hid (HT8.out.below HBc.out)
                  have HBU9 : Hid (ButS (fun k => k = t ∨ k = b) w5 w9) := Lib.hid (HBU8.out.trans (ButS.of HBc.out))
                  clear HRn3 g9 g15 g16 g17 e0 e1 e2
                  go_wp2_with fail
                  go_roundw
                  case rel => exact ⟨k + 1, dM, by omega, by go_num, HT9, HGd9, HNx, Hs9, HBU9⟩
                  case measure => simp [intOf]; omega
                | false =>
                  have HR : Hid (checkT l = ⟨false, i, 4⟩) := Lib.hid (by rw [HRn3.out, wrongR_of (d := ⟨dg, dn, dm, true, dM, bytesR (rowsL dM)⟩) (r := false) Htl.out HR9.out]; rfl)
                  have HB9 : Hid (Below W1.heap.size W1 w9) := Lib.hid (HB8.out.trans (HBc.out.mono HB8.out.size))
                  clear HRn3 g9 g15 g16 g17 e0 e1 e2
                  have hO9 := HO1.out.step HB9.out
                  have n0 := hO9.c 0; have n1 := hO9.c 1; have n2 := hO9.c 2
                  have p0 := hO9.f 0; have p1 := hO9.f 1; have p2 := hO9.f 2
                  simp at n0 n1 n2
                  clear hO9
                  go_wp2_with fail
                  exact bodyPost_ret (v := .agg #[.bool false, .int .i64 i, .int .u8 4]) (by simp [results, Tryz.results32, go_sem, n0, n1, n2]) rfl ⟨by rw [HR.out]; rfl, HEnd.out _ _ _ HB9.out⟩
              · have htlb : decide (x.til > 0) = false := decide_eq_false htl
                have HNx : Hid (checkT l = chkT l (ordS l) (k + 1) ((ordS l).drop (k + 1)) (dM, (bytesR (rowsL dM) : Int))) := Lib.hid (by rw [HRn3.out, wrongR_false htl]; rfl)
                clear HRn3 htl g15 g16 g17
                go_wp2_with fail
                go_quiet (fail)
                have HT9 := Lib.hid (HT8.out.below (below_dn (Below.refl _ _) nq))
                have HBU9 : Hid (ButS (fun k => k = t ∨ k = b) w5 (W8.drewN nq)) := Lib.hid (HBU8.out.trans (ButS.of (below_dn (Below.refl _ _) nq)))
                go_wp2_with fail
                go_roundw
                case rel => exact ⟨k + 1, dM, by omega, by go_num, HT9, HGd9, HNx, Hs9, HBU9⟩
                case measure => simp [intOf]; omega
        · have hge2 : ¬ (k : Int) < ((ordS l).length : Int) := by omega
          have HR : Hid (checkT l = ⟨true, 0, 0⟩) := Lib.hid (by rw [hrun.out, List.drop_eq_nil_of_le (by omega)]; rfl)
          have hO9 := HO1.out.step HB6.out
          have n0 := hO9.c 0; have n1 := hO9.c 1; have n2 := hO9.c 2
          have p0 := hO9.f 0; have p1 := hO9.f 1; have p2 := hO9.f 2
          simp at n0 n1 n2
          clear hO9 hby
          go_wp2_with fail
          exact bodyPost_ret (v := .agg #[.bool true, .int .i64 0, .int .u8 0]) (by simp [results, Tryz.results32, go_sem, n0, n1, n2]) rfl ⟨by rw [HR.out]; rfl, (((HBr.out.setCell (by simp) _).setCell (by simp) _).setCell (by simp) _)⟩
end Go.Proofs.YtfbgnpfhjbiikaaGreatDoor

namespace Go.Proofs.YtfbgnpfhjbiikaaGreatDoor
open Go Go.RowKit
open Pth
open Go.Maps (has size Canon CanonK Tidy IsMap KeysOf Keyed Merged)
theorem zeroCal (w : World) : (zeroValue 80).run Tryz.prog w = .ok (.agg #[.int .u8 0, .slice none 0 0, .slice none 0 0, .string ByteArray.empty, .int .u64 0, .int .u64 0, .int .u32 0]) w := by kernel_rfl
def putL (p t : ByteArray) : Cal := ⟨1, [], [⟨1, p, true, 0, 0, t⟩], ByteArray.empty, 0, 0, 0⟩
def getL (p : ByteArray) : Cal := ⟨1, [⟨p, 0⟩], [], ByteArray.empty, 0, 0, 0⟩
theorem but7 (W : World) (n : Nat) (a b c d e f g : Value) : ButS (fun k => k = n) W (((((((W.setCell ⟨n, 0, none⟩ a).setCell ⟨n, 1, none⟩ b).setCell ⟨n, 2, none⟩ c).setCell ⟨n, 3, none⟩ d).setCell ⟨n, 4, none⟩ e).setCell ⟨n, 5, none⟩ f).setCell ⟨n, 6, none⟩ g) :=
  have s : ∀ (W : World) (o : Nat) (v : Value), ButS (fun k => k = n) W (W.setCell ⟨n, o, none⟩ v) := fun W o v => ButS.set (S := fun k => k = n) W (p := ⟨n, o, none⟩) rfl v
  (((((((s _ _ _).trans (s _ _ _)).trans (s _ _ _)).trans (s _ _ _)).trans (s _ _ _)).trans (s _ _ _)).trans (s _ _ _))
def PutG (p t : ByteArray) (w : World) (e : Ending) (w' : World) : Prop :=
  ∃ g, e = .returned (calVal (.slice none 0 0) (.slice (some ⟨g, 0, none⟩) 1 1) (putL p t)) ∧ w.heap.size ≤ g ∧ One g #[.int .u8 1, .string p, .bool true, .int .u64 0, .int .u64 0, .string t] w' ∧ Below w.heap.size w w'
set_option maxRecDepth 100000 in
set_option maxHeartbeats 2000000 in
theorem law_put (p t : ByteArray) (w : World) : Calls Tryz.prog 36 #[.string p, .string t] w (PutG p t w) := by
  have hzc := zeroCal
  go_enter Tryz.func36, Tryz.ntmps36
  go_upto_region 1 with fail
  refine wp_abs (F := fun W => One w.heap.size #[.int .u8 0, .slice none 0 0, .slice none 0 0, .string ByteArray.empty, .int .u64 0, .int .u64 0, .int .u32 0] W ∧ Below w.heap.size w W) ⟨One.of _ _ _, (Below.refl _ _).alloc (Nat.le_refl _) _⟩ ?_
  rintro W1 ⟨hO, hb⟩
  have hO2 := hO.step ((Below.refl _ _).alloc (Nat.le_refl _) (.cells #[.int .u8 1, .string p, .bool true, .int .u64 0, .int .u64 0, .string t] 55))
  have n0 := hO2.c 0; have n1 := hO2.c 1; have n2 := hO2.c 2; have n3 := hO2.c 3; have n4 := hO2.c 4; have n5 := hO2.c 5; have n6 := hO2.c 6
  have p0 := hO2.f 0; have p1 := hO2.f 1; have p2 := hO2.f 2; have p3 := hO2.f 3; have p4 := hO2.f 4; have p5 := hO2.f 5; have p6 := hO2.f 6
  simp at n0 n1 n2 n3 n4 n5 n6
  have Hb := Lib.hid hb; have HO := Lib.hid hO
  clear hO hb hO2
  go_wp2_with fail
  exact bodyPost_ret (v := calVal (.slice none 0 0) (.slice (some ⟨W1.heap.size, 0, none⟩) 1 1) (putL p t)) (by simp [results, Tryz.results36, go_sem, calVal, putL, n0, n1, n2, n3, n4, n5, n6]) rfl
    ⟨W1.heap.size, rfl, Hb.out.size, one_but (One.of W1 _ _) (but7 _ _ _ _ _ _ _ _ _) (by show ¬ W1.heap.size = w.heap.size; have := HO.out.lt; omega), (Hb.out.alloc Hb.out.size _).trans ((but7 _ _ _ _ _ _ _ _ _).below (fun k hk => by omega) (by have := Hb.out.size; simp; omega))⟩
def GetG (p : ByteArray) (w : World) (e : Ending) (w' : World) : Prop :=
  ∃ vR, e = .returned (calVal vR (.slice none 0 0) (getL p)) ∧ IsRds w' vR (getL p).rds ∧ Below w.heap.size w w'
set_option maxRecDepth 100000 in
set_option maxHeartbeats 2000000 in
theorem law_get (p : ByteArray) (w : World) : Calls Tryz.prog 37 #[.string p] w (GetG p w) := by
  have hzc := zeroCal
  go_enter Tryz.func37, Tryz.ntmps37
  go_upto_region 1 with fail
  refine wp_abs (F := fun W => One w.heap.size #[.int .u8 0, .slice none 0 0, .slice none 0 0, .string ByteArray.empty, .int .u64 0, .int .u64 0, .int .u32 0] W ∧ Below w.heap.size w W) ⟨One.of _ _ _, (Below.refl _ _).alloc (Nat.le_refl _) _⟩ ?_
  rintro W1 ⟨hO, hb⟩
  have hO2 := hO.step ((Below.refl _ _).alloc (Nat.le_refl _) (.cells #[.string p, .int .u64 0] 133))
  have n0 := hO2.c 0; have n1 := hO2.c 1; have n2 := hO2.c 2; have n3 := hO2.c 3; have n4 := hO2.c 4; have n5 := hO2.c 5; have n6 := hO2.c 6
  have p0 := hO2.f 0; have p1 := hO2.f 1; have p2 := hO2.f 2; have p3 := hO2.f 3; have p4 := hO2.f 4; have p5 := hO2.f 5; have p6 := hO2.f 6
  simp at n0 n1 n2 n3 n4 n5 n6
  have Hb := Lib.hid hb; have HO := Lib.hid hO
  clear hO hb hO2
  go_wp2_with fail
  refine bodyPost_ret (v := calVal (.slice (some ⟨W1.heap.size, 0, none⟩) 1 1) (.slice none 0 0) (getL p)) (by simp [results, Tryz.results37, go_sem, calVal, getL, n0, n1, n2, n3, n4, n5, n6]) rfl
    ⟨_, rfl, ⟨_, 1, rfl, Or.inr ⟨W1.heap.size, 0, rfl, ?_, fun i hi => ?_⟩⟩, (Hb.out.alloc Hb.out.size _).trans ((but7 _ _ _ _ _ _ _ _ _).below (fun k hk => by omega) (by have := Hb.out.size; simp; omega))⟩
  · have := (but7 (W1.alloc (.cells #[.string p, .int .u64 0] 133)) w.heap.size (.int .u8 1) (.slice (some ⟨W1.heap.size, 0, none⟩) 1 1) (.slice none 0 0) (.string ByteArray.empty) (.int .u64 0) (.int .u64 0) (.int .u32 0)).size
    simp at this ⊢
  · obtain rfl : i = 0 := by simpa [getL] using hi
    have hO3 := one_but (One.of W1 #[.string p, .int .u64 0] 133) (but7 _ w.heap.size (.int .u8 1) (.slice (some ⟨W1.heap.size, 0, none⟩) 1 1) (.slice none 0 0) (.string ByteArray.empty) (.int .u64 0) (.int .u64 0) (.int .u32 0)) (by show ¬ W1.heap.size = w.heap.size; have := HO.out.lt; omega)
    exact ⟨hO3.c 0, hO3.c 1⟩
end Go.Proofs.YtfbgnpfhjbiikaaGreatDoor

namespace Go.Proofs.YtfbgnpfhjbiikaaGreatDoor
open Go Go.RowKit
open Pth
open Go.Maps (has size Canon CanonK Tidy IsMap KeysOf Keyed Merged)
set_option maxRecDepth 100000 in
theorem ref31_table (w : World) : Calls Tryz.prog 62 #[] w fun e w' => ∃ t, e = .returned (.pointer (some ⟨t, 0, none⟩)) ∧ w.heap.size ≤ t ∧ RefAt w' t QQ QQ [] ∧ Below w.heap.size w w' := by
  go_enter Tryz.func62, Tryz.ntmps62
  go_wp2_with fail
  have hO := One.of w #[.int .i64 QQ, .int .i64 QQ, .slice none 0 0] 37
  refine bodyPost_ret (v := .pointer (some ⟨w.heap.size, 0, none⟩)) (by simp [results, Tryz.results62, go_sem]) rfl ⟨w.heap.size, rfl, Nat.le_refl _, ⟨hO.c 0, hO.c 1, ⟨none, 0, hO.c 2, ⟨none, 0, rfl, Or.inl rfl⟩, Nat.le_refl _⟩, fun j => by rw [hO.c]; simp, hO.f 2⟩, (Below.refl _ _).alloc (Nat.le_refl _) _⟩

def RDoesG (d : Done) (t : Nat) (w : World) (e : Ending) (w' : World) : Prop :=
  ∃ vG vN vM, e = .returned (.tuple #[.agg #[vG, vN, vM], .bool d.is]) ∧ IsGots w' vG d.got ∧ IsNums w' vN d.nums ∧ IsStrs w' vM d.names ∧ RefAt w' t QQ QQ (rowsL d.M) ∧ ButS (fun k => k = t) w w' ∧ ∀ k, (vG.ownBlock = some k ∨ vN.ownBlock = some k ∨ vM.ownBlock = some k) → w.heap.size ≤ k
set_option maxRecDepth 100000 in
set_option maxHeartbeats 40000000 in
theorem ref31_does (M : DataW Cel) (t : Nat) (vR vE : Value) (c : Cal) (w : World) (h : RefAt w t QQ QQ (rowsL M)) (hg : Good Tryz.prog 9 M) (hc : CalIs w vR vE c) (hz : CalSz c) (hel : c.eds.length ≤ 500000) (hRl : (rowsL M).length ≤ 500000) :
    Calls Tryz.prog 63 #[.pointer (some ⟨t, 0, none⟩), calVal vR vE c] w (RDoesG (doesT M (bytesR (rowsL M)) QQ QQ c) t w) := by
  have HT := Lib.hid h; have HG := Lib.hid hg; have HC := Lib.hid hc; have HZ := Lib.hid hz
  obtain ⟨d, hd⟩ : ∃ d, d = doesT M (bytesR (rowsL M)) QQ QQ c := ⟨_, rfl⟩
  rw [← hd]
  have HD := Lib.hid hd
  clear hd h hg hc hz
  unfold calVal
  go_enter Tryz.func63, Tryz.ntmps63
  go_upto_region 2 with fail
  refine wp_abs (F := fun W => One w.heap.size #[.int .u8 c.kind, vR, vE, .string c.pre, .int .u64 c.f, .int .u64 c.t, .int .u32 c.dst] W ∧ One (w.heap.size + 1) #[.slice none 0 0, .slice none 0 0, .slice none 0 0] W ∧ One (w.heap.size + 1 + 1) #[.slice none 0 0, .slice none 0 0, .slice none 0 0] W ∧ Below w.heap.size w W) ⟨?_, ?_, ?_, ?_⟩ ?_
  · exact (One.of w _ _).step (((Below.refl _ _).alloc (Nat.le_refl _) _).alloc (by simp) _)
  · have h1 := One.of (w.alloc (.cells #[.int .u8 c.kind, vR, vE, .string c.pre, .int .u64 c.f, .int .u64 c.t, .int .u32 c.dst] 80)) #[.slice none 0 0, .slice none 0 0, .slice none 0 0] 85
    rw [show (w.alloc (.cells #[.int .u8 c.kind, vR, vE, .string c.pre, .int .u64 c.f, .int .u64 c.t, .int .u32 c.dst] 80)).heap.size = w.heap.size + 1 by simp] at h1
    exact h1.step ((Below.refl _ _).alloc (Nat.le_refl _) _)
  · have h1 := One.of ((w.alloc (.cells #[.int .u8 c.kind, vR, vE, .string c.pre, .int .u64 c.f, .int .u64 c.t, .int .u32 c.dst] 80)).alloc (.cells #[.slice none 0 0, .slice none 0 0, .slice none 0 0] 85)) #[.slice none 0 0, .slice none 0 0, .slice none 0 0] 85
    rw [show ((w.alloc (.cells #[.int .u8 c.kind, vR, vE, .string c.pre, .int .u64 c.f, .int .u64 c.t, .int .u32 c.dst] 80)).alloc (.cells #[.slice none 0 0, .slice none 0 0, .slice none 0 0] 85)).heap.size = w.heap.size + 1 + 1 by simp] at h1
    exact h1
  · exact (((Below.refl _ _).alloc (Nat.le_refl _) _).alloc (by simp) _).alloc (by simp; omega) _
  rintro W1 ⟨hC1, hA1, hR1, hb1⟩
  obtain ⟨n, hn⟩ : ∃ n, w.heap.size = n := ⟨_, rfl⟩
  have HN := Lib.hid hn
  have HC1 := Lib.hid hC1; have HA1 := Lib.hid hA1; have HR1 := Lib.hid hR1; have HB1 := Lib.hid hb1
  rw [hn] at HC1 HA1 HR1 ⊢
  clear hC1 hA1 hR1 hb1 hn
  have HT1 := Lib.hid (HT.out.below HB1.out)
  have n0 := HC1.out.c 0; have n3 := HC1.out.c 3
  simp at n0 n3
  by_cases hk2 : c.kind = 2
  · have hk2I : (c.kind : Int) = 2 := by omega
    rw [hk2I] at n0
    have HL := Lib.hid (ref18_listF (rowsL M) t QQ QQ c.pre W1 HT1.out (Good.okR HG.out) hRl HZ.out.p)
    go_wp2_with fail
    refine HL.out.mono ?_
    rintro e w2 ⟨vM, Z, rfl, hZ, hins, hb2, hfr⟩
    have HFR : Hid (∀ k, vM.ownBlock = some k → w.heap.size ≤ k) := Lib.hid (fun k hk => Nat.le_trans HB1.out.size (hfr k hk))
    have hZe : Z = namesT (rowsL M) c.pre := ins_eq hins (fun s => Iff.rfl)
    subst hZe
    have HS2 := Lib.hid hZ; have HB2 := Lib.hid hb2
    have hR2 := HR1.out.step hb2
    have hA2 := HA1.out.step hb2
    have hC2 := HC1.out.step hb2
    have r2 := hR2.c 2; have f2 := hR2.f 2; have r0 := hR2.c 0; have r1 := hR2.c 1
    have a0 := hA2.c 0; have a1 := hA2.c 1; have a2 := hA2.c 2; have af0 := hA2.f 0; have af1 := hA2.f 1; have af2 := hA2.f 2
    have m0 := hC2.c 0
    simp at r2 r0 r1 a0 a1 a2 m0
    rw [hk2I] at m0
    have HR2 := Lib.hid hR2; have HA2 := Lib.hid hA2
    clear hZ hb2 hR2 hA2 hC2 hins HL n0 n3 hfr
    obtain ⟨aM, cM, rfl, hM⟩ := HS2.out
    clear hM
    go_wp2_with fail
    have hB2 : Below w.heap.size w w2 := HB1.out.trans (HB2.out.mono HB1.out.size)
    have hn := HN.out
    have hBf : Below w.heap.size w ((((w2.setCell ⟨n + 1 + 1, 2, none⟩ (.slice aM (namesT (rowsL M) c.pre).length cM)).setCell ⟨n + 1, 0, none⟩ (.slice none 0 0)).setCell ⟨n + 1, 1, none⟩ (.slice none 0 0)).setCell ⟨n + 1, 2, none⟩ (.slice aM (namesT (rowsL M) c.pre).length cM)) :=
      (((hB2.setCell (by show w.heap.size ≤ n + 1 + 1; omega) _).setCell (by show w.heap.size ≤ n + 1; omega) _).setCell (by show w.heap.size ≤ n + 1; omega) _).setCell (by show w.heap.size ≤ n + 1; omega) _
    have s : ∀ (W : World) (m o : Nat) (v : Value), (m = n + 1 ∨ m = n + 1 + 1) → ButS (fun k => k = n + 1 ∨ k = n + 1 + 1) W (W.setCell ⟨m, o, none⟩ v) := fun W m o v hm => ButS.set (S := fun k => k = n + 1 ∨ k = n + 1 + 1) W (p := ⟨m, o, none⟩) hm v
    have hdd : d = ⟨[], [], namesT (rowsL M) c.pre, true, M, bytesR (rowsL M)⟩ := by
      rw [HD.out]; unfold doesT; rw [if_neg (by omega), if_pos hk2]
    rw [hdd]
    refine bodyPost_ret (v := .tuple #[.agg #[.slice none 0 0, .slice none 0 0, .slice aM (namesT (rowsL M) c.pre).length cM], .bool true]) (by simp [results, Tryz.results63, go_sem, a0, a1, a2]) rfl ⟨_, _, _, rfl, IsGots.nil _, ⟨none, 0, rfl, Or.inl rfl⟩, ?_, HT.out.below hBf, ButS.of hBf, fun k hk => by
      rcases hk with hk | hk | hk
      · cases hk
      · cases hk
      · exact HFR.out k hk⟩
    refine isStrs_new HS2.out ((((s w2 (n + 1 + 1) 2 _ (Or.inr rfl)).trans (s _ (n + 1) 0 _ (Or.inl rfl))).trans (s _ (n + 1) 1 _ (Or.inl rfl))).trans (s _ (n + 1) 2 _ (Or.inl rfl))) (fun k hk => ?_)
    rcases hk with rfl | rfl
    · exact (one_bare HA2.out (fun v hv => by simp at hv; rcases hv with rfl | rfl | rfl <;> exact ⟨(fun n h => (by cases h)), (fun n h => (by cases h))⟩)).noStr
    · exact (one_bare HR2.out (fun v hv => by simp at hv; rcases hv with rfl | rfl | rfl <;> exact ⟨(fun n h => (by cases h)), (fun n h => (by cases h))⟩)).noStr
  · have hk2I : ¬ (c.kind : Int) = 2 := by omega
    by_cases hk1 : c.kind = 1
    · have hk1I : (c.kind : Int) = 1 := by omega
      rw [hk1I] at n0
      have HK1 := Lib.hid hk1
      clear hk1I hk2I hk1 hk2
      go_wp2_with fail
      obtain ⟨i0, hi, hz0, hz1, hz2⟩ := info_parts infoGot
      have hzv := zeroVerL
      have kx1 := HC1.out.c 1
      simp at kx1
      obtain ⟨aR, cR, hvR, hrc⟩ := HC.out.r
      subst hvR
      have HRC := Lib.hid hrc
      clear hrc n0 n3
      go_loopw [7, 8, 9] (fun s7 _ _ wr => ∃ (k : Nat) (s : Value), k ≤ c.rds.length ∧ s7 = .int .i64 k ∧ Hid (One (n + 1 + 1) #[s, .slice none 0 0, .slice none 0 0] wr) ∧ Hid (wr.ownsRow W1.heap.size 97 4 s k (gotFlat (gotsT M (c.rds.take k)))) ∧ Hid (ButS (fun k => k = n + 1 + 1) W1 wr)) (fun i _ _ _ => c.rds.length - (intOf i).toNat)
      case atStart => exact ⟨0, _, Nat.zero_le _, rfl, HR1, Lib.hid (World.ownsRow_nil _ _ _ _), Lib.hid (ButS.of (Below.refl _ _))⟩
      case round =>
        obtain ⟨k, s, hk, rfl, hR, hrow, hbw⟩ := hrel
        obtain ⟨a5, c5, rfl⟩ := ownShape hrow.out
        have hn := HN.out
        have hCr : One n #[.int .u8 c.kind, .slice aR c.rds.length cR, vE, .string c.pre, .int .u64 c.f, .int .u64 c.t, .int .u32 c.dst] wr := one_but HC1.out hbw.out (by show ¬ n = n + 1 + 1; omega)
        have HCr := Lib.hid hCr
        have kx := hCr.c 1
        simp at kx
        have HBwr : Hid (Below w.heap.size w wr) := Lib.hid (HB1.out.trans (hbw.out.below (fun k hk => by omega) HB1.out.size))
        have HTr : Hid (RefAt wr t QQ QQ (rowsL M)) := Lib.hid (HT.out.below HBwr.out)
        clear hCr
        by_cases hlt : k < c.rds.length
        · have hltI : (k : Int) < (c.rds.length : Int) := by omega
          rcases HRC.out with h0 | ⟨b1, o1, rfl, hb1, hc1⟩
          · rw [h0] at hlt; simp at hlt
          obtain ⟨g0, g1⟩ := hc1 k hlt
          have e0 := (HBwr.out.cell (p := ⟨b1, o1 + k * 2, none⟩) hb1).trans g0
          have e1 := (HBwr.out.cell (p := ⟨b1, o1 + k * 2 + 1, none⟩) hb1).trans g1
          have HLb : Hid (b1 < wr.heap.size) := Lib.hid (by have := HBwr.out.size; omega)
          have hTk := gotsT_take (M := M) hlt
          have hps := HZ.out.rs k hlt
          obtain ⟨x, hx⟩ : ∃ x, c.rds.getD k dRd = x := ⟨_, rfl⟩
          rw [hx] at e0 e1 hTk hps
          obtain ⟨p, m⟩ := x
          dsimp only at e0 e1 hTk hps
          have HTk := Lib.hid hTk
          have HRd := Lib.hid (fun (W : World) (hW : Below wr.heap.size wr W) => ref18_read (rowsL M) t QQ QQ p m W (HTr.out.below hW) (Good.okR HG.out) hRl hps)
          rw [read_rows HG.out.canon p m] at HRd
          obtain ⟨rr, hrr⟩ : ∃ rr, readT M p m = rr := ⟨_, rfl⟩
          rw [hrr] at HRd HTk
          obtain ⟨⟨vn, vst, vtx⟩, er⟩ := rr
          unfold verVal at HRd
          dsimp only at HRd HTk
          clear hrr hx hTk g0 g1 hc1 hb1 hn
          go_upto_region 9 with fail
          -- REGION9
          have HS0 : Hid (Below wr.heap.size wr wr.drew) := Lib.hid (Below.drew (Below.refl _ _))
          generalize hX0 : wr.drew = X0 at HS0
          refine wp_region_held_drew (S := fun w' => Hid (Below wr.heap.size wr w')) (by kernel_rfl) (by rw [hX0]; exact HS0) (fun hS => ?_)
          rw [hX0] at hS ⊢
          refine wpAnyH_take (i := 0) (oi := { dst := some 34, op := Op.move (Operand.tmp 0), type := 35, pos := "ref.go:43", after := #[], guard := none }) (v := .pointer (some ⟨t, 0, none⟩)) rfl (by kernel_rfl) (by kernel_rfl) (by kernel_rfl) (fun _ _ _ h => h) (Or.inl ⟨by rfl, fun w' hw => ?_⟩) hS ?_
          · go_simp
          try simp only [Act.put, List.setIfInBounds_toArray, List.set_cons_zero, List.set_cons_succ]
          refine wpAnyH_take (i := 1) (oi := { dst := some 35, op := Op.fieldAddr 80 (Operand.tmp 3) 1, type := 0, pos := "ref.go:43", after := #[], guard := none }) (v := .pointer (some ⟨n, 1, none⟩)) rfl (by kernel_rfl) (by kernel_rfl) (by kernel_rfl) (fun _ _ _ h => h) (Or.inl ⟨by rfl, fun w' hw => ?_⟩) hS ?_
          · go_simp
          try simp only [Act.put, List.setIfInBounds_toArray, List.set_cons_zero, List.set_cons_succ]
          refine wpAnyH_take (i := 2) (oi := { dst := some 36, op := Op.load 75 (Operand.tmp 35), type := 75, pos := "ref.go:43", after := #[{ on := 1, ground := Ground.data }], guard := none }) (v := .slice (some ⟨b1, o1, none⟩) c.rds.length cR) rfl (by kernel_rfl) (by kernel_rfl) (by kernel_rfl) (fun _ _ _ h => h) (Or.inl ⟨by rfl, fun w' hw => ?_⟩) hS ?_
          · have h := (hw.out.cell (p := ⟨n, 1, none⟩) HCr.out.lt).trans kx
            go_simp
          try simp only [Act.put, List.setIfInBounds_toArray, List.set_cons_zero, List.set_cons_succ]
          refine wpAnyH_take (i := 3) (oi := { dst := some 37, op := Op.move (Operand.tmp 7), type := 3, pos := "ref.go:43", after := #[], guard := none }) (v := .int .i64 k) rfl (by kernel_rfl) (by kernel_rfl) (by kernel_rfl) (fun _ _ _ h => h) (Or.inl ⟨by rfl, fun w' hw => ?_⟩) hS ?_
          · go_simp
          try simp only [Act.put, List.setIfInBounds_toArray, List.set_cons_zero, List.set_cons_succ]
          refine wpAnyH_take (i := 4) (oi := { dst := some 38, op := Op.indexAddr 75 (Operand.tmp 36) (Operand.tmp 37), type := 0, pos := "ref.go:43", after := #[{ on := 2, ground := Ground.data }, { on := 3, ground := Ground.data }], guard := none }) (v := .pointer (some ⟨b1, o1 + k * 2, none⟩)) rfl (by kernel_rfl) (by kernel_rfl) (by kernel_rfl) (fun _ _ _ h => h) (Or.inl ⟨by rfl, fun w' hw => ?_⟩) hS ?_
          · go_simp
          try simp only [Act.put, List.setIfInBounds_toArray, List.set_cons_zero, List.set_cons_succ]
          refine wpAnyH_take (i := 5) (oi := { dst := some 39, op := Op.fieldAddr 133 (Operand.tmp 38) 0, type := 0, pos := "ref.go:43", after := #[{ on := 4, ground := Ground.data }], guard := none }) (v := .pointer (some ⟨b1, o1 + k * 2, none⟩)) rfl (by kernel_rfl) (by kernel_rfl) (by kernel_rfl) (fun _ _ _ h => h) (Or.inl ⟨by rfl, fun w' hw => ?_⟩) hS ?_
          · go_simp
          try simp only [Act.put, List.setIfInBounds_toArray, List.set_cons_zero, List.set_cons_succ]
          refine wpAnyH_take (i := 6) (oi := { dst := some 40, op := Op.load 9 (Operand.tmp 39), type := 9, pos := "ref.go:43", after := #[{ on := 5, ground := Ground.data }], guard := none }) (v := .string p) rfl (by kernel_rfl) (by kernel_rfl) (by kernel_rfl) (fun _ _ _ h => h) (Or.inl ⟨by rfl, fun w' hw => ?_⟩) hS ?_
          · have h := (hw.out.cell (p := ⟨b1, o1 + k * 2, none⟩) HLb.out).trans e0
            go_simp
          try simp only [Act.put, List.setIfInBounds_toArray, List.set_cons_zero, List.set_cons_succ]
          refine wpAnyH_take (i := 7) (oi := { dst := some 41, op := Op.fieldAddr 80 (Operand.tmp 3) 1, type := 0, pos := "ref.go:43", after := #[], guard := none }) (v := .pointer (some ⟨n, 1, none⟩)) rfl (by kernel_rfl) (by kernel_rfl) (by kernel_rfl) (fun _ _ _ h => h) (Or.inl ⟨by rfl, fun w' hw => ?_⟩) hS ?_
          · go_simp
          try simp only [Act.put, List.setIfInBounds_toArray, List.set_cons_zero, List.set_cons_succ]
          refine wpAnyH_take (i := 8) (oi := { dst := some 42, op := Op.load 75 (Operand.tmp 41), type := 75, pos := "ref.go:43", after := #[{ on := 7, ground := Ground.data }], guard := none }) (v := .slice (some ⟨b1, o1, none⟩) c.rds.length cR) rfl (by kernel_rfl) (by kernel_rfl) (by kernel_rfl) (fun _ _ _ h => h) (Or.inl ⟨by rfl, fun w' hw => ?_⟩) hS ?_
          · have h := (hw.out.cell (p := ⟨n, 1, none⟩) HCr.out.lt).trans kx
            go_simp
          try simp only [Act.put, List.setIfInBounds_toArray, List.set_cons_zero, List.set_cons_succ]
          refine wpAnyH_take (i := 9) (oi := { dst := some 43, op := Op.move (Operand.tmp 7), type := 3, pos := "ref.go:43", after := #[], guard := none }) (v := .int .i64 k) rfl (by kernel_rfl) (by kernel_rfl) (by kernel_rfl) (fun _ _ _ h => h) (Or.inl ⟨by rfl, fun w' hw => ?_⟩) hS ?_
          · go_simp
          try simp only [Act.put, List.setIfInBounds_toArray, List.set_cons_zero, List.set_cons_succ]
          refine wpAnyH_take (i := 10) (oi := { dst := some 44, op := Op.indexAddr 75 (Operand.tmp 42) (Operand.tmp 43), type := 0, pos := "ref.go:43", after := #[{ on := 8, ground := Ground.data }, { on := 9, ground := Ground.data }], guard := none }) (v := .pointer (some ⟨b1, o1 + k * 2, none⟩)) rfl (by kernel_rfl) (by kernel_rfl) (by kernel_rfl) (fun _ _ _ h => h) (Or.inl ⟨by rfl, fun w' hw => ?_⟩) hS ?_
          · go_simp
          try simp only [Act.put, List.setIfInBounds_toArray, List.set_cons_zero, List.set_cons_succ]
          refine wpAnyH_take (i := 11) (oi := { dst := some 45, op := Op.fieldAddr 133 (Operand.tmp 44) 1, type := 0, pos := "ref.go:43", after := #[{ on := 10, ground := Ground.data }], guard := none }) (v := .pointer (some ⟨b1, o1 + k * 2 + 1, none⟩)) rfl (by kernel_rfl) (by kernel_rfl) (by kernel_rfl) (fun _ _ _ h => h) (Or.inl ⟨by rfl, fun w' hw => ?_⟩) hS ?_
          · go_simp
          try simp only [Act.put, List.setIfInBounds_toArray, List.set_cons_zero, List.set_cons_succ]
          refine wpAnyH_take (i := 12) (oi := { dst := some 46, op := Op.load 43 (Operand.tmp 45), type := 43, pos := "ref.go:43", after := #[{ on := 11, ground := Ground.data }], guard := none }) (v := .int .u64 m) rfl (by kernel_rfl) (by kernel_rfl) (by kernel_rfl) (fun _ _ _ h => h) (Or.inl ⟨by rfl, fun w' hw => ?_⟩) hS ?_
          · have h := (hw.out.cell (p := ⟨b1, o1 + k * 2 + 1, none⟩) HLb.out).trans e1
            go_simp
          try simp only [Act.put, List.setIfInBounds_toArray, List.set_cons_zero, List.set_cons_succ]
          refine wpAnyH_ready (rs := [13, 17]) (by kernel_rfl) (by simp) ?_
          refine AllReadyH.cons (o := { dst := some 47, op := Op.call { callee := Callee.value (Operand.func 21), args := #[Operand.tmp 34, Operand.tmp 40, Operand.tmp 46], argTypes := #[35, 9, 43] }, type := 60, pos := "ref.go:43", after := #[{ on := 0, ground := Ground.data }, { on := 6, ground := Ground.data }, { on := 12, ground := Ground.data }], guard := none }) rfl (fun K hK => ?_) ?_
          rotate_left
          · refine AllReadyH.cons (o := { dst := some 8, op := Op.alloc 50, type := 0, pos := "ref.go:43", after := #[], guard := none }) rfl (fun K hK => ?_) AllReadyH.nil
            rw [if_pos (by rfl)]
            go_simp
            have HO1 := Lib.hid (One.of X0 #[.int .u64 0, .int .u8 0, .string ByteArray.empty] 50)
            have HS1 : Hid (Below wr.heap.size wr (X0.alloc (.cells #[.int .u64 0, .int .u8 0, .string ByteArray.empty] 50))) := Lib.hid (HS0.out.alloc HS0.out.size _)
            generalize X0.alloc (.cells #[.int .u64 0, .int .u8 0, .string ByteArray.empty] 50) = X1 at HO1 HS1 ⊢
            refine hK.out _ _ HS1 (fun hS => ?_)
            clear hK K
            try simp only [Act.put, List.setIfInBounds_toArray, List.set_cons_zero, List.set_cons_succ]
            refine wpAnyH_ready (rs := [13]) (by kernel_rfl) (by simp) ?_
            refine AllReadyH.cons (o := { dst := some 47, op := Op.call { callee := Callee.value (Operand.func 21), args := #[Operand.tmp 34, Operand.tmp 40, Operand.tmp 46], argTypes := #[35, 9, 43] }, type := 60, pos := "ref.go:43", after := #[{ on := 0, ground := Ground.data }, { on := 6, ground := Ground.data }, { on := 12, ground := Ground.data }], guard := none }) rfl (fun K hK => ?_) AllReadyH.nil
            rw [if_pos (by rfl)]
            go_simp
            refine (HRd.out X1 HS1.out).mono ?_
            rintro e w2 ⟨rfl, hbn⟩
            go_wp2_with fail
            have HS2 : Hid (Below wr.heap.size wr w2) := Lib.hid ((HS1.out).trans (hbn.mono (HS1.out).size))
            refine hK.out _ _ HS2 (fun hS => ?_)
            clear hK K
            try simp only [Act.put, List.setIfInBounds_toArray, List.set_cons_zero, List.set_cons_succ]
            refine wpAnyH_take (i := 14) (oi := { dst := some 33, op := Op.move (Operand.tmp 47), type := 60, pos := "ref.go:43", after := #[{ on := 13, ground := Ground.data }], guard := none }) (v := .tuple #[.agg #[.int .u64 vn, .int .u8 vst, .string vtx], .int .i64 er]) rfl (by kernel_rfl) (by kernel_rfl) (by kernel_rfl) (fun _ _ _ h => h) (Or.inl ⟨by rfl, fun w' hw => ?_⟩) hS ?_
            · go_simp
            try simp only [Act.put, List.setIfInBounds_toArray, List.set_cons_zero, List.set_cons_succ]
            refine wpAnyH_take (i := 15) (oi := { dst := some 48, op := Op.extract (Operand.tmp 33) 0, type := 50, pos := "ref.go:43", after := #[{ on := 14, ground := Ground.data }], guard := none }) (v := .agg #[.int .u64 vn, .int .u8 vst, .string vtx]) rfl (by kernel_rfl) (by kernel_rfl) (by kernel_rfl) (fun _ _ _ h => h) (Or.inl ⟨by rfl, fun w' hw => ?_⟩) hS ?_
            · go_simp
            try simp only [Act.put, List.setIfInBounds_toArray, List.set_cons_zero, List.set_cons_succ]
            refine wpAnyH_take (i := 16) (oi := { dst := some 49, op := Op.extract (Operand.tmp 33) 1, type := 39, pos := "ref.go:43", after := #[{ on := 14, ground := Ground.data }, { on := 18, ground := Ground.gcOnly Departure.lateStores }], guard := none }) (v := .int .i64 er) rfl (by kernel_rfl) (by kernel_rfl) (by kernel_rfl) (fun _ _ _ h => h) (Or.inl ⟨by rfl, fun w' hw => ?_⟩) hS ?_
            · go_simp
            try simp only [Act.put, List.setIfInBounds_toArray, List.set_cons_zero, List.set_cons_succ]
            have hO2 := HO1.out.step hbn
            have HO2 := Lib.hid hO2
            have q0 := hO2.c 0; have q1 := hO2.c 1; have q2 := hO2.c 2; have f0 := hO2.f 0; have f1 := hO2.f 1; have f2 := hO2.f 2
            simp at q0 q1 q2
            clear hO2
            refine wpAnyH_ready (rs := [18]) (by kernel_rfl) (by simp) ?_
            refine AllReadyH.cons (o := { dst := none, op := Op.store 50 (Operand.tmp 8) (Operand.tmp 48), type := 0, pos := "ref.go:43", after := #[{ on := 17, ground := Ground.data }, { on := 15, ground := Ground.data }, { on := 13, ground := Ground.chain }, { on := 0, ground := Ground.phase }, { on := 1, ground := Ground.phase }, { on := 2, ground := Ground.phase }, { on := 3, ground := Ground.phase }, { on := 4, ground := Ground.phase }, { on := 5, ground := Ground.phase }, { on := 6, ground := Ground.phase }, { on := 7, ground := Ground.phase }, { on := 8, ground := Ground.phase }, { on := 9, ground := Ground.phase }, { on := 10, ground := Ground.phase }, { on := 11, ground := Ground.phase }, { on := 12, ground := Ground.phase }, { on := 13, ground := Ground.phase }, { on := 14, ground := Ground.phase }, { on := 15, ground := Ground.phase }, { on := 16, ground := Ground.textOnly Departure.lateStores }, { on := 17, ground := Ground.phase }], guard := none }) rfl (fun K hK => ?_) AllReadyH.nil
            rw [if_pos (by rfl)]
            go_simp
            clear q0 q1 q2 f0 f1 f2
            refine hK.out _ _ (Lib.hid (((HS2.out.setCell HS0.out.size _).setCell HS0.out.size _).setCell HS0.out.size _)) (fun hS => ?_)
            clear hK K
            try simp only [Act.put, List.setIfInBounds_toArray, List.set_cons_zero, List.set_cons_succ]
            refine wpAnyH_take (i := 19) (oi := { dst := some 9, op := Op.assign (Operand.tmp 49), type := 39, pos := "ref.go:43", after := #[{ on := 16, ground := Ground.data }, { on := 18, ground := Ground.chain }, { on := 0, ground := Ground.phase }, { on := 1, ground := Ground.phase }, { on := 2, ground := Ground.phase }, { on := 3, ground := Ground.phase }, { on := 4, ground := Ground.phase }, { on := 5, ground := Ground.phase }, { on := 6, ground := Ground.phase }, { on := 7, ground := Ground.phase }, { on := 8, ground := Ground.phase }, { on := 9, ground := Ground.phase }, { on := 10, ground := Ground.phase }, { on := 11, ground := Ground.phase }, { on := 12, ground := Ground.phase }, { on := 13, ground := Ground.phase }, { on := 14, ground := Ground.phase }, { on := 15, ground := Ground.phase }, { on := 16, ground := Ground.phase }, { on := 17, ground := Ground.phase }, { on := 18, ground := Ground.phase }], guard := none }) (v := .int .i64 er) rfl (by kernel_rfl) (by kernel_rfl) (by kernel_rfl) (fun _ _ _ h => h) (Or.inl ⟨by rfl, fun w' hw => ?_⟩) hS ?_
            · go_simp
            try simp only [Act.put, List.setIfInBounds_toArray, List.set_cons_zero, List.set_cons_succ]
            refine wpAnyH_done (by kernel_rfl) ?_ _
            clear hS
            go_upto_region 10 with fail
            -- REST
            refine wp_abs (F := fun W => One X0.heap.size #[.int .u64 vn, .int .u8 vst, .string vtx] W ∧ Below wr.heap.size wr W) ⟨((HO2.out.set (i := 0) (by simp) _).set (i := 1) (by simp) _).set (i := 2) (by simp) _, (((HS2.out.setCell HS0.out.size _).setCell HS0.out.size _).setCell HS0.out.size _)⟩ ?_
            obtain ⟨nv, hnv⟩ : ∃ nv, X0.heap.size = nv := ⟨_, rfl⟩
            rw [hnv]
            clear hnv hbn HO2 HO1 HS1 HS2 HS0
            rintro W3 ⟨hO3, hb3⟩
            have z0 := hO3.c 0; have z1 := hO3.c 1; have z2 := hO3.c 2
            simp at z0 z1 z2
            have hR3 := hR.out.step hb3
            have r0 := hR3.c 0; have r1 := hR3.f 0
            simp at r0
            have HR3 := Lib.hid hR3
            have HB3 : Hid (Below wr.heap.size wr W3) := Lib.hid hb3
            have HRow3 := Lib.hid (ownBelow hrow.out HB3.out)
            have hsz := hbw.out.size
            have hlr := HZ.out.r
            clear hO3 hb3 hR3 e0 e1 kx
            go_wp2_with (first
              | (at_builtin; refine wpList_append_own _ rfl (.tmp 51) (.tmp 55) 83 rfl W1.heap.size 97 i0 (.agg #[.int .u64 0, .int .u8 0, .string ByteArray.empty, .int .i64 0]) 4 40 Tryz.underlying83 hi hz0 hz1 hz2 rfl (by decide) _ k (gotFlat (gotsT M (c.rds.take k))) rfl (ownBelow HRow3.out ((Below.refl _ _).alloc (Nat.le_refl _) _)) ⟨W3.heap.size, 0, none⟩ 1 1 [.int .u64 vn, .int .u8 vst, .string vtx, .int .i64 er] rfl rfl (World.news_of_block (MapKept.heap_alloc _ _).1) (by intro u hu; simp only [List.mem_cons, List.mem_nil_iff, or_false] at hu; rcases hu with rfl | rfl | rfl | rfl <;> rfl) (by unfold maxLen; omega) (by omega) ?hbase1 ?go1; (case hbase1 => have h1 := HB3.out.size; simp; omega); intro v5 w5 hown5 hg5 _; obtain ⟨a6, c6, rfl⟩ := ownShape hown5; have hR5 := one_grown (HR3.out.step ((Below.refl _ _).alloc (Nat.le_refl _) _)) hg5 (fun e => by have := ownAbove HRow3.out _ e; have := HR1.out.lt; omega); have r5 := hR5.c 0; have f5 := hR5.f 0; simp at r5; have HR5 := Lib.hid hR5; have Hown5 := Lib.hid hown5; have Hg5 := Lib.hid hg5; clear hR5 hown5 hg5)
              | fail)
            go_roundw
            case rel =>
              have hbA : Below W1.heap.size wr (W3.alloc (.cells #[.int .u64 vn, .int .u8 vst, .string vtx, .int .i64 er] 97)) := (HB3.out.mono hsz).alloc (by have := HB3.out.size; omega) _
              have hb5 : Below W1.heap.size wr w5 := hbA.grown Hg5.out (by have := HB3.out.size; simp; omega) (fun k hk => by have := ownAbove HRow3.out k hk; omega)
              refine ⟨k + 1, _, by omega, by go_num, Lib.hid (HR5.out.set (i := 0) (by simp) (.slice a6 (k + 1) c6)), Lib.hid ?_, Lib.hid ?_⟩
              · rw [HTk.out, gotFlat_append]
                exact ownBut Hown5.out (ButS.set (S := fun k => k = n + 1 + 1) w5 (p := ⟨n + 1 + 1, 0, none⟩) rfl _) (fun k hk => by have := HR1.out.lt; omega)
              · exact (hbw.out.thenB hb5).trans (ButS.set (S := fun k => k = n + 1 + 1) _ (p := ⟨n + 1 + 1, 0, none⟩) rfl _)
            case measure => simp [intOf]; omega
          rw [if_pos (by rfl)]
          go_simp
          refine (HRd.out X0 HS0.out).mono ?_
          rintro e w2 ⟨rfl, hbn⟩
          go_wp2_with fail
          have HS2 : Hid (Below wr.heap.size wr w2) := Lib.hid ((HS0.out).trans (hbn.mono (HS0.out).size))
          refine hK.out _ _ HS2 (fun hS => ?_)
          clear hK K
          try simp only [Act.put, List.setIfInBounds_toArray, List.set_cons_zero, List.set_cons_succ]
          refine wpAnyH_take (i := 14) (oi := { dst := some 33, op := Op.move (Operand.tmp 47), type := 60, pos := "ref.go:43", after := #[{ on := 13, ground := Ground.data }], guard := none }) (v := .tuple #[.agg #[.int .u64 vn, .int .u8 vst, .string vtx], .int .i64 er]) rfl (by kernel_rfl) (by kernel_rfl) (by kernel_rfl) (fun _ _ _ h => h) (Or.inl ⟨by rfl, fun w' hw => ?_⟩) hS ?_
          · go_simp
          try simp only [Act.put, List.setIfInBounds_toArray, List.set_cons_zero, List.set_cons_succ]
          refine wpAnyH_take (i := 15) (oi := { dst := some 48, op := Op.extract (Operand.tmp 33) 0, type := 50, pos := "ref.go:43", after := #[{ on := 14, ground := Ground.data }], guard := none }) (v := .agg #[.int .u64 vn, .int .u8 vst, .string vtx]) rfl (by kernel_rfl) (by kernel_rfl) (by kernel_rfl) (fun _ _ _ h => h) (Or.inl ⟨by rfl, fun w' hw => ?_⟩) hS ?_
          · go_simp
          try simp only [Act.put, List.setIfInBounds_toArray, List.set_cons_zero, List.set_cons_succ]
          refine wpAnyH_take (i := 16) (oi := { dst := some 49, op := Op.extract (Operand.tmp 33) 1, type := 39, pos := "ref.go:43", after := #[{ on := 14, ground := Ground.data }, { on := 18, ground := Ground.gcOnly Departure.lateStores }], guard := none }) (v := .int .i64 er) rfl (by kernel_rfl) (by kernel_rfl) (by kernel_rfl) (fun _ _ _ h => h) (Or.inl ⟨by rfl, fun w' hw => ?_⟩) hS ?_
          · go_simp
          try simp only [Act.put, List.setIfInBounds_toArray, List.set_cons_zero, List.set_cons_succ]
          refine wpAnyH_ready (rs := [17]) (by kernel_rfl) (by simp) ?_
          refine AllReadyH.cons (o := { dst := some 8, op := Op.alloc 50, type := 0, pos := "ref.go:43", after := #[], guard := none }) rfl (fun K hK => ?_) AllReadyH.nil
          rw [if_pos (by rfl)]
          go_simp
          refine hK.out _ _ (Lib.hid (HS2.out.alloc HS2.out.size _)) (fun hS => ?_)
          clear hK K
          try simp only [Act.put, List.setIfInBounds_toArray, List.set_cons_zero, List.set_cons_succ]
          refine wpAnyH_ready (rs := [18]) (by kernel_rfl) (by simp) ?_
          refine AllReadyH.cons (o := { dst := none, op := Op.store 50 (Operand.tmp 8) (Operand.tmp 48), type := 0, pos := "ref.go:43", after := #[{ on := 17, ground := Ground.data }, { on := 15, ground := Ground.data }, { on := 13, ground := Ground.chain }, { on := 0, ground := Ground.phase }, { on := 1, ground := Ground.phase }, { on := 2, ground := Ground.phase }, { on := 3, ground := Ground.phase }, { on := 4, ground := Ground.phase }, { on := 5, ground := Ground.phase }, { on := 6, ground := Ground.phase }, { on := 7, ground := Ground.phase }, { on := 8, ground := Ground.phase }, { on := 9, ground := Ground.phase }, { on := 10, ground := Ground.phase }, { on := 11, ground := Ground.phase }, { on := 12, ground := Ground.phase }, { on := 13, ground := Ground.phase }, { on := 14, ground := Ground.phase }, { on := 15, ground := Ground.phase }, { on := 16, ground := Ground.textOnly Departure.lateStores }, { on := 17, ground := Ground.phase }], guard := none }) rfl (fun K hK => ?_) AllReadyH.nil
          rw [if_pos (by rfl)]
          go_simp
          refine hK.out _ _ (Lib.hid (HS2.out.alloc HS2.out.size _)) (fun hS => ?_)
          clear hK K
          try simp only [Act.put, List.setIfInBounds_toArray, List.set_cons_zero, List.set_cons_succ]
          refine wpAnyH_take (i := 19) (oi := { dst := some 9, op := Op.assign (Operand.tmp 49), type := 39, pos := "ref.go:43", after := #[{ on := 16, ground := Ground.data }, { on := 18, ground := Ground.chain }, { on := 0, ground := Ground.phase }, { on := 1, ground := Ground.phase }, { on := 2, ground := Ground.phase }, { on := 3, ground := Ground.phase }, { on := 4, ground := Ground.phase }, { on := 5, ground := Ground.phase }, { on := 6, ground := Ground.phase }, { on := 7, ground := Ground.phase }, { on := 8, ground := Ground.phase }, { on := 9, ground := Ground.phase }, { on := 10, ground := Ground.phase }, { on := 11, ground := Ground.phase }, { on := 12, ground := Ground.phase }, { on := 13, ground := Ground.phase }, { on := 14, ground := Ground.phase }, { on := 15, ground := Ground.phase }, { on := 16, ground := Ground.phase }, { on := 17, ground := Ground.phase }, { on := 18, ground := Ground.phase }], guard := none }) (v := .int .i64 er) rfl (by kernel_rfl) (by kernel_rfl) (by kernel_rfl) (fun _ _ _ h => h) (Or.inl ⟨by rfl, fun w' hw => ?_⟩) hS ?_
          · go_simp
          try simp only [Act.put, List.setIfInBounds_toArray, List.set_cons_zero, List.set_cons_succ]
          refine wpAnyH_done (by kernel_rfl) ?_ _
          clear hS
          go_upto_region 10 with fail
          -- REST
          refine wp_abs (F := fun W => One w2.heap.size #[.int .u64 vn, .int .u8 vst, .string vtx] W ∧ Below wr.heap.size wr W) ⟨One.of _ _ _, HS2.out.alloc HS2.out.size _⟩ ?_
          obtain ⟨nv, hnv⟩ : ∃ nv, w2.heap.size = nv := ⟨_, rfl⟩
          rw [hnv]
          clear hnv hbn
          rintro W3 ⟨hO3, hb3⟩
          have z0 := hO3.c 0; have z1 := hO3.c 1; have z2 := hO3.c 2
          simp at z0 z1 z2
          have hR3 := hR.out.step hb3
          have r0 := hR3.c 0; have r1 := hR3.f 0
          simp at r0
          have HR3 := Lib.hid hR3
          have HB3 : Hid (Below wr.heap.size wr W3) := Lib.hid hb3
          have HRow3 := Lib.hid (ownBelow hrow.out HB3.out)
          have hsz := hbw.out.size
          have hlr := HZ.out.r
          clear hO3 hb3 hR3 e0 e1 kx
          go_wp2_with (first
            | (at_builtin; refine wpList_append_own _ rfl (.tmp 51) (.tmp 55) 83 rfl W1.heap.size 97 i0 (.agg #[.int .u64 0, .int .u8 0, .string ByteArray.empty, .int .i64 0]) 4 40 Tryz.underlying83 hi hz0 hz1 hz2 rfl (by decide) _ k (gotFlat (gotsT M (c.rds.take k))) rfl (ownBelow HRow3.out ((Below.refl _ _).alloc (Nat.le_refl _) _)) ⟨W3.heap.size, 0, none⟩ 1 1 [.int .u64 vn, .int .u8 vst, .string vtx, .int .i64 er] rfl rfl (World.news_of_block (MapKept.heap_alloc _ _).1) (by intro u hu; simp only [List.mem_cons, List.mem_nil_iff, or_false] at hu; rcases hu with rfl | rfl | rfl | rfl <;> rfl) (by unfold maxLen; omega) (by omega) ?hbase2 ?go2; (case hbase2 => have h1 := HB3.out.size; simp; omega); intro v5 w5 hown5 hg5 _; obtain ⟨a6, c6, rfl⟩ := ownShape hown5; have hR5 := one_grown (HR3.out.step ((Below.refl _ _).alloc (Nat.le_refl _) _)) hg5 (fun e => by have := ownAbove HRow3.out _ e; have := HR1.out.lt; omega); have r5 := hR5.c 0; have f5 := hR5.f 0; simp at r5; have HR5 := Lib.hid hR5; have Hown5 := Lib.hid hown5; have Hg5 := Lib.hid hg5; clear hR5 hown5 hg5)
            | fail)
          go_roundw
          case rel =>
            have hbA : Below W1.heap.size wr (W3.alloc (.cells #[.int .u64 vn, .int .u8 vst, .string vtx, .int .i64 er] 97)) := (HB3.out.mono hsz).alloc (by have := HB3.out.size; omega) _
            have hb5 : Below W1.heap.size wr w5 := hbA.grown Hg5.out (by have := HB3.out.size; simp; omega) (fun k hk => by have := ownAbove HRow3.out k hk; omega)
            refine ⟨k + 1, _, by omega, by go_num, Lib.hid (HR5.out.set (i := 0) (by simp) (.slice a6 (k + 1) c6)), Lib.hid ?_, Lib.hid ?_⟩
            · rw [HTk.out, gotFlat_append]
              exact ownBut Hown5.out (ButS.set (S := fun k => k = n + 1 + 1) w5 (p := ⟨n + 1 + 1, 0, none⟩) rfl _) (fun k hk => by have := HR1.out.lt; omega)
            · exact (hbw.out.thenB hb5).trans (ButS.set (S := fun k => k = n + 1 + 1) _ (p := ⟨n + 1 + 1, 0, none⟩) rfl _)
          case measure => simp [intOf]; omega
          -- END9
        · have hge : ¬ (k : Int) < (c.rds.length : Int) := by omega
          obtain rfl : k = c.rds.length := by omega
          have kx2 := HCr.out.c 2
          simp at kx2
          have HAp := Lib.hid (ref18_applyF (rowsL M) t QQ QQ vE c.eds true wr HTr.out (Good.okR HG.out) (HC.out.e.below HBwr.out (Nat.le_refl _)) hRl hel HZ.out.es)
          rw [(tried_rows (B := bytesR (rowsL M)) HG.out rfl).1] at HAp
          go_wp2_with fail
          refine HAp.out.mono ?_
          rintro e w2 ⟨vN, rfl, hN, hRf, hOk, hlen, hbS, hfr⟩
          have HFR : Hid (∀ k, ((Value.slice a5 c.rds.length c5).ownBlock = some k ∨ vN.ownBlock = some k) → w.heap.size ≤ k) := Lib.hid (fun k hk => by
            rcases hk with hk | hk
            · have := ownAbove hrow.out k hk; have := HB1.out.size; omega
            · have := hfr k hk; have := HBwr.out.size; omega)
          dsimp only at hN hRf hOk hlen
          have htn : t < w.heap.size := HT.out.lt
          have hR2 : One (n + 1 + 1) #[.slice a5 c.rds.length c5, .slice none 0 0, .slice none 0 0] w2 := one_but hR.out hbS (by show ¬ n + 1 + 1 = t; omega)
          have hA2 : One (n + 1) #[.slice none 0 0, .slice none 0 0, .slice none 0 0] w2 := one_but (one_but HA1.out hbw.out (by show ¬ n + 1 = n + 1 + 1; omega)) hbS (by show ¬ n + 1 = t; omega)
          have hRow2 := ownBut hrow.out hbS (fun k hk => by have := HB1.out.size; omega)
          have HR2 := Lib.hid hR2; have HA2 := Lib.hid hA2; have HRow2 := Lib.hid hRow2
          have HN2 := Lib.hid hN; have HRf2 := Lib.hid hRf; have HB2 : Hid (ButS (fun k => k = t) w w2) := Lib.hid ((ButS.of HBwr.out).trans hbS)
          have HBS : Hid (ButS (fun k => k = t) wr w2) := Lib.hid hbS
          have r0 := hR2.c 0; have r1 := hR2.c 1; have r2 := hR2.c 2
          have rf0 := hR2.f 0; have rf1 := hR2.f 1; have rf2 := hR2.f 2
          have a0 := hA2.c 0; have a1 := hA2.c 1; have a2 := hA2.c 2; have af0 := hA2.f 0; have af1 := hA2.f 1; have af2 := hA2.f 2
          simp at r0 r1 r2 a0 a1 a2
          have HDD : Hid (d = ⟨gotsT M c.rds, nextV (triedT M (bytesR (rowsL M)) QQ QQ c.eds), [], decide ((triedT M (bytesR (rowsL M)) QQ QQ c.eds).1.2 = 0), nextM (triedT M (bytesR (rowsL M)) QQ QQ c.eds) M, nextB (triedT M (bytesR (rowsL M)) QQ QQ c.eds) (bytesR (rowsL M))⟩) := Lib.hid (by rw [HD.out]; unfold doesT; rw [if_pos HK1.out])
          generalize triedT M (bytesR (rowsL M)) QQ QQ c.eds = tr at HN2 HRf2 HDD ⊢
          clear hR2 hA2 hRow2 hN hRf hOk hlen hbS HAp kx kx2 hfr
          have s2 : ∀ (W : World) (m o : Nat) (v : Value), (m = n + 1 ∨ m = n + 1 + 1) → ButS (fun k => k = n + 1 ∨ k = n + 1 + 1) W (W.setCell ⟨m, o, none⟩ v) := fun W m o v hm => ButS.set (S := fun k => k = n + 1 ∨ k = n + 1 + 1) W (p := ⟨m, o, none⟩) hm v
          have HFin : Hid (∀ wf, ButS (fun k => k = n + 1 ∨ k = n + 1 + 1) w2 wf → IsGots wf (.slice a5 c.rds.length c5) (gotsT M c.rds) ∧ RefAt wf t QQ QQ (if true = true ∧ tr.1.2 = 0 then rowsL tr.2.1 else rowsL M) ∧ ButS (fun k => k = t) w wf) := Lib.hid (fun wf hf => by
            have hn := HN.out
            have hl1 := HR1.out.lt
            have hs2 := HB2.out.size
            have hbare : ∀ k, (k = n + 1 ∨ k = n + 1 + 1) → Bare w2 k := fun k hk => by
              rcases hk with rfl | rfl
              · exact one_bare HA2.out (fun v hv => by simp at hv; rcases hv with rfl | rfl | rfl <;> exact ⟨(fun n h => (by cases h)), (fun n h => (by cases h))⟩)
              · exact one_bare HR2.out (fun v hv => by simp at hv; rcases hv with rfl | rfl | rfl <;> exact ⟨(fun n h => (by cases h)), (fun n h => (by cases h))⟩)
            refine ⟨?_, HRf2.out.but hf (fun k hk => ⟨(hbare k hk).noStr, (hbare k hk).noVers⟩) (by show ¬ (t = n + 1 ∨ t = n + 1 + 1); omega), ?_⟩
            · have h := ownBut HRow2.out hf (fun k hk => by rcases hk with e | e <;> omega)
              rw [List.take_length] at h
              have hl : (gotsT M c.rds).length = c.rds.length := by unfold gotsT; rw [List.length_map]
              exact IsGots.own (by rw [hl]; exact h)
            · exact ⟨hf.os.trans HB2.out.os, hf.tape.trans HB2.out.tape, hf.output.trans HB2.out.output, Nat.le_trans HB2.out.size hf.size, fun k hk hnt => (hf.block k (by omega) (by rintro (e | e) <;> omega)).trans (HB2.out.block k hk hnt)⟩)
          by_cases he : tr.1.2 = 0
          · have hbe : ((tr.1.2 : Int) != 0) = false := by rw [he]; rfl
            rw [if_pos he] at HN2
            have HNB := Lib.hid (fun wf (hf : ButS (fun k => k = n + 1 ∨ k = n + 1 + 1) w2 wf) => HN2.out.but hf (fun k hk => by
              rcases hk with rfl | rfl
              · exact one_bare HA2.out (fun v hv => by simp at hv; rcases hv with rfl | rfl | rfl <;> exact ⟨(fun n h => (by cases h)), (fun n h => (by cases h))⟩)
              · exact one_bare HR2.out (fun v hv => by simp at hv; rcases hv with rfl | rfl | rfl <;> exact ⟨(fun n h => (by cases h)), (fun n h => (by cases h))⟩)))
            obtain ⟨aN, cN, rfl, hNN⟩ := HN2.out
            clear hNN
            have HE := Lib.hid he
            clear he
            go_wp2_with fail
            have hf := (((s2 w2 (n + 1 + 1) 1 (.slice aN tr.2.2.1.length cN) (Or.inr rfl)).trans (s2 _ (n + 1) 0 (.slice a5 c.rds.length c5) (Or.inl rfl))).trans (s2 _ (n + 1) 1 (.slice aN tr.2.2.1.length cN) (Or.inl rfl))).trans (s2 _ (n + 1) 2 (.slice none 0 0) (Or.inl rfl))
            obtain ⟨f1, f2, f3⟩ := HFin.out _ hf
            rw [HDD.out]
            refine bodyPost_ret (v := .tuple #[.agg #[.slice a5 c.rds.length c5, .slice aN tr.2.2.1.length cN, .slice none 0 0], .bool true]) (by simp [results, Tryz.results63, go_sem, a0, a1, a2]) rfl ⟨.slice a5 c.rds.length c5, .slice aN tr.2.2.1.length cN, .slice none 0 0, by simp [HE.out], f1, ?_, ⟨none, 0, rfl, Or.inl rfl⟩, ?_, f3, fun k hk => by
              rcases hk with hk | hk | hk
              · exact HFR.out k (Or.inl hk)
              · exact HFR.out k (Or.inr hk)
              · cases hk⟩
            · have h := HNB.out _ hf
              simp only [nextV, if_pos HE.out]
              exact h
            · simp only [nextM, if_pos HE.out]
              rw [if_pos (by simp [HE.out])] at f2
              exact f2
          · have hbe : ((tr.1.2 : Int) != 0) = true := by simp; omega
            have HE := Lib.hid he
            clear he
            go_wp2_with fail
            have hf := ((s2 w2 (n + 1) 0 (.slice a5 c.rds.length c5) (Or.inl rfl)).trans (s2 _ (n + 1) 1 (.slice none 0 0) (Or.inl rfl))).trans (s2 _ (n + 1) 2 (.slice none 0 0) (Or.inl rfl))
            obtain ⟨f1, f2, f3⟩ := HFin.out _ hf
            rw [HDD.out]
            refine bodyPost_ret (v := .tuple #[.agg #[.slice a5 c.rds.length c5, .slice none 0 0, .slice none 0 0], .bool false]) (by simp [results, Tryz.results63, go_sem, a0, a1, a2]) rfl ⟨.slice a5 c.rds.length c5, .slice none 0 0, .slice none 0 0, by simp [HE.out], f1, ?_, ⟨none, 0, rfl, Or.inl rfl⟩, ?_, f3, fun k hk => by
              rcases hk with hk | hk | hk
              · exact HFR.out k (Or.inl hk)
              · cases hk
              · cases hk⟩
            · simp only [nextV, if_neg HE.out]
              exact ⟨none, 0, rfl, Or.inl rfl⟩
            · simp only [nextM, if_neg HE.out]
              rw [if_neg (by simp [HE.out])] at f2
              exact f2
    · have hk1I : ¬ (c.kind : Int) = 1 := by omega
      have r0 := HR1.out.c 0; have r1 := HR1.out.c 1; have r2 := HR1.out.c 2
      have a0 := HA1.out.c 0; have a1 := HA1.out.c 1; have a2 := HA1.out.c 2; have af0 := HA1.out.f 0; have af1 := HA1.out.f 1; have af2 := HA1.out.f 2
      simp at r0 r1 r2 a0 a1 a2
      go_wp2_with fail
      have hn := HN.out
      have hBf : Below w.heap.size w (((W1.setCell ⟨n + 1, 0, none⟩ (.slice none 0 0)).setCell ⟨n + 1, 1, none⟩ (.slice none 0 0)).setCell ⟨n + 1, 2, none⟩ (.slice none 0 0)) :=
        ((HB1.out.setCell (by show w.heap.size ≤ n + 1; omega) _).setCell (by show w.heap.size ≤ n + 1; omega) _).setCell (by show w.heap.size ≤ n + 1; omega) _
      have hdd : d = ⟨[], [], [], true, M, bytesR (rowsL M)⟩ := by
        rw [HD.out]; unfold doesT; rw [if_neg hk1, if_neg hk2]
      rw [hdd]
      exact bodyPost_ret (v := .tuple #[.agg #[.slice none 0 0, .slice none 0 0, .slice none 0 0], .bool true]) (by simp [results, Tryz.results63, go_sem, a0, a1, a2]) rfl ⟨_, _, _, rfl, IsGots.nil _, ⟨none, 0, rfl, Or.inl rfl⟩, ⟨none, 0, rfl, Or.inl rfl⟩, HT.out.below hBf, ButS.of hBf, fun k hk => by rcases hk with hk | hk | hk <;> cases hk⟩
end Go.Proofs.YtfbgnpfhjbiikaaGreatDoor

namespace Go.Proofs.YtfbgnpfhjbiikaaGreatDoor
open Go Go.RowKit
open Pth
def CpyG (g0 n size : Nat) (e : TypeId) (news : List Value) (w : World) (v : Value) (w' : World) : Prop :=
  (n = 0 ∧ v = .slice (some ⟨g0, 0, none⟩) 0 0 ∧ w' = w) ∨ (1 ≤ n ∧ ∃ (cap : Nat) (Z : Array Value), n ≤ cap ∧ news.length = n * size ∧ v = .slice (some ⟨w.heap.size, 0, none⟩) n cap ∧ w' = w.drew.alloc (.cells (news.toArray ++ Z) e))
theorem wpl_copy {P : Program} {ops : Array Oper} {rest : List Oper} {o : Oper} {a : Act} {w : World} {Q : Exit → Act → World → Prop} (hgd : o.guard = none) (x y : Operand) (t e : TypeId)
    (ho : o.op = .call { callee := .builtin .append, args := #[x, y], argTypes := #[t, t] }) (i : TypeInfo) (z : Value) (size bytes : Nat) (ht : P.underlying t = some (.slice e)) (hi : P.info? e = some i) (hz : i.zero = some z) (hs : i.size = size) (hbt : i.bytes = bytes) (hb : bytes ≤ 1000)
    (g0 : Nat) (hx : a.eval x = .slice (some ⟨g0, 0, none⟩) 0 0) (n : Nat) (hn : n ≤ 1048576) (news : List Value) (src : Value) (hy : a.eval y = src) (hsrc : Src P i.size t src n news w)
    (h : ∀ v w', CpyG g0 n size e news w v w' → wpList P ops Q rest (a.put o.dst v) w') : wpList P ops Q (o :: rest) a w := by
  refine wpList_plain hgd fun K hK => ?_
  unfold Oper.wp execOp
  by_cases h0 : n = 0
  · subst h0
    have hl := hsrc.newsLen
    obtain rfl : news = [] := List.length_eq_zero_iff.1 (by omega)
    have hr := run_append_nothing (P := P) w t t o.type e i ht hi (some ⟨g0, 0, none⟩) 0 0 (Nat.le_refl _) _ hsrc
    simp only [ho, resolve, invoke, builtin, Sem.run_bind, Sem.run_pure, Result.andThen_ok, List.map_toArray, List.map_cons, List.map_nil, hx, hy, hr]
    exact hK _ _ (h _ _ (Or.inl ⟨rfl, rfl, rfl⟩))
  · have hold : (Builtin.firstCells i.size 0 (.slice (some ⟨g0, 0, none⟩) 0 0)).run P w.drew = .ok ([] : List Value).toArray w.drew :=
      run_firstCells_some w.drew i.size 0 _ 0 0 [] (by simp) (fun j u hj => by simp at hj)
    have hr := run_append_grow_src (P := P) w t t o.type e i z ht hi hz (some ⟨g0, 0, none⟩) 0 0 [] hold src n news hsrc (by omega) (by omega) (by
      rw [hbt]
      have : Builtin.nextslicecap (0 + n) 0 = n := by unfold Builtin.nextslicecap; simp; omega
      rw [this]
      exact Nat.le_trans (Nat.mul_le_mul hn hb) (by decide))
    simp only [ho, resolve, invoke, builtin, Sem.run_bind, Sem.run_pure, Result.andThen_ok, List.map_toArray, List.map_cons, List.map_nil, hx, hy, hr]
    have hcap := grownCap_ge w (0 + n) 0 e
    refine hK _ _ (h _ _ (Or.inr ⟨by omega, grownCap w (0 + n) 0 e, _, by omega, ?_, by rw [Nat.zero_add], by rw [List.nil_append]⟩))
    rw [hsrc.newsLen, hs]

theorem IsGots.but {S : Nat → Prop} {w w' : World} {v : Value} {l : List GotR} (h : IsGots w v l) (hb : ButS S w w') (hS : l ≠ [] → ∀ k, v.ownBlock = some k → ¬ S k) : IsGots w' v l := by
  obtain ⟨a, cap, hv, h⟩ := h
  refine ⟨a, cap, hv, ?_⟩
  rcases h with h | ⟨b2, off, ha, hlt, hc⟩
  · exact Or.inl h
  · by_cases hl : l = []
    · exact Or.inl hl
    have hn : ¬ S b2 := hS hl b2 (by rw [hv, ha]; rfl)
    refine Or.inr ⟨b2, off, ha, Nat.lt_of_lt_of_le hlt hb.size, fun i hi => ?_⟩
    obtain ⟨h0, h1, h2, h3⟩ := hc i hi
    exact ⟨(hb.cell hlt hn).trans h0, (hb.cell hlt hn).trans h1, (hb.cell hlt hn).trans h2, (hb.cell hlt hn).trans h3⟩
theorem IsNums.but3 {S : Nat → Prop} {w w' : World} {v : Value} {l : List Nat} (h : IsNums w v l) (hb : ButS S w w') (hS : l ≠ [] → ∀ k, v.ownBlock = some k → ¬ S k) : IsNums w' v l := by
  obtain ⟨a, cap, hv, h⟩ := h
  refine ⟨a, cap, hv, ?_⟩
  rcases h with h | ⟨b2, off, ha, hlt, hc⟩
  · exact Or.inl h
  · by_cases hl : l = []
    · exact Or.inl hl
    have hn : ¬ S b2 := hS hl b2 (by rw [hv, ha]; rfl)
    exact Or.inr ⟨b2, off, ha, Nat.lt_of_lt_of_le hlt hb.size, fun i hi => (hb.cell hlt hn).trans (hc i hi)⟩
theorem IsStrs.but3 {S : Nat → Prop} {w w' : World} {v : Value} {l : List ByteArray} (h : IsStrs w v l) (hb : ButS S w w') (hS : l ≠ [] → ∀ k, v.ownBlock = some k → ¬ S k) : IsStrs w' v l := by
  obtain ⟨a, cap, hv, h⟩ := h
  refine ⟨a, cap, hv, ?_⟩
  rcases h with h | ⟨b2, off, ha, hlt, hc⟩
  · exact Or.inl h
  · by_cases hl : l = []
    · exact Or.inl hl
    have hn : ¬ S b2 := hS hl b2 (by rw [hv, ha]; rfl)
    exact Or.inr ⟨b2, off, ha, Nat.lt_of_lt_of_le hlt hb.size, fun i hi => (hb.cell (p := ⟨b2, _, none⟩) hlt hn).trans (hc i hi)⟩
theorem IsGots.lt {w : World} {v : Value} {l : List GotR} (h : IsGots w v l) (hl : l ≠ []) : ∀ k, v.ownBlock = some k → k < w.heap.size := by
  obtain ⟨a, cap, hv, h⟩ := h
  rcases h with h | ⟨b2, off, ha, hlt, _⟩
  · exact absurd h hl
  · intro k hk; rw [hv, ha] at hk; cases hk; exact hlt
theorem IsNums.lt {w : World} {v : Value} {l : List Nat} (h : IsNums w v l) (hl : l ≠ []) : ∀ k, v.ownBlock = some k → k < w.heap.size := by
  obtain ⟨a, cap, hv, h⟩ := h
  rcases h with h | ⟨b2, off, ha, hlt, _⟩
  · exact absurd h hl
  · intro k hk; rw [hv, ha] at hk; cases hk; exact hlt
theorem IsStrs.lt {w : World} {v : Value} {l : List ByteArray} (h : IsStrs w v l) (hl : l ≠ []) : ∀ k, v.ownBlock = some k → k < w.heap.size := by
  obtain ⟨a, cap, hv, h⟩ := h
  rcases h with h | ⟨b2, off, ha, hlt, _⟩
  · exact absurd h hl
  · intro k hk; rw [hv, ha] at hk; cases hk; exact hlt

theorem wpl_build_row0 {ops : Array Oper} {rest : List Oper} {o : Oper} {a : Act} {w : World} {Q : Exit → Act → World → Prop} (hgd : o.guard = none) (ho : o.op = .buildSlice 26 0 #[])
    (h : wpList Tryz.prog ops Q rest (a.put o.dst (.slice (some ⟨w.heap.size, 0, none⟩) 0 0)) (w.alloc (.cells #[] 48))) : wpList Tryz.prog ops Q (o :: rest) a w := by
  obtain ⟨i0, hi, hz0, hz1, hz2⟩ := info_parts infoRow
  have hr : (Instr.buildSlice 26 0 #[]).run Tryz.prog w = .ok (.slice (some ⟨w.heap.size, 0, none⟩) 0 0) (w.alloc (.cells #[] 48)) := by
    simp [Instr.buildSlice, run_underlying Tryz.underlying26, sizeOf, typeInfo, hi, newRow, Instr.fill]
    have he : ∀ f : Nat → Value, Array.map f (Array.range 0) = #[] := fun f => by apply Array.ext <;> simp
    rw [he]
  refine wpList_plain hgd fun K hK => ?_
  unfold Oper.wp execOp
  simp only [ho, Sem.run_bind, List.map_toArray, List.map_nil, hr]
  exact hK _ _ h
theorem flatR_length {k : Nat} (f : Nat → List Value) (hf : ∀ i, (f i).length = k) : ∀ n, ((List.range n).flatMap f).length = n * k
  | 0 => by simp
  | n + 1 => by
    rw [List.range_succ, List.flatMap_append, List.length_append, flatR_length f hf n, Nat.succ_mul]
    simp [hf]
theorem flatR_at {k : Nat} (f : Nat → List Value) (hf : ∀ i, (f i).length = k) : ∀ (n i j : Nat), i < n → j < k → ((List.range n).flatMap f)[i * k + j]? = (f i)[j]?
  | 0, i, j, hi, _ => by omega
  | n + 1, i, j, hi, hj => by
    rw [List.range_succ, List.flatMap_append]
    have hl := flatR_length f hf n
    by_cases h : i < n
    · have h2 : (i + 1) * k ≤ n * k := Nat.mul_le_mul_right k h
      rw [Nat.succ_mul] at h2
      rw [List.getElem?_append_left (by rw [hl]; omega)]
      exact flatR_at f hf n i j h hj
    · obtain rfl : i = n := by omega
      rw [List.getElem?_append_right (by rw [hl]; omega), hl, show i * k + j - i * k = j by omega]
      simp
theorem src_of {P : Program} {ty e : TypeId} {k : Nat} {w : World} (ht : P.underlying ty = some (.slice e)) (a : Option Addr) (n c : Nat) (f : Nat → List Value) (hf : ∀ i, (f i).length = k)
    (hc : n = 0 ∨ ∃ b off, a = some ⟨b, off, none⟩ ∧ ∀ i, i < n → ∀ j u, (f i)[j]? = some u → w.cell? ⟨b, off + i * k + j, none⟩ = some u) (h1 : ∀ i, i < n → ∀ u ∈ f i, u.oneCell' = true) (hk : 0 < k) :
    Src P k ty (.slice a n c) n ((List.range n).flatMap f) w := by
  by_cases h0 : n = 0
  · subst h0
    cases a with
    | none => exact Src.ofNil w ht c
    | some ad => exact Src.ofSlice w ht ad 0 c [] (by simp) (fun j u hj => by simp at hj) (fun u hu => by cases hu)
  · obtain ⟨b, off, rfl, hc2⟩ := hc.resolve_left h0
    refine Src.ofSlice w ht _ n c _ (flatR_length f hf n) (fun j u hj => ?_) (fun u hu => ?_)
    · have hjl := (List.getElem?_eq_some_iff.1 hj).1
      rw [flatR_length f hf n] at hjl
      have hi : j / k < n := by rw [Nat.div_lt_iff_lt_mul hk]; exact hjl
      have hm : j % k < k := Nat.mod_lt _ hk
      have he : j / k * k + j % k = j := Nat.div_add_mod' j k
      rw [← he, flatR_at f hf n _ _ hi hm] at hj
      have := hc2 _ hi _ _ hj
      rw [Addr.add_lit, ← he, ← Nat.add_assoc]
      exact this
    · obtain ⟨i, hi, hu⟩ := List.mem_flatMap.1 hu
      exact h1 i (List.mem_range.1 hi) u hu
theorem rows_src {w : World} {a : Option Addr} {c : Nat} {R : List Rw} (h : IsRows w (.slice a R.length c) R) :
    ∃ g : Nat → Value, (∀ i, i < R.length → IsVers w (g i) (R.getD i dR).2.l) ∧ Src Tryz.prog 3 26 (.slice a R.length c) R.length ((List.range R.length).flatMap (fun i => [.string (R.getD i dR).1, .int .u64 (R.getD i dR).2.last, g i])) w := by
  obtain ⟨a', c', he, hc⟩ := h
  cases he
  have hg : ∀ i, ∃ s : Value, i < R.length → IsVers w s (R.getD i dR).2.l ∧ ∀ b off, a = some ⟨b, off, none⟩ → w.cell? ⟨b, off + i * 3, none⟩ = some (.string (R.getD i dR).1) ∧ w.cell? ⟨b, off + i * 3 + 1, none⟩ = some (.int .u64 (R.getD i dR).2.last) ∧ w.cell? ⟨b, off + i * 3 + 2, none⟩ = some s := by
    intro i
    by_cases hi : i < R.length
    · rcases hc with h | ⟨b, off, rfl, _, hc⟩
      · subst h; simp at hi
      obtain ⟨h1, h2, s, h3, h4⟩ := hc i hi
      exact ⟨s, fun _ => ⟨h4, fun b' off' e => by cases e; exact ⟨h1, h2, h3⟩⟩⟩
    · exact ⟨default, fun h => absurd h hi⟩
  obtain ⟨g, hg⟩ := Classical.axiomOfChoice hg
  refine ⟨g, fun i hi => (hg i hi).1, src_of Tryz.underlying26 a _ c _ (fun i => rfl) ?_ (fun i hi u hu => ?_) (by decide)⟩
  · rcases hc with h | ⟨b, off, rfl, _, _⟩
    · left; rw [h]; rfl
    · right
      refine ⟨b, off, rfl, fun i hi j u hj => ?_⟩
      obtain ⟨h1, h2, h3⟩ := (hg i hi).2 b off rfl
      rcases j with _ | _ | _ | j
      · simp at hj; rw [← hj]; exact h1
      · simp at hj; rw [← hj]; exact h2
      · simp at hj; rw [← hj]; exact h3
      · simp at hj
  · simp at hu
    rcases hu with rfl | rfl | rfl
    · rfl
    · rfl
    · obtain ⟨_, _, e, _⟩ := (hg i hi).1
      rw [e]; rfl
theorem rows_cpy {w w' : World} {R : List Rw} {g0 : Nat} {g : Nat → Value} {v : Value} (hg : ∀ i, i < R.length → IsVers w (g i) (R.getD i dR).2.l)
    (h : CpyG g0 R.length 3 48 ((List.range R.length).flatMap (fun i => [Value.string (R.getD i dR).1, .int .u64 (R.getD i dR).2.last, g i])) w v w') : IsRows w' v R ∧ CapV v ∧ Below w.heap.size w w' := by
  rcases h with ⟨h0, rfl, rfl⟩ | ⟨h1, cap, Z, hcap, _, rfl, rfl⟩
  · have : R = [] := List.length_eq_zero_iff.1 h0
    subst this
    exact ⟨⟨_, 0, rfl, Or.inl rfl⟩, (fun a n c e => by cases e; exact Nat.le_refl _), Below.refl _ _⟩
  · have hb : Below w.heap.size w (w.drew.alloc (.cells (((List.range R.length).flatMap (fun i => [Value.string (R.getD i dR).1, .int .u64 (R.getD i dR).2.last, g i])).toArray ++ Z) 48)) := (Below.drew (Below.refl _ _)).alloc (Nat.le_refl _) _
    have hO : One w.heap.size _ _ := One.of w.drew (((List.range R.length).flatMap (fun i => [Value.string (R.getD i dR).1, .int .u64 (R.getD i dR).2.last, g i])).toArray ++ Z) 48
    have hl := flatR_length (k := 3) (fun i => [Value.string (R.getD i dR).1, .int .u64 (R.getD i dR).2.last, g i]) (fun i => rfl) R.length
    have hc : ∀ i j, i < R.length → j < 3 → (w.drew.alloc (.cells (((List.range R.length).flatMap (fun i => [Value.string (R.getD i dR).1, .int .u64 (R.getD i dR).2.last, g i])).toArray ++ Z) 48)).cell? ⟨w.heap.size, 0 + i * 3 + j, none⟩ = [Value.string (R.getD i dR).1, .int .u64 (R.getD i dR).2.last, g i][j]? := fun i j hi hj => by
      have := hO.c (0 + i * 3 + j)
      rw [this, Nat.zero_add, Array.getElem?_append_left (by rw [List.size_toArray, hl]; omega), List.getElem?_toArray, flatR_at (k := 3) _ (fun i => rfl) _ _ _ hi hj]
    refine ⟨⟨_, cap, rfl, Or.inr ⟨w.heap.size, 0, rfl, hO.lt, fun i hi => ⟨hc i 0 hi (by omega), hc i 1 hi (by omega), g i, hc i 2 hi (by omega), (hg i hi).below hb (Nat.le_refl _)⟩⟩⟩, (fun a n c e => by cases e; exact hcap), hb⟩
end Go.Proofs.YtfbgnpfhjbiikaaGreatDoor
