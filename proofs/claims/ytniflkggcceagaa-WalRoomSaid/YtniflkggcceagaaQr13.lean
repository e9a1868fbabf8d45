/- Steps that came in; contracts: the law's Heavy, made. Steps that came in, opened: what they read as, and their reach. The law's walk: WalRoom. The laws' walks, as their ends take them. -/
import Derived.Test.YtniflkggcceagaaQr12
import Derived.Deep.Slices
namespace Go.Proofs.Ytniflkggcceagaa
open Go Go.RowKit
structure Stp where
  k : Nat
  L : List (List UInt8)
  S : List UInt8
def NilS (v : Value) : Prop := ∀ n cap, v = .slice none n cap → n = 0 ∧ cap = 0
structure StpAt (w : World) (b o : Nat) (s : Stp) : Prop where
  c0 : w.cell? ⟨b, o, none⟩ = some (.int .u8 (s.k : Int))
  c3 : ∃ lv, w.cell? ⟨b, o + 3, none⟩ = some lv ∧ IsStrs w lv (s.L.map bs) ∧ NilS lv
  c4 : w.cell? ⟨b, o + 4, none⟩ = some (.string (bs s.S))
  d : s.k < 256
structure StpSz (s : Stp) : Prop where
  n : s.L.length ≤ 140737488355328
  t : ∀ x ∈ s.L, x.length ≤ 140737488355328
  s : s.S.length ≤ 140737488355328
def IsStps (w : World) (v : Value) (ls : List Stp) : Prop := ∃ a cap, v = .slice a ls.length cap ∧ (ls = [] ∨ ∃ b off, a = some ⟨b, off, none⟩ ∧ b < w.heap.size ∧ ∀ i s, ls[i]? = some s → StpAt w b (off + i * 7) s)
theorem StpAt.step {w w' : World} {b o : Nat} {s : Stp} (h : StpAt w b o s) (hb : Below w.heap.size w w') : StpAt w' b o s := by
  obtain ⟨lv, h1, h2, h3⟩ := h.c3
  exact ⟨(hb.cell (p := ⟨b, o, none⟩) (cell_lt h.c0)).trans h.c0, ⟨lv, (hb.cell (p := ⟨b, o + 3, none⟩) (cell_lt h1)).trans h1, h2.below hb (Nat.le_refl _), h3⟩, (hb.cell (p := ⟨b, o + 4, none⟩) (cell_lt h.c4)).trans h.c4, h.d⟩
theorem IsStrs.at {w : World} {v : Value} {l : List (List UInt8)} (h : IsStrs w v (l.map bs)) : ∃ a cap, v = .slice a l.length cap ∧ (l = [] ∨ ∃ b off, a = some ⟨b, off, none⟩ ∧ b < w.heap.size ∧ ∀ i, i < l.length → w.cell? ⟨b, off + i, none⟩ = some (.string (bs (l.getD i [])))) := by
  obtain ⟨a, cap, hv, hc⟩ := h
  refine ⟨a, cap, by rw [hv, List.length_map], ?_⟩
  rcases hc with hc | ⟨b, off, e1, e2, e3⟩
  · exact Or.inl (List.map_eq_nil_iff.1 hc)
  · refine Or.inr ⟨b, off, e1, e2, fun i hi => ?_⟩
    rw [e3 i (by rw [List.length_map]; exact hi), List.getD_eq_getElem?_getD, List.getD_eq_getElem?_getD, List.getElem?_map, List.getElem?_eq_getElem hi]; rfl
def StpFit (s : Stp) : Prop := s.L.length ≤ 20 ∧ s.S.length ≤ 8192 ∧ ∀ x ∈ s.L, x.length ≤ 8192
def HvyG (ls : List Stp) (w : World) (e : Ending) (w' : World) : Prop := ∃ r : Bool, e = .returned (.bool r) ∧ w' = w ∧ (r = false → ls.length ≤ 40 ∧ ∀ s ∈ ls, StpFit s)
set_option maxRecDepth 100000 in
set_option maxHeartbeats 2000000 in
theorem law_Heavy (w : World) (v : Value) (ls : List Stp) (h : IsStps w v ls) (hz : ∀ s ∈ ls, StpSz s) (hn : ls.length ≤ 140737488355328) :
    Calls Try.prog 7 #[v] w (HvyG ls w) := by
  obtain ⟨a, cap, rfl, hc⟩ := h
  obtain ⟨n, hnn⟩ : ∃ z, ls.length = z := ⟨_, rfl⟩
  rw [hnn] at hn ⊢
  have HN := Lib.hid hnn; have HC := Lib.hid hc; have HZ := Lib.hid hz
  clear hnn hc hz
  go_enter Try.func7, Try.ntmps7
  go_wp2_with fail
  go_loopw [3, 4] (fun s i wr => ∃ q m : Nat, q ≤ n ∧ i = .int .i64 q ∧ s = .int .i64 m ∧ m ≤ 8192 ∧ wr = w ∧ Hid (∀ i s, i < q → ls[i]? = some s → StpFit s)) (fun _ i _ => n - (intOf i).toNat)
  case atStart => exact ⟨0, 0, Nat.zero_le _, rfl, rfl, by decide, rfl, Lib.hid (fun i s hi => absurd hi (Nat.not_lt_zero i))⟩
  case round =>
    obtain ⟨q, m, hq, rfl, rfl, hm, hw, HF⟩ := hrel
    subst wr
    by_cases hlt : q < n
    · have HLT := Lib.hid hlt
      have hqi : (q : Int) < (n : Int) := by omega
      obtain ⟨b, off, rfl, hbl, hs⟩ := HC.out.resolve_left (fun e => by have := HN.out; rw [e] at this; simp at this; omega)
      obtain ⟨s, hst⟩ : ∃ s, ls[q]? = some s := ⟨_, List.getElem?_eq_getElem (by rw [HN.out]; exact hlt)⟩
      have HST := Lib.hid hst
      have hat := hs q s hst
      have hsz := HZ.out s (List.mem_of_getElem? hst)
      obtain ⟨lv, c3, hlv, _⟩ := hat.c3
      have c4 := hat.c4
      obtain ⟨sl, hsl⟩ : ∃ z, s.S.length = z := ⟨_, rfl⟩
      have hss : (bs s.S).size = sl := by rw [bs_size, hsl]
      have hslb : sl ≤ 140737488355328 := by rw [← hsl]; exact hsz.s
      obtain ⟨la, lc, rfl, hlc⟩ := hlv.at
      obtain ⟨nl, hnl⟩ : ∃ z, s.L.length = z := ⟨_, rfl⟩
      have hnlb : nl ≤ 140737488355328 := by rw [← hnl]; exact hsz.n
      rw [hnl] at c3
      have HNL := Lib.hid hnl; have HLC := Lib.hid hlc; have HSL := Lib.hid hsl; have HTT := Lib.hid hsz.t
      clear hs hst hat hsz hsl hnl hlc hlv
      go_wp2_with fail
      go_loopw [3, 5] (fun s' j wr => ∃ k m' : Nat, k ≤ nl ∧ j = .int .i64 k ∧ s' = .int .i64 m' ∧ m' ≤ 8192 + 140737488355328 ∧ wr = w ∧ Hid (sl ≤ m' ∧ ∀ i, i < k → (s.L.getD i []).length ≤ m')) (fun _ j _ => nl - (intOf j).toNat)
      case atStart => exact ⟨0, m + sl, Nat.zero_le _, rfl, by go_num, by omega, rfl, Lib.hid ⟨by omega, fun i hi => absurd hi (Nat.not_lt_zero i)⟩⟩
      case round =>
        obtain ⟨k, m', hk, rfl, rfl, hm', hw, HI⟩ := hrel
        subst wr
        by_cases hkl : k < nl
        · have hki : (k : Int) < (nl : Int) := by omega
          by_cases hm8 : m' ≤ 8192
          · have hm8i : (m' : Int) ≤ 8192 := by omega
            have HKL := Lib.hid hkl
            obtain ⟨b2, o2, rfl, hb2, hc2⟩ := HLC.out.resolve_left (fun e => by have := HNL.out; rw [e] at this; simp at this; omega)
            have ct := hc2 k (by rw [HNL.out]; exact hkl)
            obtain ⟨t, htt⟩ : ∃ t, s.L.getD k [] = t := ⟨_, rfl⟩
            rw [htt] at ct
            obtain ⟨tl, htl⟩ : ∃ z, t.length = z := ⟨_, rfl⟩
            have hts : (bs t).size = tl := by rw [bs_size, htl]
            have htb : tl ≤ 140737488355328 := by
              rw [← htl, ← htt]
              exact HTT.out _ (by rw [List.getD_eq_getElem?_getD, List.getElem?_eq_getElem (by rw [HNL.out]; exact hkl)]; exact List.getElem_mem _)
            have HTL := Lib.hid (And.intro htt htl)
            clear hc2 htt htl
            go_wp2_with fail
            go_roundw
            case rel => exact ⟨k + 1, m' + tl, HKL.out, by go_num, by go_num, by omega, trivial, Lib.hid ⟨by have := HI.out.1; omega, fun i hi => by
              by_cases e : i = k
              · subst e; rw [HTL.out.1, HTL.out.2]; omega
              · have := HI.out.2 i (by omega); omega⟩⟩
            case measure => have := HKL.out; simp [intOf]; omega
          · have hm8i : ¬ (m' : Int) ≤ 8192 := by omega
            have hm9i : (8192 : Int) < (m' : Int) := by omega
            go_wp2_with fail
            go_ret
            exact ⟨true, rfl, rfl, fun h => by cases h⟩
        · obtain rfl : k = nl := by omega
          by_cases hm8 : m' ≤ 8192
          · have hm9i : ¬ (8192 : Int) < (m' : Int) := by omega
            by_cases hn20 : 20 < k
            · have hn20i : (20 : Int) < (k : Int) := by omega
              go_wp2_with fail
              go_ret
              exact ⟨true, rfl, rfl, fun h => by cases h⟩
            · have hn20i : ¬ (20 : Int) < (k : Int) := by omega
              have HN20 := Lib.hid hn20; have HM8 := Lib.hid hm8
              go_wp2_with fail
              go_roundw
              case rel => exact ⟨q + 1, m', HLT.out, by go_num, rfl, HM8.out, trivial, Lib.hid (fun i s' hi hs' => by
                by_cases e : i = q
                · subst e
                  rw [HST.out] at hs'
                  cases hs'
                  refine ⟨by have := HNL.out; have := HN20.out; omega, by have := HSL.out; have := HI.out.1; have := HM8.out; omega, fun x hx => ?_⟩
                  obtain ⟨p, hp, rfl⟩ := List.mem_iff_getElem.1 hx
                  have h1 := HI.out.2 p (by rw [← HNL.out]; exact hp)
                  rw [List.getD_eq_getElem?_getD, List.getElem?_eq_getElem hp] at h1
                  have h2 := HM8.out
                  simp only [Option.getD_some] at h1
                  omega
                · exact HF.out i s' (by omega) hs')⟩
              case measure => have := HLT.out; simp [intOf]; omega
          · have hm9i : (8192 : Int) < (m' : Int) := by omega
            go_wp2_with fail
            go_ret
            exact ⟨true, rfl, rfl, fun h => by cases h⟩
    · obtain rfl : q = n := by omega
      by_cases h40 : 40 < q
      · have h40i : (40 : Int) < (q : Int) := by omega
        have h40d : decide ((40 : Int) < (q : Int)) = true := by simp; omega
        go_wp2_with fail
        go_ret
        exact ⟨true, rfl, rfl, fun h => by cases h⟩
      · have h40i : ¬ (40 : Int) < (q : Int) := by omega
        have h40d : decide ((40 : Int) < (q : Int)) = false := by simp; omega
        have H40 := Lib.hid h40
        go_wp2_with fail
        go_ret
        refine ⟨false, rfl, rfl, fun _ => ⟨by have := HN.out; have := H40.out; omega, fun s hs => ?_⟩⟩
        obtain ⟨p, hp, rfl⟩ := List.mem_iff_getElem.1 hs
        exact HF.out p _ (by rw [← HN.out]; exact hp) (List.getElem?_eq_getElem hp)
def mh : List UInt8 := Wl.head sumF 1 1 1 [98, 101, 103, 105, 110]
def mD (r : Nat) : Dk := ⟨4, 400 + r, upd (fun _ => []) 0 mh, upd (fun _ => []) 0 mh, [], -1⟩
def mW : Wa := ⟨1, 1, 1, [0], [23], 0, 0⟩
theorem mh_len : mh.length = 23 := by unfold mh; rw [Wl.head_length]; rfl
theorem mk_inv (r : Nat) : LInv (mD r) mW := by
  refine ⟨by show 3 ≤ 4; decide, by show 4 ≤ 16; decide, by show (-1 : Int) < 0; decide, rfl, rfl, by decide, by decide, by decide, fun i hi => ?_, fun i hi => ?_, fun i hi => ?_⟩
  · obtain rfl : i = 0 := by have h1 : i < 1 := hi; omega
    exact ⟨mh_len, by decide⟩
  · have h1 : ¬ (i : Int) ∈ [(0 : Int)] := hi
    have h2 : i ≠ 0 := fun e => h1 (by subst e; simp)
    show upd (fun _ => []) 0 mh i = []
    unfold upd; rw [if_neg h2]
  · have h1 : i + 1 < 1 := hi
    omega
theorem mk_ok (r : Nat) (hr : r ≤ 4100) : DkOk (mD r) := ⟨by show 400 + r ≤ _; omega, fun i _ => by
  show (upd (fun _ => []) 0 mh i).length ≤ _
  unfold upd
  split
  · rw [mh_len]; decide
  · simp, by show 0 ≤ _; decide, by show (-1 : Int) < _; decide⟩
theorem law_made (w : World) (r : Nat) (hr : r ≤ 4100) : Calls Try.prog 9 #[.int .i64 (r : Int)] w fun e w' => ∃ d x, e = .returned (.tuple #[.pointer (some ⟨d, 0, none⟩), .pointer (some ⟨x, 0, none⟩)]) ∧ LgS (fun k => w.heap.size ≤ k) x d (mD r) mW w' ∧ Below w.heap.size w w' := by
  obtain ⟨A, hA⟩ : ∃ z, w.heap.size = z := ⟨_, rfl⟩
  have hnew := disk_New 4 (400 + r) (by decide) (by omega) w
  rw [show ((4 : Nat) : Int) = 4 from rfl, hA] at hnew
  obtain ⟨R, hR⟩ : ∃ z, 400 + r = z := ⟨_, rfl⟩
  have hRi : (400 : Int) + (r : Int) = (R : Int) := by omega
  rw [hR] at hnew
  have HN := Lib.hid hnew
  have HR := Lib.hid hR
  have hRb : R ≤ 4500 := by omega
  rw [hA]
  have HA := Lib.hid hA
  clear hnew hR hA
  go_enter Try.func9, Try.ntmps9
  go_wp2_with fail
  refine HN.out.mono ?_
  rintro e w1 ⟨rfl, hd1, hb1⟩
  have HB1 := Lib.hid hb1
  have HD1 : Hid (DkS (fun k => A ≤ k) A (dk0 4 R) w1) := Lib.hid ⟨_, hd1, fun k hk => by subst hk; exact Nat.le_refl _⟩
  have HS1 : Hid (A ≤ w1.heap.size) := Lib.hid (by have := hd1.lt; omega)
  clear hd1 hb1
  go_wp2_with fail
  refine (law_Conf w1).mono ?_
  rintro e w2 ⟨rfl, hb2⟩
  have HB2 := Lib.hid (HB1.out.trans (hb2.mono HS1.out))
  have HS2 : Hid (A ≤ w2.heap.size) := Lib.hid (by have := HS1.out; have := hb2.size; omega)
  have hleft : (dk0 4 R).left = (R : Int) := by
    unfold Dk.left dk0
    dsimp only
    have : ∀ k, lensN (fun _ => []) k = 0 := fun k => by
      induction k with
      | zero => rfl
      | succ k ih => show lensN _ k + _ = 0; rw [ih]; rfl
    rw [this]; simp
  have hmk := make_S [98, 101, 103, 105, 110] (HD1.out.step hb2) ⟨by show R ≤ _; omega, fun i _ => by show ([] : List UInt8).length ≤ _; decide, by show 0 ≤ _; decide, by show (-1 : Int) < _; decide⟩ (by show 3 ≤ 4; decide) (by show (-1 : Int) < 0; decide) (fun i _ => rfl) (by decide) (by show 0 ≤ _; decide) (by rw [hleft]; have := HR.out; show (23 : Int) ≤ _; omega)
  rw [show bs [98, 101, 103, 105, 110] = (⟨#[98, 101, 103, 105, 110]⟩ : ByteArray) from rfl] at hmk
  have HMK := Lib.hid hmk
  clear hb2 hmk hleft
  go_wp2_with fail
  refine HMK.out.mono ?_
  rintro e w3 ⟨x, rfl, hl3, hb3⟩
  have HL3 := Lib.hid (hl3.back (fun k hk => by have := HS2.out; omega))
  have HB3 := Lib.hid (HB2.out.trans (hb3.below (fun k h => h) HS2.out))
  clear hl3 hb3 HMK
  go_wp2_with fail
  go_ret2
  refine ⟨A, x, rfl, ?_, HB3.out⟩
  have h1 := HL3.out
  unfold mD
  rw [HR.out]
  exact h1
theorem LgS.droom {P : Nat → Prop} {x d : Nat} {D : Dk} {W : Wa} {w : World} (h : LgS P x d D W w) (hk : DkOk D) : Calls Try.prog 12 #[.pointer (some ⟨d, 0, none⟩)] w fun e w' => e = .returned (.int .i64 D.left) ∧ w' = w := by
  obtain ⟨S, T, h1, h2, h3, h4, h5⟩ := h
  exact disk_Room w h1 hk.room hk.now
end Go.Proofs.Ytniflkggcceagaa

namespace Go.Proofs.Ytniflkggcceagaa
open Go Go.ChangeShapes Go.WideShapes Go.ChangeAt Go.RowKit
theorem list7 {α : Type} {l : List α} (h : l.length = 7) : ∃ c0 c1 c2 c3 c4 c5 c6, l = [c0, c1, c2, c3, c4, c5, c6] := by
  match l, h with
  | [c0, c1, c2, c3, c4, c5, c6], _ => exact ⟨c0, c1, c2, c3, c4, c5, c6, rfl⟩
theorem addrThree {a : Addr} (h : a = ⟨a.block, a.off, none⟩) (i j : Nat) : (a.add i).add j = ⟨a.block, a.off + i + j, none⟩ := by
  rw [h]
  unfold Addr.add
  by_cases e : i = 0
  · subst e
    simp only [if_true, Nat.add_zero]
    by_cases e2 : j = 0
    · subst e2; simp
    · simp [e2]
  · simp only [if_neg e]
    by_cases e2 : j = 0
    · subst e2; simp
    · simp [e2]
theorem cStp : Try.prog.cellsOf 35 = 7 := by kernel_rfl
theorem cU8' : Try.prog.cellsOf 5 = 1 := by kernel_rfl
theorem cStr' : Try.prog.cellsOf 9 = 1 := by kernel_rfl
theorem cStrs' : Try.prog.cellsOf 33 = 1 := by kernel_rfl
section
variable {H : Type} {enc : TypeId × Value → H} {w : World} {base : Nat} {sp : Nat → Bool} {held : Bool}
set_option maxRecDepth 100000 in
theorem trod_relD {α : Type} {k : Nat} {t e : TypeId} (z : α) (R : List Value → α → DataW H → Prop) (ht : Try.prog.underlying t = some (.slice e)) (hc : Try.prog.cellsOf e = k) (hk : 0 < k) (hlen : ∀ cs a d, R cs a d → cs.length = k)
    (hel : ∀ {fuel : Nat} {cs : List Value} {x : DataW H × List MemPlace}, DataW.trod enc Try.prog w base sp held fuel e cs = some x → ∃ a : α, R cs a x.1)
    {fuel : Nat} {cs : List Value} {x : DataW H × List MemPlace} (h : DataW.trod enc Try.prog w base sp held fuel t cs = some x) :
    ∃ (a0 : Option Addr) (cap : Nat) (l : List α), cs = [.slice a0 l.length cap] ∧ (a0 = none → l = [] ∧ cap = 0) ∧ (l = [] ∨ ∃ b off, a0 = some ⟨b, off, none⟩ ∧ b < w.heap.size ∧ ∀ i, i < l.length → ∃ cs' d, (∀ j u, cs'[j]? = some u → w.cell? ⟨b, off + i * k + j, none⟩ = some u) ∧ R cs' (l.getD i z) d ∧ ∃ ds sr, x.1 = .slice ds sr ∧ d ∈ ds) ∧
      (l = [] ∨ ∃ ds sr, x.1 = .slice ds sr ∧ ds.length = l.length) := by
  rcases Go.Deep.open_slice ht h with ⟨hcs, hx⟩ | ⟨a, len, cap, m, n, Df, Pl, hcs, _, hl, _, hm, hx, he⟩
  · exact ⟨none, 0, [], hcs, fun _ => ⟨rfl, rfl⟩, Or.inl rfl, Or.inl rfl⟩
  · have hlm : len ≤ m := by rw [hm]; split <;> omega
    have hE : ∀ i, ∃ y : α × List Value, i < len → R y.2 y.1 (Df i) ∧ (∀ j, j < k → w.cell? ((a.add (i * k)).add j) = y.2[j]?) := by
      intro i
      by_cases hi : i < len
      · obtain ⟨cs', h1, h2⟩ := he i (by omega)
        rw [hc] at h1
        obtain ⟨y, hy⟩ := hel h2
        exact ⟨(y, cs'), fun _ => ⟨hy, (World.cells?_some h1).2.2⟩⟩
      · exact ⟨(z, []), fun h => absurd h hi⟩
    obtain ⟨E, hE⟩ := Classical.axiomOfChoice hE
    have hx1 : x.1 = .slice ((List.range len).map Df) ((List.range (m - len)).map fun j => Df (len + j)) := by rw [hx]
    refine ⟨some a, cap, (List.range len).map (fun i => (E i).1), by simpa using hcs, (fun h => by cases h), ?_, Or.inr ⟨_, _, hx1, by simp⟩⟩
    by_cases h0 : len = 0
    · left; subst h0; rfl
    · right
      obtain ⟨r0, c0⟩ := hE 0 (by omega)
      have h00 := c0 0 hk
      have ha0 : (a.add (0 * k)).add 0 = a := by unfold Addr.add; simp
      rw [ha0, List.getElem?_eq_getElem (by rw [hlen _ _ _ r0]; exact hk)] at h00
      have hs := spot_none h00
      refine ⟨a.block, a.off, by rw [← hs], block_lt_of_cell h00, fun i hi => ?_⟩
      have hi' : i < len := by simpa using hi
      have hg : ((List.range len).map (fun i => (E i).1)).getD i z = (E i).1 := by simp [List.getD_eq_getElem?_getD, hi']
      rw [hg]
      obtain ⟨r1, c1⟩ := hE i hi'
      refine ⟨(E i).2, Df i, fun j u hu => ?_, r1, _, _, hx1, List.mem_map.2 ⟨i, List.mem_range.2 hi', rfl⟩⟩
      have hj : j < k := by have := (List.getElem?_eq_some_iff.1 hu).1; rwa [hlen _ _ _ r1] at this
      have hc2 := c1 j hj
      rw [addrThree hs] at hc2
      exact hc2.trans hu
theorem weights_in {t e : TypeId} {ds sr : List (DataW H)} {d : DataW H} {n : Nat} (ht : Try.prog.underlying t = some (.slice e)) (hd : d ∈ ds) (hn : n ∈ DataW.weights Try.prog e d) : n ∈ DataW.weights Try.prog t (.slice ds sr) := by
  have hall : ∀ ds : List (DataW H), d ∈ ds → n ∈ DataW.weightsAll Try.prog e ds := fun ds => by
    induction ds with
    | nil => intro h; cases h
    | cons a r ih =>
      intro h
      rw [DataW.weightsAll, List.mem_append]
      rcases List.mem_cons.1 h with rfl | h
      · exact Or.inl hn
      · exact Or.inr (ih h)
  simp only [DataW.weights, ht, List.mem_cons, List.mem_append]
  exact Or.inr (Or.inl (hall ds hd))
theorem weights_len {t e : TypeId} {ds sr : List (DataW H)} (ht : Try.prog.underlying t = some (.slice e)) : (ds.length + sr.length) * Try.prog.bytesOf e ∈ DataW.weights Try.prog t (.slice ds sr) := by
  simp [DataW.weights, ht]
theorem bStr : Try.prog.bytesOf 9 = 16 := by kernel_rfl
theorem bStp : Try.prog.bytesOf 35 = 80 := by kernel_rfl
set_option maxRecDepth 100000 in
theorem trod_strsW {fuel : Nat} {cs : List Value} {x : DataW H × List MemPlace} (h : DataW.trod enc Try.prog w base sp held fuel 33 cs = some x) :
    ∃ (v : Value) (l : List (List UInt8)), cs = [v] ∧ IsStrs w v (l.map bs) ∧ NilS v ∧ ∀ M, (∀ n ∈ DataW.weights Try.prog 33 x.1, n ≤ M) → l.length ≤ M ∧ ∀ t ∈ l, t.length ≤ M := by
  obtain ⟨a0, cap, l, rfl, hnil, hh, hlen⟩ := trod_relD ([] : List UInt8) (fun cs (s : List UInt8) (d : DataW H) => cs = [.string (bs s)] ∧ d = .lit (.string s)) Try.underlying33 cStr' (by decide) (fun cs a d h => by rw [h.1]; rfl) (fun h => by
    obtain ⟨s, rfl, rfl, _⟩ := DataW.trod_string Try.underlying9 h
    exact ⟨s.data.toList, by rw [toList_bs], rfl⟩) h
  refine ⟨_, l, rfl, ⟨a0, cap, by rw [List.length_map], ?_⟩, fun n c e => ?_, fun M hM => ⟨?_, fun t ht => ?_⟩⟩
  · rcases hh with h | ⟨b, off, ha, hb, hc⟩
    · left; rw [h]; rfl
    · refine Or.inr ⟨b, off, ha, hb, fun i hi => ?_⟩
      rw [List.length_map] at hi
      obtain ⟨cs', d, h1, ⟨rfl, _⟩, _⟩ := hc i hi
      have := h1 0 _ rfl
      rw [Nat.mul_one, Nat.add_zero] at this
      rw [this, List.getD_eq_getElem?_getD, List.getD_eq_getElem?_getD, List.getElem?_map, List.getElem?_eq_getElem hi]; rfl
  · simp only [Value.slice.injEq] at e
    obtain ⟨h1, h2⟩ := hnil e.1
    rw [h1] at e
    exact ⟨e.2.1.symm, e.2.2.symm.trans h2⟩
  · rcases hlen with h | ⟨ds, sr, hx, hl⟩
    · rw [h]; exact Nat.zero_le _
    · have := hM _ (by rw [hx]; exact weights_len Try.underlying33)
      rw [bStr, hl] at this
      have h2 : l.length * 1 ≤ (l.length + sr.length) * 16 := Nat.mul_le_mul (Nat.le_add_right _ _) (by decide)
      omega
  · obtain ⟨i, hi, rfl⟩ := List.mem_iff_getElem.1 ht
    rcases hh with h | ⟨b, off, ha, hb, hc⟩
    · subst h; simp at hi
    · obtain ⟨cs', d, h1, ⟨_, rfl⟩, ds, sr, hx, hd⟩ := hc i hi
      refine hM _ ?_
      rw [hx]
      refine weights_in Try.underlying33 hd ?_
      rw [List.getD_eq_getElem?_getD, List.getElem?_eq_getElem hi]
      simp [DataW.weights]
set_option maxRecDepth 100000 in
theorem trod_stp {fuel : Nat} {cs : List Value} {x : DataW H × List MemPlace} (h : DataW.trod enc Try.prog w base sp held fuel 35 cs = some x) :
    ∃ s : Stp, ∃ c1 c2 lv c5 c6, cs = [.int .u8 (s.k : Int), c1, c2, lv, .string (bs s.S), c5, c6] ∧ IsStrs w lv (s.L.map bs) ∧ NilS lv ∧ s.k < 256 ∧ ∀ M, (∀ n ∈ DataW.weights Try.prog 35 x.1, n ≤ M) → s.L.length ≤ M ∧ (∀ t ∈ s.L, t.length ≤ M) ∧ s.S.length ≤ M := by
  obtain ⟨xs, n, _, rfl, hl, hlen, hf⟩ := DataW.trod_struct Try.underlying35 h
  rw [cStp] at hl
  obtain ⟨c0, c1, c2, c3, c4, c5, c6, rfl⟩ := list7 hl
  obtain ⟨y0, y1, y2, y3, y4, y5, y6, rfl⟩ := list7 hlen
  have h0 : DataW.trod enc Try.prog w base sp held n 5 [c0] = some y0 := by simpa [cU8'] using hf 0 _ rfl
  have h3 : DataW.trod enc Try.prog w base sp held n 33 [c3] = some y3 := by simpa [cStrs'] using hf 3 _ rfl
  have h4 : DataW.trod enc Try.prog w base sp held n 9 [c4] = some y4 := by simpa [cStr'] using hf 4 _ rfl
  obtain ⟨z0, e0, rfl, w0⟩ := DataW.trod_int Try.underlying5 h0
  obtain ⟨v3, L, e3, i3, n3, s3⟩ := trod_strsW h3
  obtain ⟨s4, e4, rfl, _⟩ := DataW.trod_string Try.underlying9 h4
  have w1 := wf_u8 w0
  obtain ⟨k, rfl⟩ : ∃ k : Nat, z0 = (k : Int) := ⟨z0.toNat, by omega⟩
  simp only [List.cons.injEq, and_true] at e0 e3 e4
  subst e0; subst e3; subst e4
  have hparts : ∀ n, (n ∈ DataW.weights Try.prog 33 y3.1 ∨ n = s4.data.toList.length) → n ∈ DataW.weights Try.prog 35 (DataW.agg ([(DataW.lit (.int .u8 (k : Int)), ([] : List MemPlace)), y1, y2, y3, (DataW.lit (.string s4.data.toList), []), y5, y6].map (·.1))) := fun n hn => by
    rw [DataW.weights, Try.underlying35]
    simp only [List.map_cons, List.map_nil, DataW.weightsEach, List.mem_append]
    rcases hn with hn | hn
    · exact Or.inr (Or.inr (Or.inr (Or.inl hn)))
    · exact Or.inr (Or.inr (Or.inr (Or.inr (Or.inl (by simp [DataW.weights, hn])))))
  refine ⟨⟨k, L, s4.data.toList⟩, c1, c2, _, c5, c6, by rw [toList_bs], i3, n3, by show k < 256; omega, fun M hM => ?_⟩
  obtain ⟨q1, q2⟩ := s3 M (fun n hn => hM n (hparts n (Or.inl hn)))
  exact ⟨q1, q2, hM _ (hparts _ (Or.inr rfl))⟩
def stpZ : Stp := ⟨0, [], []⟩
set_option maxRecDepth 100000 in
theorem open_stps {ts : List TypeId} {ds0 : List (DataW H)} (hsz : (DataW.weightsEach Try.prog ts ds0).all (· ≤ reachBytes) = true) {j : Nat} {r : Reach} {b0 : Nat} {v : Value} {d : DataW H} {ps : List MemPlace} (hj : ts[j]? = some 22) (hdj : ds0[j]? = some d)
    (hval : Value.okWide Try.prog w r b0 22 v) (hd : DataW.Trod enc Try.prog w base sp held 22 v d ps) :
    ∃ l : List Stp, IsStps w v l ∧ (∀ s ∈ l, StpSz s) ∧ l.length ≤ 140737488355328 := by
  obtain ⟨a0, len0, cap0, rfl⟩ := okWide_slice Try.underlying22 hval
  obtain ⟨fuel, hf⟩ := hd
  have hm : ∀ n ∈ DataW.weights Try.prog 22 d, n ≤ 140737488355328 := fun n hn => by
    have := List.all_eq_true.1 hsz _ (DataW.weights_mem_each hj hdj _ hn)
    have h2 : n ≤ reachBytes := of_decide_eq_true this
    exact Nat.le_trans h2 (by decide)
  obtain ⟨a1, cap, l, hcs, _, hh, hlen⟩ := trod_relD stpZ (fun cs (s : Stp) (d : DataW H) => ∃ c1 c2 lv c5 c6, cs = [.int .u8 (s.k : Int), c1, c2, lv, .string (bs s.S), c5, c6] ∧ IsStrs w lv (s.L.map bs) ∧ NilS lv ∧ s.k < 256 ∧ ∀ M, (∀ n ∈ DataW.weights Try.prog 35 d, n ≤ M) → s.L.length ≤ M ∧ (∀ t ∈ s.L, t.length ≤ M) ∧ s.S.length ≤ M)
    Try.underlying22 cStp (by decide) (fun cs a d h => by obtain ⟨_, _, _, _, _, rfl, _⟩ := h; rfl) trod_stp hf
  have hv : Value.slice a0 len0 cap0 = .slice a1 l.length cap := by simpa [Value.cells] using hcs
  rw [hv]
  refine ⟨l, ⟨a1, cap, rfl, ?_⟩, fun s hs => ?_, ?_⟩
  · rcases hh with h | ⟨b, off, ha, hb, hc⟩
    · exact Or.inl h
    · refine Or.inr ⟨b, off, ha, hb, fun i s hs => ?_⟩
      obtain ⟨hi, hgs⟩ := List.getElem?_eq_some_iff.1 hs
      obtain ⟨cs', d', h1, ⟨c1, c2, lv, c5, c6, rfl, h2, h3, h4, _⟩, _⟩ := hc i hi
      have hg : l.getD i stpZ = s := by rw [List.getD_eq_getElem?_getD, hs]; rfl
      rw [hg] at h1 h2 h4
      exact ⟨h1 0 _ rfl, ⟨lv, h1 3 _ rfl, h2, h3⟩, h1 4 _ rfl, h4⟩
  · obtain ⟨i, hi, rfl⟩ := List.mem_iff_getElem.1 hs
    rcases hh with h | ⟨b, off, ha, hb, hc⟩
    · subst h; simp at hi
    · obtain ⟨cs', d', _, ⟨_, _, _, _, _, _, _, _, _, h5⟩, ds, sr, hx, hdd⟩ := hc i hi
      have hg : l.getD i stpZ = l[i] := by rw [List.getD_eq_getElem?_getD, List.getElem?_eq_getElem hi]; rfl
      rw [hg] at h5
      dsimp only at hx
      obtain ⟨q1, q2, q3⟩ := h5 140737488355328 (fun n hn => hm n (by rw [hx]; exact weights_in Try.underlying22 hdd hn))
      exact ⟨q1, q2, q3⟩
  · rcases hlen with h | ⟨ds, sr, hx, hl⟩
    · rw [h]; exact Nat.zero_le _
    · dsimp only at hx
      have := hm _ (by rw [hx]; exact weights_len Try.underlying22)
      rw [bStp, hl] at this
      have h2 : l.length * 1 ≤ (l.length + sr.length) * 80 := Nat.mul_le_mul (Nat.le_add_right _ _) (by decide)
      omega
end
end Go.Proofs.Ytniflkggcceagaa

namespace Go.Proofs.Ytniflkggcceagaa
open Go Go.RowKit
structure RInv (R : Nat) (D : Dk) (W : Wa) (q : Nat) : Prop where
  inv : LInv D W
  room : D.room = 400 + R
  ok : DkOk D
  loose : D.loose.length ≤ 20 * q
  use : sumL W.sizes ≤ 200
  res : W.reserved = 0
  gen : W.gen = 1
  next : 1 ≤ W.next ∧ W.next ≤ 1 + 20 * q
theorem LInv.resv {D : Dk} {W : Wa} (h : LInv D W) (r : Int) : LInv D { W with reserved := r } := ⟨h.n3, h.n16, h.fu, h.dn, h.fl, h.one, h.nd, h.rg, h.sz, h.em, h.full⟩
theorem LInv.len3 {D : Dk} {W : Wa} (h : LInv D W) : W.sizes.length ≤ 3 := by
  have := h.frees; have := h.fl; omega
theorem LInv.le {D : Dk} {W : Wa} (_h : LInv D W) : ∀ n ∈ W.sizes, n ≤ sumL W.sizes := by
  have : ∀ (l : List Nat), ∀ n ∈ l, n ≤ sumL l := fun l => by
    induction l with
    | nil => intro n hn; cases hn
    | cons a r ih =>
      intro n hn
      rw [sumL_cons]
      rcases List.mem_cons.1 hn with rfl | hn
      · omega
      · have := ih n hn; omega
  exact this W.sizes
theorem LInv.waok {D : Dk} {W : Wa} (h : LInv D W) (hu : sumL W.sizes ≤ 200) (hr : 0 ≤ W.reserved ∧ W.reserved ≤ 200) : WaOk W := ⟨by have := h.len3; omega, fun n hn => by have := h.le n hn; omega, by omega⟩
theorem LInv.aok {D : Dk} {W : Wa} (h : LInv D W) (hu : sumL W.sizes ≤ 200) (hn : W.next ≤ 1000000) : AOk W 0 := ⟨h.fl, h.one, by have := h.len3; omega, fun n hn => by have := h.le n hn; omega, by omega⟩
theorem LInv.dkok {D : Dk} {W : Wa} (h : LInv D W) (hr : D.room ≤ 4194304) (hu : sumL W.sizes ≤ 200) (hl : D.loose.length ≤ 1000000) : DkOk D := ⟨hr, fun i hi => by
  have := lensN_le D.now 16 i hi
  have := h.lens; omega, hl, by have := h.fu; omega⟩
theorem lensT_take (l : List (List UInt8)) (k : Nat) (h : k < l.length) : lensT (l.take (k + 1)) = lensT (l.take k) + (16 + (l.getD k []).length) := by
  unfold lensT
  rw [List.take_succ_eq_append_getElem h, List.map_append, sumL_append, List.getD_eq_getElem?_getD, List.getElem?_eq_getElem h]
  simp [sumL]
theorem cz_row0 {w : World} {g : Nat} {e : TypeId} {B : Nat} (h : Cz w g e #[]) (hB : B ≤ g) : w.ownsRow B e 1 (.slice (some ⟨g, 0, none⟩) 0 0) 0 [] :=
  ⟨rfl, Or.inr ⟨g, 0, #[], rfl, hB, h, Nat.le_refl _, by decide, rfl, rfl⟩⟩
theorem wpl_strs {w : World} {ops : Array Oper} {rest : List Oper} {o : Oper} {a : Act} {Q : Exit → Act → World → Prop} (hgd : o.guard = none) (s x : Operand)
    (ho : o.op = .call { callee := .builtin .append, args := #[s, x], argTypes := #[33, 33] }) {B g nl lc : Nat} {la : Option Addr} {l : List (List UInt8)} (hs : a.eval s = .slice (some ⟨g, 0, none⟩) 0 0) (hz : Cz w g 9 #[]) (hB : B ≤ g) (hx : a.eval x = .slice la nl lc) (hnil : la = none → nl = 0 ∧ lc = 0)
    (hc : nl = 0 ∨ ∃ b2 o2, la = some ⟨b2, o2, none⟩ ∧ ∀ i, i < nl → w.cell? ⟨b2, o2 + i, none⟩ = some (.string (bs (l.getD i [])))) (hl : l.length = nl) (hnl : nl ≤ 1000)
    (h : ∀ v' w', w'.ownsRow B 9 1 v' nl (strsV l) → w.grownBy w' (some g) → wpList Try.prog ops Q rest (a.put o.dst v') w') : wpList Try.prog ops Q (o :: rest) a w := by
  obtain ⟨i1, hi1, hi1z, hi1s, hi1b⟩ := info_parts infoStr'
  cases la with
  | none =>
    obtain ⟨rfl, rfl⟩ := hnil rfl
    have hl0 : l = [] := List.length_eq_zero_iff.1 hl
    subst hl0
    refine wpList_append_own_none hgd s x 33 ho B 9 i1 1 Try.underlying33 hi1 _ 0 [] hs (cz_row0 hz hB) hx ?_
    exact h _ _ (cz_row0 hz hB) ⟨rfl, rfl, rfl, Nat.le_refl _, fun _ _ _ => rfl⟩
  | some p =>
    have hcell : ∀ (j : Nat) (u : Value), (strsV l)[j]? = some u → w.cell? (p.add j) = some u := fun j u hu => by
      have hj := (List.getElem?_eq_some_iff.1 hu).1
      unfold strsV at hj hu
      rw [List.length_map] at hj
      rcases hc with h0 | ⟨b2, o2, e, hcc⟩
      · omega
      · cases e
        rw [Addr.add_lit, hcc j (by omega)]
        rw [List.getElem?_map, List.getElem?_eq_getElem hj] at hu
        rw [List.getD_eq_getElem?_getD, List.getElem?_eq_getElem hj]
        exact hu
    refine wpList_append_own _ hgd s x 33 ho B 9 i1 (.string ⟨#[]⟩) 1 16 Try.underlying33 hi1 hi1z hi1s hi1b rfl (by decide) (.slice (some ⟨g, 0, none⟩) 0 0) 0 [] hs (cz_row0 hz hB) p nl lc (strsV l) hx (by unfold strsV; rw [List.length_map]; omega) hcell (fun u hu => by unfold strsV at hu; obtain ⟨z, _, rfl⟩ := List.mem_map.1 hu; rfl) (by unfold maxLen; omega) (by omega) (by have := hz.lt; omega) ?_
    intro v' w' ho' hg' _
    exact h v' w' (by rw [Nat.zero_add, List.nil_append] at ho'; exact ho') hg'
set_option maxRecDepth 100000 in
set_option maxHeartbeats 4000000 in
theorem law12_room (v : Value) (ls : List Stp) (rm : Nat) (hrm : rm < 65536) (w : World) (h : IsStps w v ls) (hz : ∀ s ∈ ls, StpSz s) (hn : ls.length ≤ 140737488355328) :
    Calls Try.prog 3 #[v, .int .u16 (rm : Int)] w fun e w' => e = .returned (.bool true) ∧ Below w.heap.size w w' := by
  have HV := Lib.hid (law_Heavy w v ls h hz hn)
  obtain ⟨a, cap, rfl, hc⟩ := h
  obtain ⟨n, hnn⟩ : ∃ z, ls.length = z := ⟨_, rfl⟩
  rw [hnn] at HV hn ⊢
  have HN := Lib.hid hnn; have HC := Lib.hid hc
  clear hnn hc hz
  unfold HvyG at HV
  obtain ⟨A, hA⟩ : ∃ z, w.heap.size = z := ⟨_, rfl⟩
  have HA := Lib.hid hA
  rw [hA]
  go_enter Try.func3, Try.ntmps3
  go_wp2_with fail
  refine HV.out.mono ?_
  rintro e w1 ⟨hv, rfl, hw1, hfit⟩
  subst w1
  cases hv with
  | true =>
    go_wp2_with fail
    refine (law12_alive w).mono ?_
    rintro e w1 ⟨rfl, hb1⟩
    rw [hA] at hb1
    have HB1 := Lib.hid hb1
    clear hb1
    go_wp2_with fail
    go_ret
    exact ⟨rfl, HB1.out⟩
  | false =>
    obtain ⟨hn40, hfit⟩ := hfit rfl
    have HFIT := Lib.hid hfit
    have hn40b : n ≤ 40 := by rw [← HN.out]; exact hn40
    obtain ⟨R, hR⟩ : ∃ z, rm % 900 = z := ⟨_, rfl⟩
    have hRb : R < 900 := by rw [← hR]; exact Nat.mod_lt _ (by decide)
    have hrem : (rm : Int).tmod 900 = (R : Int) := by
      rw [← hR, Int.tmod_eq_emod_of_nonneg (by omega)]; omega
    have hcv : IntKind.i64.wrap (rm : Int) = (rm : Int) := by rw [IntKind.wrap_i64]; omega
    have hRw : IntKind.i64.wrap (R : Int) = (R : Int) := by rw [IntKind.wrap_i64]; omega
    have hmd := law_made w R (by omega)
    rw [hA] at hmd
    have HMD := Lib.hid hmd
    clear hmd hn40 hfit hn hR
    clear hA
    go_wp2_with fail
    refine HMD.out.mono ?_
    rintro e w1 ⟨d, x, rfl, hl1, hb1⟩
    have HL1 := Lib.hid hl1; have HB1 := Lib.hid hb1
    clear hl1 hb1 HMD hrem hcv hRw
    have HI0 : Hid (RInv R (mD R) mW 0) := Lib.hid ⟨mk_inv R, rfl, mk_ok R (by omega), Nat.le_refl _, by decide, rfl, rfl, by decide⟩
    go_wp2_with fail
    go_loopw [7] (fun i wr => ∃ (q : Nat) (D : Dk) (W : Wa), q ≤ n ∧ i = .int .i64 q ∧ Hid (Below A w wr) ∧ Hid (LgS (fun k => A ≤ k) x d D W wr) ∧ Hid (RInv R D W q)) (fun i _ => n - (intOf i).toNat)
    case atStart => exact ⟨0, mD R, mW, Nat.zero_le _, rfl, HB1, HL1, HI0⟩
    case round =>
      obtain ⟨q, D, W, hq, rfl, HB, HL, HI⟩ := hrel
      clear HI0 HL1 HB1
      by_cases hlt : q < n
      · have HLT := Lib.hid hlt
        have hqi : (q : Int) < (n : Int) := by omega
        obtain ⟨b, off, rfl, hbl, hs⟩ := HC.out.resolve_left (fun e => by have := HN.out; rw [e] at this; simp at this; omega)
        obtain ⟨s, hst⟩ : ∃ s, ls[q]? = some s := ⟨_, List.getElem?_eq_getElem (by rw [HN.out]; exact hlt)⟩
        have hat := hs q s hst
        have hft := HFIT.out s (List.mem_of_getElem? hst)
        obtain ⟨lv, c3, hlv, hnil⟩ := hat.c3
        have HLV := Lib.hid hlv
        obtain ⟨la, lc, hlve, hlc⟩ := hlv.at
        subst hlve
        obtain ⟨nl, hnl⟩ : ∃ z, s.L.length = z := ⟨_, rfl⟩
        have hnlb : nl ≤ 20 := by rw [← hnl]; exact hft.1
        rw [hnl] at c3 hnil HLV
        have HNL := Lib.hid hnl; have HLC := Lib.hid hlc; have HTT := Lib.hid hft.2.2; have HNIL := Lib.hid hnil
        -- the old memory at any world
        have hold : ∀ W' : World, Below A w W' → W'.cell? ⟨b, off + q * 7 + 3, none⟩ = some (.slice la nl lc) := fun W' hb => (hb.cell (p := ⟨b, off + q * 7 + 3, none⟩) (by have := HA.out; show b < _; omega)).trans c3
        have HOLD := Lib.hid hold
        have HBL : Hid (b < A) := Lib.hid (by rw [← HA.out]; exact hbl)
        obtain ⟨iv, irm, iok, ilo, iu, irs, ig, inx⟩ := HI.out
        have hwa := iv.waok iu (by rw [irs]; omega)
        have haok := iv.aok iu (by omega)
        obtain ⟨nx, hnx⟩ : ∃ z, W.next = z := ⟨_, rfl⟩
        obtain ⟨lf, hlf⟩ : ∃ z, D.left = z := ⟨_, rfl⟩
        have HRM := Lib.hid (HL.out.room iok hwa)
        have hrmE := iv.roomP (by omega) (by rw [irs]; omega)
        rw [irs] at hrmE
        obtain ⟨us, hus⟩ : ∃ z, sumL W.sizes = z := ⟨_, rfl⟩
        rw [hus] at hrmE iu
        obtain ⟨ro, hro⟩ : ∃ z, 200 - us = z := ⟨_, rfl⟩
        have hroE : roomP D W = (ro : Int) := by rw [hrmE]; omega
        rw [hroE] at HRM
        have HNXT := Lib.hid (fun n => (HL.out.step (w' := wr.drewN n) ⟨rfl, rfl, rfl, Nat.le_refl _, fun _ _ => rfl⟩).next)
        rw [hnx] at HNXT
        have HDRM := Lib.hid (fun n => (HL.out.step (w' := wr.drewN n) ⟨rfl, rfl, rfl, Nat.le_refl _, fun _ _ => rfl⟩).droom iok)
        rw [hlf] at HDRM
        have hlfE : lf = 400 + (R : Int) - (us : Int) := by rw [← hlf, iv.left, irm, hus]; omega
        have HNX := Lib.hid hnx; have HLF := Lib.hid hlf; have HUS := Lib.hid hus; have HRO := Lib.hid hro; have HROE := Lib.hid hroE; have HLFE := Lib.hid hlfE
        have hrob : ro ≤ 200 := by omega
        have hnxb : nx ≤ 1000 := by rw [← hnx]; have := inx.2; omega
        have hlfb : 0 ≤ lf ∧ lf ≤ 2000 := by omega
        clear hs hst hat hft c3 hlv hlc hnl hnil iv irm iok ilo iu irs ig inx hwa haok hrmE hroE hnx hlf hus hro hlfE hold hbl
        go_wp2_with fail
        refine HRM.out.mono ?_
        rintro e w2 ⟨rfl, z, rfl⟩
        go_wp2_with fail
        refine (HNXT.out z).mono ?_
        rintro e w3 ⟨rfl, hw3⟩
        subst w3
        go_wp2_with fail
        refine (HDRM.out z).mono ?_
        rintro e w3 ⟨rfl, hw3⟩
        subst w3
        obtain ⟨w4, hw4⟩ : ∃ z', wr.drewN z = z' := ⟨_, rfl⟩
        have hb4 : Below wr.heap.size wr w4 := by rw [← hw4]; exact ⟨rfl, rfl, rfl, Nat.le_refl _, fun _ _ => rfl⟩
        rw [hw4]
        have HL4 := Lib.hid (HL.out.step hb4)
        have HSW : Hid (A ≤ wr.heap.size) := Lib.hid (by have := HB.out.size; have := HA.out; omega)
        have HB4 := Lib.hid (HB.out.trans (hb4.mono HSW.out))
        have HS4 : Hid (A ≤ w4.heap.size) := Lib.hid (by have := hb4.size; have := HSW.out; omega)
        clear hb4 hw4 HRM HNXT HDRM HB HL
        have co := HOLD.out w4 HB4.out
        go_wp2_with fail
        go_loopw [11, 12] (fun s' j wr2 => ∃ k m : Nat, k ≤ nl ∧ j = .int .i64 k ∧ s' = .int .i64 m ∧ m ≤ k * 9000 ∧ wr2 = w4 ∧ Hid (m = lensT (s.L.take k))) (fun _ j _ => nl - (intOf j).toNat)
        case atStart => exact ⟨0, 0, Nat.zero_le _, rfl, rfl, Nat.zero_le _, rfl, Lib.hid rfl⟩
        case round =>
          obtain ⟨k, m, hk, rfl, rfl, hm, hw, HM⟩ := hrel
          subst wr
          by_cases hkl : k < nl
          · have HKL := Lib.hid hkl
            have hki : (k : Int) < (nl : Int) := by omega
            obtain ⟨b2, o2, rfl, hb2, hc2⟩ := HLC.out.resolve_left (fun e => by have := HNL.out; rw [e] at this; simp at this; omega)
            obtain ⟨t, htt⟩ : ∃ t, s.L.getD k [] = t := ⟨_, rfl⟩
            have ct := (HB4.out.cell (p := ⟨b2, o2 + k, none⟩) (by have := HA.out; show b2 < _; omega)).trans (hc2 k (by rw [HNL.out]; exact hkl))
            rw [htt] at ct
            obtain ⟨tl, htl⟩ : ∃ z, t.length = z := ⟨_, rfl⟩
            have hts : (bs t).size = tl := by rw [bs_size, htl]
            have htb : tl ≤ 8192 := by
              rw [← htl, ← htt]
              exact HTT.out _ (by rw [List.getD_eq_getElem?_getD, List.getElem?_eq_getElem (by rw [HNL.out]; exact hkl)]; exact List.getElem_mem _)
            have HTL := Lib.hid (And.intro htt htl)
            clear hc2 htt htl
            go_wp2_with fail
            go_roundw
            case rel => exact ⟨k + 1, m + 16 + tl, HKL.out, by go_num, by go_num, by omega, trivial, Lib.hid (by rw [lensT_take _ _ (by rw [HNL.out]; exact HKL.out), HTL.out.1, HTL.out.2, ← HM.out]; omega)⟩
            case measure => have := HKL.out; simp [intOf]; omega
          · obtain rfl : k = nl := by omega
            have HMM : Hid (m = lensT s.L) := Lib.hid (by rw [HM.out, List.take_of_length_le (by rw [HNL.out]; exact Nat.le_refl _)])
            clear HM
            have HCEL : Hid (∀ W', Below w4.heap.size w4 W' → (k = 0 ∨ ∃ b2 o2, la = some ⟨b2, o2, none⟩ ∧ ∀ i, i < k → W'.cell? ⟨b2, o2 + i, none⟩ = some (.string (bs (s.L.getD i []))))) := Lib.hid (fun W' hb => by
              rcases HLC.out with e | ⟨b2, o2, e1, e2, e3⟩
              · exact Or.inl (by rw [← HNL.out, e]; rfl)
              · refine Or.inr ⟨b2, o2, e1, fun i hi => ?_⟩
                have hl2 : b2 < A := by rw [← HA.out]; exact e2
                exact (hb.cell (p := ⟨b2, o2 + i, none⟩) (by have := HS4.out; show b2 < _; omega)).trans ((HB4.out.cell (p := ⟨b2, o2 + i, none⟩) hl2).trans (e3 i (by rw [HNL.out]; exact hi))))
            have HNILS : Hid (la = none → k = 0 ∧ lc = 0) := Lib.hid (fun e => HNIL.out k lc (by rw [e]))
            have co5 := HOLD.out (w4.alloc (.cells #[] 9)) (HB4.out.trans (((Below.refl _ _).alloc (Nat.le_refl _) _).mono HS4.out))
            go_wp2_with (first
              | (at_builtin; refine wpl_strs rfl _ _ rfl (B := w4.heap.size) (l := s.L) rfl (Cz.new w4 #[] 9) (Nat.le_refl _) rfl HNILS.out (HCEL.out _ ((Below.refl _ _).alloc (Nat.le_refl _) _)) HNL.out (by omega) ?_; intro v75 w75 hown75 hg75; have Hown75 := Lib.hid hown75; have Hg75 := Lib.hid hg75; clear hown75 hg75)
              | fail)
            have hb75 : Below w4.heap.size w4 w75 := ((Below.refl w4.heap.size w4).alloc (Nat.le_refl _) (.cells #[] 9)).grown Hg75.out (by simp) (fun j e => by cases e; exact Nat.le_refl _)
            obtain ⟨iv, irm, iok, ilo, iu, irs, ig, inx⟩ := HI.out
            have hst : IsStrs w75 v75 (s.L.map bs) := own_strs (B := w4.heap.size) (by rw [HNL.out]; exact Hown75.out)
            have hap := (HL4.out.step hb75).append iok (iv.waok iu (by rw [irs]; omega)) (iv.aok iu (by omega)) (by rw [ig]; decide) inx.1 iv.n3 0 (by rw [irs]; decide) s.L v75 hst (by rw [HNL.out]; exact hnlb) (fun t ht => by have := HTT.out t ht; omega) (by omega)
            have hpn := pcs_need W.gen s.L W.next (lastN W.sizes)
            rw [HNL.out, ← HMM.out] at hpn
            have HB75 := Lib.hid (HB4.out.trans (hb75.mono HS4.out))
            have HS75 : Hid (A ≤ w75.heap.size) := Lib.hid (by have := HS4.out; have := hb75.size; omega)
            rcases ap_inv iv (by omega) (by rw [irs]; omega) (by rw [irs]; omega) 0 (by rw [irs]; omega) s.L (fun t ht => by have := HTT.out t ht; omega) with ⟨h1, h2⟩ | ⟨h1, D', W', h2, h3, h4, h5⟩
            · rw [h2] at hap
              rw [HROE.out] at h1
              have HAP := Lib.hid hap
              have hwas : ¬ ((m : Int) + 40 * (k : Int) ≤ (ro : Int)) := by omega
              have hwasd : decide ((m : Int) + 40 * (k : Int) ≤ (ro : Int)) = false := by simp; omega
              clear hap h1 h2 hpn hst hb75 iv irm iok ilo iu irs ig inx co
              unfold LgR at HAP
              refine HAP.out.mono ?_
              rintro e w5 ⟨rfl, hl5, hb5⟩
              have HL5 := Lib.hid (hl5.back (fun j hj => by have := HS75.out; omega))
              have HB5 := Lib.hid (HB75.out.trans (hb5.below (fun k h => h) HS75.out))
              have HS5 : Hid (A ≤ w5.heap.size) := Lib.hid (by have := HS75.out; have := hb5.size; omega)
              have co := HOLD.out w5 HB5.out
              have HRM := Lib.hid (HL5.out.room HI.out.ok (HI.out.inv.waok HI.out.use (by rw [HI.out.res]; omega)))
              rw [HROE.out] at HRM
              clear hl5 hb5 HAP
              go_wp2_with fail
              refine HRM.out.mono ?_
              rintro e w6 ⟨rfl, z6, rfl⟩
              have hl6 := HL5.out.step (w' := w5.drewN z6) ⟨rfl, rfl, rfl, Nat.le_refl _, fun _ _ => rfl⟩
              have hnx6 := hl6.next
              rw [HNX.out] at hnx6
              have hdr6 := hl6.droom HI.out.ok
              rw [HLF.out] at hdr6
              have HNX6 := Lib.hid hnx6; have HDR6 := Lib.hid hdr6; have HL6 := Lib.hid hl6
              have HB6 : Hid (Below A w (w5.drewN z6)) := Lib.hid (HB5.out.trans ⟨rfl, rfl, rfl, Nat.le_refl _, fun _ _ => rfl⟩)
              clear hl6 hnx6 hdr6
              go_wp2_with fail
              refine HNX6.out.mono ?_
              rintro e w7 ⟨rfl, hw7⟩
              subst w7
              go_wp2_with fail
              refine HDR6.out.mono ?_
              rintro e w7 ⟨rfl, hw7⟩
              subst w7
              go_wp2_with fail
              go_roundw
              case rel => exact ⟨q + 1, D, W, HLT.out, by go_num, HB6, HL6, Lib.hid ⟨HI.out.inv, HI.out.room, HI.out.ok, by have := HI.out.loose; omega, HI.out.use, HI.out.res, HI.out.gen, HI.out.next.1, by have := HI.out.next.2; omega⟩⟩
              case measure => have := HLT.out; simp [intOf]; omega
            · rw [h2] at hap
              obtain ⟨np, hnp⟩ : ∃ z, needP (pcs W.gen W.next (lastN W.sizes) s.L) = z := ⟨_, rfl⟩
              rw [hnp] at h1 h4 hpn
              rw [HROE.out] at h1
              have hnpb : np ≤ ro := by omega
              have hmnp : m ≤ np := by omega
              have hz := h5.next
              rw [HNL.out, HNX.out] at hz
              have hlo := h5.loose
              rw [HNL.out] at hlo
              obtain ⟨W2, hW2⟩ : ∃ z, ({ W' with reserved := W.reserved - 0 } : Wa) = z := ⟨_, rfl⟩
              have h3' : LInv D' W2 := by rw [← hW2]; exact h3.resv _
              have hs2 : sumL W2.sizes = us + np := by rw [← hW2, ← HUS.out]; exact h4
              have hr2 : W2.reserved = 0 := by rw [← hW2]; show W.reserved - 0 = 0; rw [irs]; rfl
              have hn2 : W2.next = nx + k := by rw [← hW2]; exact hz
              have hg2 : W2.gen = 1 := by rw [← hW2]; exact h5.gen.trans ig
              have hroom2 : D'.room = 400 + R := h5.room.trans irm
              have husn : us + np ≤ 200 := by have := HRO.out; have := HUS.out; omega
              have hdk2 : DkOk D' := h3'.dkok (by omega) (by omega) (by omega)
              have HI2 : Hid (RInv R D' W2 (q + 1)) := Lib.hid ⟨h3', hroom2, hdk2, by omega, by omega, hr2, hg2, by rw [hn2]; have := inx.1; have := HNX.out; omega, by rw [hn2]; have := inx.2; have := HNX.out; omega⟩
              obtain ⟨ro2, hro2⟩ : ∃ z, ro - np = z := ⟨_, rfl⟩
              have hrp2 : roomP D' W2 = (ro2 : Int) := by rw [h3'.roomP (by omega) (by rw [hs2, hr2]; omega), hs2, hr2]; have := HRO.out; have := HUS.out; omega
              obtain ⟨lf2, hlf2⟩ : ∃ z, D'.left = z := ⟨_, rfl⟩
              have hlf2E : lf2 = lf - (np : Int) := by rw [← hlf2, h3'.left, hs2, hroom2]; have := HLFE.out; omega
              obtain ⟨nx2, hnx2⟩ : ∃ z, nx + k = z := ⟨_, rfl⟩
              rw [hW2] at hap
              have HAP := Lib.hid hap
              rw [HNX.out] at HAP
              have HRP2 := Lib.hid hrp2; have HLF2 := Lib.hid hlf2; have HN2 := Lib.hid (hn2.trans hnx2)
              have hsp : lf - lf2 = (np : Int) := by omega
              have hspw : IntKind.i64.wrap (np : Int) = (np : Int) := by rw [IntKind.wrap_i64]; omega
              have hnx2i : (nx : Int) + (k : Int) = (nx2 : Int) := by omega
              have hnx2w : IntKind.u64.wrap (nx2 : Int) = (nx2 : Int) := by rw [IntKind.wrap_u64]; omega
              have hkw : IntKind.u64.wrap (k : Int) = (k : Int) := by rw [IntKind.wrap_u64]; omega
              have hro2i : (ro : Int) - (np : Int) = (ro2 : Int) := by omega
              have hro2w : IntKind.i64.wrap (ro2 : Int) = (ro2 : Int) := by rw [IntKind.wrap_i64]; omega
              have hc1 : decide ((np : Int) < (m : Int)) = false := by simp; omega
              have hc2 : decide ((ro : Int) < (np : Int)) = false := by simp; omega
              have hc3 : ¬ (np : Int) < (m : Int) := by omega
              have hc4 : ¬ (ro : Int) < (np : Int) := by omega
              clear hap h1 h2 h3 h4 h5 hpn hst hb75 iv irm iok ilo iu irs ig inx co hnp hz hlo hW2 h3' hs2 hr2 hn2 hg2 hroom2 husn hdk2 hro2 hrp2 hlf2 hlf2E hnx2
              unfold LgR at HAP
              refine HAP.out.mono ?_
              rintro e w5 ⟨rfl, hl5, hb5⟩
              have HL5 := Lib.hid (hl5.back (fun j hj => by have := HS75.out; omega))
              have HB5 := Lib.hid (HB75.out.trans (hb5.below (fun k h => h) HS75.out))
              have HS5 : Hid (A ≤ w5.heap.size) := Lib.hid (by have := HS75.out; have := hb5.size; omega)
              have hdr := HL5.out.droom HI2.out.ok
              rw [HLF2.out] at hdr
              have HDR := Lib.hid hdr
              have HLN : Hid (∀ n, LgS (fun k => A ≤ k) x d D' W2 (w5.drewN n)) := Lib.hid (fun n => HL5.out.step ⟨rfl, rfl, rfl, Nat.le_refl _, fun _ _ => rfl⟩)
              have HNXC : Hid (∀ n, Calls Try.prog 11 #[.pointer (some ⟨x, 0, none⟩)] (w5.drewN n) fun e w' => e = .returned (.int .u64 (nx2 : Int)) ∧ w' = w5.drewN n) := Lib.hid (fun n => by
                have := (HLN.out n).next
                rw [HN2.out] at this; exact this)
              have HRMC : Hid (∀ n, Calls Try.prog 10 #[.pointer (some ⟨x, 0, none⟩)] (w5.drewN n) fun e w' => e = .returned (.int .i64 (ro2 : Int)) ∧ ∃ m, w' = (w5.drewN n).drewN m) := Lib.hid (fun n => by
                have := (HLN.out n).room HI2.out.ok (HI2.out.inv.waok HI2.out.use (by rw [HI2.out.res]; omega))
                rw [HRP2.out] at this; exact this)
              have HCO : Hid (∀ n, (w5.drewN n).cell? ⟨b, off + q * 7 + 3, none⟩ = some (.slice la k lc)) := Lib.hid (fun n => HOLD.out _ (HB5.out.trans ⟨rfl, rfl, rfl, Nat.le_refl _, fun _ _ => rfl⟩))
              clear hl5 hb5 HAP hdr
              go_wp2_with fail
              refine HDR.out.mono ?_
              rintro e w6 ⟨rfl, hw6⟩
              subst w6
              go_upto_region 20 with fail
              refine wp_region_quiet (C := fun W => ∃ n, W = w5.drewN n) (by kernel_rfl) (by kernel_rfl) ⟨1, rfl⟩ ?_
              refine (quiet_plain' ?_ (.int .u64 (nx : Int)) (fun w' hw' => ?_) ?_ : _)
              · exact rfl
              · go_simp
              go_frame
              refine (quiet_plain' ?_ (.int .u64 (nx : Int)) (fun w' hw' => ?_) ?_ : _)
              · exact rfl
              · go_simp
              go_frame
              refine (quiet_plain' ?_ (.bool false) (fun w' hw' => ?_) ?_ : _)
              · exact rfl
              · go_simp
              go_frame
              refine (quiet_plain' ?_ (.bool false) (fun w' hw' => ?_) ?_ : _)
              · exact rfl
              · go_simp
              go_frame
              refine (quiet_plain' ?_ (.pointer (some ⟨x, 0, none⟩)) (fun w' hw' => ?_) ?_ : _)
              · exact rfl
              · go_simp
              go_frame
              refine (quiet_call' ?_ (.int .u64 (nx2 : Int)) 11 #[.pointer (some ⟨x, 0, none⟩)] (fun w' hw' => ⟨?_, ?_⟩) ?_ : _)
              · exact rfl
              · obtain ⟨n, rfl⟩ := hw'; have e1 := HCO.out n
                go_simp
              · obtain ⟨n, rfl⟩ := hw'; exact (HNXC.out n).mono (fun e wz h => ⟨h.1, n, h.2⟩)
              go_frame
              refine (quiet_plain' ?_ (.int .u64 (nx : Int)) (fun w' hw' => ?_) ?_ : _)
              · exact rfl
              · go_simp
              go_frame
              refine (quiet_plain' ?_ (.slice (some ⟨b, off, none⟩) n cap) (fun w' hw' => ?_) ?_ : _)
              · exact rfl
              · go_simp
              go_frame
              refine (quiet_plain' ?_ (.int .i64 (q : Int)) (fun w' hw' => ?_) ?_ : _)
              · exact rfl
              · go_simp
              go_frame
              refine (quiet_plain' ?_ (.pointer (some ⟨b, off + q * 7, none⟩)) (fun w' hw' => ?_) ?_ : _)
              · exact rfl
              · go_simp
              go_frame
              refine (quiet_plain' ?_ (.pointer (some ⟨b, off + q * 7 + 3, none⟩)) (fun w' hw' => ?_) ?_ : _)
              · exact rfl
              · go_simp
              go_frame
              refine (quiet_plain' ?_ (.slice la k lc) (fun w' hw' => ?_) ?_ : _)
              · exact rfl
              · obtain ⟨n, rfl⟩ := hw'; have e1 := HCO.out n
                go_simp
              go_frame
              refine (quiet_plain' ?_ (.int .i64 (k : Int)) (fun w' hw' => ?_) ?_ : _)
              · exact rfl
              · go_simp
              go_frame
              refine (quiet_plain' ?_ (.int .u64 (k : Int)) (fun w' hw' => ?_) ?_ : _)
              · exact rfl
              · go_simp
              go_frame
              refine (quiet_plain' ?_ (.int .u64 (nx2 : Int)) (fun w' hw' => ?_) ?_ : _)
              · exact rfl
              · go_simp
              go_frame
              refine (quiet_plain' ?_ (.bool false) (fun w' hw' => ?_) ?_ : _)
              · exact rfl
              · go_simp
              go_frame
              refine (quiet_plain' ?_ (.bool false) (fun w' hw' => ?_) ?_ : _)
              · exact rfl
              · go_simp
              go_frame
              refine (quiet_plain' ?_ (.bool false) (fun w' hw' => ?_) ?_ : _)
              · exact rfl
              · go_simp
              go_frame
              refine (quiet_plain' ?_ (.int .i64 (np : Int)) (fun w' hw' => ?_) ?_ : _)
              · exact rfl
              · go_simp
              go_frame
              refine (quiet_plain' ?_ (.int .i64 (m : Int)) (fun w' hw' => ?_) ?_ : _)
              · exact rfl
              · go_simp
              go_frame
              refine (quiet_plain' ?_ (.bool false) (fun w' hw' => ?_) ?_ : _)
              · exact rfl
              · go_simp
              go_frame
              refine (quiet_plain' ?_ (.bool false) (fun w' hw' => ?_) ?_ : _)
              · exact rfl
              · go_simp
              go_frame
              refine (quiet_plain' ?_ (.bool false) (fun w' hw' => ?_) ?_ : _)
              · exact rfl
              · go_simp
              go_frame
              refine (quiet_plain' ?_ (.int .i64 (np : Int)) (fun w' hw' => ?_) ?_ : _)
              · exact rfl
              · go_simp
              go_frame
              refine (quiet_plain' ?_ (.int .i64 (ro : Int)) (fun w' hw' => ?_) ?_ : _)
              · exact rfl
              · go_simp
              go_frame
              refine (quiet_plain' ?_ (.bool false) (fun w' hw' => ?_) ?_ : _)
              · exact rfl
              · go_simp
              go_frame
              refine (quiet_plain' ?_ (.bool false) (fun w' hw' => ?_) ?_ : _)
              · exact rfl
              · go_simp
              go_frame
              refine (quiet_plain' ?_ (.bool false) (fun w' hw' => ?_) ?_ : _)
              · exact rfl
              · go_simp
              go_frame
              refine (quiet_plain' ?_ (.pointer (some ⟨x, 0, none⟩)) (fun w' hw' => ?_) ?_ : _)
              · exact rfl
              · go_simp
              go_frame
              refine (quiet_call' ?_ (.int .i64 (ro2 : Int)) 10 #[.pointer (some ⟨x, 0, none⟩)] (fun w' hw' => ⟨?_, ?_⟩) ?_ : _)
              · exact rfl
              · obtain ⟨n, rfl⟩ := hw'; have e1 := HCO.out n
                go_simp
              · obtain ⟨n, rfl⟩ := hw'; exact (HRMC.out n).mono (fun e wz h => ⟨h.1, by obtain ⟨m, hm⟩ := h.2; exact ⟨n + m, by rw [hm, World.drewN_drewN]⟩⟩)
              go_frame
              refine (quiet_plain' ?_ (.int .i64 (ro : Int)) (fun w' hw' => ?_) ?_ : _)
              · exact rfl
              · go_simp
              go_frame
              refine (quiet_plain' ?_ (.int .i64 (np : Int)) (fun w' hw' => ?_) ?_ : _)
              · exact rfl
              · go_simp
              go_frame
              refine (quiet_plain' ?_ (.int .i64 (ro2 : Int)) (fun w' hw' => ?_) ?_ : _)
              · exact rfl
              · go_simp
              go_frame
              refine (quiet_plain' ?_ (.bool false) (fun w' hw' => ?_) ?_ : _)
              · exact rfl
              · go_simp
              go_frame
              refine (quiet_plain' ?_ (.bool false) (fun w' hw' => ?_) ?_ : _)
              · exact rfl
              · go_simp
              go_frame
              refine (wpQuiet_nil ?_ : _)
              rintro W6 ⟨nz, rfl⟩
              have HB6 : Hid (Below A w (w5.drewN nz)) := Lib.hid (HB5.out.trans ⟨rfl, rfl, rfl, Nat.le_refl _, fun _ _ => rfl⟩)
              go_wp2_with fail
              go_roundw
              case rel => exact ⟨q + 1, D', W2, HLT.out, by go_num, HB6, Lib.hid (HLN.out nz), HI2⟩
              case measure => have := HLT.out; simp [intOf]; omega
      · obtain rfl : q = n := by omega
        go_wp2_with fail
        refine (law12_alive wr).mono ?_
        rintro e w2 ⟨rfl, hb2⟩
        have HB2 := Lib.hid (HB.out.trans (hb2.mono (by have := HB.out.size; have := HA.out; omega)))
        clear hb2
        go_wp2_with fail
        go_ret
        exact ⟨rfl, HB2.out⟩
end Go.Proofs.Ytniflkggcceagaa

namespace Go.Proofs.Ytniflkggcceagaa
open Go Go.RowKit
theorem wf_u16 {n : Int} (h : (Lit.int .u16 n).wf = true) : 0 ≤ n ∧ n < 65536 := by
  simp [Lit.wf, IntKind.min, IntKind.max, IntKind.signed, IntKind.bits] at h; omega
theorem law12_room_in (ls : List Stp) (v : Value) (x : Int) (w : World) (h : IsStps w v ls) (hz : ∀ s ∈ ls, StpSz s) (hn : ls.length ≤ 140737488355328) (hx : (Lit.int .u16 x).wf = true) :
    Calls Try.prog 3 #[v, .int .u16 x] w fun e w' => e = .returned (.bool true) ∧ Below w.heap.size w w' := by
  have hx2 := wf_u16 hx
  obtain ⟨k, rfl⟩ : ∃ k : Nat, x = (k : Int) := ⟨x.toNat, by omega⟩
  exact law12_room v ls k (by omega) w h hz hn
end Go.Proofs.Ytniflkggcceagaa
