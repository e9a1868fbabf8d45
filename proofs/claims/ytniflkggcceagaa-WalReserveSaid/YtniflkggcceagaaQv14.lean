/- Steps that came in; contracts: the law's Heavy, made. Steps that came in, opened: what they read as, and their reach. The law's walk: WalRoom. The laws' walks, as their ends take them. The log's Reserve; Checkpoint while the disk runs, plainly. The law's walk: WalReserve. WalReserve's walk, as its end takes it. -/
import Derived.Test.YtniflkggcceagaaQv13
import Derived.Deep.Slices
import Derived.Laws.MakeOwn
import Derived.Laws.OwnMore
import Derived.Laws.IdiomStrings
namespace Go.Proofs.Ytniflkggcceagaa
open Go Go.RowKit
structure Stp where
  k : Nat
  L : List (List UInt8)
  S : List UInt8
def NilS (v : Value) : Prop := ∀ n cap, v = .slice none n cap → n = 0 ∧ cap = 0
structure StpAt (w : World) (b o : Nat) (s : Stp) : Prop where
  c0 : w.cell? ⟨b, o, none⟩ = some (.int .u8 (s.k : Int))
  c3 : ∃ lv, w.cell? ⟨b, o + 3, none⟩ = some lv ∧ IsStrs w lv (s.L.map bs) ∧ NilS lv
  c4 : w.cell? ⟨b, o + 4, none⟩ = some (.string (bs s.S))
  d : s.k < 256
structure StpSz (s : Stp) : Prop where
  n : s.L.length ≤ 140737488355328
  t : ∀ x ∈ s.L, x.length ≤ 140737488355328
  s : s.S.length ≤ 140737488355328
def IsStps (w : World) (v : Value) (ls : List Stp) : Prop := ∃ a cap, v = .slice a ls.length cap ∧ (ls = [] ∨ ∃ b off, a = some ⟨b, off, none⟩ ∧ b < w.heap.size ∧ ∀ i s, ls[i]? = some s → StpAt w b (off + i * 7) s)
theorem StpAt.step {w w' : World} {b o : Nat} {s : Stp} (h : StpAt w b o s) (hb : Below w.heap.size w w') : StpAt w' b o s := by
  obtain ⟨lv, h1, h2, h3⟩ := h.c3
  exact ⟨(hb.cell (p := ⟨b, o, none⟩) (cell_lt h.c0)).trans h.c0, ⟨lv, (hb.cell (p := ⟨b, o + 3, none⟩) (cell_lt h1)).trans h1, h2.below hb (Nat.le_refl _), h3⟩, (hb.cell (p := ⟨b, o + 4, none⟩) (cell_lt h.c4)).trans h.c4, h.d⟩
theorem IsStrs.at {w : World} {v : Value} {l : List (List UInt8)} (h : IsStrs w v (l.map bs)) : ∃ a cap, v = .slice a l.length cap ∧ (l = [] ∨ ∃ b off, a = some ⟨b, off, none⟩ ∧ b < w.heap.size ∧ ∀ i, i < l.length → w.cell? ⟨b, off + i, none⟩ = some (.string (bs (l.getD i [])))) := by
  obtain ⟨a, cap, hv, hc⟩ := h
  refine ⟨a, cap, by rw [hv, List.length_map], ?_⟩
  rcases hc with hc | ⟨b, off, e1, e2, e3⟩
  · exact Or.inl (List.map_eq_nil_iff.1 hc)
  · refine Or.inr ⟨b, off, e1, e2, fun i hi => ?_⟩
    rw [e3 i (by rw [List.length_map]; exact hi), List.getD_eq_getElem?_getD, List.getD_eq_getElem?_getD, List.getElem?_map, List.getElem?_eq_getElem hi]; rfl
def StpFit (s : Stp) : Prop := s.L.length ≤ 20 ∧ s.S.length ≤ 8192 ∧ ∀ x ∈ s.L, x.length ≤ 8192
def HvyG (ls : List Stp) (w : World) (e : Ending) (w' : World) : Prop := ∃ r : Bool, e = .returned (.bool r) ∧ w' = w ∧ (r = false → ls.length ≤ 40 ∧ ∀ s ∈ ls, StpFit s)
set_option maxRecDepth 100000 in
set_option maxHeartbeats 2000000 in
theorem law_Heavy (w : World) (v : Value) (ls : List Stp) (h : IsStps w v ls) (hz : ∀ s ∈ ls, StpSz s) (hn : ls.length ≤ 140737488355328) :
    Calls Try.prog 7 #[v] w (HvyG ls w) := by
  obtain ⟨a, cap, rfl, hc⟩ := h
  obtain ⟨n, hnn⟩ : ∃ z, ls.length = z := ⟨_, rfl⟩
  rw [hnn] at hn ⊢
  have HN := Lib.hid hnn; have HC := Lib.hid hc; have HZ := Lib.hid hz
  clear hnn hc hz
  go_enter Try.func7, Try.ntmps7
  go_wp2_with fail
  go_loopw [3, 4] (fun s i wr => ∃ q m : Nat, q ≤ n ∧ i = .int .i64 q ∧ s = .int .i64 m ∧ m ≤ 8192 ∧ wr = w ∧ Hid (∀ i s, i < q → ls[i]? = some s → StpFit s)) (fun _ i _ => n - (intOf i).toNat)
  case atStart => exact ⟨0, 0, Nat.zero_le _, rfl, rfl, by decide, rfl, Lib.hid (fun i s hi => absurd hi (Nat.not_lt_zero i))⟩
  case round =>
    obtain ⟨q, m, hq, rfl, rfl, hm, hw, HF⟩ := hrel
    subst wr
    by_cases hlt : q < n
    · have HLT := Lib.hid hlt
      have hqi : (q : Int) < (n : Int) := by omega
      obtain ⟨b, off, rfl, hbl, hs⟩ := HC.out.resolve_left (fun e => by have := HN.out; rw [e] at this; simp at this; omega)
      obtain ⟨s, hst⟩ : ∃ s, ls[q]? = some s := ⟨_, List.getElem?_eq_getElem (by rw [HN.out]; exact hlt)⟩
      have HST := Lib.hid hst
      have hat := hs q s hst
      have hsz := HZ.out s (List.mem_of_getElem? hst)
      obtain ⟨lv, c3, hlv, _⟩ := hat.c3
      have c4 := hat.c4
      obtain ⟨sl, hsl⟩ : ∃ z, s.S.length = z := ⟨_, rfl⟩
      have hss : (bs s.S).size = sl := by rw [bs_size, hsl]
      have hslb : sl ≤ 140737488355328 := by rw [← hsl]; exact hsz.s
      obtain ⟨la, lc, rfl, hlc⟩ := hlv.at
      obtain ⟨nl, hnl⟩ : ∃ z, s.L.length = z := ⟨_, rfl⟩
      have hnlb : nl ≤ 140737488355328 := by rw [← hnl]; exact hsz.n
      rw [hnl] at c3
      have HNL := Lib.hid hnl; have HLC := Lib.hid hlc; have HSL := Lib.hid hsl; have HTT := Lib.hid hsz.t
      clear hs hst hat hsz hsl hnl hlc hlv
      go_wp2_with fail
      go_loopw [3, 5] (fun s' j wr => ∃ k m' : Nat, k ≤ nl ∧ j = .int .i64 k ∧ s' = .int .i64 m' ∧ m' ≤ 8192 + 140737488355328 ∧ wr = w ∧ Hid (sl ≤ m' ∧ ∀ i, i < k → (s.L.getD i []).length ≤ m')) (fun _ j _ => nl - (intOf j).toNat)
      case atStart => exact ⟨0, m + sl, Nat.zero_le _, rfl, by go_num, by omega, rfl, Lib.hid ⟨by omega, fun i hi => absurd hi (Nat.not_lt_zero i)⟩⟩
      case round =>
        obtain ⟨k, m', hk, rfl, rfl, hm', hw, HI⟩ := hrel
        subst wr
        by_cases hkl : k < nl
        · have hki : (k : Int) < (nl : Int) := by omega
          by_cases hm8 : m' ≤ 8192
          · have hm8i : (m' : Int) ≤ 8192 := by omega
            have HKL := Lib.hid hkl
            obtain ⟨b2, o2, rfl, hb2, hc2⟩ := HLC.out.resolve_left (fun e => by have := HNL.out; rw [e] at this; simp at this; omega)
            have ct := hc2 k (by rw [HNL.out]; exact hkl)
            obtain ⟨t, htt⟩ : ∃ t, s.L.getD k [] = t := ⟨_, rfl⟩
            rw [htt] at ct
            obtain ⟨tl, htl⟩ : ∃ z, t.length = z := ⟨_, rfl⟩
            have hts : (bs t).size = tl := by rw [bs_size, htl]
            have htb : tl ≤ 140737488355328 := by
              rw [← htl, ← htt]
              exact HTT.out _ (by rw [List.getD_eq_getElem?_getD, List.getElem?_eq_getElem (by rw [HNL.out]; exact hkl)]; exact List.getElem_mem _)
            have HTL := Lib.hid (And.intro htt htl)
            clear hc2 htt htl
            go_wp2_with fail
            go_roundw
            case rel => exact ⟨k + 1, m' + tl, HKL.out, by go_num, by go_num, by omega, trivial, Lib.hid ⟨by have := HI.out.1; omega, fun i hi => by
              by_cases e : i = k
              · subst e; rw [HTL.out.1, HTL.out.2]; omega
              · have := HI.out.2 i (by omega); omega⟩⟩
            case measure => have := HKL.out; simp [intOf]; omega
          · have hm8i : ¬ (m' : Int) ≤ 8192 := by omega
            have hm9i : (8192 : Int) < (m' : Int) := by omega
            go_wp2_with fail
            go_ret
            exact ⟨true, rfl, rfl, fun h => by cases h⟩
        · obtain rfl : k = nl := by omega
          by_cases hm8 : m' ≤ 8192
          · have hm9i : ¬ (8192 : Int) < (m' : Int) := by omega
            by_cases hn20 : 20 < k
            · have hn20i : (20 : Int) < (k : Int) := by omega
              go_wp2_with fail
              go_ret
              exact ⟨true, rfl, rfl, fun h => by cases h⟩
            · have hn20i : ¬ (20 : Int) < (k : Int) := by omega
              have HN20 := Lib.hid hn20; have HM8 := Lib.hid hm8
              go_wp2_with fail
              go_roundw
              case rel => exact ⟨q + 1, m', HLT.out, by go_num, rfl, HM8.out, trivial, Lib.hid (fun i s' hi hs' => by
                by_cases e : i = q
                · subst e
                  rw [HST.out] at hs'
                  cases hs'
                  refine ⟨by have := HNL.out; have := HN20.out; omega, by have := HSL.out; have := HI.out.1; have := HM8.out; omega, fun x hx => ?_⟩
                  obtain ⟨p, hp, rfl⟩ := List.mem_iff_getElem.1 hx
                  have h1 := HI.out.2 p (by rw [← HNL.out]; exact hp)
                  rw [List.getD_eq_getElem?_getD, List.getElem?_eq_getElem hp] at h1
                  have h2 := HM8.out
                  simp only [Option.getD_some] at h1
                  omega
                · exact HF.out i s' (by omega) hs')⟩
              case measure => have := HLT.out; simp [intOf]; omega
          · have hm9i : (8192 : Int) < (m' : Int) := by omega
            go_wp2_with fail
            go_ret
            exact ⟨true, rfl, rfl, fun h => by cases h⟩
    · obtain rfl : q = n := by omega
      by_cases h40 : 40 < q
      · have h40i : (40 : Int) < (q : Int) := by omega
        have h40d : decide ((40 : Int) < (q : Int)) = true := by simp; omega
        go_wp2_with fail
        go_ret
        exact ⟨true, rfl, rfl, fun h => by cases h⟩
      · have h40i : ¬ (40 : Int) < (q : Int) := by omega
        have h40d : decide ((40 : Int) < (q : Int)) = false := by simp; omega
        have H40 := Lib.hid h40
        go_wp2_with fail
        go_ret
        refine ⟨false, rfl, rfl, fun _ => ⟨by have := HN.out; have := H40.out; omega, fun s hs => ?_⟩⟩
        obtain ⟨p, hp, rfl⟩ := List.mem_iff_getElem.1 hs
        exact HF.out p _ (by rw [← HN.out]; exact hp) (List.getElem?_eq_getElem hp)
def mh : List UInt8 := Wl.head sumF 1 1 1 [98, 101, 103, 105, 110]
def mD (r : Nat) : Dk := ⟨4, 400 + r, upd (fun _ => []) 0 mh, upd (fun _ => []) 0 mh, [], -1⟩
def mW : Wa := ⟨1, 1, 1, [0], [23], 0, 0⟩
theorem mh_len : mh.length = 23 := by unfold mh; rw [Wl.head_length]; rfl
theorem mk_inv (r : Nat) : LInv (mD r) mW := by
  refine ⟨by show 3 ≤ 4; decide, by show 4 ≤ 16; decide, by show (-1 : Int) < 0; decide, rfl, rfl, by decide, by decide, by decide, fun i hi => ?_, fun i hi => ?_, fun i hi => ?_⟩
  · obtain rfl : i = 0 := by have h1 : i < 1 := hi; omega
    exact ⟨mh_len, by decide⟩
  · have h1 : ¬ (i : Int) ∈ [(0 : Int)] := hi
    have h2 : i ≠ 0 := fun e => h1 (by subst e; simp)
    show upd (fun _ => []) 0 mh i = []
    unfold upd; rw [if_neg h2]
  · have h1 : i + 1 < 1 := hi
    omega
theorem mk_ok (r : Nat) (hr : r ≤ 4100) : DkOk (mD r) := ⟨by show 400 + r ≤ _; omega, fun i _ => by
  show (upd (fun _ => []) 0 mh i).length ≤ _
  unfold upd
  split
  · rw [mh_len]; decide
  · simp, by show 0 ≤ _; decide, by show (-1 : Int) < _; decide⟩
theorem law_made (w : World) (r : Nat) (hr : r ≤ 4100) : Calls Try.prog 9 #[.int .i64 (r : Int)] w fun e w' => ∃ d x, e = .returned (.tuple #[.pointer (some ⟨d, 0, none⟩), .pointer (some ⟨x, 0, none⟩)]) ∧ LgS (fun k => w.heap.size ≤ k) x d (mD r) mW w' ∧ Below w.heap.size w w' := by
  obtain ⟨A, hA⟩ : ∃ z, w.heap.size = z := ⟨_, rfl⟩
  have hnew := disk_New 4 (400 + r) (by decide) (by omega) w
  rw [show ((4 : Nat) : Int) = 4 from rfl, hA] at hnew
  obtain ⟨R, hR⟩ : ∃ z, 400 + r = z := ⟨_, rfl⟩
  have hRi : (400 : Int) + (r : Int) = (R : Int) := by omega
  rw [hR] at hnew
  have HN := Lib.hid hnew
  have HR := Lib.hid hR
  have hRb : R ≤ 4500 := by omega
  rw [hA]
  have HA := Lib.hid hA
  clear hnew hR hA
  go_enter Try.func9, Try.ntmps9
  go_wp2_with fail
  refine HN.out.mono ?_
  rintro e w1 ⟨rfl, hd1, hb1⟩
  have HB1 := Lib.hid hb1
  have HD1 : Hid (DkS (fun k => A ≤ k) A (dk0 4 R) w1) := Lib.hid ⟨_, hd1, fun k hk => by subst hk; exact Nat.le_refl _⟩
  have HS1 : Hid (A ≤ w1.heap.size) := Lib.hid (by have := hd1.lt; omega)
  clear hd1 hb1
  go_wp2_with fail
  refine (law_Conf w1).mono ?_
  rintro e w2 ⟨rfl, hb2⟩
  have HB2 := Lib.hid (HB1.out.trans (hb2.mono HS1.out))
  have HS2 : Hid (A ≤ w2.heap.size) := Lib.hid (by have := HS1.out; have := hb2.size; omega)
  have hleft : (dk0 4 R).left = (R : Int) := by
    unfold Dk.left dk0
    dsimp only
    have : ∀ k, lensN (fun _ => []) k = 0 := fun k => by
      induction k with
      | zero => rfl
      | succ k ih => show lensN _ k + _ = 0; rw [ih]; rfl
    rw [this]; simp
  have hmk := make_S [98, 101, 103, 105, 110] (HD1.out.step hb2) ⟨by show R ≤ _; omega, fun i _ => by show ([] : List UInt8).length ≤ _; decide, by show 0 ≤ _; decide, by show (-1 : Int) < _; decide⟩ (by show 3 ≤ 4; decide) (by show (-1 : Int) < 0; decide) (fun i _ => rfl) (by decide) (by show 0 ≤ _; decide) (by rw [hleft]; have := HR.out; show (23 : Int) ≤ _; omega)
  rw [show bs [98, 101, 103, 105, 110] = (⟨#[98, 101, 103, 105, 110]⟩ : ByteArray) from rfl] at hmk
  have HMK := Lib.hid hmk
  clear hb2 hmk hleft
  go_wp2_with fail
  refine HMK.out.mono ?_
  rintro e w3 ⟨x, rfl, hl3, hb3⟩
  have HL3 := Lib.hid (hl3.back (fun k hk => by have := HS2.out; omega))
  have HB3 := Lib.hid (HB2.out.trans (hb3.below (fun k h => h) HS2.out))
  clear hl3 hb3 HMK
  go_wp2_with fail
  go_ret2
  refine ⟨A, x, rfl, ?_, HB3.out⟩
  have h1 := HL3.out
  unfold mD
  rw [HR.out]
  exact h1
end Go.Proofs.Ytniflkggcceagaa

namespace Go.Proofs.Ytniflkggcceagaa
open Go Go.ChangeShapes Go.WideShapes Go.ChangeAt Go.RowKit
theorem list7 {α : Type} {l : List α} (h : l.length = 7) : ∃ c0 c1 c2 c3 c4 c5 c6, l = [c0, c1, c2, c3, c4, c5, c6] := by
  match l, h with
  | [c0, c1, c2, c3, c4, c5, c6], _ => exact ⟨c0, c1, c2, c3, c4, c5, c6, rfl⟩
theorem addrThree {a : Addr} (h : a = ⟨a.block, a.off, none⟩) (i j : Nat) : (a.add i).add j = ⟨a.block, a.off + i + j, none⟩ := by
  rw [h]
  unfold Addr.add
  by_cases e : i = 0
  · subst e
    simp only [if_true, Nat.add_zero]
    by_cases e2 : j = 0
    · subst e2; simp
    · simp [e2]
  · simp only [if_neg e]
    by_cases e2 : j = 0
    · subst e2; simp
    · simp [e2]
theorem cStp : Try.prog.cellsOf 35 = 7 := by kernel_rfl
theorem cU8' : Try.prog.cellsOf 5 = 1 := by kernel_rfl
theorem cStr' : Try.prog.cellsOf 9 = 1 := by kernel_rfl
theorem cStrs' : Try.prog.cellsOf 33 = 1 := by kernel_rfl
section
variable {H : Type} {enc : TypeId × Value → H} {w : World} {base : Nat} {sp : Nat → Bool} {held : Bool}
set_option maxRecDepth 100000 in
theorem trod_relD {α : Type} {k : Nat} {t e : TypeId} (z : α) (R : List Value → α → DataW H → Prop) (ht : Try.prog.underlying t = some (.slice e)) (hc : Try.prog.cellsOf e = k) (hk : 0 < k) (hlen : ∀ cs a d, R cs a d → cs.length = k)
    (hel : ∀ {fuel : Nat} {cs : List Value} {x : DataW H × List MemPlace}, DataW.trod enc Try.prog w base sp held fuel e cs = some x → ∃ a : α, R cs a x.1)
    {fuel : Nat} {cs : List Value} {x : DataW H × List MemPlace} (h : DataW.trod enc Try.prog w base sp held fuel t cs = some x) :
    ∃ (a0 : Option Addr) (cap : Nat) (l : List α), cs = [.slice a0 l.length cap] ∧ (a0 = none → l = [] ∧ cap = 0) ∧ (l = [] ∨ ∃ b off, a0 = some ⟨b, off, none⟩ ∧ b < w.heap.size ∧ ∀ i, i < l.length → ∃ cs' d, (∀ j u, cs'[j]? = some u → w.cell? ⟨b, off + i * k + j, none⟩ = some u) ∧ R cs' (l.getD i z) d ∧ ∃ ds sr, x.1 = .slice ds sr ∧ d ∈ ds) ∧
      (l = [] ∨ ∃ ds sr, x.1 = .slice ds sr ∧ ds.length = l.length) := by
  rcases Go.Deep.open_slice ht h with ⟨hcs, hx⟩ | ⟨a, len, cap, m, n, Df, Pl, hcs, _, hl, _, hm, hx, he⟩
  · exact ⟨none, 0, [], hcs, fun _ => ⟨rfl, rfl⟩, Or.inl rfl, Or.inl rfl⟩
  · have hlm : len ≤ m := by rw [hm]; split <;> omega
    have hE : ∀ i, ∃ y : α × List Value, i < len → R y.2 y.1 (Df i) ∧ (∀ j, j < k → w.cell? ((a.add (i * k)).add j) = y.2[j]?) := by
      intro i
      by_cases hi : i < len
      · obtain ⟨cs', h1, h2⟩ := he i (by omega)
        rw [hc] at h1
        obtain ⟨y, hy⟩ := hel h2
        exact ⟨(y, cs'), fun _ => ⟨hy, (World.cells?_some h1).2.2⟩⟩
      · exact ⟨(z, []), fun h => absurd h hi⟩
    obtain ⟨E, hE⟩ := Classical.axiomOfChoice hE
    have hx1 : x.1 = .slice ((List.range len).map Df) ((List.range (m - len)).map fun j => Df (len + j)) := by rw [hx]
    refine ⟨some a, cap, (List.range len).map (fun i => (E i).1), by simpa using hcs, (fun h => by cases h), ?_, Or.inr ⟨_, _, hx1, by simp⟩⟩
    by_cases h0 : len = 0
    · left; subst h0; rfl
    · right
      obtain ⟨r0, c0⟩ := hE 0 (by omega)
      have h00 := c0 0 hk
      have ha0 : (a.add (0 * k)).add 0 = a := by unfold Addr.add; simp
      rw [ha0, List.getElem?_eq_getElem (by rw [hlen _ _ _ r0]; exact hk)] at h00
      have hs := spot_none h00
      refine ⟨a.block, a.off, by rw [← hs], block_lt_of_cell h00, fun i hi => ?_⟩
      have hi' : i < len := by simpa using hi
      have hg : ((List.range len).map (fun i => (E i).1)).getD i z = (E i).1 := by simp [List.getD_eq_getElem?_getD, hi']
      rw [hg]
      obtain ⟨r1, c1⟩ := hE i hi'
      refine ⟨(E i).2, Df i, fun j u hu => ?_, r1, _, _, hx1, List.mem_map.2 ⟨i, List.mem_range.2 hi', rfl⟩⟩
      have hj : j < k := by have := (List.getElem?_eq_some_iff.1 hu).1; rwa [hlen _ _ _ r1] at this
      have hc2 := c1 j hj
      rw [addrThree hs] at hc2
      exact hc2.trans hu
theorem weights_in {t e : TypeId} {ds sr : List (DataW H)} {d : DataW H} {n : Nat} (ht : Try.prog.underlying t = some (.slice e)) (hd : d ∈ ds) (hn : n ∈ DataW.weights Try.prog e d) : n ∈ DataW.weights Try.prog t (.slice ds sr) := by
  have hall : ∀ ds : List (DataW H), d ∈ ds → n ∈ DataW.weightsAll Try.prog e ds := fun ds => by
    induction ds with
    | nil => intro h; cases h
    | cons a r ih =>
      intro h
      rw [DataW.weightsAll, List.mem_append]
      rcases List.mem_cons.1 h with rfl | h
      · exact Or.inl hn
      · exact Or.inr (ih h)
  simp only [DataW.weights, ht, List.mem_cons, List.mem_append]
  exact Or.inr (Or.inl (hall ds hd))
theorem weights_len {t e : TypeId} {ds sr : List (DataW H)} (ht : Try.prog.underlying t = some (.slice e)) : (ds.length + sr.length) * Try.prog.bytesOf e ∈ DataW.weights Try.prog t (.slice ds sr) := by
  simp [DataW.weights, ht]
theorem bStr : Try.prog.bytesOf 9 = 16 := by kernel_rfl
theorem bStp : Try.prog.bytesOf 35 = 80 := by kernel_rfl
set_option maxRecDepth 100000 in
theorem trod_strsW {fuel : Nat} {cs : List Value} {x : DataW H × List MemPlace} (h : DataW.trod enc Try.prog w base sp held fuel 33 cs = some x) :
    ∃ (v : Value) (l : List (List UInt8)), cs = [v] ∧ IsStrs w v (l.map bs) ∧ NilS v ∧ ∀ M, (∀ n ∈ DataW.weights Try.prog 33 x.1, n ≤ M) → l.length ≤ M ∧ ∀ t ∈ l, t.length ≤ M := by
  obtain ⟨a0, cap, l, rfl, hnil, hh, hlen⟩ := trod_relD ([] : List UInt8) (fun cs (s : List UInt8) (d : DataW H) => cs = [.string (bs s)] ∧ d = .lit (.string s)) Try.underlying33 cStr' (by decide) (fun cs a d h => by rw [h.1]; rfl) (fun h => by
    obtain ⟨s, rfl, rfl, _⟩ := DataW.trod_string Try.underlying9 h
    exact ⟨s.data.toList, by rw [toList_bs], rfl⟩) h
  refine ⟨_, l, rfl, ⟨a0, cap, by rw [List.length_map], ?_⟩, fun n c e => ?_, fun M hM => ⟨?_, fun t ht => ?_⟩⟩
  · rcases hh with h | ⟨b, off, ha, hb, hc⟩
    · left; rw [h]; rfl
    · refine Or.inr ⟨b, off, ha, hb, fun i hi => ?_⟩
      rw [List.length_map] at hi
      obtain ⟨cs', d, h1, ⟨rfl, _⟩, _⟩ := hc i hi
      have := h1 0 _ rfl
      rw [Nat.mul_one, Nat.add_zero] at this
      rw [this, List.getD_eq_getElem?_getD, List.getD_eq_getElem?_getD, List.getElem?_map, List.getElem?_eq_getElem hi]; rfl
  · simp only [Value.slice.injEq] at e
    obtain ⟨h1, h2⟩ := hnil e.1
    rw [h1] at e
    exact ⟨e.2.1.symm, e.2.2.symm.trans h2⟩
  · rcases hlen with h | ⟨ds, sr, hx, hl⟩
    · rw [h]; exact Nat.zero_le _
    · have := hM _ (by rw [hx]; exact weights_len Try.underlying33)
      rw [bStr, hl] at this
      have h2 : l.length * 1 ≤ (l.length + sr.length) * 16 := Nat.mul_le_mul (Nat.le_add_right _ _) (by decide)
      omega
  · obtain ⟨i, hi, rfl⟩ := List.mem_iff_getElem.1 ht
    rcases hh with h | ⟨b, off, ha, hb, hc⟩
    · subst h; simp at hi
    · obtain ⟨cs', d, h1, ⟨_, rfl⟩, ds, sr, hx, hd⟩ := hc i hi
      refine hM _ ?_
      rw [hx]
      refine weights_in Try.underlying33 hd ?_
      rw [List.getD_eq_getElem?_getD, List.getElem?_eq_getElem hi]
      simp [DataW.weights]
set_option maxRecDepth 100000 in
theorem trod_stp {fuel : Nat} {cs : List Value} {x : DataW H × List MemPlace} (h : DataW.trod enc Try.prog w base sp held fuel 35 cs = some x) :
    ∃ s : Stp, ∃ c1 c2 lv c5 c6, cs = [.int .u8 (s.k : Int), c1, c2, lv, .string (bs s.S), c5, c6] ∧ IsStrs w lv (s.L.map bs) ∧ NilS lv ∧ s.k < 256 ∧ ∀ M, (∀ n ∈ DataW.weights Try.prog 35 x.1, n ≤ M) → s.L.length ≤ M ∧ (∀ t ∈ s.L, t.length ≤ M) ∧ s.S.length ≤ M := by
  obtain ⟨xs, n, _, rfl, hl, hlen, hf⟩ := DataW.trod_struct Try.underlying35 h
  rw [cStp] at hl
  obtain ⟨c0, c1, c2, c3, c4, c5, c6, rfl⟩ := list7 hl
  obtain ⟨y0, y1, y2, y3, y4, y5, y6, rfl⟩ := list7 hlen
  have h0 : DataW.trod enc Try.prog w base sp held n 5 [c0] = some y0 := by simpa [cU8'] using hf 0 _ rfl
  have h3 : DataW.trod enc Try.prog w base sp held n 33 [c3] = some y3 := by simpa [cStrs'] using hf 3 _ rfl
  have h4 : DataW.trod enc Try.prog w base sp held n 9 [c4] = some y4 := by simpa [cStr'] using hf 4 _ rfl
  obtain ⟨z0, e0, rfl, w0⟩ := DataW.trod_int Try.underlying5 h0
  obtain ⟨v3, L, e3, i3, n3, s3⟩ := trod_strsW h3
  obtain ⟨s4, e4, rfl, _⟩ := DataW.trod_string Try.underlying9 h4
  have w1 := wf_u8 w0
  obtain ⟨k, rfl⟩ : ∃ k : Nat, z0 = (k : Int) := ⟨z0.toNat, by omega⟩
  simp only [List.cons.injEq, and_true] at e0 e3 e4
  subst e0; subst e3; subst e4
  have hparts : ∀ n, (n ∈ DataW.weights Try.prog 33 y3.1 ∨ n = s4.data.toList.length) → n ∈ DataW.weights Try.prog 35 (DataW.agg ([(DataW.lit (.int .u8 (k : Int)), ([] : List MemPlace)), y1, y2, y3, (DataW.lit (.string s4.data.toList), []), y5, y6].map (·.1))) := fun n hn => by
    rw [DataW.weights, Try.underlying35]
    simp only [List.map_cons, List.map_nil, DataW.weightsEach, List.mem_append]
    rcases hn with hn | hn
    · exact Or.inr (Or.inr (Or.inr (Or.inl hn)))
    · exact Or.inr (Or.inr (Or.inr (Or.inr (Or.inl (by simp [DataW.weights, hn])))))
  refine ⟨⟨k, L, s4.data.toList⟩, c1, c2, _, c5, c6, by rw [toList_bs], i3, n3, by show k < 256; omega, fun M hM => ?_⟩
  obtain ⟨q1, q2⟩ := s3 M (fun n hn => hM n (hparts n (Or.inl hn)))
  exact ⟨q1, q2, hM _ (hparts _ (Or.inr rfl))⟩
def stpZ : Stp := ⟨0, [], []⟩
set_option maxRecDepth 100000 in
theorem open_stps {ts : List TypeId} {ds0 : List (DataW H)} (hsz : (DataW.weightsEach Try.prog ts ds0).all (· ≤ reachBytes) = true) {j : Nat} {r : Reach} {b0 : Nat} {v : Value} {d : DataW H} {ps : List MemPlace} (hj : ts[j]? = some 22) (hdj : ds0[j]? = some d)
    (hval : Value.okWide Try.prog w r b0 22 v) (hd : DataW.Trod enc Try.prog w base sp held 22 v d ps) :
    ∃ l : List Stp, IsStps w v l ∧ (∀ s ∈ l, StpSz s) ∧ l.length ≤ 140737488355328 := by
  obtain ⟨a0, len0, cap0, rfl⟩ := okWide_slice Try.underlying22 hval
  obtain ⟨fuel, hf⟩ := hd
  have hm : ∀ n ∈ DataW.weights Try.prog 22 d, n ≤ 140737488355328 := fun n hn => by
    have := List.all_eq_true.1 hsz _ (DataW.weights_mem_each hj hdj _ hn)
    have h2 : n ≤ reachBytes := of_decide_eq_true this
    exact Nat.le_trans h2 (by decide)
  obtain ⟨a1, cap, l, hcs, _, hh, hlen⟩ := trod_relD stpZ (fun cs (s : Stp) (d : DataW H) => ∃ c1 c2 lv c5 c6, cs = [.int .u8 (s.k : Int), c1, c2, lv, .string (bs s.S), c5, c6] ∧ IsStrs w lv (s.L.map bs) ∧ NilS lv ∧ s.k < 256 ∧ ∀ M, (∀ n ∈ DataW.weights Try.prog 35 d, n ≤ M) → s.L.length ≤ M ∧ (∀ t ∈ s.L, t.length ≤ M) ∧ s.S.length ≤ M)
    Try.underlying22 cStp (by decide) (fun cs a d h => by obtain ⟨_, _, _, _, _, rfl, _⟩ := h; rfl) trod_stp hf
  have hv : Value.slice a0 len0 cap0 = .slice a1 l.length cap := by simpa [Value.cells] using hcs
  rw [hv]
  refine ⟨l, ⟨a1, cap, rfl, ?_⟩, fun s hs => ?_, ?_⟩
  · rcases hh with h | ⟨b, off, ha, hb, hc⟩
    · exact Or.inl h
    · refine Or.inr ⟨b, off, ha, hb, fun i s hs => ?_⟩
      obtain ⟨hi, hgs⟩ := List.getElem?_eq_some_iff.1 hs
      obtain ⟨cs', d', h1, ⟨c1, c2, lv, c5, c6, rfl, h2, h3, h4, _⟩, _⟩ := hc i hi
      have hg : l.getD i stpZ = s := by rw [List.getD_eq_getElem?_getD, hs]; rfl
      rw [hg] at h1 h2 h4
      exact ⟨h1 0 _ rfl, ⟨lv, h1 3 _ rfl, h2, h3⟩, h1 4 _ rfl, h4⟩
  · obtain ⟨i, hi, rfl⟩ := List.mem_iff_getElem.1 hs
    rcases hh with h | ⟨b, off, ha, hb, hc⟩
    · subst h; simp at hi
    · obtain ⟨cs', d', _, ⟨_, _, _, _, _, _, _, _, _, h5⟩, ds, sr, hx, hdd⟩ := hc i hi
      have hg : l.getD i stpZ = l[i] := by rw [List.getD_eq_getElem?_getD, List.getElem?_eq_getElem hi]; rfl
      rw [hg] at h5
      dsimp only at hx
      obtain ⟨q1, q2, q3⟩ := h5 140737488355328 (fun n hn => hm n (by rw [hx]; exact weights_in Try.underlying22 hdd hn))
      exact ⟨q1, q2, q3⟩
  · rcases hlen with h | ⟨ds, sr, hx, hl⟩
    · rw [h]; exact Nat.zero_le _
    · dsimp only at hx
      have := hm _ (by rw [hx]; exact weights_len Try.underlying22)
      rw [bStp, hl] at this
      have h2 : l.length * 1 ≤ (l.length + sr.length) * 80 := Nat.mul_le_mul (Nat.le_add_right _ _) (by decide)
      omega
end
end Go.Proofs.Ytniflkggcceagaa

namespace Go.Proofs.Ytniflkggcceagaa
open Go Go.RowKit
theorem LInv.resv {D : Dk} {W : Wa} (h : LInv D W) (r : Int) : LInv D { W with reserved := r } := ⟨h.n3, h.n16, h.fu, h.dn, h.fl, h.one, h.nd, h.rg, h.sz, h.em, h.full⟩
theorem LInv.len3 {D : Dk} {W : Wa} (h : LInv D W) : W.sizes.length ≤ 3 := by
  have := h.frees; have := h.fl; omega
theorem LInv.le {D : Dk} {W : Wa} (_h : LInv D W) : ∀ n ∈ W.sizes, n ≤ sumL W.sizes := by
  have : ∀ (l : List Nat), ∀ n ∈ l, n ≤ sumL l := fun l => by
    induction l with
    | nil => intro n hn; cases hn
    | cons a r ih =>
      intro n hn
      rw [sumL_cons]
      rcases List.mem_cons.1 hn with rfl | hn
      · omega
      · have := ih n hn; omega
  exact this W.sizes
theorem LInv.waok {D : Dk} {W : Wa} (h : LInv D W) (hu : sumL W.sizes ≤ 200) (hr : 0 ≤ W.reserved ∧ W.reserved ≤ 200) : WaOk W := ⟨by have := h.len3; omega, fun n hn => by have := h.le n hn; omega, by omega⟩
theorem LInv.aok {D : Dk} {W : Wa} (h : LInv D W) (hu : sumL W.sizes ≤ 200) (hn : W.next ≤ 1000000) : AOk W 0 := ⟨h.fl, h.one, by have := h.len3; omega, fun n hn => by have := h.le n hn; omega, by omega⟩
theorem LInv.dkok {D : Dk} {W : Wa} (h : LInv D W) (hr : D.room ≤ 4194304) (hu : sumL W.sizes ≤ 200) (hl : D.loose.length ≤ 1000000) : DkOk D := ⟨hr, fun i hi => by
  have := lensN_le D.now 16 i hi
  have := h.lens; omega, hl, by have := h.fu; omega⟩
theorem cz_row0 {w : World} {g : Nat} {e : TypeId} {B : Nat} (h : Cz w g e #[]) (hB : B ≤ g) : w.ownsRow B e 1 (.slice (some ⟨g, 0, none⟩) 0 0) 0 [] :=
  ⟨rfl, Or.inr ⟨g, 0, #[], rfl, hB, h, Nat.le_refl _, by decide, rfl, rfl⟩⟩
theorem wpl_strs {w : World} {ops : Array Oper} {rest : List Oper} {o : Oper} {a : Act} {Q : Exit → Act → World → Prop} (hgd : o.guard = none) (s x : Operand)
    (ho : o.op = .call { callee := .builtin .append, args := #[s, x], argTypes := #[33, 33] }) {B g nl lc : Nat} {la : Option Addr} {l : List (List UInt8)} (hs : a.eval s = .slice (some ⟨g, 0, none⟩) 0 0) (hz : Cz w g 9 #[]) (hB : B ≤ g) (hx : a.eval x = .slice la nl lc) (hnil : la = none → nl = 0 ∧ lc = 0)
    (hc : nl = 0 ∨ ∃ b2 o2, la = some ⟨b2, o2, none⟩ ∧ ∀ i, i < nl → w.cell? ⟨b2, o2 + i, none⟩ = some (.string (bs (l.getD i [])))) (hl : l.length = nl) (hnl : nl ≤ 1000)
    (h : ∀ v' w', w'.ownsRow B 9 1 v' nl (strsV l) → w.grownBy w' (some g) → wpList Try.prog ops Q rest (a.put o.dst v') w') : wpList Try.prog ops Q (o :: rest) a w := by
  obtain ⟨i1, hi1, hi1z, hi1s, hi1b⟩ := info_parts infoStr'
  cases la with
  | none =>
    obtain ⟨rfl, rfl⟩ := hnil rfl
    have hl0 : l = [] := List.length_eq_zero_iff.1 hl
    subst hl0
    refine wpList_append_own_none hgd s x 33 ho B 9 i1 1 Try.underlying33 hi1 _ 0 [] hs (cz_row0 hz hB) hx ?_
    exact h _ _ (cz_row0 hz hB) ⟨rfl, rfl, rfl, Nat.le_refl _, fun _ _ _ => rfl⟩
  | some p =>
    have hcell : ∀ (j : Nat) (u : Value), (strsV l)[j]? = some u → w.cell? (p.add j) = some u := fun j u hu => by
      have hj := (List.getElem?_eq_some_iff.1 hu).1
      unfold strsV at hj hu
      rw [List.length_map] at hj
      rcases hc with h0 | ⟨b2, o2, e, hcc⟩
      · omega
      · cases e
        rw [Addr.add_lit, hcc j (by omega)]
        rw [List.getElem?_map, List.getElem?_eq_getElem hj] at hu
        rw [List.getD_eq_getElem?_getD, List.getElem?_eq_getElem hj]
        exact hu
    refine wpList_append_own _ hgd s x 33 ho B 9 i1 (.string ⟨#[]⟩) 1 16 Try.underlying33 hi1 hi1z hi1s hi1b rfl (by decide) (.slice (some ⟨g, 0, none⟩) 0 0) 0 [] hs (cz_row0 hz hB) p nl lc (strsV l) hx (by unfold strsV; rw [List.length_map]; omega) hcell (fun u hu => by unfold strsV at hu; obtain ⟨z, _, rfl⟩ := List.mem_map.1 hu; rfl) (by unfold maxLen; omega) (by omega) (by have := hz.lt; omega) ?_
    intro v' w' ho' hg' _
    exact h v' w' (by rw [Nat.zero_add, List.nil_append] at ho'; exact ho') hg'
end Go.Proofs.Ytniflkggcceagaa

namespace Go.Proofs.Ytniflkggcceagaa
open Go Go.RowKit
theorem wf_u16 {n : Int} (h : (Lit.int .u16 n).wf = true) : 0 ≤ n ∧ n < 65536 := by
  simp [Lit.wf, IntKind.min, IntKind.max, IntKind.signed, IntKind.bits] at h; omega
end Go.Proofs.Ytniflkggcceagaa

namespace Go.Proofs.Ytniflkggcceagaa
open Go Go.RowKit
set_option maxRecDepth 100000 in
set_option maxHeartbeats 1000000 in
theorem LgS.reserve {P : Nat → Prop} {x d : Nat} {D : Dk} {W : Wa} {w : World} (h : LgS P x d D W w) (hk : DkOk D) (ho : WaOk W) (n : Nat) (hn : (n : Int) ≤ roomP D W) (hnb : n ≤ 1000) (hdn : W.down = 0) (hr : 0 ≤ W.reserved ∧ W.reserved ≤ 1000) :
    Calls Try.prog 23 #[.pointer (some ⟨x, 0, none⟩), .int .i64 (n : Int)] w fun e w' => e = .returned (.int .i64 0) ∧ LgS P x d D { W with reserved := W.reserved + n } w' ∧ ButS P w w' := by
  obtain ⟨S, T, h1, h2, h3, h4, h5⟩ := h
  have HM := Lib.hid (wal_mayW w h2)
  have hme : W.mayE = 0 := by unfold Wa.mayE; rw [hdn]; simp
  rw [hme] at HM
  have HRM := Lib.hid (wal_Room w h2 h1 hk ho)
  obtain ⟨rm, hrm⟩ : ∃ z, roomP D W = z := ⟨_, rfl⟩
  rw [hrm] at HRM hn
  have hn1 : ¬ rm < (n : Int) := by omega
  have hn2 : decide (rm < (n : Int)) = false := by simp; omega
  obtain ⟨rs, hrs⟩ : ∃ z, W.reserved = z := ⟨_, rfl⟩
  rw [hrs] at hr
  have hneg : IntKind.i64.wrap (-rs) = -rs := by rw [IntKind.wrap_i64]; omega
  have hn3 : ¬ (n : Int) < -rs := by omega
  have hn4 : decide ((n : Int) < -rs) = false := by simp; omega
  have hsw : IntKind.i64.wrap (rs + (n : Int)) = rs + (n : Int) := by rw [IntKind.wrap_i64]; omega
  have H1 := Lib.hid h1; have H2 := Lib.hid h2; have H3 := Lib.hid h3; have H4 := Lib.hid h4; have H5 := Lib.hid h5; have HRS := Lib.hid hrs
  clear h1 h2 h3 h4 h5 hme hrm hrs hdn
  go_enter Try.func23, Try.ntmps23
  go_wp2_with fail
  refine HM.out.mono ?_
  rintro e w1 ⟨rfl, hw1⟩
  subst w1
  go_wp2_with fail
  refine HRM.out.mono ?_
  rintro e w1 ⟨rfl, z, rfl⟩
  have hw2 := H2.out.drewN z
  have c9 := hw2.c9
  rw [HRS.out] at c9
  have f9 := hw2.fz 9
  have HD2 := Lib.hid ((H1.out.step (w' := w.drewN z) ⟨rfl, rfl, rfl, Nat.le_refl _, fun _ _ => rfl⟩).but (ButS.set (S := fun k => k = x) (w.drewN z) (p := ⟨x, 9, none⟩) rfl (.int .i64 (rs + (n : Int)))) (fun k hk e => by subst e; exact H3.out k hk H2.out.xx))
  have HW2 := Lib.hid (hw2.setReserved (rs + (n : Int)))
  have HB2 : Hid (ButS P w ((w.drewN z).setCell ⟨x, 9, none⟩ (.int .i64 (rs + (n : Int))))) := Lib.hid (((ButS.refl w).drewN z).trans (ButS.set (S := P) (w.drewN z) (p := ⟨x, 9, none⟩) (H5.out x H2.out.xx) (.int .i64 (rs + (n : Int)))))
  obtain ⟨w3, hw3⟩ : ∃ q, (w.drewN z).setCell ⟨x, 9, none⟩ (.int .i64 (rs + (n : Int))) = q := ⟨_, rfl⟩
  rw [hw3] at HD2 HW2 HB2
  clear hw2
  go_wp2_with fail
  go_ret
  refine ⟨rfl, ⟨S, T, HD2.out, ?_, H3.out, H4.out, H5.out⟩, HB2.out⟩
  rw [HRS.out]; exact HW2.out
theorem sy_inv {D : Dk} {W : Wa} (h : LInv D W) : syR D W = (0, { D with sure := D.now, loose := [] }, W) ∧ LInv { D with sure := D.now, loose := [] } W := by
  have hs := sync_neg h.fu
  refine ⟨?_, ⟨h.n3, h.n16, h.fu, h.dn, h.fl, h.one, h.nd, h.rg, h.sz, h.em, h.full⟩⟩
  unfold syR
  have h0 := h.dn
  rw [hs, if_neg (by rw [h0]; simp), if_neg (by rw [h0]; simp), if_neg (by rw [h0]; simp)]
  obtain ⟨g, f, n, F, Z, r, d⟩ := W
  dsimp only at h0; subst h0; rfl
theorem ck_inv {D : Dk} {W : Wa} (h : LInv D W) (hr : 260 ≤ D.room) (hu : sumL W.sizes < 200) (_hu2 : ((sumL W.sizes : Nat) : Int) + W.reserved ≤ 200) (_hr0 : 0 ≤ W.reserved) (t : List UInt8) (hb : D.room ≤ 4194304) :
    (42 < t.length ∧ ckR D W t = (5, D, W)) ∨ (t.length ≤ 42 ∧ 182 - (t.length : Int) < W.reserved ∧ ckR D W t = (4, D, W)) ∨
    (t.length ≤ 42 ∧ W.reserved ≤ 182 - (t.length : Int) ∧ ∃ D' f, ckR D W t = (0, D', { W with gen := W.gen + 1, first := W.next, files := [f], sizes := [18 + t.length], down := 0 }) ∧ LInv D' { W with gen := W.gen + 1, first := W.next, files := [f], sizes := [18 + t.length], down := 0 } ∧ D'.room = D.room ∧ D'.loose = []) := by
  have hdn := h.dn
  by_cases hl : 42 < t.length
  · exact Or.inl ⟨hl, by unfold ckR; rw [if_neg (by rw [hdn]; simp), if_pos hl]⟩
  · right
    have hleft := h.left
    have hop : openP ((18 + t.length : Nat) : Int) (D.left + (sumL W.sizes : Nat) - ((18 + t.length : Nat) : Int)) = 182 - (t.length : Int) := by unfold openP; rw [hleft]; omega
    have hfull := full_sum W.sizes h.full
    have hfr := h.frees
    have hfl := h.fl
    have hfree : ¬ freesP D < 1 := by omega
    by_cases hc : 182 - (t.length : Int) < W.reserved
    · exact Or.inl ⟨by omega, hc, by unfold ckR; rw [if_neg (by rw [hdn]; simp), if_neg hl, hop, if_pos (Or.inr hc)]⟩
    · right
      obtain ⟨f0, f3, fn, fe⟩ := h.free (by omega)
      obtain ⟨f, hf⟩ : ∃ z, freeP D = z := ⟨_, rfl⟩
      rw [hf] at f0 f3 fn fe
      obtain ⟨Q, hQ⟩ : ∃ z, ckHead W t = z := ⟨_, rfl⟩
      have hQl : Q.length = 18 + t.length := by rw [← hQ]; unfold ckHead; rw [Wl.head_length]
      have hw := write_neg h.fu (f := f.toNat) (s := Q) (by have := h.n3; omega) (by rw [hleft, hQl]; omega) (by omega)
      rw [show ((f.toNat : Nat) : Int) = f from by omega, fe, List.nil_append] at hw
      have hcut : (W.files.map (fun f => Dc.cut f 0)) = cutD (W.files.map (fun f => (f.toNat, 0))) := by
        unfold cutD
        rw [List.map_map]
        refine List.map_congr_left (fun g hg => ?_)
        have := h.rg g hg
        simp only [Function.comp]
        rw [show ((g.toNat : Nat) : Int) = g from by omega]
      have hst : Dk.steps (ckCs f Q W.files) D = (0, { D with now := cutAll (upd D.now f.toNat Q) (W.files.map (fun f => (f.toNat, 0))), sure := cutAll (upd D.now f.toNat Q) (W.files.map (fun f => (f.toNat, 0))), loose := [] }) := by
        show Dk.steps (.write f Q :: .sync :: (W.files.map (fun f => Dc.cut f 0) ++ [.sync])) D = _
        rw [steps_cons (c := .write f Q) hw, steps_cons (c := .sync) (sync_neg (by exact h.fu)), hcut]
        have := cuts_steps (W.files.map (fun f => (f.toNat, 0))) { D with now := upd D.now f.toNat Q, sure := upd D.now f.toNat Q, loose := [] } h.fu (fun y hy => by
          obtain ⟨g, hg, rfl⟩ := List.mem_map.1 hy
          have h1 := h.rg g hg
          have := h.n3
          show g.toNat < D.n; omega)
        exact this
      have hnd : ((W.files.map (fun f => (f.toNat, 0))).map (·.1)).Nodup := by
        rw [List.map_map]
        refine List.pairwise_map.2 (List.Pairwise.imp_of_mem (fun {a b} ha hb' hab he => hab ?_) h.nd)
        have h1 := h.rg a ha; have h2 := h.rg b hb'
        simp only [Function.comp] at he
        omega
      have hnow : ∀ i : Nat, cutAll (upd D.now f.toNat Q) (W.files.map (fun f => (f.toNat, 0))) i = if i = f.toNat then Q else [] := fun i => by
        by_cases hi : (i : Int) ∈ W.files
        · have hne : i ≠ f.toNat := fun e => fn (by rw [show f = (i : Int) from by omega]; exact hi)
          have := cutAll_at (W.files.map (fun f => (f.toNat, 0))) (upd D.now f.toNat Q) (((i : Nat) : Int).toNat, 0) hnd (List.mem_map.2 ⟨(i : Int), hi, rfl⟩)
          simp only [Int.toNat_natCast, List.take_zero] at this
          rw [this, if_neg hne]
        · rw [cutAll_not _ _ _ (fun hm => by
            rw [List.map_map] at hm
            obtain ⟨g, hg, e⟩ := List.mem_map.1 hm
            have h1 := h.rg g hg
            simp only [Function.comp] at e
            exact hi (by rw [show (i : Int) = g from by omega]; exact hg))]
          unfold upd
          by_cases e : i = f.toNat
          · rw [if_pos e, if_pos e]
          · rw [if_neg e, if_neg e]; exact h.em i hi
      refine ⟨by omega, by omega, { D with now := cutAll (upd D.now f.toNat Q) (W.files.map (fun f => (f.toNat, 0))), sure := cutAll (upd D.now f.toNat Q) (W.files.map (fun f => (f.toNat, 0))), loose := [] }, f, ?_, ?_, rfl, rfl⟩
      · unfold ckR
        rw [if_neg (by rw [hdn]; simp), if_neg hl, hop, if_neg (fun hh => hh.elim hfree hc), hQ, hf, hst, if_neg (by simp)]
      · refine ⟨h.n3, h.n16, h.fu, rfl, rfl, by show 1 ≤ 1; decide, by simp, fun g hg => ?_, fun i hi => ?_, fun i hi => ?_, fun i hi => ?_⟩
        · have e : g = f := by simpa using hg
          subst e; exact ⟨f0, f3⟩
        · obtain rfl : i = 0 := by have h1 : i < 1 := hi; omega
          show (cutAll _ _ f.toNat).length = 18 + t.length ∧ _
          rw [hnow, if_pos rfl, hQl]
          exact ⟨rfl, by show 1 ≤ 18 + t.length; omega⟩
        · have h1 : ¬ (i : Int) ∈ [f] := hi
          have h2 : i ≠ f.toNat := fun e => h1 (by simp; omega)
          show cutAll _ _ i = []
          rw [hnow, if_neg h2]
        · have h1 : i + 1 < 1 := hi; omega
end Go.Proofs.Ytniflkggcceagaa

namespace Go.Proofs.Ytniflkggcceagaa
open Go Go.RowKit
structure VInv (R k : Nat) (D : Dk) (W : Wa) (q : Nat) : Prop where
  inv : LInv D W
  room : D.room = 400 + R
  ok : DkOk D
  loose : D.loose.length ≤ 20 * q
  use : sumL W.sizes + k ≤ 200
  res : W.reserved = (k : Int)
  gen : 1 ≤ W.gen ∧ W.gen ≤ 1 + q
  next : 1 ≤ W.next ∧ W.next ≤ 1 + 20 * q
theorem VInv.more {R k q : Nat} {D : Dk} {W : Wa} (h : VInv R k D W q) : VInv R k D W (q + 1) :=
  ⟨h.inv, h.room, h.ok, by have := h.loose; omega, h.use, h.res, ⟨h.gen.1, by have := h.gen.2; omega⟩, ⟨h.next.1, by have := h.next.2; omega⟩⟩
theorem VInv.sync {R k q : Nat} {D : Dk} {W : Wa} (h : VInv R k D W q) : VInv R k { D with sure := D.now, loose := [] } W (q + 1) :=
  ⟨(sy_inv h.inv).2, h.room, ⟨h.ok.room, h.ok.now, by show 0 ≤ _; decide, h.ok.fuse⟩, Nat.zero_le _, h.use, h.res, ⟨h.gen.1, by have := h.gen.2; omega⟩, ⟨h.next.1, by have := h.next.2; omega⟩⟩
theorem VInv.wa {R k q : Nat} {D : Dk} {W : Wa} (h : VInv R k D W q) : WaOk W := h.inv.waok (by have := h.use; omega) (by rw [h.res]; have := h.use; omega)
theorem VInv.ao {R k q : Nat} {D : Dk} {W : Wa} (h : VInv R k D W q) (hq : q ≤ 50) : AOk W 0 := h.inv.aok (by have := h.use; omega) (by have := h.next.2; omega)
theorem VInv.app {R k q : Nat} {D : Dk} {W : Wa} (h : VInv R k D W q) (hR : R ≤ 1000) (hq : q ≤ 50) (l : List (List UInt8)) (hl : ∀ t ∈ l, t.length ≤ 65536) (hn : l.length ≤ 20) : VInv R k (apR D W 0 l).2.1 (apR D W 0 l).2.2 (q + 1) := by
  have hu := h.use; have hr := h.res; have hroom := h.room; have hlo := h.loose
  have hrm := h.inv.roomP (by omega) (by rw [hr]; omega)
  rcases ap_inv h.inv (by omega) (by rw [hr]; omega) (by rw [hr]; omega) 0 (by rw [hr]; omega) l hl with ⟨_, h2⟩ | ⟨h1, D', W', h2, h3, h4, h5⟩
  · rw [h2]; exact h.more
  · rw [h2]
    rw [hrm, hr] at h1
    have hroom2 : D'.room = 400 + R := h5.room.trans hroom
    have hlo2 := h5.loose
    refine ⟨h3.resv _, hroom2, h3.dkok (by omega) (by omega) (by omega), by show D'.loose.length ≤ _; omega, ?_, ?_, ?_, ?_⟩
    · show sumL W'.sizes + k ≤ 200; omega
    · show W.reserved - 0 = _; rw [hr]; omega
    · show 1 ≤ W'.gen ∧ _; rw [h5.gen]; exact ⟨h.gen.1, by have := h.gen.2; omega⟩
    · show 1 ≤ W'.next ∧ _; rw [h5.next]; exact ⟨by have := h.next.1; omega, by have := h.next.2; omega⟩
theorem VInv.chk {R k q : Nat} {D : Dk} {W : Wa} (h : VInv R k D W q) (hR : R ≤ 1000) (hk : 40 ≤ k ∧ k < 160) (t : List UInt8) :
    VInv R k (ckR D W t).2.1 (ckR D W t).2.2 (q + 1) ∧ ((ckR D W t).1 = 0 ∨ (ckR D W t).1 = 5 ∨ ((ckR D W t).1 = 4 ∧ 8 < t.length)) := by
  have hu := h.use; have hr := h.res; have hroom := h.room; have hlo := h.loose
  rcases ck_inv h.inv (by omega) (by omega) (by rw [hr]; omega) (by rw [hr]; omega) t (by omega) with ⟨_, h2⟩ | ⟨_, h1, h2⟩ | ⟨h0, h1, D', f, h2, h3, h4, h5⟩
  · rw [h2]; exact ⟨h.more, Or.inr (Or.inl rfl)⟩
  · rw [h2]; rw [hr] at h1; exact ⟨h.more, Or.inr (Or.inr ⟨rfl, by omega⟩)⟩
  · rw [h2]
    rw [hr] at h1
    have hroom2 : D'.room = 400 + R := h4.trans hroom
    have hsum : sumL [18 + t.length] = 18 + t.length := by simp [sumL]
    refine ⟨⟨h3, hroom2, h3.dkok (by omega) (by show sumL [18 + t.length] ≤ 200; rw [hsum]; omega) (by rw [h5]; decide), by rw [h5]; exact Nat.zero_le _, ?_, hr, ?_, h.next.1, by have := h.next.2; show W.next ≤ _; omega⟩, Or.inl rfl⟩
    · show sumL [18 + t.length] + k ≤ 200; rw [hsum]; omega
    · show 1 ≤ W.gen + 1 ∧ W.gen + 1 ≤ _; have := h.gen; omega
theorem VInv.fin {R k q : Nat} {D : Dk} {W : Wa} (h : VInv R k D W q) (hR : R ≤ 1000) (hk : 40 ≤ k ∧ k < 160) (_hq : q ≤ 50) (t : List UInt8) (ht : t.length = k - 40) :
    ∃ D' W', apR D W k [t] = ((W.next, 0), D', W') ∧ LInv D' W' ∧ W'.next = W.next + 1 ∧ W'.reserved = 0 ∧ W'.gen = W.gen ∧ D'.room = 400 + R ∧ D'.loose.length ≤ 20 * q + 1 ∧ sumL W'.sizes < 200 ∧
      ∃ D2 W2, ckR D' W' [101, 110, 100] = (0, D2, W2) ∧ W2.first = W.next + 1 := by
  have hu := h.use; have hr := h.res; have hroom := h.room; have hlo := h.loose
  have hrm := h.inv.roomP (by omega) (by rw [hr]; omega)
  have hnd := pcs_need W.gen [t] W.next (lastN W.sizes)
  have hlt : lensT [t] = 16 + t.length := by simp [lensT, sumL]
  rw [hlt, ht, show ([t] : List (List UInt8)).length = 1 from rfl] at hnd
  rcases ap_inv h.inv (by omega) (by rw [hr]; omega) (by rw [hr]; omega) k (by rw [hr]; omega) [t] (fun x hx => by simp at hx; subst hx; omega) with ⟨h1, _⟩ | ⟨h1, D', W', h2, h3, h4, h5⟩
  · rw [hrm, hr] at h1; omega
  · have hroom2 : D'.room = 400 + R := h5.room.trans hroom
    have hlo2 := h5.loose
    have hnx := h5.next
    rw [show ([t] : List (List UInt8)).length = 1 from rfl] at hlo2 hnx
    have hi := h3.resv (W.reserved - k)
    have hres : W.reserved - (k : Int) = 0 := by rw [hr]; omega
    refine ⟨D', { W' with reserved := W.reserved - k }, h2, hi, hnx, hres, h5.gen, hroom2, by omega, by show sumL W'.sizes < 200; omega, ?_⟩
    rcases ck_inv hi (by omega) (by show sumL W'.sizes < 200; omega) (by show ((sumL W'.sizes : Nat) : Int) + (W.reserved - k) ≤ 200; omega) (by show 0 ≤ W.reserved - k; omega) [101, 110, 100] (by omega) with ⟨h6, _⟩ | ⟨_, h6, _⟩ | ⟨_, _, D2, f, h6, _, _, _⟩
    · simp at h6
    · have h7 : 182 - (3 : Int) < W.reserved - (k : Int) := h6; omega
    · exact ⟨D2, _, h6, hnx⟩
theorem zeros (w : World) (kz : Nat) (h : kz ≤ 1000) : ∃ W1, (Instr.makeSlice 53 (.int .i64 (kz : Int)) (.int .i64 (kz : Int))).run Try.prog w = .ok (.slice (some ⟨w.heap.size, 0, none⟩) kz kz) W1 ∧ Below w.heap.size w W1 ∧
    (convert 53 9 (.slice (some ⟨w.heap.size, 0, none⟩) kz kz)).run Try.prog W1 = .ok (.string (bs (List.replicate kz 0))) W1 := by
  obtain ⟨i0, hi, hz0, hz1, hz2⟩ := info_parts infoU8
  have h1 := run_makeSlice (P := Try.prog) w 53 5 i0 (.int .u8 0) Try.underlying53 hi hz0 .i64 .i64 (kz : Int) (kz : Int) (by omega) (by omega) (by rw [hz1]; simp; omega) (by rw [hz2]; omega) (by omega)
  rw [hz1] at h1
  simp only [Int.toNat_natCast, Nat.mul_one] at h1
  refine ⟨_, h1, (Below.refl _ _).alloc (Nat.le_refl _) _, ?_⟩
  have hc := Cz.new w (madeCells (Value.int .u8 0).cells kz) 5
  have h2 := run_convert_bytes_back (P := Try.prog) (w.alloc (.cells (madeCells (Value.int .u8 0).cells kz) 5)) 53 9 5 ⟨w.heap.size, 0, none⟩ kz (List.replicate kz 0) Try.underlying53 Try.underlying5 Try.underlying9 (fun j hj => by
    rw [List.length_replicate] at hj
    rw [Addr.add_lit, Nat.zero_add, hc.c j]
    have h3 := toList_madeCells_one (.int .u8 0) kz
    rw [show (madeCells (Value.int .u8 0).cells kz)[j]? = (madeCells #[Value.int .u8 0] kz).toList[j]? from by rw [Array.getElem?_toList]; rfl, h3, List.getElem?_replicate, if_pos hj, List.getElem_replicate]
    rfl)
  rw [List.length_replicate] at h2
  exact h2
theorem LgS.reserved {P : Nat → Prop} {x d : Nat} {D : Dk} {W : Wa} {w : World} (h : LgS P x d D W w) : Calls Try.prog 24 #[.pointer (some ⟨x, 0, none⟩)] w fun e w' => e = .returned (.int .i64 W.reserved) ∧ w' = w := by
  obtain ⟨S, T, h1, h2, h3, h4, h5⟩ := h
  exact wal_Reserved w h2
theorem LgS.down {P : Nat → Prop} {x d : Nat} {D : Dk} {W : Wa} {w : World} (h : LgS P x d D W w) : Calls Try.prog 15 #[.pointer (some ⟨x, 0, none⟩)] w fun e w' => e = .returned (.int .i64 W.down) ∧ w' = w := by
  obtain ⟨S, T, h1, h2, h3, h4, h5⟩ := h
  exact wal_Down w h2
set_option maxRecDepth 100000 in
set_option maxHeartbeats 4000000 in
theorem law12_reserve (v : Value) (ls : List Stp) (nn rm : Nat) (hnn : nn < 256) (hrm : rm < 65536) (w : World) (h : IsStps w v ls) (hz : ∀ s ∈ ls, StpSz s) (hn : ls.length ≤ 140737488355328) :
    Calls Try.prog 5 #[v, .int .u8 (nn : Int), .int .u16 (rm : Int)] w fun e w' => e = .returned (.bool true) ∧ Below w.heap.size w w' := by
  have HV := Lib.hid (law_Heavy w v ls h hz hn)
  obtain ⟨a, cap, rfl, hc⟩ := h
  obtain ⟨n, hnl⟩ : ∃ z, ls.length = z := ⟨_, rfl⟩
  rw [hnl] at HV hn ⊢
  have HN := Lib.hid hnl; have HC := Lib.hid hc
  clear hnl hc hz
  unfold HvyG at HV
  obtain ⟨A, hA⟩ : ∃ z, w.heap.size = z := ⟨_, rfl⟩
  have HA := Lib.hid hA
  rw [hA]
  go_enter Try.func5, Try.ntmps5
  go_wp2_with fail
  refine HV.out.mono ?_
  rintro e w1 ⟨hv, rfl, hw1, hfit⟩
  subst w1
  cases hv with
  | true =>
    go_wp2_with fail
    refine (law12_alive w).mono ?_
    rintro e w1 ⟨rfl, hb1⟩
    rw [hA] at hb1
    have HB1 := Lib.hid hb1
    clear hb1
    go_wp2_with fail
    go_ret
    exact ⟨rfl, HB1.out⟩
  | false =>
    obtain ⟨hn40, hfit⟩ := hfit rfl
    have HFIT := Lib.hid hfit
    have hn40b : n ≤ 40 := by rw [← HN.out]; exact hn40
    obtain ⟨R, hR⟩ : ∃ z, rm % 600 = z := ⟨_, rfl⟩
    have hRb : R < 600 := by rw [← hR]; exact Nat.mod_lt _ (by decide)
    have hrem : (rm : Int).tmod 600 = (R : Int) := by
      rw [← hR, Int.tmod_eq_emod_of_nonneg (by omega)]; omega
    have hcv : IntKind.i64.wrap (rm : Int) = (rm : Int) := by rw [IntKind.wrap_i64]; omega
    have hRw : IntKind.i64.wrap (R : Int) = (R : Int) := by rw [IntKind.wrap_i64]; omega
    obtain ⟨K0, hK0⟩ : ∃ z, nn % 120 = z := ⟨_, rfl⟩
    have hK0b : K0 < 120 := by rw [← hK0]; exact Nat.mod_lt _ (by decide)
    have hrem2 : (nn : Int).tmod 120 = (K0 : Int) := by
      rw [← hK0, Int.tmod_eq_emod_of_nonneg (by omega)]; omega
    have hcv2 : IntKind.i64.wrap (nn : Int) = (nn : Int) := by rw [IntKind.wrap_i64]; omega
    have hK0w : IntKind.i64.wrap (K0 : Int) = (K0 : Int) := by rw [IntKind.wrap_i64]; omega
    obtain ⟨k, hk⟩ : ∃ z, 40 + K0 = z := ⟨_, rfl⟩
    have hki : (40 : Int) + (K0 : Int) = (k : Int) := by omega
    have hkw : IntKind.i64.wrap (k : Int) = (k : Int) := by rw [IntKind.wrap_i64]; omega
    have hkb : 40 ≤ k ∧ k < 160 := by omega
    have hmd := law_made w R (by omega)
    rw [hA] at hmd
    have HMD := Lib.hid hmd
    have HREM2 := Lib.hid (And.intro hrem2 (And.intro hcv2 (And.intro hK0w (And.intro hki hkw))))
    clear hmd hn40 hfit hn hR hA hK0 hk hrem2 hcv2 hK0w hki hkw
    go_wp2_with fail
    refine HMD.out.mono ?_
    rintro e w1 ⟨d, x, rfl, hl1, hb1⟩
    have HL1 := Lib.hid hl1; have HB1 := Lib.hid hb1
    obtain ⟨hrem2, hcv2, hK0w, hki, hkw⟩ := HREM2.out
    have hmi := mk_inv R
    have hrs := hl1.reserve (mk_ok R (by omega)) (hmi.waok (by decide) (by decide)) k (by rw [hmi.roomP (by show 260 ≤ 400 + R; omega) (by decide)]; show (k : Int) ≤ 200 - 23 - 0; omega) (by omega) rfl (by decide)
    have HRS := Lib.hid hrs
    clear hl1 hb1 HMD hrem hcv hRw hrs hmi
    go_wp2_with fail
    refine HRS.out.mono ?_
    rintro e w2 ⟨rfl, hl2, hb2⟩
    have HS1 : Hid (A ≤ w1.heap.size) := Lib.hid (by have := HB1.out.size; have := HA.out; omega)
    have HL2 := Lib.hid hl2
    have HB2 := Lib.hid (HB1.out.trans (hb2.below (fun k h => h) HS1.out))
    have HI0 : Hid (VInv R k (mD R) { mW with reserved := mW.reserved + k } 0) := Lib.hid ⟨(mk_inv R).resv _, rfl, mk_ok R (by omega), Nat.le_refl _, by show 23 + k ≤ 200; omega, by show (0 : Int) + k = k; omega, by show 1 ≤ 1 ∧ 1 ≤ 1 + 0; decide, by show 1 ≤ 1 ∧ 1 ≤ 1 + 20 * 0; decide⟩
    clear hl2 hb2 HRS hrem2 hcv2 hK0w hki hkw
    go_wp2_with fail
    go_loopw [10] (fun i wr => ∃ (q : Nat) (D : Dk) (W : Wa), q ≤ n ∧ i = .int .i64 q ∧ Hid (Below A w wr) ∧ Hid (LgS (fun k => A ≤ k) x d D W wr) ∧ Hid (VInv R k D W q)) (fun i _ => n - (intOf i).toNat)
    case atStart => exact ⟨0, _, _, Nat.zero_le _, rfl, HB2, HL2, HI0⟩
    case round =>
      obtain ⟨q, D, W, hq, rfl, HB, HL, HI⟩ := hrel
      clear HI0 HL1 HB1 HL2 HB2
      by_cases hlt : q < n
      · have HLT := Lib.hid hlt
        have hqi : (q : Int) < (n : Int) := by omega
        obtain ⟨b, off, rfl, hbl, hs⟩ := HC.out.resolve_left (fun e => by have := HN.out; rw [e] at this; simp at this; omega)
        obtain ⟨s, hst⟩ : ∃ s, ls[q]? = some s := ⟨_, List.getElem?_eq_getElem (by rw [HN.out]; exact hlt)⟩
        have hat := hs q s hst
        have hft := HFIT.out s (List.mem_of_getElem? hst)
        obtain ⟨lv, c3, hlv, hnil⟩ := hat.c3
        obtain ⟨la, lc, hlve, hlc⟩ := hlv.at
        subst hlve
        obtain ⟨nl, hnl⟩ : ∃ z, s.L.length = z := ⟨_, rfl⟩
        have hnlb : nl ≤ 20 := by rw [← hnl]; exact hft.1
        rw [hnl] at c3 hnil
        have HNL := Lib.hid hnl; have HLC := Lib.hid hlc; have HTT := Lib.hid hft; have HNIL := Lib.hid hnil
        have hbA : b < A := by have := HA.out; omega
        have HOLD : Hid (∀ W' : World, Below A w W' → W'.cell? ⟨b, off + q * 7, none⟩ = some (.int .u8 (s.k : Int)) ∧ W'.cell? ⟨b, off + q * 7 + 3, none⟩ = some (.slice la nl lc) ∧ W'.cell? ⟨b, off + q * 7 + 4, none⟩ = some (.string (bs s.S))) := Lib.hid (fun W' hb => ⟨(hb.cell (p := ⟨b, off + q * 7, none⟩) hbA).trans hat.c0, (hb.cell (p := ⟨b, off + q * 7 + 3, none⟩) hbA).trans c3, (hb.cell (p := ⟨b, off + q * 7 + 4, none⟩) hbA).trans hat.c4⟩)
        have hk256 := hat.d
        obtain ⟨sk, hsk⟩ : ∃ z, s.k = z := ⟨_, rfl⟩
        obtain ⟨s9, hs9⟩ : ∃ z, sk % 9 = z := ⟨_, rfl⟩
        have hs9b : s9 < 9 := by rw [← hs9]; exact Nat.mod_lt _ (by decide)
        rw [hsk] at hk256
        have hrem9 : (sk : Int).tmod 9 = (s9 : Int) := by
          rw [← hs9, Int.tmod_eq_emod_of_nonneg (by omega)]; omega
        have hs9w : IntKind.u8.wrap (s9 : Int) = (s9 : Int) := by rw [IntKind.wrap_u8]; omega
        have HSK := Lib.hid hsk
        have HSW : Hid (A ≤ wr.heap.size) := Lib.hid (by have := HB.out.size; have := HA.out; omega)
        obtain ⟨co0, co3, co4⟩ := HOLD.out wr HB.out
        rw [hsk] at co0
        -- what follows each kind: Reserved and Down
        have HNEXT : Hid (∀ (w5 : World) (D' : Dk) (W' : Wa), LgS (fun k => A ≤ k) x d D' W' w5 → VInv R k D' W' (q + 1) → Calls Try.prog 24 #[.pointer (some ⟨x, 0, none⟩)] w5 (fun e w' => e = .returned (.int .i64 (k : Int)) ∧ w' = w5) ∧ Calls Try.prog 15 #[.pointer (some ⟨x, 0, none⟩)] w5 (fun e w' => e = .returned (.int .i64 0) ∧ w' = w5)) := Lib.hid (fun w5 D' W' hL hV => by
          have h1 := hL.reserved; have h2 := hL.down
          rw [hV.res] at h1
          rw [hV.inv.dn] at h2
          exact ⟨h1, h2⟩)
        clear hs hst hat hft c3 hlv hlc hnl hnil hs9 hsk
        by_cases h1 : s9 = 1
        · subst h1
          have hsy := HL.out.sync HI.out.ok (by have := HI.out.loose; omega)
          rw [(sy_inv HI.out.inv).1] at hsy
          dsimp only at hsy
          have HSY := Lib.hid hsy
          clear hsy
          unfold LgR at HSY
          go_wp2_with fail
          refine HSY.out.mono ?_
          rintro e w5 ⟨rfl, hl5, hb5⟩
          have HL5 := Lib.hid (hl5.back (fun j hj => by have := HSW.out; omega))
          have HB5 := Lib.hid (HB.out.trans (hb5.below (fun k h => h) HSW.out))
          have HI5 := Lib.hid HI.out.sync
          clear hl5 hb5 HSY co0 co3 co4
          go_wp2_with fail
          refine (HNEXT.out w5 _ _ HL5.out HI5.out).1.mono ?_
          rintro e w6 ⟨rfl, hw6⟩
          subst w6
          go_wp2_with fail
          refine (HNEXT.out w5 _ _ HL5.out HI5.out).2.mono ?_
          rintro e w6 ⟨rfl, hw6⟩
          subst w6
          go_wp2_with fail
          go_roundw
          case rel => exact ⟨q + 1, _, _, HLT.out, by go_num, HB5, HL5, HI5⟩
          case measure => have := HLT.out; simp [intOf]; omega
        · by_cases h2 : s9 = 2
          · subst h2
            have hck := HL.out.check HI.out.ok HI.out.wa (HI.out.ao (by omega)) ⟨HI.out.gen.1, by have := HI.out.gen.2; omega⟩ HI.out.next.1 HI.out.inv.n3 s.S (by have := HTT.out.2.1; omega) (by have := HI.out.loose; omega)
            obtain ⟨hv2, hans⟩ := HI.out.chk (by omega) hkb s.S
            obtain ⟨r, hr⟩ : ∃ r, ckR D W s.S = r := ⟨_, rfl⟩
            rw [hr] at hck hv2 hans
            obtain ⟨er, D', W'⟩ := r
            dsimp only at hck hv2 hans
            have HCKK := Lib.hid hck; have HI5 := Lib.hid hv2
            obtain ⟨sl, hsl⟩ : ∃ z, s.S.length = z := ⟨_, rfl⟩
            have hss : (bs s.S).size = sl := by rw [bs_size, hsl]
            rw [hsl] at hans
            have hslb : sl ≤ 8192 := by rw [← hsl]; exact HTT.out.2.1
            clear hck hv2 hr hsl
            unfold LgR at HCKK
            go_wp2_with fail
            refine HCKK.out.mono ?_
            rintro e w5 ⟨rfl, hl5, hb5⟩
            have HL5 := Lib.hid (hl5.back (fun j hj => by have := HSW.out; omega))
            have HB5 := Lib.hid (HB.out.trans (hb5.below (fun k h => h) HSW.out))
            clear hl5 hb5 HCKK co0 co3 co4
            obtain ⟨_, _, co4⟩ := HOLD.out w5 HB5.out
            rcases hans with rfl | rfl | ⟨rfl, h8⟩
            · go_wp2_with fail
              refine (HNEXT.out w5 _ _ HL5.out HI5.out).1.mono ?_
              rintro e w6 ⟨rfl, hw6⟩
              subst w6
              go_wp2_with fail
              refine (HNEXT.out w5 _ _ HL5.out HI5.out).2.mono ?_
              rintro e w6 ⟨rfl, hw6⟩
              subst w6
              go_wp2_with fail
              go_roundw
              case rel => exact ⟨q + 1, _, _, HLT.out, by go_num, HB5, HL5, HI5⟩
              case measure => have := HLT.out; simp [intOf]; omega
            · go_wp2_with fail
              refine (HNEXT.out w5 _ _ HL5.out HI5.out).1.mono ?_
              rintro e w6 ⟨rfl, hw6⟩
              subst w6
              go_wp2_with fail
              refine (HNEXT.out w5 _ _ HL5.out HI5.out).2.mono ?_
              rintro e w6 ⟨rfl, hw6⟩
              subst w6
              go_wp2_with fail
              go_roundw
              case rel => exact ⟨q + 1, _, _, HLT.out, by go_num, HB5, HL5, HI5⟩
              case measure => have := HLT.out; simp [intOf]; omega
            · have h8i : ¬ (sl : Int) ≤ 8 := by omega
              have h8d : decide ((sl : Int) ≤ 8) = false := by simp; omega
              go_wp2_with fail
              refine (HNEXT.out w5 _ _ HL5.out HI5.out).1.mono ?_
              rintro e w6 ⟨rfl, hw6⟩
              subst w6
              go_wp2_with fail
              refine (HNEXT.out w5 _ _ HL5.out HI5.out).2.mono ?_
              rintro e w6 ⟨rfl, hw6⟩
              subst w6
              go_wp2_with fail
              go_roundw
              case rel => exact ⟨q + 1, _, _, HLT.out, by go_num, HB5, HL5, HI5⟩
              case measure => have := HLT.out; simp [intOf]; omega
          · have h1i : ¬ (s9 : Int) = 1 := by omega
            have h2i : ¬ (s9 : Int) = 2 := by omega
            have h1b : ((s9 : Int) == 1) = false := by simpa using h1i
            have h2b : ((s9 : Int) == 2) = false := by simpa using h2i
            have HCEL : Hid (∀ W', Below wr.heap.size wr W' → (nl = 0 ∨ ∃ b2 o2, la = some ⟨b2, o2, none⟩ ∧ ∀ i, i < nl → W'.cell? ⟨b2, o2 + i, none⟩ = some (.string (bs (s.L.getD i []))))) := Lib.hid (fun W' hb => by
              rcases HLC.out with e | ⟨b2, o2, e1, e2, e3⟩
              · exact Or.inl (by rw [← HNL.out, e]; rfl)
              · refine Or.inr ⟨b2, o2, e1, fun i hi => ?_⟩
                have hl2 : b2 < A := by rw [← HA.out]; exact e2
                exact (hb.cell (p := ⟨b2, o2 + i, none⟩) (by have := HSW.out; show b2 < _; omega)).trans ((HB.out.cell (p := ⟨b2, o2 + i, none⟩) hl2).trans (e3 i (by rw [HNL.out]; exact hi))))
            have HNILS : Hid (la = none → nl = 0 ∧ lc = 0) := Lib.hid (fun e => HNIL.out nl lc (by rw [e]))
            have co5 := (HOLD.out (wr.alloc (.cells #[] 9)) (HB.out.trans (((Below.refl _ _).alloc (Nat.le_refl _) _).mono HSW.out))).2.1
            clear h1 h2 h1i h2i
            go_wp2_with (first
              | (at_builtin; refine wpl_strs rfl _ _ rfl (B := wr.heap.size) (l := s.L) rfl (Cz.new wr #[] 9) (Nat.le_refl _) rfl HNILS.out (HCEL.out _ ((Below.refl _ _).alloc (Nat.le_refl _) _)) HNL.out (by omega) ?_; intro v75 w75 hown75 hg75; have Hown75 := Lib.hid hown75; have Hg75 := Lib.hid hg75; clear hown75 hg75)
              | fail)
            have hb75 : Below wr.heap.size wr w75 := ((Below.refl wr.heap.size wr).alloc (Nat.le_refl _) (.cells #[] 9)).grown Hg75.out (by simp) (fun j e => by cases e; exact Nat.le_refl _)
            have hst : IsStrs w75 v75 (s.L.map bs) := own_strs (B := wr.heap.size) (by rw [HNL.out]; exact Hown75.out)
            have hap := (HL.out.step hb75).append HI.out.ok HI.out.wa (HI.out.ao (by omega)) ⟨HI.out.gen.1, by have := HI.out.gen.2; omega⟩ HI.out.next.1 HI.out.inv.n3 0 (by rw [HI.out.res]; omega) s.L v75 hst (by rw [HNL.out]; exact hnlb) (fun t ht => by have := HTT.out.2.2 t ht; omega) (by have := HI.out.loose; omega)
            have hv2 := HI.out.app (by omega) (by omega) s.L (fun t ht => by have := HTT.out.2.2 t ht; omega) (by rw [HNL.out]; exact hnlb)
            have HB75 := Lib.hid (HB.out.trans (hb75.mono HSW.out))
            have HS75 : Hid (A ≤ w75.heap.size) := Lib.hid (by have := HSW.out; have := hb75.size; omega)
            obtain ⟨r, hr⟩ : ∃ r, apR D W 0 s.L = r := ⟨_, rfl⟩
            rw [hr] at hap hv2
            have HAP := Lib.hid hap; have HI5 := Lib.hid hv2
            clear hap hv2 hr hst hb75 co0 co3 co4 co5
            unfold LgR at HAP
            refine HAP.out.mono ?_
            rintro e w5 ⟨rfl, hl5, hb5⟩
            have HL5 := Lib.hid (hl5.back (fun j hj => by have := HS75.out; omega))
            have HB5 := Lib.hid (HB75.out.trans (hb5.below (fun k h => h) HS75.out))
            clear hl5 hb5 HAP
            go_wp2_with fail
            refine (HNEXT.out w5 _ _ HL5.out HI5.out).1.mono ?_
            rintro e w6 ⟨rfl, hw6⟩
            subst w6
            go_wp2_with fail
            refine (HNEXT.out w5 _ _ HL5.out HI5.out).2.mono ?_
            rintro e w6 ⟨rfl, hw6⟩
            subst w6
            go_wp2_with fail
            go_roundw
            case rel => exact ⟨q + 1, _, _, HLT.out, by go_num, HB5, HL5, HI5⟩
            case measure => have := HLT.out; simp [intOf]; omega
      · obtain rfl : q = n := by omega
        obtain ⟨kz, hkz⟩ : ∃ z, k - 40 = z := ⟨_, rfl⟩
        have hkzi : (k : Int) - 40 = (kz : Int) := by omega
        have hkzw : IntKind.i64.wrap (kz : Int) = (kz : Int) := by rw [IntKind.wrap_i64]; omega
        have hkzb : kz < 120 := by omega
        have HKZ := Lib.hid hkz
        clear hkz
        have HSW : Hid (A ≤ wr.heap.size) := Lib.hid (by have := HB.out.size; have := HA.out; omega)
        obtain ⟨Z, hZ⟩ : ∃ z, List.replicate kz (0 : UInt8) = z := ⟨_, rfl⟩
        obtain ⟨W1, hmk, hbz, hcz⟩ := zeros wr kz (by omega)
        rw [hZ] at hcz
        have hZl : Z.length = k - 40 := by rw [← hZ, List.length_replicate, ← HKZ.out]
        obtain ⟨W2, hW2⟩ : ∃ z, W1.alloc (.cells #[.string (bs Z)] 9) = z := ⟨_, rfl⟩
        have hb2 : Below W1.heap.size W1 W2 := by rw [← hW2]; exact (Below.refl _ _).alloc (Nat.le_refl _) _
        have hst : IsStrs W2 (.slice (some ⟨W1.heap.size, 0, none⟩) 1 1) ([Z].map bs) := by rw [← hW2]; exact strs_new W1 [Z]
        have hbr2 : Below wr.heap.size wr W2 := hbz.trans (hb2.mono hbz.size)
        obtain ⟨D', W', f1, f2, f3, f4, f5, f6, f7, f8, D2, W3, f9, f10⟩ := HI.out.fin (by omega) hkb (by omega) Z hZl
        have hap := (HL.out.step hbr2).append HI.out.ok HI.out.wa (HI.out.ao (by omega)) ⟨HI.out.gen.1, by have := HI.out.gen.2; omega⟩ HI.out.next.1 HI.out.inv.n3 (k : Int) (by rw [HI.out.res]; omega) [Z] _ hst (by simp) (fun t ht => by simp at ht; subst ht; omega) (by have := HI.out.loose; omega)
        rw [f1] at hap
        obtain ⟨nx, hnx⟩ : ∃ z, W.next = z := ⟨_, rfl⟩
        have hnxb : nx ≤ 1000 := by rw [← hnx]; have := HI.out.next.2; omega
        obtain ⟨n1, hn1⟩ : ∃ z, nx + 1 = z := ⟨_, rfl⟩
        have hn1i : (nx : Int) + 1 = (n1 : Int) := by omega
        have hn1w : IntKind.u64.wrap (n1 : Int) = (n1 : Int) := by rw [IntKind.wrap_u64]; omega
        rw [hnx] at hap f3 f10
        rw [hn1] at f3 f10
        have HAP := Lib.hid hap
        have HB2' := Lib.hid (HB.out.trans (hbr2.mono HSW.out))
        have HS2 : Hid (A ≤ W2.heap.size) := Lib.hid (by have := HSW.out; have := hbr2.size; omega)
        have HF := Lib.hid (And.intro f2 (And.intro f3 (And.intro f4 (And.intro f5 (And.intro f6 (And.intro f7 (And.intro f8 (And.intro f9 f10))))))))
        clear hZ hZl hb2 hst hbr2 f1 f2 f3 f4 f5 f6 f7 f8 f9 f10 hap hnx hbz
        unfold LgR at HAP
        go_wp2_with fail
        refine HAP.out.mono ?_
        rintro e w5 ⟨rfl, hl5, hb5⟩
        have HL5 := Lib.hid (hl5.back (fun j hj => by have := HS2.out; omega))
        have HB5 := Lib.hid (HB2'.out.trans (hb5.below (fun k h => h) HS2.out))
        have HS5 : Hid (A ≤ w5.heap.size) := Lib.hid (by have := HS2.out; have := hb5.size; omega)
        have hnx5 := HL5.out.next
        rw [HF.out.2.1] at hnx5
        have hrs5 := HL5.out.reserved
        rw [HF.out.2.2.1] at hrs5
        have HNX5 := Lib.hid hnx5; have HRS5 := Lib.hid hrs5
        have hroomF := HF.out.2.2.2.2.1; have hlooseF := HF.out.2.2.2.2.2.1; have husF := HF.out.2.2.2.2.2.2.1
        have hck := HL5.out.check (HF.out.1.dkok (by omega) (by omega) (by omega)) (HF.out.1.waok (by omega) (by rw [HF.out.2.2.1]; decide)) (HF.out.1.aok (by omega) (by rw [HF.out.2.1]; omega)) (by rw [HF.out.2.2.2.1]; exact ⟨HI.out.gen.1, by have := HI.out.gen.2; omega⟩) (by rw [HF.out.2.1]; omega) HF.out.1.n3 [101, 110, 100] (by decide) (by omega)
        rw [HF.out.2.2.2.2.2.2.2.1, show bs [101, 110, 100] = (⟨#[101, 110, 100]⟩ : ByteArray) from rfl] at hck
        dsimp only at hck
        have HCKK := Lib.hid hck
        clear hl5 hb5 HAP hnx5 hrs5 hroomF hlooseF husF hck hmk hcz hW2
        unfold LgR at HCKK
        go_wp2_with fail
        refine HNX5.out.mono ?_
        rintro e w6 ⟨rfl, hw6⟩
        subst w6
        go_wp2_with fail
        refine HRS5.out.mono ?_
        rintro e w6 ⟨rfl, hw6⟩
        subst w6
        go_wp2_with fail
        refine HCKK.out.mono ?_
        rintro e w6 ⟨rfl, hl6, hb6⟩
        have HB6 := Lib.hid (HB5.out.trans (hb6.below (fun k h => h) HS5.out))
        have HS6 : Hid (A ≤ w6.heap.size) := Lib.hid (by have := HS5.out; have := hb6.size; omega)
        have hfi := hl6.first
        rw [HF.out.2.2.2.2.2.2.2.2] at hfi
        have HFI := Lib.hid hfi
        clear hl6 hb6 hfi HCKK
        go_wp2_with fail
        refine HFI.out.mono ?_
        rintro e w7 ⟨rfl, hw7⟩
        subst w7
        go_wp2_with fail
        refine (law12_alive w6).mono ?_
        rintro e w7 ⟨rfl, hb7⟩
        have HB7 := Lib.hid (HB6.out.trans (hb7.mono HS6.out))
        clear hb7
        go_wp2_with fail
        go_ret
        exact ⟨rfl, HB7.out⟩
end Go.Proofs.Ytniflkggcceagaa

namespace Go.Proofs.Ytniflkggcceagaa
open Go Go.RowKit
theorem law12_reserve_in (ls : List Stp) (v : Value) (y x : Int) (w : World) (h : IsStps w v ls) (hz : ∀ s ∈ ls, StpSz s) (hn : ls.length ≤ 140737488355328) (hy : (Lit.int .u8 y).wf = true) (hx : (Lit.int .u16 x).wf = true) :
    Calls Try.prog 5 #[v, .int .u8 y, .int .u16 x] w fun e w' => e = .returned (.bool true) ∧ Below w.heap.size w w' := by
  have hx2 := wf_u16 hx; have hy2 := wf_u8 hy
  obtain ⟨k, rfl⟩ : ∃ k : Nat, x = (k : Int) := ⟨x.toNat, by omega⟩
  obtain ⟨j, rfl⟩ : ∃ j : Nat, y = (j : Int) := ⟨y.toNat, by omega⟩
  exact law12_reserve v ls j k (by omega) (by omega) w h hz hn
end Go.Proofs.Ytniflkggcceagaa
