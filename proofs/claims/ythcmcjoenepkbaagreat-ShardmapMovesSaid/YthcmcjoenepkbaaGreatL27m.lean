/- Law 27: ShardmapMoves' walk. -/
import Derived.Test.YthcmcjoenepkbaaGreatR27c
import Derived.Test.YthcmcjoenepkbaaGreatRdC
import Derived.Test.YthcmcjoenepkbaaGreatShd
import Derived.Test.YthcmcjoenepkbaaGreatMvP
import Derived.Test.YthcmcjoenepkbaaGreatMvQ
import Derived.Test.YthcmcjoenepkbaaGreatNil
import Derived.Test.YthcmcjoenepkbaaGreatL27b
import Derived.Test.YthcmcjoenepkbaaGreatNum
import Derived.Maps.AppendAt
import Derived.Deep.RegionLaw
import Derived.Deep.AppendLies
namespace Go.Proofs.YthcmcjoenepkbaaGreat
open Go Go.RowKit Go.Maps

/-- 'append(nil, xs...)' at a step of a region that draws its order, whatever xs is. -/
theorem step_append_new {P : Program} {w : World} {ops : Array Oper} {o : Oper} {a : Act} {K : Act → World → Prop} {Q : Exit → Act → World → Prop} {E : Prop} (hgd : o.guard = none) (s x : Operand) (t : TypeId)
    (ho : o.op = .call { callee := .builtin .append, args := #[s, x], argTypes := #[t, t] })
    (base : Nat) (e : TypeId) (i : TypeInfo) (z : Value) (size bytes : Nat) (ht : P.underlying t = some (.slice e)) (hi : P.info? e = some i) (hz : i.zero = some z)
    (hsize : i.size = size) (hby : i.bytes = bytes) (hzs : z.cells.size = size) (hsz : 0 < size) (hs : a.eval s = .slice none 0 0)
    (ad : Addr) (m c : Nat) (news : List Value) (hx : a.eval x = .slice (some ad) m c) (hl : news.length = m * size) (hnews : ∀ j u, news[j]? = some u → w.cell? (ad.add j) = some u) (h1 : ∀ u ∈ news, u.oneCell' = true)
    (h63 : m ≤ maxLen) (hbytes : m * bytes ≤ 140737488355328) (hbase : base ≤ w.heap.size)
    (h : ∀ a' c' w', w'.ownsRow base e size (.slice a' m c') m news → w.grownBy w' none → K (a.put o.dst (.slice a' m c')) w') :
    if Region.wanted o (yielded ops a.tmps) = true then Oper.wp P o a w K Q else E := by
  have hw : Region.wanted o (yielded ops a.tmps) = true := by simp [Region.wanted, hgd]
  rw [if_pos hw]
  obtain ⟨v', w', hr, h2, h3, _, _⟩ := run_append_own_at (P := P) w base t o.type e i z size bytes ht hi hz hsize hby hzs hsz (.slice none 0 0) 0 [] (World.ownsRow_nil _ _ _ _) ad m c news hl hnews h1 (by rw [Nat.zero_add]; exact h63) (by rw [Nat.zero_add]; exact hbytes) hbase
  rw [Nat.zero_add, List.nil_append] at h2
  obtain ⟨a', c', rfl⟩ : ∃ a' c', v' = .slice a' m c' := by
    rcases h2.2 with ⟨hv, h0⟩ | ⟨g, cap, cur, hv, _⟩
    · exact ⟨none, 0, by rw [hv, h0]⟩
    · exact ⟨_, _, hv⟩
  unfold Oper.wp execOp
  simp only [ho, resolve, invoke, builtin, Sem.run_bind, Sem.run_pure, Result.andThen_ok, List.map_toArray, List.map_cons, List.map_nil, hs, hx, hr]
  exact h a' c' w' h2 h3
/-- 'append(nil, nil...)' at a step of a region that draws its order. -/
theorem step_append_none {P : Program} {w : World} {ops : Array Oper} {o : Oper} {a : Act} {K : Act → World → Prop} {Q : Exit → Act → World → Prop} {E : Prop} (hgd : o.guard = none) (s x : Operand) (t : TypeId)
    (ho : o.op = .call { callee := .builtin .append, args := #[s, x], argTypes := #[t, t] })
    (e : TypeId) (i : TypeInfo) (size : Nat) (ht : P.underlying t = some (.slice e)) (hi : P.info? e = some i) (hs : a.eval s = .slice none 0 0) (hx : a.eval x = .slice none 0 0)
    (h : K (a.put o.dst (.slice none 0 0)) w) :
    if Region.wanted o (yielded ops a.tmps) = true then Oper.wp P o a w K Q else E := by
  have hw : Region.wanted o (yielded ops a.tmps) = true := by simp [Region.wanted, hgd]
  rw [if_pos hw]
  have hrun := run_append_owned_none (P := P) (w := w) 0 t o.type e i size ht hi (.slice none 0 0) 0 [] (World.ownsRow_nil _ _ _ _)
  unfold Oper.wp
  simp [execOp, ho, resolve, invoke, builtin, hs, hx, hrun, Result.andThen]
  exact h
theorem infoU64 : (Tryz.prog.info? 22).map (fun i => (i.zero, i.size, i.bytes)) = some (some (.int .u64 0), 1, 8) := by kernel_rfl
theorem six_ones (f t f1 t1 : Nat) : ∀ u ∈ ([.int .u64 (f : Int), .int .u64 (t : Int), .int .u64 (f1 : Int), .int .u64 (t1 : Int), .int .u64 0, .int .u64 18446744073709551615] : List Value), u.oneCell' = true := by
  intro u hu
  simp only [List.mem_cons, List.mem_nil_iff, or_false] at hu
  rcases hu with rfl | rfl | rfl | rfl | rfl | rfl <;> rfl
theorem u64_ones (l : List Nat) : ∀ u ∈ l.map (fun s : Nat => Value.int .u64 (s : Int)), u.oneCell' = true := fun u hu => by
  obtain ⟨x, _, rfl⟩ := List.mem_map.1 hu; rfl

theorem rgV_at : ∀ (L : List Rg) (i : Nat), i < L.length → (rgV L)[i * 2]? = some (.int .u64 ((L.getD i (0, 0, 0)).1 : Int)) ∧ (rgV L)[i * 2 + 1]? = some (.int .u64 ((L.getD i (0, 0, 0)).2.1 : Int))
  | [], i, h => by simp at h
  | v :: t, 0, _ => ⟨rfl, rfl⟩
  | v :: t, i + 1, h => by
    have := rgV_at t i (by simpa using h)
    rw [show (i + 1) * 2 = i * 2 + 2 by omega]
    exact this
theorem lnTo_le (xs : List Rg) (S : List Nat) (i : Nat) : lnTo xs S i ≤ lnTo xs S S.length := by
  unfold lnTo
  conv => rhs; rw [List.take_length, ← List.take_append_drop i S]
  rw [List.map_append, List.sum_append]
  exact Nat.le_add_right _ _
set_option maxRecDepth 100000 in
set_option maxHeartbeats 8000000 in
theorem law27_moves (p q : Nat) (a av : Option Addr) (L cp K cv : Nat) (l : List Mv) (al : List Nat) (hp : p < 256) (hq : q < 256) (hL : l.length = L) (hK : al.length = K)
    (w : World) (hmv : l = [] ∨ ∃ b off, a = some ⟨b, off, none⟩ ∧ b < w.heap.size ∧ ∀ i, i < L → ∀ j, j < 7 → w.cell? ⟨b, off + i * 7 + j, none⟩ = (mvC (l.getD i ⟨0, 0, 0, false, 0, 0, 0⟩)).toList[j]?) (hok : ∀ x ∈ l, x.Ok) (hav : NumV .u64 (.slice av K cv) al w) (hal : ∀ x ∈ al, x < M64) :
    Calls Tryz.prog 5 #[.int .u8 (p : Int), .int .u8 (q : Int), .slice a L cp, .slice av K cv] w fun e w' => e = .returned (.bool true) ∧ Below w.heap.size w w' := by
  obtain ⟨j0, hj, hy0, hy1, hy2⟩ := info_parts infoU64
  have HWK := Lib.hid (fun (w' : World) => law27_works w')
  have HMV := Lib.hid hmv; have HOK := Lib.hid hok; have HLL := Lib.hid hL; have HKK := Lib.hid hK; have HAV := Lib.hid hav; have HAL := Lib.hid hal
  have HF := Lib.hid (law27_first p q hp hq w)
  have HPS := Lib.hid (show (1 ≤ 1 + q % 4 ∧ 1 + q % 4 ≤ 4) ∧ 1 ≤ 1 + p % 6 by omega)
  clear hmv hok hL hK hav hal hp hq
  by_cases hl2 : 30 < L
  · have hli : (30 : Int) < (L : Int) := by omega
    go_enter Tryz.func5, Tryz.ntmps5
    go_wp2_with fail
    refine (HWK.out _).mono ?_
    rintro e w1 ⟨rfl, hb1⟩
    have HB1 := Lib.hid hb1
    clear hb1
    go_wp2_with fail
    go_ret
    exact ⟨rfl, HB1.out⟩
  have hli : ¬ (30 : Int) < (L : Int) := by omega
  by_cases hk2 : 60 < K
  · have hki : (60 : Int) < (K : Int) := by omega
    go_enter Tryz.func5, Tryz.ntmps5
    go_wp2_with fail
    refine (HWK.out _).mono ?_
    rintro e w1 ⟨rfl, hb1⟩
    have HB1 := Lib.hid hb1
    clear hb1
    go_wp2_with fail
    go_ret
    exact ⟨rfl, HB1.out⟩
  have hki : ¬ (60 : Int) < (K : Int) := by omega
  go_enter Tryz.func5, Tryz.ntmps5
  go_wp2_with fail
  refine HF.out.mono ?_
  rintro e w1 ⟨m, r, sp, rfl, hM, hD, hS, hl, hb1⟩
  obtain ⟨O, hO⟩ : ∃ O, ownS (fewS (1 + q % 4)) (1 + p % 6) = O := ⟨_, rfl⟩
  have hO1 : ∀ u, 1 ≤ O u ∧ O u < 4294967296 := fun u => by rw [← hO]; exact few_lt HPS.out.1 HPS.out.2 u
  rw [hO] at hS
  have HM := Lib.hid hM; have HD := Lib.hid hD; have HS := Lib.hid hS; have HL := Lib.hid hl; have HB1 := Lib.hid hb1; have HO := Lib.hid hO1
  clear hM hD hS hl hb1 hO1 hO HF HPS hli hki
  go_wp2_with fail
  go_loopw [9, 10, 11] (fun vm vr i wr => ∃ (k m r e : Nat) (sp : List (Nat × Nat)) (O : Nat → Nat), k ≤ L ∧ i = .int .i64 k ∧ vm = .pointer (some ⟨m, 0, none⟩) ∧ vr = .pointer (some ⟨r, 0, none⟩) ∧ Hid (MapAt wr m e sp) ∧ Hid (DocAt wr r e sp) ∧ Hid (SpI O sp M64) ∧ Hid (sp.length ≤ 2048) ∧ Hid (∀ u, 1 ≤ O u ∧ O u < 4294967296) ∧ Hid (1 ≤ e ∧ e ≤ k + 1) ∧ Hid (Below w.heap.size w wr)) (fun _ _ i _ => L - (intOf i).toNat)
  case atStart => exact ⟨0, m, r, 1, sp, O, Nat.zero_le _, rfl, rfl, rfl, HM, HD, HS, Lib.hid (by have := HL.out; omega), HO, Lib.hid ⟨Nat.le_refl _, Nat.le_refl _⟩, HB1⟩
  case round =>
    clear HM HD HS HL HB1 HO
    obtain ⟨k, m, r, e, sp, O, hk, rfl, rfl, rfl, HM, HD, HS, HL, HO, HE, HB⟩ := hrel
    by_cases hlt : k < L
    · obtain ⟨b, off, rfl, hbl, hmc⟩ := HMV.out.resolve_left (fun h => by have := HLL.out; rw [h] at this; simp at this; omega)
      have hmk := hmc k hlt
      have hvok := HOK.out (l.getD k ⟨0, 0, 0, false, 0, 0, 0⟩) (by rw [List.getD_eq_getElem?_getD, List.getElem?_eq_getElem (by rw [HLL.out]; exact hlt)]; exact List.getElem_mem _)
      obtain ⟨v, hv⟩ : ∃ v, l.getD k (⟨0, 0, 0, false, 0, 0, 0⟩ : Mv) = v := ⟨_, rfl⟩
      rw [hv] at hmk hvok
      have hw : ∀ j, j < 7 → wr.cell? ⟨b, off + k * 7 + j, none⟩ = (mvC v).toList[j]? := fun j hj => (HB.out.cell (p := ⟨b, off + k * 7 + j, none⟩) hbl).trans (hmk j hj)
      have x0 : wr.cell? ⟨b, off + k * 7, none⟩ = some (.int .u64 (v.f : Int)) := hw 0 (by decide)
      have x1 : wr.cell? ⟨b, off + k * 7 + 1, none⟩ = some (.int .u64 (v.t : Int)) := hw 1 (by decide)
      have x2 : wr.cell? ⟨b, off + k * 7 + 2, none⟩ = some (.int .u32 (v.tw : Int)) := hw 2 (by decide)
      have x3 : wr.cell? ⟨b, off + k * 7 + 3, none⟩ = some (.bool v.i) := hw 3 (by decide)
      have x4 : wr.cell? ⟨b, off + k * 7 + 4, none⟩ = some (.int .u8 (v.at_ : Int)) := hw 4 (by decide)
      have x5 : wr.cell? ⟨b, off + k * 7 + 5, none⟩ = some (.int .u64 (v.off : Int)) := hw 5 (by decide)
      have x6 : wr.cell? ⟨b, off + k * 7 + 6, none⟩ = some (.int .u64 (v.len : Int)) := hw 6 (by decide)
      have hkl : (k : Int) < (L : Int) := by omega
      have HOF := Lib.hid (law27_ofV v hvok r e sp wr HD.out HS.out (by have := HL.out; omega))
      clear hmc hmk hvok hv hw
      go_wp2_with fail
      refine HOF.out.mono ?_
      rintro en w2 ⟨f, t, tw, rfl, hf, ht, htw, hb2⟩
      obtain ⟨X, hX⟩ : ∃ X, w2.heap.size = X := ⟨_, rfl⟩
      obtain ⟨W2, hW2⟩ : ∃ W2, w2.alloc (.cells #[.int .u64 (f : Int), .int .u64 (t : Int)] 24) = W2 := ⟨_, rfl⟩
      obtain ⟨hz2, g2, ha2⟩ := alloc_keep hW2
      rw [hX] at hz2 g2 ha2
      have hbw : Below wr.heap.size wr W2 := hb2.trans (ha2.mono (by rw [← hX]; exact hb2.size))
      have hX2 : X < W2.heap.size := by omega
      have hkeep : ∀ w', Below W2.heap.size W2 w' → RgIn X f t w' ∧ MapAt w' m e sp ∧ DocAt w' r e sp ∧ Below w.heap.size w w' ∧ NumV .u64 (.slice av K cv) al w' := fun w' h => by
        have hb := hbw.trans (h.mono hbw.size)
        have hbw2 := HB.out.trans (hb.mono HB.out.size)
        exact ⟨⟨cell_of ((h.block X hX2).trans g2) 0, cell_of ((h.block X hX2).trans g2) 1⟩, HM.out.below hb, HD.out.below hb, hbw2, HAV.out.below hbw2⟩
      have HK2 := Lib.hid hkeep
      have HSP := Lib.hid (map_Split m e f t tw sp W2 (hkeep W2 (Below.refl _ _)).2.1 (by have := HL.out; omega) O HS.out ht)
      have HFT := Lib.hid (And.intro hf (And.intro ht htw))
      obtain ⟨⟨y0, y1⟩, _⟩ := hkeep W2 (Below.refl _ _)
      clear hb2 hf ht htw hz2 g2 ha2 hbw hkeep x0 x1 x2 x3 x4 x5 x6 HOF HM HD HB
      go_upto_region 10 with fail
      clear hW2 hX
      go_wp2_with fail
      refine HSP.out.mono ?_
      rintro en w3 ⟨hb3, c, hc, ⟨hc0, rfl⟩ | ⟨rfl, n, rfl, hN, _⟩⟩
      · obtain ⟨_, h2, h3, h4, _⟩ := HK2.out w3 hb3
        have HM3 := Lib.hid h2; have HD3 := Lib.hid h3; have HB3 := Lib.hid h4
        have hcb : (c != 0) = true := by simpa using hc0
        clear hb3 hc hc0 HSP y0 y1 h2 h3 h4
        go_wp2_with fail
        go_roundw
        case rel => exact ⟨k + 1, m, r, e, sp, O, by omega, by go_num, rfl, rfl, HM3, HD3, HS, HL, HO, Lib.hid (by have := HE.out; omega), HB3⟩
        case measure => simp [intOf]; omega
      · have hz := hc.zero
        have hft : f ≤ t := Nat.le_of_not_lt (fun h => hz.1 (Or.inl h))
        have hm64 : (e + 1) % M64 = e + 1 := Nat.mod_eq_of_lt (by have := HE.out; show e + 1 < 18446744073709551616; omega)
        rw [hm64] at hN
        have hk3 : ∀ w', Below w3.heap.size w3 w' → RgIn X f t w' ∧ MapAt w' m e sp ∧ DocAt w' r e sp ∧ Below w.heap.size w w' ∧ NumV .u64 (.slice av K cv) al w' ∧ MapAt w' n (e + 1) (splitL sp f t tw) := fun w' h => by
          obtain ⟨h1, h2, h3, h4, h5⟩ := HK2.out w' (hb3.trans (h.mono hb3.size))
          exact ⟨h1, h2, h3, h4, h5, hN.below h⟩
        obtain ⟨f1, hf164, hf1⟩ := wrapU64 ((f : Int) - 1)
        obtain ⟨t1, ht164, ht1⟩ := wrapU64 ((t : Int) + 1)
        obtain ⟨⟨y0, y1⟩, _, _, _, hnv, _⟩ := hk3 w3 (Below.refl _ _)
        have HK3 := Lib.hid hk3; have HC := Lib.hid hc; have HFT2 := Lib.hid hft; have HNV := Lib.hid hnv; have HF1 := Lib.hid (And.intro hf164 ht164)
        have HBD := Lib.hid (show Below w3.heap.size w3 w3.drew from Below.drew (Below.refl _ _))
        have HBA := Lib.hid (show Below w3.heap.size w3 (w3.drew.alloc (.cells #[.int .u64 (f : Int), .int .u64 (t : Int), .int .u64 (f1 : Int), .int .u64 (t1 : Int), .int .u64 0, .int .u64 18446744073709551615] 22)) from (Below.drew (Below.refl _ _)).alloc (Nat.le_refl _) _)
        clear hb3 hc hz hft hm64 hN hk3 HSP HK2 hnv hf164 ht164
        go_upto_region 14 with fail
        go_cut [17] (fun sv wx => ∃ g c, sv = .slice (some ⟨g, 0, none⟩) (K + 6) c ∧ Hid (wx.ownsRow w3.heap.size 22 1 (.slice (some ⟨g, 0, none⟩) (K + 6) c) (K + 6) (al.map (fun s : Nat => Value.int .u64 (s : Int)) ++ [.int .u64 (f : Int), .int .u64 (t : Int), .int .u64 (f1 : Int), .int .u64 (t1 : Int), .int .u64 0, .int .u64 18446744073709551615])) ∧ Hid (Below w3.heap.size w3 wx))
        case first =>
          have HJ := Lib.hid hj; have HY0 := Lib.hid hy0; have HY1 := Lib.hid hy1; have HY2 := Lib.hid hy2; clear hj hy0 hy1 hy2
          have keepS : Hid (∀ w', Below w3.heap.size w3 w' → w'.cell? ⟨X, 0, none⟩ = some (.int .u64 (f : Int)) ∧ w'.cell? ⟨X, 1, none⟩ = some (.int .u64 (t : Int)) ∧ Hid (Below w3.heap.size w3 w')) := Lib.hid (fun w' h => ⟨(HK3.out w' h).1.1, (HK3.out w' h).1.2, Lib.hid h⟩)
          have HBO : Hid (∀ o, Below w3.heap.size w3 (w3.drew.alloc o)) := Lib.hid (fun o => (Below.drew (Below.refl _ _)).alloc (Nat.le_refl _) _)
          have HBO2 : Hid (∀ o, Below w3.heap.size w3 (w3.alloc o).drew) := Lib.hid (fun o => Below.drew ((Below.refl _ _).alloc (Nat.le_refl _) _))
          rcases HNV.out.src with ⟨rfl, hk0, rfl, hal0⟩ | ⟨ad, rfl, hsrc⟩
          · subst hk0
            go_region_held3 (fun w' => w'.cell? ⟨X, 0, none⟩ = some (.int .u64 (f : Int)) ∧ w'.cell? ⟨X, 1, none⟩ = some (.int .u64 (t : Int)) ∧ Hid (Below w3.heap.size w3 w'))
            (first
              | exact keepS.out _ HB8.out
              | exact keepS.out _ HBD.out
              | exact keepS.out _ (HBO.out _)
              | exact keepS.out _ (HBO2.out _))
            (first
              | (refine step_append_lies (hgd := rfl) (s := .tmp 88) (x := .tmp 99) (t := 55) (ho := rfl) (base := w3.heap.size) (e := 22) (i := j0) (z := .int .u64 0) (size := 1) (bytes := 8) (ht := Tryz.underlying55) (hi := HJ.out) (hz := HY0.out) (hsize := HY1.out) (hby := HY2.out) (hzs := rfl) (hsz := by decide) (v := _) (n := 0) (xs := []) (hs := rfl) (hown := World.ownsRow_nil _ _ _ _) (ad := _) (m := 6) (c := _) (news := [.int .u64 (f : Int), .int .u64 (t : Int), .int .u64 (f1 : Int), .int .u64 (t1 : Int), .int .u64 0, .int .u64 18446744073709551615]) (hx := rfl) (hl := rfl) (hnews := by first | exact World.news_of_block (MapKept.heap_alloc _ _).1 | exact World.news_of_block HSX.out) (h1 := six_ones f t f1 t1) (hm := by decide) (h63 := by unfold maxLen; omega) (hbytes := by omega) (hbase := by first | exact (HBO2.out _).size | exact HBD.out.size | exact (HBO.out _).size | exact (HBO2.out _).size) (H := _) (hH := rfl) (h := ?_); intro g8 c8 w8 hown8 hg8 hat8 hlt8; have HO8 := Lib.hid hown8; have HB8 : Hid (Below w3.heap.size w3 w8) := Lib.hid (by first | exact (HBO.out _).grown hg8 (HBO.out _).size (fun k hk => by cases hk) | exact (HBO2.out _).grown hg8 (HBO2.out _).size (fun k hk => by cases hk)); clear hown8 hg8 hat8 hlt8)
              | (refine step_append_none (hgd := rfl) (s := .const (.slice none 0 0)) (x := .tmp 87) (t := 55) (ho := rfl) (e := 22) (i := j0) (size := 1) (ht := Tryz.underlying55) (hi := HJ.out) (hs := rfl) (hx := rfl) (h := ?_)))
            all_goals (
              go_wp2_with fail
              go_meet
              case rel => exact ⟨_, _, by rw [Nat.zero_add], Lib.hid (by rw [hal0]; exact HO8.out), HB8⟩)
          · have HSRC := Lib.hid (fun w' (h : Below w3.heap.size w3 w') => ((HNV.out.below h).src.resolve_left (fun h => by cases h.1)).elim (fun ad' h => (Option.some.inj h.1) ▸ h.2))
            clear hsrc
            go_region_held3 (fun w' => w'.cell? ⟨X, 0, none⟩ = some (.int .u64 (f : Int)) ∧ w'.cell? ⟨X, 1, none⟩ = some (.int .u64 (t : Int)) ∧ Hid (Below w3.heap.size w3 w'))
            (first
              | exact keepS.out _ HB8.out
              | exact keepS.out _ HB7.out
              | exact keepS.out _ (HB7.out.alloc HB7.out.size _)
              | exact keepS.out _ HBD.out
              | exact keepS.out _ (HBO.out _)
              | exact keepS.out _ (HBO2.out _))
            (first
              | (refine step_append_lies (hgd := rfl) (s := .tmp 88) (x := .tmp 99) (t := 55) (ho := rfl) (base := w3.heap.size) (e := 22) (i := j0) (z := .int .u64 0) (size := 1) (bytes := 8) (ht := Tryz.underlying55) (hi := HJ.out) (hz := HY0.out) (hsize := HY1.out) (hby := HY2.out) (hzs := rfl) (hsz := by decide) (v := _) (n := K) (xs := al.map (fun s : Nat => Value.int .u64 (s : Int))) (hs := rfl) (hown := by first | exact HO7.out | exact rowBelow HO7.out ((Below.refl _ _).alloc (Nat.le_refl _) _)) (ad := _) (m := 6) (c := _) (news := [.int .u64 (f : Int), .int .u64 (t : Int), .int .u64 (f1 : Int), .int .u64 (t1 : Int), .int .u64 0, .int .u64 18446744073709551615]) (hx := rfl) (hl := rfl) (hnews := by first | exact World.news_of_block (MapKept.heap_alloc _ _).1 | exact World.news_of_block HSX.out) (h1 := six_ones f t f1 t1) (hm := by decide) (h63 := by unfold maxLen; omega) (hbytes := by omega) (hbase := by first | exact HB7.out.size | exact (HB7.out.alloc HB7.out.size _).size | exact HBD.out.size | exact (HBO.out _).size | exact (HBO2.out _).size) (H := _) (hH := rfl) (h := ?_); intro g8 c8 w8 hown8 hg8 hat8 hlt8; have HO8 := Lib.hid hown8; have HB8 : Hid (Below w3.heap.size w3 w8) := Lib.hid (by first | exact HB7.out.grown hg8 HB7.out.size (own_above2 HO7.out) | exact (HB7.out.alloc HB7.out.size _).grown hg8 (HB7.out.alloc HB7.out.size _).size (own_above2 HO7.out)); clear hown8 hg8 hat8 hlt8)
              | (refine step_append_new (hgd := rfl) (s := .const (.slice none 0 0)) (x := .tmp 87) (t := 55) (ho := rfl) (base := w3.heap.size) (e := 22) (i := j0) (z := .int .u64 0) (size := 1) (bytes := 8) (ht := Tryz.underlying55) (hi := HJ.out) (hz := HY0.out) (hsize := HY1.out) (hby := HY2.out) (hzs := rfl) (hsz := by decide) (hs := rfl) (ad := ad) (m := K) (c := cv) (news := al.map (fun s : Nat => Value.int .u64 (s : Int))) (hx := rfl) (hl := by rw [List.length_map, HKK.out, Nat.mul_one]) (hnews := by first | exact HSRC.out _ HBD.out | exact HSRC.out _ (HBO.out _) | exact HSRC.out _ (HBO2.out _)) (h1 := u64_ones al) (h63 := by unfold maxLen; omega) (hbytes := by omega) (hbase := by first | exact HBD.out.size | exact (HBO.out _).size | exact (HBO2.out _).size) (h := ?_); intro a7 c7 w7 hown7 hg7; have HB7 : Hid (Below w3.heap.size w3 w7) := Lib.hid (by first | exact HBD.out.grown hg7 HBD.out.size (fun k hk => by cases hk) | exact (HBO.out _).grown hg7 (HBO.out _).size (fun k hk => by cases hk) | exact (HBO2.out _).grown hg7 (HBO2.out _).size (fun k hk => by cases hk)); (first | have HSX := Lib.hid ((hg7.block w3.heap.size (by simp) (by simp)).trans (MapKept.heap_alloc _ _).1) | skip); have HO7 := Lib.hid hown7; clear hown7 hg7))
            all_goals (
              go_wp2_with fail
              go_meet
              case rel => exact ⟨_, _, rfl, HO8, HB8⟩)
        case rest =>
          obtain ⟨g, c17, rfl, HO17, HB17⟩ := hcut
          obtain ⟨PL, hPL⟩ : ∃ PL : List Nat, al ++ [f, t, f1, t1, 0, 18446744073709551615] = PL := ⟨_, rfl⟩
          have hPn : PL.length = K + 6 := by rw [← hPL, List.length_append, HKK.out]; rfl
          have hP64 : ∀ j, j < K + 6 → PL.getD j 0 < M64 := by
            intro j hj'
            have hm : PL.getD j 0 ∈ PL := by rw [List.getD_eq_getElem?_getD, List.getElem?_eq_getElem (by rw [hPn]; exact hj')]; exact List.getElem_mem _
            rw [← hPL] at hm ⊢
            rcases List.mem_append.1 hm with h | h
            · exact HAL.out _ h
            · simp only [List.mem_cons, List.mem_nil_iff, or_false] at h
              have h1 := HFT.out; have h2 := HF1.out
              rcases h with h | h | h | h | h | h <;> rw [h] <;> first | exact h1.1 | exact h1.2.1 | exact h2.1 | exact h2.2 | decide
          have hcells : ∀ j, j < K + 6 → wc.cell? ⟨g, j, none⟩ = some (.int .u64 ((PL.getD j 0 : Nat) : Int)) := by
            intro j hj'
            have h := World.ownsRow.cellAt HO17.out j (by omega)
            rw [h]
            have hmap : al.map (fun s : Nat => Value.int .u64 (s : Int)) ++ [.int .u64 (f : Int), .int .u64 (t : Int), .int .u64 (f1 : Int), .int .u64 (t1 : Int), .int .u64 0, .int .u64 18446744073709551615] = PL.map (fun s : Nat => Value.int .u64 (s : Int)) := by
              rw [← hPL, List.map_append]; rfl
            rw [hmap, List.getElem?_map, List.getD_eq_getElem?_getD, List.getElem?_eq_getElem (by rw [hPn]; exact hj')]
            rfl
          have hgl : g < wc.heap.size := cell_lt (hcells 0 (by omega))
          have hSn : SpI (splitO O f t tw) (splitL sp f t tw) M64 := splitL_law tw HFT2.out HS.out
          have hln : (splitL sp f t tw).length ≤ 100000 := by have := splitL_length sp f t tw; have := HL.out; omega
          have HNO := Lib.hid (fun (w' : World) (h : Below wc.heap.size wc w') (u : Nat) (hu : u < M64) => map_Owner n (e + 1) u (splitL sp f t tw) w' ((HK3.out w' (HB17.out.trans (h.mono HB17.out.size))).2.2.2.2.2) hln _ hSn hu)
          have HMO := Lib.hid (fun (w' : World) (h : Below wc.heap.size wc w') (u : Nat) (hu : u < M64) => map_Owner m e u sp w' ((HK3.out w' (HB17.out.trans (h.mono HB17.out.size))).2.1) (by have := HL.out; omega) O HS.out hu)
          have HP64 := Lib.hid hP64; have HCL := Lib.hid hcells; have HGL := Lib.hid hgl; have HFO := Lib.hid HC.out.zero.2.1
          clear hPL hPn hP64 hcells hgl hSn hln y0 y1
          go_wp2_with fail
          go_loopw [18] (fun vi wr2 => ∃ j : Nat, j ≤ K + 6 ∧ vi = .int .i64 j ∧ Hid (Below wc.heap.size wc wr2)) (fun i _ => K + 6 - (intOf i).toNat)
          case atStart => exact ⟨0, by omega, rfl, Lib.hid (Below.refl _ _)⟩
          case round =>
            obtain ⟨j, hj2, rfl, HBr⟩ := hrel
            by_cases hlt2 : j < K + 6
            · have hji : (j : Int) < (K : Int) + 6 := by omega
              have hjm : (j : Int) < ((K + 6 : Nat) : Int) := by omega
              have hu64 := HP64.out j hlt2
              have x0 : wr.cell? ⟨g, j, none⟩ = some (.int .u64 ((PL.getD j 0 : Nat) : Int)) := (HBr.out.cell (p := ⟨g, j, none⟩) HGL.out).trans (HCL.out j hlt2)
              obtain ⟨u, hu⟩ : ∃ u, PL.getD j 0 = u := ⟨_, rfl⟩
              rw [hu] at hu64 x0
              clear hu
              obtain ⟨⟨y0, y1⟩, _⟩ := HK3.out wr (HB17.out.trans (HBr.out.mono HB17.out.size))
              by_cases hin : f ≤ u ∧ u ≤ t
              · have a1 : (f : Int) ≤ (u : Int) := by omega
                have a2 : (u : Int) ≤ (t : Int) := by omega
                have hso : splitO O f t tw u = tw := if_pos hin
                have hou : O u = O f := HFO.out.1 u hin.1 hin.2
                go_wp2_with fail
                refine (HNO.out _ HBr.out u hu64).mono ?_
                rintro en w4 ⟨rfl, hb4⟩
                rw [hso]
                go_wp2_with fail
                refine (HMO.out _ (HBr.out.trans (hb4.mono HBr.out.size)) u hu64).mono ?_
                rintro en w5 ⟨rfl, hb5⟩
                rw [hou]
                go_wp2_with fail
                go_roundw
                case rel => exact ⟨j + 1, by omega, by go_num, Lib.hid ((HBr.out.trans (hb4.mono HBr.out.size)).trans (hb5.mono (HBr.out.trans (hb4.mono HBr.out.size)).size))⟩
                case measure => simp [intOf]; omega
              · have hso : splitO O f t tw u = O u := if_neg hin
                by_cases hfu : f ≤ u
                · have a1 : (f : Int) ≤ (u : Int) := by omega
                  have a2 : ¬ (u : Int) ≤ (t : Int) := by omega
                  go_wp2_with fail
                  refine (HNO.out _ HBr.out u hu64).mono ?_
                  rintro en w4 ⟨rfl, hb4⟩
                  rw [hso]
                  go_wp2_with fail
                  refine (HMO.out _ (HBr.out.trans (hb4.mono HBr.out.size)) u hu64).mono ?_
                  rintro en w5 ⟨rfl, hb5⟩
                  go_wp2_with fail
                  go_roundw
                  case rel => exact ⟨j + 1, by omega, by go_num, Lib.hid ((HBr.out.trans (hb4.mono HBr.out.size)).trans (hb5.mono (HBr.out.trans (hb4.mono HBr.out.size)).size))⟩
                  case measure => simp [intOf]; omega
                · have a1 : ¬ (f : Int) ≤ (u : Int) := by omega
                  go_wp2_with fail
                  refine (HNO.out _ HBr.out u hu64).mono ?_
                  rintro en w4 ⟨rfl, hb4⟩
                  rw [hso]
                  go_wp2_with fail
                  refine (HMO.out _ (HBr.out.trans (hb4.mono HBr.out.size)) u hu64).mono ?_
                  rintro en w5 ⟨rfl, hb5⟩
                  go_wp2_with fail
                  go_roundw
                  case rel => exact ⟨j + 1, by omega, by go_num, Lib.hid ((HBr.out.trans (hb4.mono HBr.out.size)).trans (hb5.mono (HBr.out.trans (hb4.mono HBr.out.size)).size))⟩
                  case measure => simp [intOf]; omega
            · have hji : ¬ (j : Int) < (K : Int) + 6 := by omega
              have hjm : ¬ (j : Int) < ((K + 6 : Nat) : Int) := by omega
              obtain ⟨⟨y0, y1⟩, _, hD9, _⟩ := HK3.out wr (HB17.out.trans (HBr.out.mono HB17.out.size))
              have HDS := Lib.hid (d27_Split r e f t tw sp wr hD9 (by have := HL.out; omega) O HS.out HFT.out.2.1 (fun u => (HO.out u).1))
              clear hD9
              go_wp2_with fail
              refine HDS.out.mono ?_
              rintro en w6 ⟨hb6, c6, hc6, ⟨hn6, rfl⟩ | ⟨rfl, r6, rfl, hD6⟩⟩
              · exact absurd (SplitC.same hc6 HC.out (fun _ => Iff.rfl) Iff.rfl) hn6
              · have hm64 : (e + 1) % M64 = e + 1 := Nat.mod_eq_of_lt (by have := HE.out; show e + 1 < 18446744073709551616; omega)
                have hz := HC.out.zero
                rw [hm64] at hD6
                have hb9 : Below w3.heap.size w3 w6 := HB17.out.trans ((HBr.out.trans (hb6.mono HBr.out.size)).mono HB17.out.size)
                obtain ⟨_, _, _, hBw, _, hMn⟩ := HK3.out w6 hb9
                have HD7 := Lib.hid hD6; have HM7 := Lib.hid hMn; have HB7 := Lib.hid hBw
                have HS7 : Hid (SpI (splitO O f t tw) (splitL sp f t tw) M64) := Lib.hid (splitL_law tw HFT2.out HS.out)
                have HL7 : Hid ((splitL sp f t tw).length ≤ 2048) := Lib.hid (Nat.le_of_not_lt (fun h => hz.2.2 (Or.inl h)))
                have HO7 : Hid (∀ u, 1 ≤ splitO O f t tw u ∧ splitO O f t tw u < 4294967296) := Lib.hid (fun u => by
                  unfold splitO
                  have h1 := HFT.out.2.2
                  have h2 : tw ≠ 0 := fun h => hz.1 (Or.inr h)
                  split
                  · exact ⟨Nat.pos_of_ne_zero h2, h1⟩
                  · exact HO.out u)
                clear hb6 hc6 hD6 hm64 hz hb9 hBw hMn
                go_wp2_with fail
                go_roundw
                case rel => exact ⟨k + 1, n, r6, e + 1, splitL sp f t tw, splitO O f t tw, by omega, by go_num, rfl, rfl, HM7, HD7, HS7, HL7, HO7, Lib.hid (by have := HE.out; omega), HB7⟩
                case measure => simp [intOf]; omega
    · have hkl : ¬ (k : Int) < (L : Int) := by omega
      have heM : e < M64 := by have := HE.out; show e < 18446744073709551616; omega
      have HBY := Lib.hid (fun (m' : Nat) (w' : World) (h : MapAt w' m' e sp) => map_Bytes m' e sp w' h (by have := HL.out; omega) heM HS.out.lt (HS.out.b32 (fun u => (HO.out u).2)))
      have hrk := read_ok HS.out HO.out heM (by have := HE.out; omega) HL.out
      have hrs : (sb (encM e sp)).size ≤ 1000000 := by
        rw [(read_back e sp heM (by have := HL.out; omega) HS.out.lt (HS.out.b32 (fun u => (HO.out u).2))).2.2.1]; have := HL.out; omega
      have HRD := Lib.hid (fun w' => map_Read (sb (encM e sp)) hrs w')
      have HRK := Lib.hid hrk
      clear heM hrk hrs
      go_wp2_with fail
      refine (HBY.out m wr HM.out).mono ?_
      rintro en w2 ⟨rfl, hb2⟩
      go_wp2_with fail
      refine (HRD.out w2).mono ?_
      rintro en w3 ⟨hb3, ⟨hno, rfl⟩ | ⟨_, m2, rfl, hM2⟩⟩
      · exact absurd HRK.out.1 hno
      · rw [HRK.out.2.1, HRK.out.2.2] at hM2
        have hb23 := hb2.trans (hb3.mono hb2.size)
        go_wp2_with fail
        refine (HBY.out m2 w3 hM2).mono ?_
        rintro en w4 ⟨rfl, hb4⟩
        go_wp2_with fail
        refine (map_Epoch m2 e sp w4 (hM2.below hb4)).mono ?_
        rintro en w5 ⟨rfl, hb5⟩
        go_wp2_with fail
        have hb25 := hb23.trans ((hb4.trans (hb5.mono hb4.size)).mono hb23.size)
        refine (map_Epoch m e sp w5 (HM.out.below hb25)).mono ?_
        rintro en w6 ⟨rfl, hb6⟩
        have hb26 := hb25.trans (hb6.mono hb25.size)
        have HM6 := Lib.hid (HM.out.below hb26)
        have HB6 := Lib.hid (HB.out.trans (hb26.mono HB.out.size))
        clear hb2 hb3 hb4 hb5 hb6 hb23 hb25 hb26 hM2
        have HSH := Lib.hid (map_Shards m e sp w6 HM6.out (by have := HL.out; omega) O HS.out)
        go_wp2_with fail
        refine HSH.out.mono ?_
        rintro en w7 ⟨g7, cp7, S, rfl, hg6, hg7, hSc, hSr, hSm, hSl, hb7⟩
        have HALL := Lib.hid (szTo_all HS.out hSr hSm)
        obtain ⟨n7, hn7⟩ : ∃ n7, S.length = n7 := ⟨_, rfl⟩
        rw [hn7] at hSc hSl
        rw [hn7]
        have HN7 := Lib.hid hn7
        have HM7 := Lib.hid (HM6.out.below hb7); have HB7 := Lib.hid (HB6.out.trans (hb7.mono HB6.out.size))
        have HG7 := Lib.hid hg7; have HSC := Lib.hid hSc; have HSM := Lib.hid hSm; have HSL := Lib.hid hSl
        have hl5 : sp.length ≤ 100000 := by have := HL.out; omega
        have HO0 : Hid (∀ (w' : World), Below w7.heap.size w7 w' → ∀ (u s : Nat), u < M64 → O u = s → Calls Tryz.prog 18 #[.pointer (some ⟨m, 0, none⟩), .int .u64 (u : Int)] w' fun en w2 => en = .returned (.int .u32 (s : Nat)) ∧ Below w'.heap.size w' w2) := Lib.hid (fun w' h u s hu hs => by
          subst hs
          exact map_Owner m e u sp w' (HM7.out.below h) hl5 O HS.out hu)
        clear hl5
        obtain ⟨xs, hxs⟩ : ∃ xs, upto (nthRg sp) sp.length = xs := ⟨_, rfl⟩
        rw [hxs] at HALL
        have HXS := Lib.hid hxs
        clear hg6 hg7 hSc hSr hSm hSl hb7 hn7 hxs HSH
        go_wp2_with fail
        go_loopw [27, 28, 30] (fun vz vl vi wr3 => ∃ j : Nat, j ≤ n7 ∧ vz = .int .u64 ((szTo xs S j % M64 : Nat) : Int) ∧ vl = .int .i64 ((lnTo xs S j : Nat) : Int) ∧ vi = .int .i64 j ∧ Hid (Below w7.heap.size w7 wr3)) (fun _ _ i _ => n7 - (intOf i).toNat)
        case atStart => exact ⟨0, Nat.zero_le _, rfl, rfl, rfl, Lib.hid (Below.refl _ _)⟩
        case round =>
          obtain ⟨j, hj7, rfl, rfl, rfl, HBr⟩ := hrel
          by_cases hlt7 : j < n7
          · have hjn : j < S.length := by rw [HN7.out]; exact hlt7
            obtain ⟨s, hs⟩ : ∃ s, S.getD j 0 = s := ⟨_, rfl⟩
            have hcj : wr.cell? ⟨g7, j, none⟩ = some (.int .u32 (s : Int)) := by rw [← hs]; exact (HBr.out.cell (p := ⟨g7, j, none⟩) HG7.out).trans (HSC.out j hlt7)
            have hrg := map_Ranges m e s sp wr (HM7.out.below HBr.out) (by have := HL.out; omega) O HS.out
            have hget : ∀ k, k < (rgOf s xs).length → ∃ a b, (rgOf s xs).getD k (0, 0, 0) = (a, b, s) ∧ a ≤ b ∧ b < M64 ∧ O a = s ∧ O b = s := by
              rw [← HXS.out]; exact rgOf_get HS.out s
            unfold RangesG at hrg
            rw [HXS.out] at hrg
            have hst := szTo_succ xs S j hjn
            have hln := lnTo_succ xs S j hjn
            have hle := lnTo_le xs S (j + 1)
            rw [HALL.out.2] at hle
            rw [hs] at hst hln
            obtain ⟨R, hR⟩ : ∃ R, rgOf s xs = R := ⟨_, rfl⟩
            rw [hR] at hrg hget hst hln
            obtain ⟨nR, hnR⟩ : ∃ nR, R.length = nR := ⟨_, rfl⟩
            rw [hnR] at hrg hget hln
            obtain ⟨z, hz⟩ : ∃ z, szTo xs S j = z := ⟨_, rfl⟩
            obtain ⟨y, hy⟩ : ∃ y, lnTo xs S j = y := ⟨_, rfl⟩
            rw [hz] at hst
            rw [hy] at hln
            rw [hz, hy]
            obtain ⟨q0, hq0⟩ : ∃ q0, z % M64 = q0 := ⟨_, rfl⟩
            rw [hq0]
            obtain ⟨y1, hy1⟩ : ∃ y1, y + nR = y1 := ⟨_, rfl⟩
            have hyI : (y : Int) + (nR : Int) = (y1 : Int) := by omega
            have hyb : (y1 : Int) ≤ 4096 := by have := HL.out; omega
            have hjji : (j : Int) < (n7 : Int) := by omega
            have hn7b : (n7 : Int) ≤ 4096 := by have := HSL.out; have := HL.out; omega
            have hnRb : (nR : Int) ≤ 4096 := by omega
            have HC7 := Lib.hid (fun (w' : World) (h : Below w7.heap.size w7 w') => show w'.cell? ⟨g7, j, none⟩ = some (.int .u32 (s : Int)) by rw [← hs]; exact (h.cell (p := ⟨g7, j, none⟩) HG7.out).trans (HSC.out j hlt7))
            have HGET := Lib.hid hget; have HST := Lib.hid hst; have HLN := Lib.hid (hln.trans hy1); have HNR := Lib.hid hnR; have HQ0 := Lib.hid hq0
            have HRG := Lib.hid hrg
            clear hjn hs hget hrg hst hln hle hR hnR hz hy hq0 hy1
            go_wp2_with fail
            refine HRG.out.mono ?_
            rintro en w8 ⟨a8, cp8, rfl, hrow8, hb8⟩
            have HROW := Lib.hid hrow8
            have HB8 := Lib.hid (HBr.out.trans (hb8.mono HBr.out.size))
            clear hrow8 hb8 HRG hcj HBr
            go_wp2_with fail
            go_loopw [27, 32] (fun vz vk wr4 => ∃ (k q : Nat), k ≤ nR ∧ vz = .int .u64 (q : Int) ∧ vk = .int .i64 k ∧ Hid (q = (z + szSum (R.take k)) % M64) ∧ Hid (Below w8.heap.size w8 wr4)) (fun _ vk _ => nR - (intOf vk).toNat)
            case atStart => exact ⟨0, q0, Nat.zero_le _, rfl, rfl, Lib.hid (by rw [← HQ0.out]; rfl), Lib.hid (Below.refl _ _)⟩
            case round =>
              obtain ⟨k, q, hk, rfl, rfl, HQ, HBq⟩ := hrel
              have HB7q := Lib.hid (HB8.out.trans (HBq.out.mono HB8.out.size))
              by_cases hlt8 : k < nR
              · obtain ⟨a, b, he, hab, hb64, hOa, hOb⟩ := HGET.out k hlt8
                obtain ⟨g8, rfl⟩ : ∃ g8, a8 = some ⟨g8, 0, none⟩ := by
                  rcases HROW.out.2 with ⟨_, h0⟩ | ⟨g, cap, cur, hv, _⟩
                  · omega
                  · simp only [Value.slice.injEq] at hv; exact ⟨g, hv.1⟩
                have hc0 := World.ownsRow.cellAt HROW.out (k * 2) (by omega)
                have hc1 := World.ownsRow.cellAt HROW.out (k * 2 + 1) (by omega)
                obtain ⟨e0, e1⟩ := rgV_at R k (by rw [HNR.out]; exact hlt8)
                rw [e0, he] at hc0
                rw [e1, he] at hc1
                have hgl8 : g8 < w8.heap.size := block_lt_of_cell hc0
                have x0 : wr.cell? ⟨g8, k * 2, none⟩ = some (.int .u64 (a : Int)) := (HBq.out.cell (p := ⟨g8, k * 2, none⟩) hgl8).trans hc0
                have x1 : wr.cell? ⟨g8, k * 2 + 1, none⟩ = some (.int .u64 (b : Int)) := (HBq.out.cell (p := ⟨g8, k * 2 + 1, none⟩) hgl8).trans hc1
                have hgl7 : g7 < wr.heap.size := by have := HG7.out; have := HB7q.out.size; omega
                have x2 : wr.cell? ⟨g7, j, none⟩ = some (.int .u32 (s : Int)) := HC7.out wr HB7q.out
                have hgl9 : g8 < wr.heap.size := by have := HBq.out.size; omega
                obtain ⟨d, hd⟩ : ∃ d, b - a = d := ⟨_, rfl⟩
                obtain ⟨d1, hd1⟩ : ∃ d1, (d + 1) % M64 = d1 := ⟨_, rfl⟩
                obtain ⟨q1, hq1⟩ : ∃ q1, (q + d1) % M64 = q1 := ⟨_, rfl⟩
                have hb64' : b < 18446744073709551616 := hb64
                have ha64 : a < M64 := by show a < 18446744073709551616; omega
                have hd1' : (d + 1) % 18446744073709551616 = d1 := hd1
                have hq1' : (q + d1) % 18446744073709551616 = q1 := hq1
                have HW1 : Hid (IntKind.u64.wrap ((b : Int) - (a : Int)) = (d : Int)) := Lib.hid (by rw [IntKind.wrap_u64]; omega)
                have HW2 : Hid (IntKind.u64.wrap ((d : Int) + 1) = (d1 : Int)) := Lib.hid (by rw [IntKind.wrap_u64]; omega)
                have HW3 : Hid (IntKind.u64.wrap ((q : Int) + (d1 : Int)) = (q1 : Int)) := Lib.hid (by rw [IntKind.wrap_u64]; omega)
                have HQ1 : Hid (q1 = (z + szSum (R.take (k + 1))) % M64) := Lib.hid (by
                  have h1 := szSum_take R k (by rw [HNR.out]; exact hlt8)
                  have h2 := HQ.out
                  rw [he] at h1
                  rw [h1]
                  show q1 = (z + (szSum (R.take k) + (b - a + 1))) % 18446744073709551616
                  have h2' : q = (z + szSum (R.take k)) % 18446744073709551616 := h2
                  omega)
                clear hd hd1 hq1 hd1' hq1' hb64'
                have HO1 := Lib.hid (fun (w' : World) (h : Below wr.heap.size wr w') => HO0.out w' (HB7q.out.trans (h.mono HB7q.out.size)) a s ha64 hOa)
                have HO2 := Lib.hid (fun (w' : World) (h : Below wr.heap.size wr w') => HO0.out w' (HB7q.out.trans (h.mono HB7q.out.size)) b s hb64 hOb)
                have hgn : ¬ ((b : Int) < (a : Int)) := Int.not_lt.2 (Int.ofNat_le.2 hab)
                have hgt : decide ((b : Int) < (a : Int)) = false := decide_eq_false hgn
                have hgt2 : ((b : Int) < (a : Int)) = False := eq_false hgn
                have hki8 : (k : Int) < (nR : Int) := Int.ofNat_lt.2 hlt8
                clear hgn
                have KEEP := Lib.hid (fun w' (h : Below wr.heap.size wr w') => show w'.cell? ⟨g8, k * 2, none⟩ = some (.int .u64 (a : Int)) ∧ w'.cell? ⟨g8, k * 2 + 1, none⟩ = some (.int .u64 (b : Int)) ∧ w'.cell? ⟨g7, j, none⟩ = some (.int .u32 (s : Int)) ∧ Hid (Below wr.heap.size wr w') from ⟨(h.cell (p := ⟨g8, k * 2, none⟩) hgl9).trans x0, (h.cell (p := ⟨g8, k * 2 + 1, none⟩) hgl9).trans x1, (h.cell (p := ⟨g7, j, none⟩) hgl7).trans x2, Lib.hid h⟩)
                have KEEPB := Lib.hid (fun (w' : World) (h : w'.cell? ⟨g8, k * 2, none⟩ = some (.int .u64 (a : Int)) ∧ w'.cell? ⟨g8, k * 2 + 1, none⟩ = some (.int .u64 (b : Int)) ∧ w'.cell? ⟨g7, j, none⟩ = some (.int .u32 (s : Int)) ∧ Hid (Below wr.heap.size wr w')) => h.2.2.2.out)
                clear he hOa hOb hc0 hc1 e0 e1 hb64 ha64
                go_wp2_with fail
                have hw1 := HW1.out; have hw2 := HW2.out; have hw3 := HW3.out
                go_big_quiet (fail)
                clear hw1 hw2 hw3
                go_wp2_with fail
                refine wp_region_quiet (C := fun w' => w'.cell? ⟨g8, k * 2, none⟩ = some (.int .u64 (a : Int)) ∧ w'.cell? ⟨g8, k * 2 + 1, none⟩ = some (.int .u64 (b : Int)) ∧ w'.cell? ⟨g7, j, none⟩ = some (.int .u32 (s : Int)) ∧ Hid (Below wr.heap.size wr w')) (by kernel_rfl) (by kernel_rfl) (KEEP.out _ (Below.drew (below_dr (Below.refl _ _) _))) ?_
                clear x0 x1 x2
                refine quiet_plain rfl (Value.slice (some ⟨g8, 0, none⟩) nR cp8) (fun w' hw' => ?_) ?_
                · obtain ⟨f1, f2, f3, f4⟩ := hw'
                  go_simp
                go_frame
                refine quiet_plain rfl (Value.int .i64 k) (fun w' hw' => ?_) ?_
                · obtain ⟨f1, f2, f3, f4⟩ := hw'
                  go_simp
                go_frame
                refine quiet_plain rfl (Value.pointer (some ⟨g8, k * 2, none⟩)) (fun w' hw' => ?_) ?_
                · obtain ⟨f1, f2, f3, f4⟩ := hw'
                  go_simp
                go_frame
                refine quiet_plain rfl (Value.pointer (some ⟨g8, k * 2, none⟩)) (fun w' hw' => ?_) ?_
                · obtain ⟨f1, f2, f3, f4⟩ := hw'
                  go_simp
                go_frame
                refine quiet_plain rfl (Value.int .u64 (a : Int)) (fun w' hw' => ?_) ?_
                · obtain ⟨f1, f2, f3, f4⟩ := hw'
                  go_simp
                go_frame
                refine quiet_plain rfl (Value.slice (some ⟨g8, 0, none⟩) nR cp8) (fun w' hw' => ?_) ?_
                · obtain ⟨f1, f2, f3, f4⟩ := hw'
                  go_simp
                go_frame
                refine quiet_plain rfl (Value.int .i64 k) (fun w' hw' => ?_) ?_
                · obtain ⟨f1, f2, f3, f4⟩ := hw'
                  go_simp
                go_frame
                refine quiet_plain rfl (Value.pointer (some ⟨g8, k * 2, none⟩)) (fun w' hw' => ?_) ?_
                · obtain ⟨f1, f2, f3, f4⟩ := hw'
                  go_simp
                go_frame
                refine quiet_plain rfl (Value.pointer (some ⟨g8, k * 2 + 1, none⟩)) (fun w' hw' => ?_) ?_
                · obtain ⟨f1, f2, f3, f4⟩ := hw'
                  go_simp
                go_frame
                refine quiet_plain rfl (Value.int .u64 (b : Int)) (fun w' hw' => ?_) ?_
                · obtain ⟨f1, f2, f3, f4⟩ := hw'
                  go_simp
                go_frame
                refine quiet_plain rfl (Value.bool false) (fun w' hw' => ?_) ?_
                · obtain ⟨f1, f2, f3, f4⟩ := hw'
                  go_simp
                go_frame
                refine quiet_plain rfl (Value.bool false) (fun w' hw' => ?_) ?_
                · obtain ⟨f1, f2, f3, f4⟩ := hw'
                  go_simp
                go_frame
                refine quiet_plain rfl (Value.pointer (some ⟨m, 0, none⟩)) (fun w' hw' => ?_) ?_
                · obtain ⟨f1, f2, f3, f4⟩ := hw'
                  go_simp
                go_frame
                refine quiet_plain rfl (Value.slice (some ⟨g8, 0, none⟩) nR cp8) (fun w' hw' => ?_) ?_
                · obtain ⟨f1, f2, f3, f4⟩ := hw'
                  go_simp
                go_frame
                refine quiet_plain rfl (Value.int .i64 k) (fun w' hw' => ?_) ?_
                · obtain ⟨f1, f2, f3, f4⟩ := hw'
                  go_simp
                go_frame
                refine quiet_plain rfl (Value.pointer (some ⟨g8, k * 2, none⟩)) (fun w' hw' => ?_) ?_
                · obtain ⟨f1, f2, f3, f4⟩ := hw'
                  go_simp
                go_frame
                refine quiet_plain rfl (Value.pointer (some ⟨g8, k * 2, none⟩)) (fun w' hw' => ?_) ?_
                · obtain ⟨f1, f2, f3, f4⟩ := hw'
                  go_simp
                go_frame
                refine quiet_plain rfl (Value.int .u64 (a : Int)) (fun w' hw' => ?_) ?_
                · obtain ⟨f1, f2, f3, f4⟩ := hw'
                  go_simp
                go_frame
                refine quiet_call rfl (Value.int .u32 (s : Int)) 18 #[.pointer (some ⟨m, 0, none⟩), .int .u64 (a : Int)] (fun w' hw' => ⟨?_, ?_⟩) ?_
                · obtain ⟨f1, f2, f3, f4⟩ := hw'
                  go_simp
                · exact (HO1.out w' (KEEPB.out _ hw')).mono (fun e w6 ⟨he, hb⟩ => ⟨he, KEEP.out _ ((KEEPB.out _ hw').trans (hb.mono (KEEPB.out _ hw').size))⟩)
                go_frame
                refine quiet_plain rfl (Value.slice (some ⟨g7, 0, none⟩) n7 cp7) (fun w' hw' => ?_) ?_
                · obtain ⟨f1, f2, f3, f4⟩ := hw'
                  go_simp
                go_frame
                refine quiet_plain rfl (Value.int .i64 j) (fun w' hw' => ?_) ?_
                · obtain ⟨f1, f2, f3, f4⟩ := hw'
                  go_simp
                go_frame
                refine quiet_plain rfl (Value.pointer (some ⟨g7, j, none⟩)) (fun w' hw' => ?_) ?_
                · obtain ⟨f1, f2, f3, f4⟩ := hw'
                  go_simp
                go_frame
                refine quiet_plain rfl (Value.int .u32 (s : Int)) (fun w' hw' => ?_) ?_
                · obtain ⟨f1, f2, f3, f4⟩ := hw'
                  go_simp
                go_frame
                refine quiet_plain rfl (Value.bool false) (fun w' hw' => ?_) ?_
                · obtain ⟨f1, f2, f3, f4⟩ := hw'
                  go_simp
                go_frame
                refine quiet_plain rfl (Value.bool false) (fun w' hw' => ?_) ?_
                · obtain ⟨f1, f2, f3, f4⟩ := hw'
                  go_simp
                go_frame
                refine quiet_plain rfl (Value.bool false) (fun w' hw' => ?_) ?_
                · obtain ⟨f1, f2, f3, f4⟩ := hw'
                  go_simp
                go_frame
                refine quiet_plain rfl (Value.pointer (some ⟨m, 0, none⟩)) (fun w' hw' => ?_) ?_
                · obtain ⟨f1, f2, f3, f4⟩ := hw'
                  go_simp
                go_frame
                refine quiet_plain rfl (Value.slice (some ⟨g8, 0, none⟩) nR cp8) (fun w' hw' => ?_) ?_
                · obtain ⟨f1, f2, f3, f4⟩ := hw'
                  go_simp
                go_frame
                refine quiet_plain rfl (Value.int .i64 k) (fun w' hw' => ?_) ?_
                · obtain ⟨f1, f2, f3, f4⟩ := hw'
                  go_simp
                go_frame
                refine quiet_plain rfl (Value.pointer (some ⟨g8, k * 2, none⟩)) (fun w' hw' => ?_) ?_
                · obtain ⟨f1, f2, f3, f4⟩ := hw'
                  go_simp
                go_frame
                refine quiet_plain rfl (Value.pointer (some ⟨g8, k * 2 + 1, none⟩)) (fun w' hw' => ?_) ?_
                · obtain ⟨f1, f2, f3, f4⟩ := hw'
                  go_simp
                go_frame
                refine quiet_plain rfl (Value.int .u64 (b : Int)) (fun w' hw' => ?_) ?_
                · obtain ⟨f1, f2, f3, f4⟩ := hw'
                  go_simp
                go_frame
                refine quiet_call rfl (Value.int .u32 (s : Int)) 18 #[.pointer (some ⟨m, 0, none⟩), .int .u64 (b : Int)] (fun w' hw' => ⟨?_, ?_⟩) ?_
                · obtain ⟨f1, f2, f3, f4⟩ := hw'
                  go_simp
                · exact (HO2.out w' (KEEPB.out _ hw')).mono (fun e w6 ⟨he, hb⟩ => ⟨he, KEEP.out _ ((KEEPB.out _ hw').trans (hb.mono (KEEPB.out _ hw').size))⟩)
                go_frame
                refine quiet_plain rfl (Value.slice (some ⟨g7, 0, none⟩) n7 cp7) (fun w' hw' => ?_) ?_
                · obtain ⟨f1, f2, f3, f4⟩ := hw'
                  go_simp
                go_frame
                refine quiet_plain rfl (Value.int .i64 j) (fun w' hw' => ?_) ?_
                · obtain ⟨f1, f2, f3, f4⟩ := hw'
                  go_simp
                go_frame
                refine quiet_plain rfl (Value.pointer (some ⟨g7, j, none⟩)) (fun w' hw' => ?_) ?_
                · obtain ⟨f1, f2, f3, f4⟩ := hw'
                  go_simp
                go_frame
                refine quiet_plain rfl (Value.int .u32 (s : Int)) (fun w' hw' => ?_) ?_
                · obtain ⟨f1, f2, f3, f4⟩ := hw'
                  go_simp
                go_frame
                refine quiet_plain rfl (Value.bool false) (fun w' hw' => ?_) ?_
                · obtain ⟨f1, f2, f3, f4⟩ := hw'
                  go_simp
                go_frame
                refine quiet_plain rfl (Value.bool false) (fun w' hw' => ?_) ?_
                · obtain ⟨f1, f2, f3, f4⟩ := hw'
                  go_simp
                go_frame
                refine wpQuiet_nil ?_
                intro wq hwq
                have HBz := Lib.hid (HBq.out.trans (hwq.2.2.2.out.mono HBq.out.size))
                clear hwq
                go_wp2_with fail
                go_roundw
                case rel => exact ⟨k + 1, q1, by omega, rfl, by go_num, HQ1, HBz⟩
                case measure => simp [intOf]; omega
              · have hki8 : ¬ (k : Int) < (nR : Int) := by omega
                have hk8 : k = nR := by omega
                have HFIN : Hid (q = szTo xs S (j + 1) % M64) := Lib.hid (by
                  rw [HQ.out, HST.out, hk8, ← HNR.out, List.take_length])
                have HFL : Hid (y1 = lnTo xs S (j + 1)) := Lib.hid HLN.out.symm
                clear hk8
                go_wp2_with fail
                go_roundw
                case rel => exact ⟨j + 1, by omega, by rw [← HFIN.out], by rw [← HFL.out], by go_num, HB7q⟩
                case measure => simp [intOf]; omega
          · have hji : ¬ (j : Int) < (n7 : Int) := by omega
            have hj8 : j = n7 := by omega
            have hz0 : szTo xs S j % M64 = 0 := by rw [hj8, ← HN7.out, HALL.out.1]; exact Nat.mod_self _
            have hl0 : lnTo xs S j = sp.length := by rw [hj8, ← HN7.out]; exact HALL.out.2
            rw [hz0, hl0]
            go_wp2_with fail
            refine (map_Split_nil 0 0 1 wr).mono ?_
            rintro en w8 ⟨rfl, hb8⟩
            go_wp2_with fail
            refine (map_New_nil w8).mono ?_
            rintro en w9 ⟨rfl, hb9⟩
            have hb79 : Below w7.heap.size w7 w9 := (HBr.out.trans (hb8.mono HBr.out.size)).trans (hb9.mono (HBr.out.trans (hb8.mono HBr.out.size)).size)
            have HSPN := Lib.hid (map_Spans m e sp w9 (HM7.out.below hb79) (by have := HL.out; omega))
            have HBX := Lib.hid (HB7.out.trans (hb79.mono HB7.out.size))
            obtain ⟨ns, hns⟩ : ∃ ns, sp.length = ns := ⟨_, rfl⟩
            rw [hns] at HSPN
            rw [hns]
            clear hb8 hb9 hb79 hns hz0 hl0 hj8
            go_wp2_with fail
            refine HSPN.out.mono ?_
            rintro en wA ⟨v, rfl, hown, hbA⟩
            obtain ⟨aA, cA, rfl⟩ : ∃ aA cA, v = .slice aA ns cA := by
              rcases hown.2 with ⟨hv, h0⟩ | ⟨g, cap, cur, hv, _⟩
              · exact ⟨none, 0, by rw [hv, h0]⟩
              · exact ⟨_, _, hv⟩
            have HBA := Lib.hid (HBX.out.trans (hbA.mono HBX.out.size))
            clear hown hbA HSPN
            go_wp2_with fail
            refine (map_Epoch_nil wA).mono ?_
            rintro en wB ⟨rfl, hbB⟩
            have HBB := Lib.hid (HBA.out.trans (hbB.mono HBA.out.size))
            clear hbB
            go_wp2_with fail
            refine (map_Owner_nil 1 wB).mono ?_
            rintro en wC ⟨rfl, hbC⟩
            have HBC := Lib.hid (HBB.out.trans (hbC.mono HBB.out.size))
            clear hbC
            go_wp2_with fail
            refine (map_Of_nil _ (by decide) wC).mono ?_
            rintro en wD ⟨rfl, hbD⟩
            have HBD := Lib.hid (HBC.out.trans (hbD.mono HBC.out.size))
            clear hbD
            go_wp2_with fail
            refine (map_Spans_nil wD).mono ?_
            rintro en wE ⟨rfl, hbE⟩
            have HBE := Lib.hid (HBD.out.trans (hbE.mono HBD.out.size))
            clear hbE
            go_wp2_with fail
            refine (map_Shards_nil wE).mono ?_
            rintro en wF ⟨rfl, hbF⟩
            have HBF := Lib.hid (HBE.out.trans (hbF.mono HBE.out.size))
            clear hbF
            go_wp2_with fail
            refine (map_Ranges_nil 1 wF).mono ?_
            rintro en wG ⟨rfl, hbG⟩
            have HBG := Lib.hid (HBF.out.trans (hbG.mono HBF.out.size))
            clear hbG
            go_wp2_with fail
            refine (map_Bytes_nil wG).mono ?_
            rintro en wH ⟨rfl, hbH⟩
            have HBH := Lib.hid (HBG.out.trans (hbH.mono HBG.out.size))
            clear hbH
            go_wp2_with fail
            refine (HWK.out wH).mono ?_
            rintro en wK ⟨rfl, hbK⟩
            have HBK := Lib.hid (HBH.out.trans (hbK.mono HBH.out.size))
            clear hbK
            go_wp2_with fail
            go_ret
            exact ⟨rfl, HBK.out⟩
end Go.Proofs.YthcmcjoenepkbaaGreat
