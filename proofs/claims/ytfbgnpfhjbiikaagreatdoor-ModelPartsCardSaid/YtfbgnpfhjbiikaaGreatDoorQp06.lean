/- slices.SortStableFunc over places by model.Order's comparison: below forty: it's the order. Contract: model.Order, of twenty stories with a number at most. Contracts: model.alone, model.late. Contract: model.late. Contracts: slices.Equal over what reads have, over numbers, over texts; model.same. Contract: scriniumlaw18.Heavy: where it answers false, there is not much. Contract: scriniumref18.Same, where both are one. Edits that came in, opened. Apply, told in one; what stays of lists while a table turns. append onto a list of numbers: that its block bears numbers alone. Rows that came in, opened. Contract: Table.Load: what is there behind it, whatever it answers. -/
import Derived.Test.YtfbgnpfhjbiikaaGreatDoorQp00
import Derived.Test.YtfbgnpfhjbiikaaGreatDoorQp04
import Derived.Test.YtfbgnpfhjbiikaaGreatDoorQp05
import Derived.Lib.SmallJoins
import Derived.Deep.AppendLies
import Derived.Deep.RegionWith
namespace Go.Proofs.YtfbgnpfhjbiikaaGreatDoor
open Go Go.RowKit
theorem ins_runs {K : Nat → Int} {d : Array Nat} (hup : ∀ p q, p < q → q < d.size → d[p]! < d[q]!) (h20 : 20 < d.size) :
    (Sort.insertionSort (ltC K) (Sort.insertionSort (ltC K) d 0 20) 20 d.size).size = d.size ∧ Sort.PermIn 0 d.size d (Sort.insertionSort (ltC K) (Sort.insertionSort (ltC K) d 0 20) 20 d.size) ∧ Runs K 0 20 d.size (Sort.insertionSort (ltC K) (Sort.insertionSort (ltC K) d 0 20) 20 d.size) := by
  rw [insertion_eq K d 0 20 (by omega) (fun p q _ h2 h3 => hup p q h2 (by omega))]
  obtain ⟨p1, s1⟩ := Sort.insertionSort_holds (swoS K) d 0 20 (Nat.zero_le _) (by omega)
  obtain ⟨d1, hd1⟩ : ∃ d1, Sort.insertionSort (ltS K) d 0 20 = d1 := ⟨_, rfl⟩
  rw [hd1] at p1 s1 ⊢
  have e1 : ∀ k, 20 ≤ k → d1[k]! = d[k]! := fun k hk => p1.2.1 k (Or.inr hk)
  rw [insertion_eq K d1 20 d.size (by rw [p1.1]; exact Nat.le_refl _) (fun p q h1 h2 h3 => by rw [e1 p h1, e1 q (by omega)]; exact hup p q h2 h3)]
  obtain ⟨p2, s2⟩ := Sort.insertionSort_holds (swoS K) d1 20 d.size (by omega) (by rw [p1.1]; exact Nat.le_refl _)
  obtain ⟨d2, hd2⟩ : ∃ d2, Sort.insertionSort (ltS K) d1 20 d.size = d2 := ⟨_, rfl⟩
  rw [hd2] at p2 s2 ⊢
  have e2 : ∀ k, k < 20 → d2[k]! = d1[k]! := fun k hk => p2.2.1 k (Or.inl hk)
  refine ⟨by rw [p2.1, p1.1], Sort.permIn_trans _ _ _ _ _ (Sort.permIn_mono _ _ _ _ _ _ (Nat.zero_le _) (by omega) (Nat.le_refl _) p1) (Sort.permIn_mono _ _ _ _ _ _ (Nat.zero_le _) (Nat.le_refl _) (by rw [p1.1]; exact Nat.le_refl _) p2), fun i j hi hij hj => ?_, s2, fun q p hq hq2 hp hp2 => ?_⟩
  · rw [e2 j hj, e2 i (by omega)]; exact s1 i j hi hij hj
  · rw [e2 p hp2]
    have a1 : ∀ t, t < 20 → d1[t]! < 20 + d[20]! ∧ ∀ u, 20 ≤ u → u < d.size → d1[t]! < d[u]! := fun t ht =>
      ⟨Sort.permIn_all d d1 0 20 (fun y => y < 20 + d[20]!) (by omega) p1 (fun k _ hk => by have := hup k 20 hk h20; omega) t (Nat.zero_le _) ht,
       fun u hu1 hu2 => Sort.permIn_all d d1 0 20 (fun y => y < d[u]!) (by omega) p1 (fun k _ hk => hup k u (by omega) hu2) t (Nat.zero_le _) ht⟩
    exact Sort.permIn_all d1 d2 20 d.size (fun y => d1[p]! < y) (by rw [p1.1]; exact Nat.le_refl _) p2 (fun k hk1 hk2 => by rw [e1 k hk1]; exact (a1 p hp2).2 k hk1 hk2) q hq hq2

set_option maxRecDepth 100000 in
set_option maxHeartbeats 4000000 in
theorem stable_ord {bx sb so n cap blk c : Nat} {C : Nat → Int} (d : Array Nat) (w : World) (h : ComAt w bx sb so n cap C) (hn : 0 < n) (h1 : bx ≠ blk) (h2 : sb ≠ blk) (hH : Sort.Holds (encP n) w blk 0 d) (hblk : blk < w.heap.size) (hd : d.size < 40) (hdl : d.toList = (List.range n).filter (fun i => decide (0 < C (i % n)))) :
    Calls Tryz.prog 69 #[.slice (some ⟨blk, 0, none⟩) d.size c, .func (.func 70) #[] #[.pointer (some ⟨bx, 0, none⟩)]] w
      fun e w' => e = .returned (.tuple #[]) ∧ ∃ d' : Array Nat, SW (encP n) w blk 0 d' w' ∧ d'.size = d.size ∧ d'.toList = ordL (fun i => C (i % n)) n := by
  have hK : ltOf (cfP C n) = ltC (fun i => C (i % n)) := by funext x y; exact lt_cfP _ _ x y
  by_cases hd20 : d.size ≤ 20
  · refine (stable_20 (c := c) d w h hn h1 h2 hH hblk hd20).mono ?_
    rintro e w' ⟨rfl, hS⟩
    refine ⟨rfl, _, hS, ins_size _ _ _ _ (Nat.le_refl _), ?_⟩
    rw [hK]
    exact ins_ord hdl
  have hup : ∀ p q, p < q → q < d.size → d[p]! < d[q]! := by
    intro p q hpq hq
    have hpw : d.toList.Pairwise (· < ·) := by rw [hdl]; exact List.pairwise_lt_range.filter _
    have := List.pairwise_iff_getElem.1 hpw p q (by simpa using (by omega : p < d.size)) (by simpa using hq) hpq
    rw [getElem!_pos d p (by omega), getElem!_pos d q hq]
    simpa using this
  obtain ⟨q1, q2, q3⟩ := ins_runs (K := fun i => C (i % n)) hup (by omega)
  have hL := lays_cmp (off := 0) (sz := d.size) h hn h1 h2
  have R : Row1 (encP n) w blk 0 d := ⟨encP_one n, hH, hblk⟩
  have HI : Hid (∀ (dk : Array Nat) (a b : Nat) (W : World), dk.size = d.size → SW (encP n) w blk 0 dk W → a ≤ b → b ≤ d.size →
      Calls Tryz.prog 120 #[.slice (some ⟨blk, 0, none⟩) d.size c, .int .i64 a, .int .i64 b, .func (.func 70) #[] #[.pointer (some ⟨bx, 0, none⟩)]] W fun e w' => e = .returned (.tuple #[]) ∧ SW (encP n) w blk 0 (Sort.insertionSort (ltC (fun i => C (i % n))) dk a b) w') :=
    Lib.hid (fun dk a b W hs S hab hb => by
      have := Tryz.slices_insertionSortCmp (encP n) (cfP C n) 70 #[.pointer (some ⟨bx, 0, none⟩)] blk 0 c a b d dk w W enters_cmp hL R hs.symm S hab (by omega) (by omega)
      rw [hs, hK] at this
      exact this)
  obtain ⟨d1, hd1⟩ : ∃ d1, Sort.insertionSort (ltC (fun i => C (i % n))) d 0 20 = d1 := ⟨_, rfl⟩
  have hs1 : d1.size = d.size := by rw [← hd1]; exact ins_size _ _ _ _ (by omega)
  obtain ⟨d2, hd2⟩ : ∃ d2, Sort.insertionSort (ltC (fun i => C (i % n))) d1 20 d.size = d2 := ⟨_, rfl⟩
  rw [hd1, hd2] at q1 q2 q3
  have HSy : Hid (∀ W, SW (encP n) w blk 0 d2 W → Calls Tryz.prog 121 #[.slice (some ⟨blk, 0, none⟩) d.size c, .int .i64 0, .int .i64 20, .int .i64 d.size, .func (.func 70) #[] #[.pointer (some ⟨bx, 0, none⟩)]] W (SymG (fun i => C (i % n)) (encP n) w blk d2 0 d.size)) :=
    Lib.hid (fun W hS => sym_s (cap := c) (fun x y => by rw [hK]) hL R (by omega) d.size d2 W 0 20 d.size (by omega) q1 hS (by omega) (by omega) (Nat.le_refl _) q3)
  have S0 := Lib.hid (SW.start hH)
  have HD1 := Lib.hid hd1; have HD2 := Lib.hid hd2; have HS1 := Lib.hid hs1; have HQ := Lib.hid q2
  have HFin : Hid (∀ d', Sort.PermIn 0 d.size d2 d' → Sort.SortedIn (ltS (fun i => C (i % n))) 0 d.size d' → d'.size = d.size ∧ d'.toList = ordL (fun i => C (i % n)) n) := Lib.hid (fun d' hp hs => by
    have hp2 := Sort.permIn_trans _ _ _ _ _ q2 hp
    exact ⟨hp2.1, ord_of hdl hp2 hs⟩)
  clear hL R hH h hdl hup q1 q2 q3 hd1 hd2 hs1 hK
  have hst : Calls Tryz.prog 98 #[.slice (some ⟨blk, 0, none⟩) d.size c, .int .i64 d.size, .func (.func 70) #[] #[.pointer (some ⟨bx, 0, none⟩)]] w
      fun e w' => e = .returned (.tuple #[]) ∧ ∃ d' : Array Nat, SW (encP n) w blk 0 d' w' ∧ d'.size = d.size ∧ d'.toList = ordL (fun i => C (i % n)) n := by
    have h20 : (20 : Int) < (d.size : Int) := by omega
    have h20b : (20 : Int) ≤ (d.size : Int) := by omega
    have h40 : ¬ (40 : Int) < (d.size : Int) := by omega
    have h40b : ¬ (40 : Int) ≤ (d.size : Int) := by omega
    go_enter Tryz.func98, Tryz.ntmps98
    go_wp2
    go_loopw [7, 8] (fun a b wr => (a = .int .i64 0 ∧ b = .int .i64 20 ∧ Hid (wr = w)) ∨ (a = .int .i64 20 ∧ b = .int .i64 40 ∧ Hid (SW (encP n) w blk 0 d1 wr))) (fun _ b _ => (40 - intOf b).toNat)
    case atStart => exact Or.inl ⟨rfl, rfl, Lib.hid rfl⟩
    case round =>
      rcases hrel with ⟨rfl, rfl, hw⟩ | ⟨rfl, rfl, hS1⟩
      · obtain rfl := hw.out
        have HI0 := Lib.hid (HI.out d 0 20 wr rfl S0.out (Nat.zero_le _) (by omega))
        go_wp2_with fail
        refine HI0.out.mono ?_
        rintro e w' ⟨rfl, hS⟩
        rw [HD1.out] at hS
        have HS := Lib.hid hS; clear hS
        go_wp2_with fail
        go_roundw
        case rel => exact Or.inr ⟨rfl, rfl, HS⟩
        case measure => simp [intOf]
      · have HI0 := Lib.hid (HI.out d1 20 d.size wr HS1.out hS1.out (by omega) (Nat.le_refl _))
        go_wp2_with fail
        refine HI0.out.mono ?_
        rintro e w' ⟨rfl, hS⟩
        rw [HD2.out] at hS
        have HSm := Lib.hid (HSy.out w' hS)
        clear hS
        go_wp2_with fail
        go_loopw [6, 7, 8, 9] (fun s6 _ _ _ wx => (s6 = .int .i64 20 ∧ Hid (wx = w')) ∨ (s6 = .int .i64 40 ∧ Hid (∃ d' : Array Nat, SW (encP n) w blk 0 d' wx ∧ d'.size = d.size ∧ d'.toList = ordL (fun i => C (i % n)) n))) (fun s6 _ _ _ _ => (40 - intOf s6).toNat)
        case atStart => exact Or.inl ⟨rfl, Lib.hid rfl⟩
        case round =>
          rcases hrel with ⟨rfl, hw⟩ | ⟨rfl, hF⟩
          · have hwx := hw.out
            subst hwx
            go_wp2_with fail
            go_loopw [7, 8] (fun a b wx => a = .int .i64 0 ∧ b = .int .i64 40 ∧ Hid (Calls Tryz.prog 121 #[.slice (some ⟨blk, 0, none⟩) d.size c, .int .i64 0, .int .i64 20, .int .i64 d.size, .func (.func 70) #[] #[.pointer (some ⟨bx, 0, none⟩)]] wx (SymG (fun i => C (i % n)) (encP n) w blk d2 0 d.size))) (fun _ _ _ => 0)
            case atStart => exact ⟨rfl, rfl, HSm⟩
            case round =>
              obtain ⟨rfl, rfl, HSx⟩ := hrel
              go_wp2_with fail
              refine HSx.out.mono ?_
              rintro e wy ⟨rfl, d3, g1, g2, g3⟩
              have HF3 : Hid (∃ d' : Array Nat, SW (encP n) w blk 0 d' wy ∧ d'.size = d.size ∧ d'.toList = ordL (fun i => C (i % n)) n) := Lib.hid ⟨d3, g1, HFin.out d3 g2 g3⟩
              clear g1 g2 g3
              go_wp2_with fail
              go_roundw
              case rel => exact Or.inr ⟨rfl, HF3⟩
              case measure => simp [intOf]
          · go_wp2_with fail
            go_end0
            exact ⟨rfl, hF.out⟩
  have HST := Lib.hid hst
  clear hst HI S0
  go_enter Tryz.func69, Tryz.ntmps69
  go_wp2_with fail
  refine HST.out.mono ?_
  rintro e w' ⟨rfl, hS⟩
  have HS := Lib.hid hS; clear hS
  go_wp2_with fail
  go_end0
  exact ⟨rfl, HS.out⟩
end Go.Proofs.YtfbgnpfhjbiikaaGreatDoor

namespace Go.Proofs.YtfbgnpfhjbiikaaGreatDoor
open Go Go.RowKit
theorem infoIntO : (Tryz.prog.info? 3).map (fun i => (i.zero, i.size, i.bytes)) = some (some (.int .i64 0), 1, 8) := by kernel_rfl
def idxO (l : List Sto) (k : Nat) : List Nat := (List.range k).filter (fun i => decide (0 < comF l i))
theorem idxO_succ (l : List Sto) (k : Nat) : idxO l (k + 1) = if 0 < comF l k then idxO l k ++ [k] else idxO l k := by
  unfold idxO
  rw [List.range_succ, List.filter_append]
  by_cases h : 0 < comF l k <;> simp [h]
theorem idxO_le (l : List Sto) (k : Nat) : (idxO l k).length ≤ k := Nat.le_trans (List.length_filter_le _ _) (by simp)
def OrdG (l : List Sto) (w : World) (e : Ending) (w' : World) : Prop := ∃ v, e = .returned v ∧ IsInts w' v (ordS l) ∧ (∀ k, v.ownBlock = some k → w.heap.size ≤ k) ∧ Below w.heap.size w w'

set_option maxRecDepth 100000 in
set_option maxHeartbeats 4000000 in
theorem model_orderW (l : List Sto) (v : Value) (w : World) (hv : IsStos w v l) (hl : l.length ≤ 1048576) (hk : (idxO l l.length).length < 40) :
    Calls Tryz.prog 34 #[v] w (OrdG l w) := by
  obtain ⟨a, cap, rfl, hcap, hcc⟩ := hv
  have HC := Lib.hid hcc; have HK := Lib.hid hk; clear hcc hk
  obtain ⟨i0, hi, hz0, hz1, hz2⟩ := info_parts infoIntO
  have hzs := zeroSto
  go_enter Tryz.func34, Tryz.ntmps34
  go_upto_region 1 with fail
  refine wp_abs (F := fun W => One w.heap.size #[.slice a l.length cap] W ∧ Below w.heap.size w W ∧ W.heap.size = w.heap.size + 1) ⟨One.of _ _ _, (Below.refl _ _).alloc (Nat.le_refl _) _, by simp⟩ ?_
  rintro W1 ⟨hO, hb1, hs1⟩
  have HO := Lib.hid hO; have Hb1 := Lib.hid hb1
  have c0 := hO.c 0
  simp at c0
  have hlt1 := hO.lt
  have HW1 : Hid (W1.heap.size = w.heap.size + 1) := Lib.hid hs1
  clear hO hb1 hs1
  go_wp2_with fail
  go_loopw [2, 7] (fun s2 s7 wr => ∃ (k : Nat), k ≤ l.length ∧ s7 = .int .i64 k ∧ (∃ a2 c2, s2 = .slice a2 (idxO l k).length c2) ∧ Hid (idxO l k = [] → s2 = .slice none 0 0) ∧ Hid (wr.ownsRow (w.heap.size + 1) 3 1 s2 (idxO l k).length ((idxO l k).map (fun n : Nat => Value.int .i64 n))) ∧ Hid (Below W1.heap.size W1 wr)) (fun _ i _ => l.length - (intOf i).toNat)
  case atStart => exact ⟨0, Nat.zero_le _, rfl, ⟨none, 0, rfl⟩, Lib.hid (fun _ => rfl), Lib.hid (World.ownsRow_nil _ _ _ _), Lib.hid (Below.refl _ _)⟩
  case round =>
    obtain ⟨k, hk, rfl, ⟨a2, c2, rfl⟩, hnil, hrow, hbw⟩ := hrel
    by_cases hlt : k < l.length
    · have hltI : (k : Int) < (l.length : Int) := by omega
      rcases HC.out with hn | ⟨b, off, rfl, hblt, hst⟩
      · rw [hn] at hlt; simp at hlt
      obtain ⟨f, hsi, hat⟩ := hst k hlt
      have hb0 : Below w.heap.size w wr := Hb1.out.trans (hbw.out.mono Hb1.out.size)
      have HX := Lib.hid (idxO_succ l k)
      have Hcm : Hid (comF l k = (l.getD k dS).com) := Lib.hid rfl
      have hone := five_one hsi
      have HAT := Lib.hid (hat.below hb0 hblt)
      obtain ⟨x, hx⟩ : ∃ x, x = l.getD k dS := ⟨_, rfl⟩
      rw [← hx] at HAT Hcm hone
      have hlenK := idxO_le l k
      have Hbw := Lib.hid hbw.out; have Hrow := Lib.hid hrow.out; have Hone := Lib.hid hone
      clear hx hrow hb0 hst hat hsi hone
      go_upto_region 4 with (first
        | (refine wpl_load_sto rfl (.tmp 10) rfl rfl HAT.out ?_)
        | (refine wpl_store_sto rfl (.tmp 4) (.tmp 11) rfl rfl rfl rfl Hone.out ?_)
        | fail)
      refine wp_abs (F := fun W => One wr.heap.size (stoCells f x).toArray W ∧ Below wr.heap.size wr W) ⟨One.of _ _ _, (Below.refl _ _).alloc (Nat.le_refl _) _⟩ ?_
      rintro W2 ⟨hO2, hb2⟩
      have d13 := hO2.c 13
      simp [stoCells] at d13
      have hlt2 := hO2.lt
      have HB2 := Lib.hid hb2
      have HRow2 := Lib.hid (ownBelow Hrow.out hb2)
      clear hO2 hb2
      by_cases hp : 0 < x.com
      · have hp' : x.com > 0 := hp
        have hXe : Hid (idxO l (k + 1) = idxO l k ++ [k]) := Lib.hid (by rw [HX.out, if_pos (by rw [Hcm.out]; exact hp)])
        clear HX Hcm
        go_wp2_with (first
          | (at_builtin; refine wpList_append_own _ rfl (.tmp 15) (.tmp 17) 74 rfl (w.heap.size + 1) 3 i0 (.int .i64 0) 1 8 Tryz.underlying74 hi hz0 hz1 hz2 rfl (by decide) _ _ _ rfl (ownBelow HRow2.out ((Below.refl _ _).alloc (Nat.le_refl _) _)) ⟨W2.heap.size, 0, none⟩ 1 1 [.int .i64 k] rfl rfl (World.news_of_block (MapKept.heap_alloc _ _).1) (by intro u hu; rcases List.mem_singleton.1 hu with rfl; rfl) (by unfold maxLen; omega) (by omega) ?hbase ?go; (case hbase => have h1 := HB2.out.size; have h2 := Hbw.out.size; have h3 := HW1.out; simp; omega); intro v5 w5 hown5 hg5 _)
          | fail)
        obtain ⟨a6, c6, rfl⟩ := ownShape hown5
        go_roundw
        case rel =>
          refine ⟨k + 1, by omega, by go_num, ⟨a6, c6, by rw [hXe.out, List.length_append]; rfl⟩, Lib.hid (fun h => by rw [hXe.out] at h; simp at h), Lib.hid ?_, Lib.hid ?_⟩
          · rw [hXe.out, List.length_append, List.map_append]; exact hown5
          · have hbA : Below W1.heap.size W1 (W2.alloc (.cells #[.int .i64 k] 3)) := (Hbw.out.trans (HB2.out.mono Hbw.out.size)).alloc (by have h1 := HB2.out.size; have h2 := Hbw.out.size; omega) _
            exact hbA.grown hg5 hbA.size (fun k hk => by have := ownAbove HRow2.out k hk; have := HW1.out; omega)
        case measure => simp [intOf]; omega
      · have hp' : ¬ x.com > 0 := hp
        have hXe : Hid (idxO l (k + 1) = idxO l k) := Lib.hid (by rw [HX.out, if_neg (by rw [Hcm.out]; exact hp)])
        clear HX Hcm
        go_wp2_with fail
        go_roundw
        case rel => exact ⟨k + 1, by omega, by go_num, ⟨a2, c2, by rw [hXe.out]⟩, Lib.hid (fun h => by rw [hXe.out] at h; exact hnil.out h), Lib.hid (by rw [hXe.out]; exact HRow2.out), Lib.hid (Hbw.out.trans (HB2.out.mono Hbw.out.size))⟩
        case measure => simp [intOf]; omega
    · have hge : ¬ (k : Int) < (l.length : Int) := by omega
      obtain rfl : k = l.length := by omega
      have Hrow := Lib.hid hrow.out
      have hb0 : Below w.heap.size w wr := Hb1.out.trans (hbw.out.mono Hb1.out.size)
      have hbox : wr.cell? ⟨w.heap.size, 0, none⟩ = some (.slice a l.length cap) := (hbw.out.cell (p := ⟨w.heap.size, 0, none⟩) hlt1).trans c0
      have hK := HK.out
      by_cases hz : (idxO l l.length).length = 0
      · have hv2 := hnil.out (List.length_eq_zero_iff.1 hz)
        have hord : Hid (ordS l = []) := Lib.hid (by
          have h1 := ordL_length (comF l) l.length
          exact List.length_eq_zero_iff.1 (h1.trans hz))
        rw [hv2]
        have HN := Lib.hid (fun fv => stable_nil fv wr)
        have HB0 := Lib.hid hb0
        clear hv2 hnil hz hbox hb0 hrow Hrow
        go_wp2_with fail
        refine (HN.out _).mono ?_
        rintro e w' ⟨rfl, rfl⟩
        go_wp2_with fail
        go_ret
        exact ⟨.slice none 0 0, rfl, ⟨none, 0, by rw [hord.out]; rfl, by rw [hord.out]; exact Nat.le_refl _, Or.inl hord.out⟩, (fun k hk => (by cases hk)), HB0.out⟩
      · rcases hrow.out.2 with ⟨hv2, hn2⟩ | ⟨g, cap2, cur, hv2, hB2, hg2, hn2, hcap2, hsz2, htk2⟩
        · exact absurd hn2 hz
        · injection hv2 with e1 e2 e3
          subst e1; subst e3
          rcases HC.out with hn | ⟨b, off, rfl, hblt, hst⟩
          · exfalso; apply hz; unfold idxO; rw [hn]; rfl
          have hCom : ComAt wr w.heap.size b off l.length cap (comF l) := ⟨hbox, fun i hi => by
            obtain ⟨f, _, hat⟩ := hst i hi
            exact (hat.below hb0 hblt).all.2.2.2.2.2.2.2.2.2.2.2.2.2.1⟩
          have hlt : ∀ i ∈ idxO l l.length, i < l.length := fun i hi => by
            unfold idxO at hi
            exact List.mem_range.1 (List.mem_filter.1 hi).1
          have hH : Sort.Holds (encP l.length) wr g 0 (idxO l l.length).toArray := by
            intro j hj
            have hj' : j < (idxO l l.length).length := by simpa using hj
            refine ⟨?_, ?_⟩
            · have h1 := hrow.out.cellAt j (by omega)
              rw [Nat.zero_add, h1, List.getElem?_map, List.getElem?_eq_getElem hj', Option.map_some]
              have h2 : (idxO l l.length).toArray[j]! = (idxO l l.length)[j] := by simp [hj']
              rw [h2, encP_lt (hlt _ (List.getElem_mem hj'))]
            · unfold World.frozen?; rw [hg2]; simp
          have hgl : g < wr.heap.size := lt_of_block hg2
          have hl0 : 0 < l.length := by
            have := idxO_le l l.length
            omega
          have hsz : (idxO l l.length).toArray.size = (idxO l l.length).length := by simp
          have e2 : (idxO l l.length).toArray.toList = (List.range l.length).filter (fun i => decide (0 < comF l (i % l.length))) := by
            show idxO l l.length = _
            unfold idxO
            exact List.filter_congr (fun i hi => by rw [Nat.mod_eq_of_lt (List.mem_range.1 hi)])
          have hst := stable_ord (c := c2) (idxO l l.length).toArray wr hCom hl0 (by omega) (by omega) hH hgl (by rw [hsz]; exact hK) e2
          rw [hsz] at hst
          have HSt := Lib.hid hst
          have HH := Lib.hid hH; have HB0 := Lib.hid hb0
          have hres : Hid (ordL (fun i => comF l (i % l.length)) l.length = ordS l) := Lib.hid (ordL_congr (fun i hi => by rw [Nat.mod_eq_of_lt hi]))
          have hol : Hid ((ordS l).length = (idxO l l.length).length) := Lib.hid (ordL_length _ _)
          have hgB := Lib.hid hB2
          clear e2 hst hsz hH hCom hnil hz hrow Hrow hbox hb0 hg2 htk2 hsz2 hB2
          go_wp2_with fail
          refine HSt.out.mono ?_
          rintro e w' ⟨rfl, d', hS, hsz', hl'⟩
          rw [hres.out] at hl'
          have HS := Lib.hid hS; have HSz := Lib.hid hsz'; have HLo := Lib.hid hl'; clear hS hsz' hl'
          go_wp2_with fail
          go_ret
          refine ⟨.slice (some ⟨g, 0, none⟩) (idxO l l.length).length c2, rfl, ⟨some ⟨g, 0, none⟩, c2, by rw [hol.out], by rw [hol.out]; exact hn2, Or.inr ⟨g, 0, rfl, Nat.lt_of_lt_of_le hgl HS.out.le, fun i hi => ?_⟩⟩, (fun k hk => (by cases hk; have := hgB.out; show w.heap.size ≤ g; omega)), ?_⟩
          · have hsz2 : d'.size = (idxO l l.length).toArray.size := by rw [HSz.out]; simp
            have hi2 : i < d'.size := by rw [hsz2]; simpa [hol.out] using hi
            have h1 := (HS.out.holds hgl HH.out hsz2 i hi2).1
            rw [h1, getElem!_pos _ i hi2]
            have h3 : d'[i] = (ordS l).getD i 0 := by
              rw [← HLo.out, List.getD_eq_getElem?_getD, List.getElem?_eq_getElem (by simpa using hi2)]
              simp
            rw [h3, encP_lt]
            have hm : (ordS l).getD i 0 ∈ ordS l := by rw [List.getD_eq_getElem?_getD, List.getElem?_eq_getElem hi]; exact List.getElem_mem hi
            exact (mem_ordL.1 hm).1
          · exact HB0.out.grown (sw_grown HS.out) HB0.out.size (fun k hk => by cases hk; have := hgB.out; omega)
theorem model_order (l : List Sto) (v : Value) (w : World) (hv : IsStos w v l) (hl : l.length ≤ 1048576) (hk : (idxO l l.length).length ≤ 20) :
    Calls Tryz.prog 34 #[v] w (OrdG l w) := model_orderW l v w hv hl (by omega)
end Go.Proofs.YtfbgnpfhjbiikaaGreatDoor

namespace Go.Proofs.YtfbgnpfhjbiikaaGreatDoor
open Go Go.RowKit
def aloneB1 (s : Sto) : Bool := decide (s.frm ≤ 0) || (s.til != 0 && decide (s.til ≤ s.frm)) || (s.lost && s.til != 0)
def aloneB2 (s : Sto) : Bool := decide (0 < s.til) && ((s.err == 0) != decide (0 < s.com))
def aloneT (s : Sto) : Nat := if aloneB1 s then 1 else if aloneB2 s then 2 else 0

set_option maxRecDepth 100000 in
set_option maxHeartbeats 2000000 in
theorem model_alone (f : Five) (s : Sto) (w : World) :
    Calls Tryz.prog 64 #[.agg (stoCells f s).toArray] w fun e w' => e = .returned (.int .u8 (aloneT s)) ∧ Below w.heap.size w w' := by
  have HT : Hid (aloneT s = if aloneB1 s then 1 else if aloneB2 s then 2 else 0) := Lib.hid rfl
  have HB1 : Hid (aloneB1 s = (decide (s.frm ≤ 0) || (s.til != 0 && decide (s.til ≤ s.frm)) || (s.lost && s.til != 0))) := Lib.hid rfl
  have HB2 : Hid (aloneB2 s = (decide (0 < s.til) && ((s.err == 0) != decide (0 < s.com)))) := Lib.hid rfl
  generalize aloneT s = r at HT
  generalize aloneB1 s = b1 at HT HB1
  generalize aloneB2 s = b2 at HT HB2
  go_enter Tryz.func64, Tryz.ntmps64
  go_upto_region 1 with fail
  refine wp_abs (F := fun W => One w.heap.size (stoCells f s).toArray W ∧ Below w.heap.size w W) ⟨One.of _ _ _, (Below.refl _ _).alloc (Nat.le_refl _) _⟩ ?_
  rintro W ⟨hO, hb⟩
  have c8 := hO.c 8; have c9 := hO.c 9; have c10 := hO.c 10; have c13 := hO.c 13; have c14 := hO.c 14
  simp [stoCells] at c8 c9 c10 c13 c14
  have Hb := Lib.hid hb
  clear hO hb
  obtain ⟨_, _, fr, tl, ls, _, _, cm, er, _, _, _⟩ := s
  dsimp only at c8 c9 c10 c13 c14 HB1 HB2
  go_wp2_with fail
  all_goals (
    go_ret
    have h1 := HB1.out; have h2 := HB2.out; have h3 := HT.out
    clear HB1 HB2 HT
    refine ⟨ret_int ?_, Hb.out⟩
    clear Hb c8 c9 c10 c13 c14
    rw [h3]
    first
      | (simp_all; done)
      | (have g1 : b1 = true := by (rw [h1]; simp_all; done)
         simp [g1])
      | (have g1 : b1 = false := by (rw [h1]; simp_all; omega)
         have g2 : b2 = true := by (rw [h2]; simp_all; done)
         simp [g1, g2])
      | (have g1 : b1 = false := by (rw [h1]; simp_all; omega)
         have g2 : b2 = false := by (rw [h2]; simp_all; done)
         simp [g1, g2])
      | (have n1 : ¬ fr ≤ 0 := by omega
         have n2 : ¬ 0 < tl := by omega
         have g1 : b1 = false := by (rw [h1]; simp_all; done)
         have g2 : b2 = false := by (rw [h2]; simp [n2]; done)
         simp [g1, g2])
      | (have n1 : ¬ fr ≤ 0 := by omega
         have n2 : ¬ tl ≤ fr := by omega
         have n3 : (0 : Int) < tl := by omega
         have g1 : b1 = false := by (rw [h1]; simp_all; done)
         by_cases k5 : er = 0 <;> by_cases k6 : 0 < cm <;> simp_all))
end Go.Proofs.YtfbgnpfhjbiikaaGreatDoor

namespace Go.Proofs.YtfbgnpfhjbiikaaGreatDoor
open Go Go.RowKit
def lateT (l : List Sto) (o : List Nat) (k : Nat) : Bool :=
  (decide (0 < k) && (l.getD (o.getD (k - 1) 0) dS).com == (l.getD (o.getD k 0) dS).com) ||
  (o.drop (k + 1)).any (fun i => decide (0 < (l.getD i dS).til) && decide ((l.getD i dS).til < (l.getD (o.getD k 0) dS).frm))

theorem below_dn {B : Nat} {w w' : World} (h : Below B w w') (n : Nat) : Below B w (w'.drewN n) := ⟨h.os, h.tape, h.output, h.size, fun i hi => h.block i hi⟩
structure LateAt (w : World) (bx sb so n cap sx : Nat) (T : Nat → Int) (fr : Int) : Prop where
  box : w.cell? ⟨bx, 0, none⟩ = some (.slice (some ⟨sb, so, none⟩) n cap)
  til : ∀ i, i < n → w.cell? ⟨sb, so + i * 18 + 9, none⟩ = some (.int .i64 (T i))
  frm : w.cell? ⟨sx, 8, none⟩ = some (.int .i64 fr)
def lateB (T : Nat → Int) (fr : Int) (i : Nat) : Bool := decide (0 < T i) && decide (T i < fr)
theorem LateAt.drewN {w : World} {bx sb so n cap sx : Nat} {T : Nat → Int} {fr : Int} (h : LateAt w bx sb so n cap sx T fr) (q : Nat) : LateAt (w.drewN q) bx sb so n cap sx T fr := ⟨h.box, h.til, h.frm⟩

set_option maxRecDepth 100000 in
set_option maxHeartbeats 2000000 in
theorem late_one {bx sb so n cap sx : Nat} {T : Nat → Int} {fr : Int} (i : Nat) (w : World) (h : LateAt w bx sb so n cap sx T fr) (hi : i < n) :
    Calls Tryz.prog 92 #[.int .i64 i, .pointer (some ⟨bx, 0, none⟩), .pointer (some ⟨sx, 0, none⟩)] w fun e w' => e = .returned (.bool (lateB T fr i)) ∧ ∃ q, w' = w.drewN q := by
  have h1 := h.box
  have h2 := h.til i hi
  have h3 := h.frm
  have hi' : (i : Int) < (n : Int) := by omega
  have HB : Hid (lateB T fr i = (decide (0 < T i) && decide (T i < fr))) := Lib.hid rfl
  generalize lateB T fr i = r at HB
  obtain ⟨x, hx⟩ : ∃ x, T i = x := ⟨_, rfl⟩
  rw [hx] at h2 HB
  clear h hx
  by_cases hx0 : 0 < x
  · have hd : decide (x > 0) = true := decide_eq_true hx0
    by_cases hx1 : x < fr
    · have hd1 : decide (x < fr) = true := decide_eq_true hx1
      have hr : Hid (r = true) := Lib.hid (by rw [HB.out, decide_eq_true hx0, hd1]; rfl)
      clear HB
      go_enter Tryz.func92, Tryz.ntmps92
      go_wp2
      go_quiet (fail)
      go_wp2
      go_ret
      exact ⟨ret_bool (by rw [hr.out]), _, rfl⟩
    · have hd1 : decide (x < fr) = false := decide_eq_false hx1
      have hr : Hid (r = false) := Lib.hid (by rw [HB.out, decide_eq_true hx0, hd1]; rfl)
      clear HB
      go_enter Tryz.func92, Tryz.ntmps92
      go_wp2
      go_quiet (fail)
      go_wp2
      go_ret
      exact ⟨ret_bool (by rw [hr.out]), _, rfl⟩
  · have hd : decide (x > 0) = false := decide_eq_false hx0
    have hr : Hid (r = false) := Lib.hid (by rw [HB.out, decide_eq_false hx0]; rfl)
    clear HB
    go_enter Tryz.func92, Tryz.ntmps92
    go_wp2
    go_quiet (fail)
    go_wp2
    go_ret
    exact ⟨ret_bool (by rw [hr.out]), _, rfl⟩

def lateIdx (T : Nat → Int) (fr : Int) (o : List Nat) (r : Int) : Prop := (0 ≤ r ∧ o.any (lateB T fr) = true) ∨ (r = -1 ∧ o.any (lateB T fr) = false)
def LateIG (T : Nat → Int) (fr : Int) (o : List Nat) (w : World) (e : Ending) (w' : World) : Prop := ∃ r, e = .returned (.int .i64 r) ∧ lateIdx T fr o r ∧ ∃ q, w' = w.drewN q
theorem any_take_succ {α : Type} {p : α → Bool} {l : List α} {k : Nat} (hk : k < l.length) (d : α) : (l.take (k + 1)).any p = ((l.take k).any p || p (l.getD k d)) := by
  rw [List.take_succ_eq_append_getElem hk, List.any_append, List.getD_eq_getElem?_getD, List.getElem?_eq_getElem hk]; simp
set_option maxRecDepth 100000 in
set_option maxHeartbeats 2000000 in
theorem late_index {bx sb so n cap sx : Nat} {T : Nat → Int} {fr : Int} (o : List Nat) (vo : Value) (w : World) (h : LateAt w bx sb so n cap sx T fr) (ho : IsInts w vo o) (hall : ∀ i ∈ o, i < n) (hol : o.length ≤ 1048576) :
    Calls Tryz.prog 119 #[vo, .func (.func 92) #[] #[.pointer (some ⟨bx, 0, none⟩), .pointer (some ⟨sx, 0, none⟩)]] w (LateIG T fr o w) := by
  obtain ⟨a, cap2, rfl, _, hoo⟩ := ho
  have HO := Lib.hid hoo; have HA := Lib.hid hall; have HL := Lib.hid h
  clear hoo hall h
  go_enter Tryz.func119, Tryz.ntmps119
  go_wp2
  go_loopw [8] (fun i wr => ∃ k : Nat, k ≤ o.length ∧ i = .int .i64 k ∧ Hid ((o.take k).any (lateB T fr) = false) ∧ ∃ q, wr = w.drewN q) (fun i _ => o.length - (intOf i).toNat)
  case atStart => exact ⟨0, Nat.zero_le _, rfl, Lib.hid (by simp), 0, rfl⟩
  case round =>
    obtain ⟨k, hk, rfl, hn, q, rfl⟩ := hrel
    by_cases hlt : k < o.length
    · rcases HO.out with h0 | ⟨b, off, rfl, hblt, hc⟩
      · rw [h0] at hlt; simp at hlt
      have hck : (w.drewN q).cell? ⟨b, off + k, none⟩ = some (.int .i64 (o.getD k 0)) := hc k hlt
      have him : o.getD k 0 ∈ o := by rw [List.getD_eq_getElem?_getD, List.getElem?_eq_getElem hlt]; exact List.getElem_mem hlt
      have hin := HA.out _ him
      have HT := Lib.hid (any_take_succ (p := lateB T fr) hlt 0)
      obtain ⟨i, hi⟩ : ∃ i, o.getD k 0 = i := ⟨_, rfl⟩
      rw [hi] at hck hin HT
      have Hin := Lib.hid hin
      clear hi him hin hc
      have hltI : (k : Int) < (o.length : Int) := by omega
      have HC := Lib.hid (fun W => late_one (T := T) (fr := fr) (bx := bx) (sb := sb) (so := so) (n := n) (cap := cap) (sx := sx) i W)
      cases hb : lateB T fr i with
      | true =>
        rw [hb] at HC HT
        have HT2 : Hid (o.any (lateB T fr) = true) := Lib.hid (by
          have h1 := HT.out
          rw [Bool.or_true] at h1
          rw [List.any_eq_true] at h1 ⊢
          obtain ⟨x, hx, hy⟩ := h1
          exact ⟨x, List.mem_of_mem_take hx, hy⟩)
        clear HT
        go_wp2_with fail
        refine (HC.out _ (HL.out.drewN q) Hin.out).mono ?_
        rintro e w' ⟨rfl, q2, rfl⟩
        go_wp2_with fail
        go_ret
        exact ⟨_, rfl, Or.inl ⟨by omega, HT2.out⟩, q + q2, by first | rfl | rw [World.drewN_drewN]⟩
      | false =>
        rw [hb] at HC HT
        clear hb
        have HN : Hid ((o.take (k + 1)).any (lateB T fr) = false) := Lib.hid (by rw [HT.out, hn.out]; rfl)
        clear HT
        go_wp2_with fail
        refine (HC.out _ (HL.out.drewN q) Hin.out).mono ?_
        rintro e w' ⟨rfl, q2, rfl⟩
        go_wp2_with fail
        go_roundw
        case rel => exact ⟨k + 1, by omega, by go_num, HN, q + q2, by first | rfl | rw [World.drewN_drewN]⟩
        case measure => simp [intOf]; omega
    · have hge : ¬ (k : Int) < (o.length : Int) := by omega
      have hn2 : Hid (o.any (lateB T fr) = false) := Lib.hid (by have := hn.out; rwa [List.take_of_length_le (by omega)] at this)
      go_wp2
      go_ret
      exact ⟨-1, rfl, Or.inr ⟨rfl, hn2.out⟩, q, rfl⟩
set_option maxRecDepth 100000 in
set_option maxHeartbeats 2000000 in
theorem late_contains {bx sb so n cap sx : Nat} {T : Nat → Int} {fr : Int} (o : List Nat) (vo : Value) (w : World) (h : LateAt w bx sb so n cap sx T fr) (ho : IsInts w vo o) (hall : ∀ i ∈ o, i < n) (hol : o.length ≤ 1048576) :
    Calls Tryz.prog 91 #[vo, .func (.func 92) #[] #[.pointer (some ⟨bx, 0, none⟩), .pointer (some ⟨sx, 0, none⟩)]] w fun e w' => e = .returned (.bool (o.any (lateB T fr))) ∧ ∃ q, w' = w.drewN q := by
  have HI := Lib.hid (late_index o vo w h ho hall hol)
  clear h ho hall
  go_enter Tryz.func91, Tryz.ntmps91
  go_wp2_with fail
  refine HI.out.mono ?_
  rintro e w' ⟨r, rfl, hr, q, rfl⟩
  rcases hr with ⟨h1, h2⟩ | ⟨rfl, h2⟩
  · have H2 := Lib.hid h2; clear h2
    have h1' : r ≥ 0 := h1
    go_wp2_with fail
    go_ret
    exact ⟨ret_bool (by rw [H2.out]), q, rfl⟩
  · have H2 := Lib.hid h2; clear h2
    go_wp2_with fail
    go_ret
    exact ⟨ret_bool (by rw [H2.out]), q, rfl⟩

set_option maxRecDepth 100000 in
set_option maxHeartbeats 4000000 in
theorem model_late (l : List Sto) (v vo : Value) (o : List Nat) (k : Nat) (w : World) (hv : IsStos w v l) (ho : IsInts w vo o) (_hl : l.length ≤ 1048576) (hol : o.length ≤ 1048576) (hk : k < o.length) (hall : ∀ i ∈ o, i < l.length) :
    Calls Tryz.prog 66 #[v, vo, .int .i64 k] w fun e w' => e = .returned (.bool (lateT l o k)) ∧ Below w.heap.size w w' := by
  obtain ⟨a, cap, rfl, hcap, hcc⟩ := hv
  obtain ⟨a2, c2, rfl, hc2, hoo⟩ := ho
  have hol0 : o ≠ [] := fun h => by rw [h] at hk; simp at hk
  rcases hoo with h | ⟨ob, oo, rfl, hoblt, hoc⟩
  · exact absurd h hol0
  have him : o.getD k 0 ∈ o := by rw [List.getD_eq_getElem?_getD, List.getElem?_eq_getElem hk]; exact List.getElem_mem hk
  have hik := hall _ him
  rcases hcc with hn | ⟨b, off, rfl, hblt, hst⟩
  · rw [hn] at hik; simp at hik
  obtain ⟨i, hi⟩ : ∃ i, o.getD k 0 = i := ⟨_, rfl⟩
  rw [hi] at hik
  obtain ⟨f, hsi, hat⟩ := hst i hik
  have hck := hoc k hk
  rw [hi] at hck
  obtain ⟨s, hs⟩ : ∃ s, l.getD i dS = s := ⟨_, rfl⟩
  rw [hs] at hsi hat
  have HOC := Lib.hid hoc; have HST := Lib.hid hst; have Hi := Lib.hid hi; have Hs := Lib.hid hs; have HALL := Lib.hid hall
  have hone := five_one hsi
  clear hoc hst hi hs hall him hol0 hsi
  have hkI : (k : Int) < (o.length : Int) := by omega
  have hiI : (i : Int) < (l.length : Int) := by omega
  have hzs := zeroSto
  go_enter Tryz.func66, Tryz.ntmps66
  go_upto_region 1 with fail
  refine wp_abs (F := fun W => One w.heap.size #[.slice (some ⟨b, off, none⟩) l.length cap] W ∧ Below w.heap.size w W) ⟨One.of _ _ _, (Below.refl _ _).alloc (Nat.le_refl _) _⟩ ?_
  rintro W1 ⟨hO, hb1⟩
  have c0 := hO.c 0
  simp at c0
  have hck1 := (hb1.cell (p := ⟨ob, oo + k, none⟩) hoblt).trans hck
  have hat1 := hat.below hb1 hblt
  refine wp_region_held_drew (S := fun w' => w'.cell? ⟨w.heap.size, 0, none⟩ = some (.slice (some ⟨b, off, none⟩) l.length cap) ∧ w'.cell? ⟨ob, oo + k, none⟩ = some (.int .i64 i) ∧ StoAt w' b (off + i * 18) f s) (by kernel_rfl) ⟨c0, hck1, hat1⟩ (fun hS => ?_)
  -- TAKES
  refine wpAnyH_take (i := 0) (oi := { dst := some 8, op := Op.load 68 (Operand.tmp 3), type := 68, pos := "model.go:62", after := #[], guard := none }) (v := .slice (some ⟨b, off, none⟩) l.length cap) rfl (by kernel_rfl) (by kernel_rfl) (by kernel_rfl) (fun _ _ _ h => h) (Or.inl ⟨by rfl, fun w' hw => ?_⟩) hS ?_
  · obtain ⟨h1, h2, h3⟩ := hw
    clear h3
    go_simp
  simp only [Act.put, List.setIfInBounds_toArray, List.set_cons_zero, List.set_cons_succ]
  refine wpAnyH_take (i := 1) (oi := { dst := some 9, op := Op.move (Operand.tmp 1), type := 74, pos := "model.go:62", after := #[], guard := none }) (v := .slice (some ⟨ob, oo, none⟩) o.length c2) rfl (by kernel_rfl) (by kernel_rfl) (by kernel_rfl) (fun _ _ _ h => h) (Or.inl ⟨by rfl, fun w' hw => ?_⟩) hS ?_
  · obtain ⟨h1, h2, h3⟩ := hw
    clear h3
    go_simp
  simp only [Act.put, List.setIfInBounds_toArray, List.set_cons_zero, List.set_cons_succ]
  refine wpAnyH_take (i := 2) (oi := { dst := some 10, op := Op.move (Operand.tmp 2), type := 3, pos := "model.go:62", after := #[], guard := none }) (v := .int .i64 k) rfl (by kernel_rfl) (by kernel_rfl) (by kernel_rfl) (fun _ _ _ h => h) (Or.inl ⟨by rfl, fun w' hw => ?_⟩) hS ?_
  · obtain ⟨h1, h2, h3⟩ := hw
    clear h3
    go_simp
  simp only [Act.put, List.setIfInBounds_toArray, List.set_cons_zero, List.set_cons_succ]
  refine wpAnyH_take (i := 3) (oi := { dst := some 11, op := Op.indexAddr 74 (Operand.tmp 9) (Operand.tmp 10), type := 0, pos := "model.go:62", after := #[{ on := 1, ground := Ground.data }, { on := 2, ground := Ground.data }], guard := none }) (v := .pointer (some ⟨ob, oo + k, none⟩)) rfl (by kernel_rfl) (by kernel_rfl) (by kernel_rfl) (fun _ _ _ h => h) (Or.inl ⟨by rfl, fun w' hw => ?_⟩) hS ?_
  · obtain ⟨h1, h2, h3⟩ := hw
    clear h3
    go_simp
  simp only [Act.put, List.setIfInBounds_toArray, List.set_cons_zero, List.set_cons_succ]
  refine wpAnyH_take (i := 4) (oi := { dst := some 12, op := Op.load 3 (Operand.tmp 11), type := 3, pos := "model.go:62", after := #[{ on := 3, ground := Ground.data }], guard := none }) (v := .int .i64 i) rfl (by kernel_rfl) (by kernel_rfl) (by kernel_rfl) (fun _ _ _ h => h) (Or.inl ⟨by rfl, fun w' hw => ?_⟩) hS ?_
  · obtain ⟨h1, h2, h3⟩ := hw
    clear h3
    go_simp
  simp only [Act.put, List.setIfInBounds_toArray, List.set_cons_zero, List.set_cons_succ]
  refine wpAnyH_take (i := 5) (oi := { dst := some 13, op := Op.indexAddr 68 (Operand.tmp 8) (Operand.tmp 12), type := 0, pos := "model.go:62", after := #[{ on := 0, ground := Ground.data }, { on := 4, ground := Ground.data }], guard := none }) (v := .pointer (some ⟨b, off + i * 18, none⟩)) rfl (by kernel_rfl) (by kernel_rfl) (by kernel_rfl) (fun _ _ _ h => h) (Or.inl ⟨by rfl, fun w' hw => ?_⟩) hS ?_
  · obtain ⟨h1, h2, h3⟩ := hw
    clear h3
    go_simp
  simp only [Act.put, List.setIfInBounds_toArray, List.set_cons_zero, List.set_cons_succ]
  refine wpAnyH_take (i := 6) (oi := { dst := some 14, op := Op.load 87 (Operand.tmp 13), type := 87, pos := "model.go:62", after := #[{ on := 5, ground := Ground.data }], guard := none }) (v := .agg (stoCells f s).toArray) rfl (by kernel_rfl) (by kernel_rfl) (by kernel_rfl) (fun _ _ _ h => h) (yieldsIf_load_mid (by rfl) 87 _ rfl b (off + i * 18) rfl (stoCells f s) _ (fun w' hw => hw.2.2) Tryz.underlying87 rfl infoStoL) hS ?_
  simp only [Act.put, List.setIfInBounds_toArray, List.set_cons_zero, List.set_cons_succ]
  refine wpAnyH_ready (rs := [7]) (by kernel_rfl) (by simp) ?_
  refine AllReadyH.cons (o := { dst := some 7, op := Op.alloc 87, type := 0, pos := "model.go:62", after := #[], guard := none }) rfl (fun K hK => ?_) AllReadyH.nil
  rw [if_pos (by rfl)]
  go_simp
  refine hK.out _ _ ⟨?_, ?_, ?_⟩ (fun _ => ?_)
  · exact (((Below.refl _ _).alloc (Nat.le_refl _) _).cell (p := ⟨w.heap.size, 0, none⟩) hO.lt).trans c0
  · exact (((Below.refl _ _).alloc (Nat.le_refl _) _).cell (p := ⟨ob, oo + k, none⟩) (by have := hb1.size; show ob < W1.heap.size; omega)).trans hck1
  · exact hat1.below (Below.drew ((Below.refl _ _).alloc (Nat.le_refl _) _)) (by have := hb1.size; show b < W1.heap.size; omega)
  refine wpAnyH_ready (rs := [8]) (by kernel_rfl) (by simp) ?_
  refine AllReadyH.cons (o := { dst := none, op := Op.store 87 (Operand.tmp 7) (Operand.tmp 14), type := 0, pos := "model.go:62", after := #[{ on := 7, ground := Ground.data }, { on := 6, ground := Ground.data }, { on := 0, ground := Ground.phase }, { on := 1, ground := Ground.phase }, { on := 2, ground := Ground.phase }, { on := 3, ground := Ground.phase }, { on := 4, ground := Ground.phase }, { on := 5, ground := Ground.phase }, { on := 6, ground := Ground.phase }, { on := 7, ground := Ground.phase }], guard := none }) rfl (fun K hK => ?_) AllReadyH.nil
  rw [if_pos (by rfl)]
  refine wp_store_stoD _ _ rfl _ rfl rfl rfl hone ?_
  simp only [Act.put]
  refine hK.out _ _ ⟨?_, ?_, ?_⟩ (fun _ => ?_)
  · exact (((Below.refl _ _).alloc (Nat.le_refl _) _).cell (p := ⟨w.heap.size, 0, none⟩) hO.lt).trans c0
  · exact (((Below.refl _ _).alloc (Nat.le_refl _) _).cell (p := ⟨ob, oo + k, none⟩) (by have := hb1.size; show ob < W1.heap.size; omega)).trans hck1
  · exact hat1.below (Below.drew ((Below.refl _ _).alloc (Nat.le_refl _) _)) (by have := hb1.size; show b < W1.heap.size; omega)
  refine wpAnyH_done (by kernel_rfl) ?_ _
  clear hS
  -- END
  go_upto_region 2 with fail
  refine wp_abs (F := fun W => StoAt W W1.heap.size 0 f s ∧ Below W1.heap.size W1 W) ⟨fun j u hj => one_sto W1 f s j u hj, Below.drew ((Below.refl _ _).alloc (Nat.le_refl _) _)⟩ ?_
  rintro W2 ⟨hs2, hb2⟩
  have hb02 : Below w.heap.size w W2 := hb1.trans (hb2.mono hb1.size)
  have d0 : W2.cell? ⟨w.heap.size, 0, none⟩ = some (.slice (some ⟨b, off, none⟩) l.length cap) := (hb2.cell (p := ⟨w.heap.size, 0, none⟩) hO.lt).trans c0
  have d8 := hs2 8 _ rfl
  have d13 := hs2 13 _ rfl
  rw [Nat.zero_add] at d8 d13
  have HLA : Hid (LateAt W2 w.heap.size b off l.length cap W1.heap.size (fun i => (l.getD i dS).til) s.frm) := Lib.hid ⟨d0, fun i hi => by
    obtain ⟨f, _, hat⟩ := HST.out i hi
    exact (hat.below hb02 hblt).all.2.2.2.2.2.2.2.2.2.1, d8⟩
  have HO2 : Hid (∀ i, i < o.length → W2.cell? ⟨ob, oo + i, none⟩ = some (.int .i64 (o.getD i 0))) := Lib.hid (fun i hi => (hb02.cell (p := ⟨ob, oo + i, none⟩) hoblt).trans (HOC.out i hi))
  have Hob2 : Hid (ob < W2.heap.size) := Lib.hid (by have := hb02.size; omega)
  have HB02 := Lib.hid hb02
  have HT : Hid (lateT l o k = ((decide (0 < k) && (l.getD (o.getD (k - 1) 0) dS).com == s.com) || (o.drop (k + 1)).any (lateB (fun i => (l.getD i dS).til) s.frm))) := Lib.hid (by
    unfold lateT lateB
    rw [Hi.out, Hs.out])
  have hdl : (o.drop (k + 1)).length = o.length - (k + 1) := List.length_drop
  have HSub : Hid (∀ a' c', (a' = some ⟨ob, oo + (k + 1), none⟩ ∧ c' = c2 - (k + 1) ∨ o.length = k + 1 ∧ c' = c2 - (k + 1)) → IsInts W2 (.slice a' (o.length - (k + 1)) c') (o.drop (k + 1))) := Lib.hid (by
    rintro a' c' (⟨rfl, rfl⟩ | ⟨h1, rfl⟩)
    · refine ⟨_, _, by rw [hdl], by rw [hdl]; omega, Or.inr ⟨ob, oo + (k + 1), rfl, Hob2.out, fun i hi => ?_⟩⟩
      rw [hdl] at hi
      have h2 := HO2.out (k + 1 + i) (by omega)
      rw [show oo + (k + 1 + i) = oo + (k + 1) + i by omega] at h2
      rw [h2]; simp [List.getD_eq_getElem?_getD]
    · exact ⟨_, _, by rw [hdl], by rw [hdl]; omega, Or.inl (List.drop_eq_nil_of_le (by omega))⟩)
  have hdall : Hid (∀ i ∈ o.drop (k + 1), i < l.length) := Lib.hid (fun i hi => HALL.out i (List.mem_of_mem_drop hi))
  have HCt := Lib.hid (fun (q : Nat) (vo : Value) (hv : IsInts W2 vo (o.drop (k + 1))) => late_contains (o.drop (k + 1)) vo (W2.drewN q) (HLA.out.drewN q) (hv.below (below_dn (Below.refl _ _) q) (Nat.le_refl _)) hdall.out (by rw [hdl]; omega))
  have H13 := Lib.hid d13
  have hBlt := Lib.hid hblt
  clear c0 hck hck1 hat hat1 hone hs2 hb2 hb02 d8 d13 hO hb1 hdl hdall
  obtain ⟨z, hz⟩ : ∃ z, (o.drop (k + 1)).any (lateB (fun i => (l.getD i dS).til) s.frm) = z := ⟨_, rfl⟩
  rw [hz] at HT HCt
  clear hz
  have hwk1 : IntKind.i64.wrap ((k : Int) + 1) = ((k + 1 : Nat) : Int) := by rw [IntKind.wrap_i64]; omega
  have hHD0 : Hid (∀ wz, Below W2.heap.size W2 wz → Below w.heap.size w wz) := Lib.hid (fun wz h => HB02.out.trans (h.mono HB02.out.size))
  obtain ⟨sc, hsc⟩ : ∃ sc, s.com = sc := ⟨_, rfl⟩
  rw [hsc] at HT H13
  have d13 := H13.out
  clear hsc H13
  by_cases hk0 : 0 < k
  · obtain ⟨kp, hkp⟩ : ∃ kp, k = kp + 1 := ⟨k - 1, by omega⟩
    have ck := HO2.out kp (by omega)
    have him : o.getD kp 0 ∈ o := by rw [List.getD_eq_getElem?_getD, List.getElem?_eq_getElem (by omega)]; exact List.getElem_mem _
    have hj := HALL.out _ him
    obtain ⟨f2, _, hat2⟩ := HST.out _ hj
    have cy := (hat2.below HB02.out hBlt.out).all.2.2.2.2.2.2.2.2.2.2.2.2.2.1
    have HT2 : Hid (lateT l o k = (((l.getD (o.getD kp 0) dS).com == sc) || z)) := Lib.hid (by rw [HT.out, decide_eq_true hk0, Bool.true_and, show k - 1 = kp by omega])
    obtain ⟨j, hjj⟩ : ∃ j, o.getD kp 0 = j := ⟨_, rfl⟩
    rw [hjj] at ck hj cy HT2
    obtain ⟨y, hy⟩ : ∃ y, (l.getD j dS).com = y := ⟨_, rfl⟩
    rw [hy] at cy HT2
    have hkpI : (kp : Int) < (o.length : Int) := by omega
    have hjI : (j : Int) < (l.length : Int) := by omega
    have hkw : IntKind.i64.wrap ((k : Int) - 1) = (kp : Int) := by rw [IntKind.wrap_i64]; omega
    have hk0d : decide ((k : Int) > 0) = true := by simp; omega
    have Hkp := Lib.hid hkp
    clear hjj hy him hat2 HT hkp hj
    by_cases hxy : y = sc
    · have hb : ((y : Int) == sc) = true := by simp [hxy]
      have hr : Hid (lateT l o k = true) := Lib.hid (by rw [HT2.out, hb]; rfl)
      clear HT2 hxy
      go_quiet (fail)
      go_wp2_with fail
      go_ret
      exact ⟨ret_bool (by rw [hr.out]), below_dn HB02.out _⟩
    · have hb : ((y : Int) == sc) = false := by simp [hxy]
      have hr : Hid (lateT l o k = z) := Lib.hid (by rw [HT2.out, hb]; rfl)
      clear HT2 hxy
      go_quiet (fail)
      go_wp2_with fail
      all_goals (
        refine (HCt.out _ _ (HSub.out _ _ ?_)).mono ?_
        · first | exact Or.inl ⟨rfl, rfl⟩ | exact Or.inr ⟨by omega, rfl⟩ | exact Or.inr ⟨by omega, by omega⟩
        rintro e w' ⟨rfl, q, rfl⟩
        go_wp2_with fail
        go_ret
        exact ⟨ret_bool (by rw [hr.out]), by first | exact below_dn HB02.out _ | exact below_dn (below_dn HB02.out _) _⟩)
  · have hk0d : decide ((k : Int) > 0) = false := by simp; omega
    have hr : Hid (lateT l o k = z) := Lib.hid (by rw [HT.out, decide_eq_false hk0]; rfl)
    clear HT
    go_quiet (fail)
    go_wp2_with fail
    all_goals (
      refine (HCt.out _ _ (HSub.out _ _ ?_)).mono ?_
      · first | exact Or.inl ⟨rfl, rfl⟩ | exact Or.inr ⟨by omega, rfl⟩ | exact Or.inr ⟨by omega, by omega⟩
      rintro e w' ⟨rfl, q, rfl⟩
      go_wp2_with fail
      go_ret
      exact ⟨ret_bool (by rw [hr.out]), by first | exact below_dn HB02.out _ | exact below_dn (below_dn HB02.out _) _⟩)
end Go.Proofs.YtfbgnpfhjbiikaaGreatDoor

namespace Go.Proofs.YtfbgnpfhjbiikaaGreatDoor
open Go Go.RowKit
def EqG {α : Type} (a b : List α) (w : World) (e : Ending) (w' : World) : Prop := ∃ r : Bool, e = .returned (.bool r) ∧ (r = true ↔ a = b) ∧ ∃ q, w' = w.drewN q
theorem eq_of_getD {α : Type} {a b : List α} (d : α) (hl : a.length = b.length) (h : ∀ j, j < a.length → a.getD j d = b.getD j d) : a = b := by
  apply List.ext_getElem hl
  intro i h1 h2
  have := h i h1
  rwa [List.getD_eq_getElem?_getD, List.getD_eq_getElem?_getD, List.getElem?_eq_getElem h1, List.getElem?_eq_getElem h2] at this
set_option maxRecDepth 100000 in
set_option maxHeartbeats 4000000 in
theorem eq_nums (a b : List Nat) (va vb : Value) (w : World) (ha : IsNums w va a) (hb : IsNums w vb b) (hla : a.length ≤ 140737488355328) (_hlb : b.length ≤ 140737488355328) :
    Calls Tryz.prog 96 #[va, vb] w (EqG a b w) := by
  obtain ⟨a1, c1, rfl, hca⟩ := ha
  obtain ⟨a2, c2, rfl, hcb⟩ := hb
  have HA := Lib.hid hca; have HB := Lib.hid hcb
  clear hca hcb
  by_cases hl : a.length = b.length
  · have hle : ((a.length : Int) != (b.length : Int)) = false := by simp [hl]
    have HL := Lib.hid hl; clear hl
    go_enter Tryz.func96, Tryz.ntmps96
    go_wp2
    go_loopw [13] (fun s13 wr => ∃ k : Nat, k ≤ a.length ∧ s13 = .int .i64 k ∧ Hid (∀ j, j < k → a.getD j 0 = b.getD j 0) ∧ ∃ q, wr = w.drewN q) (fun i _ => a.length - (intOf i).toNat)
    case atStart => exact ⟨0, Nat.zero_le _, rfl, Lib.hid (fun j hj => by omega), 0, rfl⟩
    case round =>
      obtain ⟨k, hk, rfl, heq, q, rfl⟩ := hrel
      by_cases hlt : k < a.length
      · have hltI : (k : Int) < (a.length : Int) := by omega
        have hlt2 : k < b.length := by have := HL.out; omega
        have hlt2I : (k : Int) < (b.length : Int) := by omega
        rcases HA.out with h0 | ⟨b1, o1, rfl, hb1, hc1⟩
        · rw [h0] at hlt; simp at hlt
        rcases HB.out with h0 | ⟨b2, o2, rfl, hb2, hc2⟩
        · rw [h0] at hlt2; simp at hlt2
        obtain g0 := hc1 k hlt
        obtain h0 := hc2 k hlt2
        obtain ⟨x, hx⟩ : ∃ x, a.getD k 0 = x := ⟨_, rfl⟩
        obtain ⟨y, hy⟩ : ∃ y, b.getD k 0 = y := ⟨_, rfl⟩
        rw [hx] at g0
        rw [hy] at h0
        have p0 : (w.drewN q).cell? ⟨b1, o1 + k, none⟩ = some (.int .u64 x) := g0
        have q0 : (w.drewN q).cell? ⟨b2, o2 + k, none⟩ = some (.int .u64 y) := h0
        have Hx := Lib.hid hx; have Hy := Lib.hid hy
        clear hx hy hc1 hc2 g0 h0
        generalize hW : w.drewN q = W at p0 q0 ⊢
        have HW := Lib.hid hW; clear hW
        by_cases he : x = y
        · have he2 := Lib.hid he
          have hn : ((x : Int) != (y : Int)) = false := by simp [he]
          clear he
          go_wp2_with fail
          go_quiet (fail)
          go_wp2_with fail
          go_roundw
          case rel =>
            refine ⟨k + 1, by omega, by go_num, Lib.hid (fun j hj => ?_), ?_⟩
            · by_cases e : j = k
              · subst e; rw [Hx.out, Hy.out]; exact he2.out
              · exact heq.out j (by omega)
            · rw [← HW.out]; exact ⟨q + nq, by first | rfl | rw [World.drewN_drewN]⟩
          case measure => simp [intOf]; omega
        · have he2 := Lib.hid he
          have hn : ((x : Int) != (y : Int)) = true := by simp; omega
          clear he
          go_wp2_with fail
          go_quiet (fail)
          go_wp2_with fail
          go_ret
          refine ⟨false, rfl, ⟨(fun h => (by cases h)), (fun h => absurd (by rw [← Hx.out, ← Hy.out, h]) he2.out)⟩, ?_⟩
          rw [← HW.out]; exact ⟨q + nq, by first | rfl | rw [World.drewN_drewN]⟩
      · have hge : ¬ (k : Int) < (a.length : Int) := by omega
        have heq2 := Lib.hid (eq_of_getD 0 HL.out (fun j hj => heq.out j (by omega)))
        go_wp2_with fail
        go_ret
        exact ⟨true, rfl, ⟨fun _ => heq2.out, fun _ => rfl⟩, q, rfl⟩
  · have hle : ((a.length : Int) != (b.length : Int)) = true := by simp; omega
    have HL := Lib.hid hl; clear hl
    go_enter Tryz.func96, Tryz.ntmps96
    go_wp2
    go_ret
    exact ⟨false, rfl, ⟨(fun h => (by cases h)), (fun h => absurd (by rw [h]) HL.out)⟩, 0, rfl⟩

set_option maxRecDepth 100000 in
set_option maxHeartbeats 4000000 in
theorem eq_strs (a b : List ByteArray) (va vb : Value) (w : World) (ha : IsStrs w va a) (hb : IsStrs w vb b) (hla : a.length ≤ 140737488355328) (_hlb : b.length ≤ 140737488355328) :
    Calls Tryz.prog 97 #[va, vb] w (EqG a b w) := by
  obtain ⟨a1, c1, rfl, hca⟩ := ha
  obtain ⟨a2, c2, rfl, hcb⟩ := hb
  have HA := Lib.hid hca; have HB := Lib.hid hcb
  clear hca hcb
  by_cases hl : a.length = b.length
  · have hle : ((a.length : Int) != (b.length : Int)) = false := by simp [hl]
    have HL := Lib.hid hl; clear hl
    go_enter Tryz.func97, Tryz.ntmps97
    go_wp2
    go_loopw [13] (fun s13 wr => ∃ k : Nat, k ≤ a.length ∧ s13 = .int .i64 k ∧ Hid (∀ j, j < k → a.getD j ByteArray.empty = b.getD j ByteArray.empty) ∧ ∃ q, wr = w.drewN q) (fun i _ => a.length - (intOf i).toNat)
    case atStart => exact ⟨0, Nat.zero_le _, rfl, Lib.hid (fun j hj => by omega), 0, rfl⟩
    case round =>
      obtain ⟨k, hk, rfl, heq, q, rfl⟩ := hrel
      by_cases hlt : k < a.length
      · have hltI : (k : Int) < (a.length : Int) := by omega
        have hlt2 : k < b.length := by have := HL.out; omega
        have hlt2I : (k : Int) < (b.length : Int) := by omega
        rcases HA.out with h0 | ⟨b1, o1, rfl, hb1, hc1⟩
        · rw [h0] at hlt; simp at hlt
        rcases HB.out with h0 | ⟨b2, o2, rfl, hb2, hc2⟩
        · rw [h0] at hlt2; simp at hlt2
        obtain g0 := hc1 k hlt
        obtain h0 := hc2 k hlt2
        obtain ⟨x, hx⟩ : ∃ x, a.getD k ByteArray.empty = x := ⟨_, rfl⟩
        obtain ⟨y, hy⟩ : ∃ y, b.getD k ByteArray.empty = y := ⟨_, rfl⟩
        rw [hx] at g0
        rw [hy] at h0
        have p0 : (w.drewN q).cell? ⟨b1, o1 + k, none⟩ = some (.string x) := g0
        have q0 : (w.drewN q).cell? ⟨b2, o2 + k, none⟩ = some (.string y) := h0
        have Hx := Lib.hid hx; have Hy := Lib.hid hy
        clear hx hy hc1 hc2 g0 h0
        generalize hW : w.drewN q = W at p0 q0 ⊢
        have HW := Lib.hid hW; clear hW
        by_cases he : x = y
        · have he2 := Lib.hid he
          have hn : (x.toList == y.toList) = true := by simp [he]
          clear he
          go_wp2_with fail
          go_quiet (fail)
          go_wp2_with fail
          go_roundw
          case rel =>
            refine ⟨k + 1, by omega, by go_num, Lib.hid (fun j hj => ?_), ?_⟩
            · by_cases e : j = k
              · subst e; rw [Hx.out, Hy.out]; exact he2.out
              · exact heq.out j (by omega)
            · rw [← HW.out]; exact ⟨q + nq, by first | rfl | rw [World.drewN_drewN]⟩
          case measure => simp [intOf]; omega
        · have he2 := Lib.hid he
          have hn : (x.toList == y.toList) = false := by
            rw [beq_eq_false_iff_ne, ByteArray.toList_eq, ByteArray.toList_eq]
            exact fun h => he (ba_ext h)
          clear he
          go_wp2_with fail
          go_quiet (fail)
          go_wp2_with fail
          go_ret
          refine ⟨false, rfl, ⟨(fun h => (by cases h)), (fun h => absurd (by rw [← Hx.out, ← Hy.out, h]) he2.out)⟩, ?_⟩
          rw [← HW.out]; exact ⟨q + nq, by first | rfl | rw [World.drewN_drewN]⟩
      · have hge : ¬ (k : Int) < (a.length : Int) := by omega
        have heq2 := Lib.hid (eq_of_getD ByteArray.empty HL.out (fun j hj => heq.out j (by omega)))
        go_wp2_with fail
        go_ret
        exact ⟨true, rfl, ⟨fun _ => heq2.out, fun _ => rfl⟩, q, rfl⟩
  · have hle : ((a.length : Int) != (b.length : Int)) = true := by simp; omega
    have HL := Lib.hid hl; clear hl
    go_enter Tryz.func97, Tryz.ntmps97
    go_wp2
    go_ret
    exact ⟨false, rfl, ⟨(fun h => (by cases h)), (fun h => absurd (by rw [h]) HL.out)⟩, 0, rfl⟩

set_option maxRecDepth 100000 in
set_option maxHeartbeats 4000000 in
theorem eq_gots (a b : List GotR) (va vb : Value) (w : World) (ha : IsGots w va a) (hb : IsGots w vb b) (hla : a.length ≤ 140737488355328) (_hlb : b.length ≤ 140737488355328) :
    Calls Tryz.prog 95 #[va, vb] w (EqG a b w) := by
  obtain ⟨a1, c1, rfl, hca⟩ := ha
  obtain ⟨a2, c2, rfl, hcb⟩ := hb
  have HA := Lib.hid hca; have HB := Lib.hid hcb
  clear hca hcb
  by_cases hl : a.length = b.length
  · have hle : ((a.length : Int) != (b.length : Int)) = false := by simp [hl]
    have HL := Lib.hid hl; clear hl
    go_enter Tryz.func95, Tryz.ntmps95
    go_wp2
    go_loopw [13] (fun s13 wr => ∃ k : Nat, k ≤ a.length ∧ s13 = .int .i64 k ∧ Hid (∀ j, j < k → a.getD j dG = b.getD j dG) ∧ ∃ q, wr = w.drewN q) (fun i _ => a.length - (intOf i).toNat)
    case atStart => exact ⟨0, Nat.zero_le _, rfl, Lib.hid (fun j hj => by omega), 0, rfl⟩
    case round =>
      obtain ⟨k, hk, rfl, heq, q, rfl⟩ := hrel
      by_cases hlt : k < a.length
      · have hltI : (k : Int) < (a.length : Int) := by omega
        have hlt2 : k < b.length := by have := HL.out; omega
        have hlt2I : (k : Int) < (b.length : Int) := by omega
        rcases HA.out with h0 | ⟨b1, o1, rfl, hb1, hc1⟩
        · rw [h0] at hlt; simp at hlt
        rcases HB.out with h0 | ⟨b2, o2, rfl, hb2, hc2⟩
        · rw [h0] at hlt2; simp at hlt2
        obtain ⟨g0, g1, g2, g3⟩ := hc1 k hlt
        obtain ⟨h0, h1, h2, h3⟩ := hc2 k hlt2
        obtain ⟨x, hx⟩ : ∃ x, a.getD k dG = x := ⟨_, rfl⟩
        obtain ⟨y, hy⟩ : ∃ y, b.getD k dG = y := ⟨_, rfl⟩
        rw [hx] at g0 g1 g2 g3
        rw [hy] at h0 h1 h2 h3
        have p0 : (w.drewN q).cell? ⟨b1, o1 + k * 4, none⟩ = some (.int .u64 x.ver.n) := g0
        have q0 : (w.drewN q).cell? ⟨b2, o2 + k * 4, none⟩ = some (.int .u64 y.ver.n) := h0
        have p1 : (w.drewN q).cell? ⟨b1, o1 + k * 4 + 1, none⟩ = some (.int .u8 x.ver.st) := g1
        have q1 : (w.drewN q).cell? ⟨b2, o2 + k * 4 + 1, none⟩ = some (.int .u8 y.ver.st) := h1
        have p2 : (w.drewN q).cell? ⟨b1, o1 + k * 4 + 2, none⟩ = some (.string x.ver.tx) := g2
        have q2 : (w.drewN q).cell? ⟨b2, o2 + k * 4 + 2, none⟩ = some (.string y.ver.tx) := h2
        have p3 : (w.drewN q).cell? ⟨b1, o1 + k * 4 + 3, none⟩ = some (.int .i64 x.err) := g3
        have q3 : (w.drewN q).cell? ⟨b2, o2 + k * 4 + 3, none⟩ = some (.int .i64 y.err) := h3
        have Hx := Lib.hid hx; have Hy := Lib.hid hy
        clear hx hy hc1 hc2 g0 h0 g1 h1 g2 h2 g3 h3
        generalize hW : w.drewN q = W at p0 q0 p1 q1 p2 q2 p3 q3 ⊢
        have HW := Lib.hid hW; clear hW
        obtain ⟨⟨xn, xs, xt⟩, xe⟩ := x
        obtain ⟨⟨yn, ys, yt⟩, ye⟩ := y
        dsimp only at p0 p1 p2 p3 q0 q1 q2 q3
        by_cases c0 : xn = yn
        · have t0 : ((xn : Int) == (yn : Int)) = true := by simp [c0]
          by_cases c1 : xs = ys
          · have t1 : ((xs : Int) == (ys : Int)) = true := by simp [c1]
            by_cases c2 : xt = yt
            · have t2 : (xt.toList == yt.toList) = true := by simp [c2]
              by_cases c3 : xe = ye
              · have t3 : ((xe : Int) == ye) = true := by simp [c3]
                have he2 : Hid ((⟨⟨xn, xs, xt⟩, xe⟩ : GotR) = ⟨⟨yn, ys, yt⟩, ye⟩) := Lib.hid (by rw [c0, c1, c2, c3])
                clear c0 c1 c2 c3
                go_wp2_with fail
                go_quiet (fail)
                go_wp2_with fail
                go_roundw
                case rel =>
                  refine ⟨k + 1, by omega, by go_num, Lib.hid (fun j hj => ?_), ?_⟩
                  · by_cases e : j = k
                    · subst e; rw [Hx.out, Hy.out]; exact he2.out
                    · exact heq.out j (by omega)
                  · rw [← HW.out]; exact ⟨q + nq, by first | rfl | rw [World.drewN_drewN]⟩
                case measure => simp [intOf]; omega
              · have t3 : ((xe : Int) == ye) = false := by simp [c3]
                have he2 : Hid (¬ (⟨⟨xn, xs, xt⟩, xe⟩ : GotR) = ⟨⟨yn, ys, yt⟩, ye⟩) := Lib.hid (fun h => c3 (congrArg (fun g : GotR => g.err) h))
                clear c0 c1 c2 c3
                go_wp2_with fail
                go_quiet (fail)
                go_wp2_with fail
                go_ret
                refine ⟨false, rfl, ⟨(fun h => (by cases h)), (fun h => absurd (by rw [← Hx.out, ← Hy.out, h]) he2.out)⟩, ?_⟩
                rw [← HW.out]; exact ⟨q + nq, by first | rfl | rw [World.drewN_drewN]⟩
            · have t2 : (xt.toList == yt.toList) = false := by rw [beq_eq_false_iff_ne, ByteArray.toList_eq, ByteArray.toList_eq]; exact fun h => c2 (ba_ext h)
              have he2 : Hid (¬ (⟨⟨xn, xs, xt⟩, xe⟩ : GotR) = ⟨⟨yn, ys, yt⟩, ye⟩) := Lib.hid (fun h => c2 (congrArg (fun g : GotR => g.ver.tx) h))
              clear c0 c1 c2
              go_wp2_with fail
              go_quiet (fail)
              go_wp2_with fail
              go_ret
              refine ⟨false, rfl, ⟨(fun h => (by cases h)), (fun h => absurd (by rw [← Hx.out, ← Hy.out, h]) he2.out)⟩, ?_⟩
              rw [← HW.out]; exact ⟨q + nq, by first | rfl | rw [World.drewN_drewN]⟩
          · have t1 : ((xs : Int) == (ys : Int)) = false := by simp; omega
            have he2 : Hid (¬ (⟨⟨xn, xs, xt⟩, xe⟩ : GotR) = ⟨⟨yn, ys, yt⟩, ye⟩) := Lib.hid (fun h => c1 (congrArg (fun g : GotR => g.ver.st) h))
            clear c0 c1
            go_wp2_with fail
            go_quiet (fail)
            go_wp2_with fail
            go_ret
            refine ⟨false, rfl, ⟨(fun h => (by cases h)), (fun h => absurd (by rw [← Hx.out, ← Hy.out, h]) he2.out)⟩, ?_⟩
            rw [← HW.out]; exact ⟨q + nq, by first | rfl | rw [World.drewN_drewN]⟩
        · have t0 : ((xn : Int) == (yn : Int)) = false := by simp; omega
          have he2 : Hid (¬ (⟨⟨xn, xs, xt⟩, xe⟩ : GotR) = ⟨⟨yn, ys, yt⟩, ye⟩) := Lib.hid (fun h => c0 (congrArg (fun g : GotR => g.ver.n) h))
          clear c0
          go_wp2_with fail
          go_quiet (fail)
          go_wp2_with fail
          go_ret
          refine ⟨false, rfl, ⟨(fun h => (by cases h)), (fun h => absurd (by rw [← Hx.out, ← Hy.out, h]) he2.out)⟩, ?_⟩
          rw [← HW.out]; exact ⟨q + nq, by first | rfl | rw [World.drewN_drewN]⟩
      · have hge : ¬ (k : Int) < (a.length : Int) := by omega
        have heq2 := Lib.hid (eq_of_getD dG HL.out (fun j hj => heq.out j (by omega)))
        go_wp2_with fail
        go_ret
        exact ⟨true, rfl, ⟨fun _ => heq2.out, fun _ => rfl⟩, q, rfl⟩
  · have hle : ((a.length : Int) != (b.length : Int)) = true := by simp; omega
    have HL := Lib.hid hl; clear hl
    go_enter Tryz.func95, Tryz.ntmps95
    go_wp2
    go_ret
    exact ⟨false, rfl, ⟨(fun h => (by cases h)), (fun h => absurd (by rw [h]) HL.out)⟩, 0, rfl⟩

def same3 (a b : List GotR) (c d : List Nat) (e f : List ByteArray) : Prop := a = b ∧ c = d ∧ e = f

set_option maxRecDepth 100000 in
set_option maxHeartbeats 4000000 in
theorem model_same (g1 g2 : List GotR) (n1 n2 : List Nat) (m1 m2 : List ByteArray) (vg1 vg2 vn1 vn2 vm1 vm2 : Value) (w : World) (hg1 : IsGots w vg1 g1) (hg2 : IsGots w vg2 g2) (hn1 : IsNums w vn1 n1) (hn2 : IsNums w vn2 n2) (hm1 : IsStrs w vm1 m1) (hm2 : IsStrs w vm2 m2)
    (lg1 : g1.length ≤ 140737488355328) (lg2 : g2.length ≤ 140737488355328) (ln1 : n1.length ≤ 140737488355328) (ln2 : n2.length ≤ 140737488355328) (lm1 : m1.length ≤ 140737488355328) (lm2 : m2.length ≤ 140737488355328) :
    Calls Tryz.prog 68 #[.agg #[vg1, vn1, vm1], .agg #[vg2, vn2, vm2]] w fun e w' => ∃ r : Bool, e = .returned (.bool r) ∧ (r = true ↔ same3 g1 g2 n1 n2 m1 m2) ∧ Below w.heap.size w w' := by
  have HG := Lib.hid (fun W (hb : Below w.heap.size w W) => eq_gots g1 g2 vg1 vg2 W (hg1.below hb (Nat.le_refl _)) (hg2.below hb (Nat.le_refl _)) lg1 lg2)
  have HN := Lib.hid (fun W (hb : Below w.heap.size w W) => eq_nums n1 n2 vn1 vn2 W (hn1.below hb (Nat.le_refl _)) (hn2.below hb (Nat.le_refl _)) ln1 ln2)
  have HM := Lib.hid (fun W (hb : Below w.heap.size w W) => eq_strs m1 m2 vm1 vm2 W (hm1.below hb (Nat.le_refl _)) (hm2.below hb (Nat.le_refl _)) lm1 lm2)
  have o1 : vg1.oneCell' = true ∧ vn1.oneCell' = true ∧ vm1.oneCell' = true := by
    obtain ⟨a, c, rfl, _⟩ := hg1; obtain ⟨a2, c2, rfl, _⟩ := hn1; obtain ⟨a3, c3, rfl, _⟩ := hm1; exact ⟨rfl, rfl, rfl⟩
  clear hg1 hg2 hn1 hn2 hm1 hm2 lg1 lg2 ln1 ln2 lm1 lm2
  go_enter Tryz.func68, Tryz.ntmps68
  go_upto_region 1 with fail
  refine wp_abs (F := fun W => One w.heap.size #[vg1, vn1, vm1] W ∧ One (w.heap.size + 1) #[vg2, vn2, vm2] W ∧ Below w.heap.size w W) ⟨(One.of w _ 85).step ((Below.refl _ _).alloc (Nat.le_refl _) _), by simpa using One.of (w.alloc (.cells #[vg1, vn1, vm1] 85)) #[vg2, vn2, vm2] 85, ((Below.refl _ _).alloc (Nat.le_refl _) _).alloc (by simp) _⟩ ?_
  rintro W ⟨hO1, hO2, hb⟩
  have a0 := hO1.c 0; have a1 := hO1.c 1; have a2 := hO1.c 2
  have b0 := hO2.c 0; have b1 := hO2.c 1; have b2 := hO2.c 2
  simp at a0 a1 a2 b0 b1 b2
  have Hb := Lib.hid hb
  clear hO1 hO2 hb
  go_wp2_with fail
  refine (HG.out _ Hb.out).mono ?_
  rintro e w1 ⟨r1, rfl, hr1, q1, rfl⟩
  have R1 := Lib.hid hr1; clear hr1
  cases r1 with
  | false =>
    go_wp2_with fail
    go_ret
    exact ⟨false, rfl, ⟨(fun h => (by cases h)), (fun h => (by have := R1.out.2 h.1; cases this))⟩, below_dn Hb.out _⟩
  | true =>
    go_wp2_with fail
    refine (HN.out _ (below_dn Hb.out _)).mono ?_
    rintro e w2 ⟨r2, rfl, hr2, q2, rfl⟩
    have R2 := Lib.hid hr2; clear hr2
    cases r2 with
    | false =>
      go_wp2_with fail
      go_ret
      exact ⟨false, rfl, ⟨(fun h => (by cases h)), (fun h => (by have := R2.out.2 h.2.1; cases this))⟩, by first | exact below_dn Hb.out _ | exact below_dn (below_dn Hb.out _) _⟩
    | true =>
      go_wp2_with fail
      refine (HM.out _ (by first | exact below_dn Hb.out _ | exact below_dn (below_dn Hb.out _) _)).mono ?_
      rintro e w3 ⟨r3, rfl, hr3, q3, rfl⟩
      have R3 := Lib.hid hr3; clear hr3
      go_wp2_with fail
      go_ret
      exact ⟨r3, rfl, ⟨(fun h => ⟨R1.out.1 (by trivial), R2.out.1 (by trivial), R3.out.1 h⟩), (fun h => R3.out.2 h.2.2)⟩, by first | exact below_dn Hb.out _ | exact below_dn (below_dn Hb.out _) _ | exact below_dn (below_dn (below_dn Hb.out _) _) _⟩

end Go.Proofs.YtfbgnpfhjbiikaaGreatDoor

namespace Go.Proofs.YtfbgnpfhjbiikaaGreatDoor
open Go Go.RowKit
structure Actm where
  es : List Edt
  rs : List (ByteArray × Cel)
  ps : Nat
def dA : Actm := ⟨[], [], 0⟩
def IsAct (w : World) (b off : Nat) (a : Actm) : Prop :=
  ∃ ve vr pa pc, w.cell? ⟨b, off + 1, none⟩ = some ve ∧ IsEdts w ve a.es ∧ w.cell? ⟨b, off + 2, none⟩ = some vr ∧ IsRows w vr a.rs ∧ w.cell? ⟨b, off + 3, none⟩ = some (.slice pa a.ps pc)
theorem IsAct.below {w w' : World} {b off : Nat} {a : Actm} (h : IsAct w b off a) (hb : Below w.heap.size w w') (hlt : b < w.heap.size) : IsAct w' b off a := by
  obtain ⟨ve, vr, pa, pc, h1, h2, h3, h4, h5⟩ := h
  exact ⟨ve, vr, pa, pc, (hb.cell hlt).trans h1, h2.below hb (Nat.le_refl _), (hb.cell hlt).trans h3, h4.below hb (Nat.le_refl _), (hb.cell hlt).trans h5⟩
def Light (S : Nat) (a : Actm) : Prop := a.es.length ≤ S ∧ a.rs.length ≤ S ∧ a.ps ≤ S ∧ (∀ i, i < a.es.length → (a.es.getD i dE).path.size ≤ S ∧ (a.es.getD i dE).text.size ≤ S) ∧
  (∀ i, i < a.rs.length → (a.rs.getD i dR).2.l.length ≤ S ∧ ∀ j, j < (a.rs.getD i dR).2.l.length → ((a.rs.getD i dR).2.l.getD j dV).tx.size ≤ S)
def totW : List Actm → Nat
  | [] => 0
  | a :: t => 8 * (a.es.length + a.rs.length + a.ps) + totW t
end Go.Proofs.YtfbgnpfhjbiikaaGreatDoor

namespace Go.Proofs.YtfbgnpfhjbiikaaGreatDoor
open Go Go.RowKit
set_option maxRecDepth 100000 in
set_option maxHeartbeats 2000000 in
theorem ref18_same (m : List (ByteArray × Cel)) (v1 v2 : Value) (w : World) (h1 : IsRows w v1 m) (h2 : IsRows w v2 m) (hl : m.length ≤ 1099511627776) (hc : ∀ i, i < m.length → (m.getD i dR).2.l.length ≤ 65536) :
    Calls Tryz.prog 15 #[v1, v2] w fun e w' => e = .returned (.bool true) ∧ Below w.heap.size w w' := by
  obtain ⟨a1, cap1, rfl, hc1⟩ := h1
  obtain ⟨a2, cap2, rfl, hc2⟩ := h2
  have Hc1 := Lib.hid hc1; have Hc2 := Lib.hid hc2; have Hcl := Lib.hid hc; clear hc1 hc2 hc
  have hLB : ((m.length : Int) != (m.length : Int)) = false := by simp
  go_enter Tryz.func15, Tryz.ntmps15
  go_wp2_with fail
  go_loopw [5] (fun i wr => ∃ k : Nat, k ≤ m.length ∧ i = .int .i64 k ∧ Hid (Below w.heap.size w wr)) (fun i _ => m.length - (intOf i).toNat)
  case atStart => exact ⟨0, Nat.zero_le _, rfl, Lib.hid (Below.refl _ _)⟩
  case round =>
    obtain ⟨k, hk, rfl, Hbw⟩ := hrel
    by_cases hlt : k < m.length
    · rcases Hc1.out with hn | ⟨b1, o1, rfl, hl1, hcc1⟩
      · subst hn; simp at hlt
      rcases Hc2.out with hn | ⟨b2, o2, rfl, hl2, hcc2⟩
      · subst hn; simp at hlt
      have hlt2 : (k : Int) < (m.length : Int) := by omega
      obtain ⟨g1, g2, s1, g3, hs1⟩ := hcc1 k hlt
      obtain ⟨g4, g5, s2, g6, hs2⟩ := hcc2 k hlt
      have hcl := Hcl.out k hlt
      obtain ⟨x, hx⟩ : ∃ x, x = m.getD k dR := ⟨_, rfl⟩
      rw [← hx] at g1 g2 hs1 g4 g5 hs2 hcl
      clear hx hcc1 hcc2
      have HS1 := Lib.hid hs1; have HS2 := Lib.hid hs2
      obtain ⟨va, vc, rfl, _⟩ := hs1
      obtain ⟨ua, uc, rfl, _⟩ := hs2
      have HS : Hid (∀ w', Below wr.heap.size wr w' → Calls Tryz.prog 50 #[.agg #[.int .u64 x.2.last, .slice va x.2.l.length vc], .agg #[.int .u64 x.2.last, .slice ua x.2.l.length uc]] w' fun e w'' => e = .returned (.bool true) ∧ Below w'.heap.size w' w'') :=
        Lib.hid (fun w' hb => ref17_same x.2 _ _ w' (HS1.out.below (Hbw.out.trans (hb.mono Hbw.out.size)) (Nat.le_refl _)) (HS2.out.below (Hbw.out.trans (hb.mono Hbw.out.size)) (Nat.le_refl _)) hcl)
      have keepS : Hid (∀ w', Below wr.heap.size wr w' → w'.cell? ⟨b1, o1 + k * 3, none⟩ = some (.string x.1) ∧ w'.cell? ⟨b1, o1 + k * 3 + 1, none⟩ = some (.int .u64 x.2.last) ∧ w'.cell? ⟨b1, o1 + k * 3 + 2, none⟩ = some (.slice va x.2.l.length vc) ∧ w'.cell? ⟨b2, o2 + k * 3, none⟩ = some (.string x.1) ∧ w'.cell? ⟨b2, o2 + k * 3 + 1, none⟩ = some (.int .u64 x.2.last) ∧ w'.cell? ⟨b2, o2 + k * 3 + 2, none⟩ = some (.slice ua x.2.l.length uc) ∧ Hid (Below wr.heap.size wr w')) := Lib.hid (fun w' h => by
        have hb := Hbw.out.trans (h.mono Hbw.out.size)
        exact ⟨(hb.cell hl1).trans g1, (hb.cell hl1).trans g2, (hb.cell hl1).trans g3, (hb.cell hl2).trans g4, (hb.cell hl2).trans g5, (hb.cell hl2).trans g6, Lib.hid h⟩)
      have keepB : Hid (∀ w' : World, (w'.cell? ⟨b1, o1 + k * 3, none⟩ = some (.string x.1) ∧ w'.cell? ⟨b1, o1 + k * 3 + 1, none⟩ = some (.int .u64 x.2.last) ∧ w'.cell? ⟨b1, o1 + k * 3 + 2, none⟩ = some (.slice va x.2.l.length vc) ∧ w'.cell? ⟨b2, o2 + k * 3, none⟩ = some (.string x.1) ∧ w'.cell? ⟨b2, o2 + k * 3 + 1, none⟩ = some (.int .u64 x.2.last) ∧ w'.cell? ⟨b2, o2 + k * 3 + 2, none⟩ = some (.slice ua x.2.l.length uc) ∧ Hid (Below wr.heap.size wr w')) → Below wr.heap.size wr w') := Lib.hid (fun w' h => h.2.2.2.2.2.2.out)
      have hB : (x.1.toList == x.1.toList) = true := by simp
      clear g1 g2 g3 g4 g5 g6
      go_wp2_with fail
      refine wp_region_quiet (C := fun w' => w'.cell? ⟨b1, o1 + k * 3, none⟩ = some (.string x.1) ∧ w'.cell? ⟨b1, o1 + k * 3 + 1, none⟩ = some (.int .u64 x.2.last) ∧ w'.cell? ⟨b1, o1 + k * 3 + 2, none⟩ = some (.slice va x.2.l.length vc) ∧ w'.cell? ⟨b2, o2 + k * 3, none⟩ = some (.string x.1) ∧ w'.cell? ⟨b2, o2 + k * 3 + 1, none⟩ = some (.int .u64 x.2.last) ∧ w'.cell? ⟨b2, o2 + k * 3 + 2, none⟩ = some (.slice ua x.2.l.length uc) ∧ Hid (Below wr.heap.size wr w')) (by kernel_rfl) (by kernel_rfl) (keepS.out _ (Below.drew (Below.refl _ _))) ?_
      refine quiet_plain rfl (Value.slice (some ⟨b1, o1, none⟩) m.length cap1) (fun w' hw' => ?_) ?_
      · obtain ⟨f1, f2, f3, f4, f5, f6, f7⟩ := hw'
        go_simp
      go_frame
      refine quiet_plain rfl (Value.int .i64 k) (fun w' hw' => ?_) ?_
      · obtain ⟨f1, f2, f3, f4, f5, f6, f7⟩ := hw'
        go_simp
      go_frame
      refine quiet_plain rfl (Value.pointer (some ⟨b1, o1 + k * 3, none⟩)) (fun w' hw' => ?_) ?_
      · obtain ⟨f1, f2, f3, f4, f5, f6, f7⟩ := hw'
        go_simp
      go_frame
      refine quiet_plain rfl (Value.pointer (some ⟨b1, o1 + k * 3, none⟩)) (fun w' hw' => ?_) ?_
      · obtain ⟨f1, f2, f3, f4, f5, f6, f7⟩ := hw'
        go_simp
      go_frame
      refine quiet_plain rfl (Value.string x.1) (fun w' hw' => ?_) ?_
      · obtain ⟨f1, f2, f3, f4, f5, f6, f7⟩ := hw'
        go_simp
      go_frame
      refine quiet_plain rfl (Value.slice (some ⟨b2, o2, none⟩) m.length cap2) (fun w' hw' => ?_) ?_
      · obtain ⟨f1, f2, f3, f4, f5, f6, f7⟩ := hw'
        go_simp
      go_frame
      refine quiet_plain rfl (Value.int .i64 k) (fun w' hw' => ?_) ?_
      · obtain ⟨f1, f2, f3, f4, f5, f6, f7⟩ := hw'
        go_simp
      go_frame
      refine quiet_plain rfl (Value.pointer (some ⟨b2, o2 + k * 3, none⟩)) (fun w' hw' => ?_) ?_
      · obtain ⟨f1, f2, f3, f4, f5, f6, f7⟩ := hw'
        go_simp
      go_frame
      refine quiet_plain rfl (Value.pointer (some ⟨b2, o2 + k * 3, none⟩)) (fun w' hw' => ?_) ?_
      · obtain ⟨f1, f2, f3, f4, f5, f6, f7⟩ := hw'
        go_simp
      go_frame
      refine quiet_plain rfl (Value.string x.1) (fun w' hw' => ?_) ?_
      · obtain ⟨f1, f2, f3, f4, f5, f6, f7⟩ := hw'
        go_simp
      go_frame
      refine quiet_plain rfl (Value.bool false) (fun w' hw' => ?_) ?_
      · obtain ⟨f1, f2, f3, f4, f5, f6, f7⟩ := hw'
        go_simp
      go_frame
      refine quiet_plain rfl (Value.bool false) (fun w' hw' => ?_) ?_
      · obtain ⟨f1, f2, f3, f4, f5, f6, f7⟩ := hw'
        go_simp
      go_frame
      refine quiet_plain' (by rfl) (Value.slice (some ⟨b1, o1, none⟩) m.length cap1) (fun w' hw' => ?_) ?_
      · obtain ⟨f1, f2, f3, f4, f5, f6, f7⟩ := hw'
        go_simp
      go_frame
      refine quiet_plain' (by rfl) (Value.int .i64 k) (fun w' hw' => ?_) ?_
      · obtain ⟨f1, f2, f3, f4, f5, f6, f7⟩ := hw'
        go_simp
      go_frame
      refine quiet_plain' (by rfl) (Value.pointer (some ⟨b1, o1 + k * 3, none⟩)) (fun w' hw' => ?_) ?_
      · obtain ⟨f1, f2, f3, f4, f5, f6, f7⟩ := hw'
        go_simp
      go_frame
      refine quiet_plain' (by rfl) (Value.pointer (some ⟨b1, o1 + k * 3 + 1, none⟩)) (fun w' hw' => ?_) ?_
      · obtain ⟨f1, f2, f3, f4, f5, f6, f7⟩ := hw'
        go_simp
      go_frame
      refine quiet_plain' (by rfl) (Value.agg #[.int .u64 x.2.last, .slice va x.2.l.length vc]) (fun w' hw' => ?_) ?_
      · obtain ⟨f1, f2, f3, f4, f5, f6, f7⟩ := hw'
        go_simp
      go_frame
      refine quiet_plain' (by rfl) (Value.slice (some ⟨b2, o2, none⟩) m.length cap2) (fun w' hw' => ?_) ?_
      · obtain ⟨f1, f2, f3, f4, f5, f6, f7⟩ := hw'
        go_simp
      go_frame
      refine quiet_plain' (by rfl) (Value.int .i64 k) (fun w' hw' => ?_) ?_
      · obtain ⟨f1, f2, f3, f4, f5, f6, f7⟩ := hw'
        go_simp
      go_frame
      refine quiet_plain' (by rfl) (Value.pointer (some ⟨b2, o2 + k * 3, none⟩)) (fun w' hw' => ?_) ?_
      · obtain ⟨f1, f2, f3, f4, f5, f6, f7⟩ := hw'
        go_simp
      go_frame
      refine quiet_plain' (by rfl) (Value.pointer (some ⟨b2, o2 + k * 3 + 1, none⟩)) (fun w' hw' => ?_) ?_
      · obtain ⟨f1, f2, f3, f4, f5, f6, f7⟩ := hw'
        go_simp
      go_frame
      refine quiet_plain' (by rfl) (Value.agg #[.int .u64 x.2.last, .slice ua x.2.l.length uc]) (fun w' hw' => ?_) ?_
      · obtain ⟨f1, f2, f3, f4, f5, f6, f7⟩ := hw'
        go_simp
      go_frame
      refine quiet_call' (by rfl) (Value.bool true) 50 #[Value.agg #[.int .u64 x.2.last, .slice va x.2.l.length vc], Value.agg #[.int .u64 x.2.last, .slice ua x.2.l.length uc]] (fun w' hw' => ⟨?_, ?_⟩) ?_
      · obtain ⟨f1, f2, f3, f4, f5, f6, f7⟩ := hw'
        go_simp
      · exact (HS.out w' (keepB.out _ hw')).mono (fun e w6 ⟨he, hb⟩ => ⟨he, keepS.out _ ((keepB.out _ hw').trans (hb.mono (keepB.out _ hw').size))⟩)
      go_frame
      refine quiet_plain' (by rfl) (Value.bool false) (fun w' hw' => ?_) ?_
      · obtain ⟨f1, f2, f3, f4, f5, f6, f7⟩ := hw'
        go_simp
      go_frame
      refine quiet_plain rfl (Value.bool false) (fun w' hw' => ?_) ?_
      · obtain ⟨f1, f2, f3, f4, f5, f6, f7⟩ := hw'
        go_simp
      go_frame
      refine wpQuiet_nil ?_
      intro w' hw'
      have hbx := Lib.hid (keepB.out _ hw')
      clear hw'
      go_wp2_with fail
      go_roundw
      case rel => exact ⟨k + 1, by omega, by go_num, Lib.hid (Hbw.out.trans (hbx.out.mono Hbw.out.size))⟩
      case measure => simp [intOf]; omega
    · have hge : (m.length : Int) ≤ (k : Int) := by omega
      go_wp2_with fail
      go_ret
      exact ⟨rfl, Hbw.out⟩
end Go.Proofs.YtfbgnpfhjbiikaaGreatDoor

namespace Go.Proofs.YtfbgnpfhjbiikaaGreatDoor
open Go Go.ChangeShapes Go.WideShapes Go.ChangeAt Go.RowKit
theorem list6 {α : Type} {l : List α} (h : l.length = 6) : ∃ c0 c1 c2 c3 c4 c5, l = [c0, c1, c2, c3, c4, c5] := by
  match l, h with
  | [c0, c1, c2, c3, c4, c5], _ => exact ⟨c0, c1, c2, c3, c4, c5, rfl⟩
def edtData {H : Type} (e : Edt) : DataW H := .agg [.lit (.int .u8 e.kind), .lit (.string e.path.data.toList), .lit (.bool e.any), .lit (.int .u64 e.want), .lit (.int .u64 e.n), .lit (.string e.text.data.toList)]
def edtCells (e : Edt) : List Value := [.int .u8 e.kind, .string e.path, .bool e.any, .int .u64 e.want, .int .u64 e.n, .string e.text]
theorem cU8 : Tryz.prog.cellsOf 5 = 1 := by kernel_rfl
theorem cStr : Tryz.prog.cellsOf 9 = 1 := by kernel_rfl
theorem cBool : Tryz.prog.cellsOf 4 = 1 := by kernel_rfl
theorem cU64 : Tryz.prog.cellsOf 43 = 1 := by kernel_rfl
theorem cEdt : Tryz.prog.cellsOf 55 = 6 := by kernel_rfl
theorem wfNat8 {z : Int} (h : (Lit.int .u8 z).wf = true) : ∃ n : Nat, z = n := by
  refine ⟨z.toNat, ?_⟩
  simp only [Lit.wf, Bool.and_eq_true, decide_eq_true_eq] at h
  have h1 := h.1
  rw [show IntKind.min .u8 = 0 from rfl] at h1
  omega
theorem wfNat64 {z : Int} (h : (Lit.int .u64 z).wf = true) : ∃ n : Nat, z = n := by
  refine ⟨z.toNat, ?_⟩
  simp only [Lit.wf, Bool.and_eq_true, decide_eq_true_eq] at h
  have h1 := h.1
  rw [show IntKind.min .u64 = 0 from rfl] at h1
  omega
section
variable {H : Type} {enc : TypeId × Value → H} {w : World} {base : Nat} {sp : Nat → Bool} {held : Bool}
theorem trod_edt {fuel : Nat} {cs : List Value} {x : DataW H × List MemPlace} (h : DataW.trod enc Tryz.prog w base sp held fuel 55 cs = some x) : ∃ e : Edt, cs = edtCells e ∧ x = (edtData e, []) := by
  obtain ⟨xs, n, _, rfl, hl, hlen, hf⟩ := DataW.trod_struct Tryz.underlying55 h
  rw [cEdt] at hl
  obtain ⟨c0, c1, c2, c3, c4, c5, rfl⟩ := list6 hl
  obtain ⟨y0, y1, y2, y3, y4, y5, rfl⟩ := list6 hlen
  have h0 : DataW.trod enc Tryz.prog w base sp held n 5 [c0] = some y0 := by simpa [cU8] using hf 0 _ rfl
  have h1 : DataW.trod enc Tryz.prog w base sp held n 9 [c1] = some y1 := by simpa [cStr] using hf 1 _ rfl
  have h2 : DataW.trod enc Tryz.prog w base sp held n 4 [c2] = some y2 := by simpa [cBool] using hf 2 _ rfl
  have h3 : DataW.trod enc Tryz.prog w base sp held n 43 [c3] = some y3 := by simpa [cU64] using hf 3 _ rfl
  have h4 : DataW.trod enc Tryz.prog w base sp held n 43 [c4] = some y4 := by simpa [cU64] using hf 4 _ rfl
  have h5 : DataW.trod enc Tryz.prog w base sp held n 9 [c5] = some y5 := by simpa [cStr] using hf 5 _ rfl
  obtain ⟨z0, e0, rfl, w0⟩ := DataW.trod_int Tryz.underlying5 h0
  obtain ⟨s1, e1, rfl, _⟩ := DataW.trod_string Tryz.underlying9 h1
  obtain ⟨b2, e2, rfl⟩ := DataW.trod_bool Tryz.underlying4 h2
  obtain ⟨z3, e3, rfl, w3⟩ := DataW.trod_int Tryz.underlying43 h3
  obtain ⟨z4, e4, rfl, w4⟩ := DataW.trod_int Tryz.underlying43 h4
  obtain ⟨s5, e5, rfl, _⟩ := DataW.trod_string Tryz.underlying9 h5
  obtain ⟨n0, rfl⟩ := wfNat8 w0
  obtain ⟨n3, rfl⟩ := wfNat64 w3
  obtain ⟨n4, rfl⟩ := wfNat64 w4
  refine ⟨⟨n0, s1, b2, n3, n4, s5⟩, ?_, ?_⟩
  · simp only [List.cons.injEq, and_true] at e0 e1 e2 e3 e4 e5
    rw [e0, e1, e2, e3, e4, e5]; rfl
  · first | rfl | simp [edtData]
end
section
variable {H : Type} {enc : TypeId × Value → H} {w : World} {base : Nat} {sp : Nat → Bool} {held : Bool}
end
end Go.Proofs.YtfbgnpfhjbiikaaGreatDoor

namespace Go.Proofs.YtfbgnpfhjbiikaaGreatDoor
open Go Go.RowKit
open Go.Maps (has size Canon CanonK Tidy IsMap KeysOf Keyed Merged)
def Bare (w : World) (k : Nat) : Prop := ∀ o v, w.cell? ⟨k, o, none⟩ = some v → (∀ n, v ≠ .int .u64 n) ∧ ∀ s, v ≠ .string s
theorem Bare.noVers {w : World} {k : Nat} (h : Bare w k) : NoVers w k := fun o n _s h1 _ => (h o _ h1).1 n rfl
theorem CelMap.bare {w : World} {b : Nat} {M : DataW Cel} (h : CelMap w b M) : Bare w b := by
  obtain ⟨D, ho, _⟩ := h
  intro o v h1
  rw [ownsMap_none ho] at h1; cases h1
theorem TabAt.bare {w : World} {t b : Nat} {q1 q2 B : Int} {M : DataW Cel} (h : TabAt w t b q1 q2 M B) : Bare w t := by
  intro o v h1
  rcases (show o = 0 ∨ o = 1 ∨ o = 2 ∨ o = 3 ∨ ∃ j, o = j + 4 from by rcases o with _ | _ | _ | _ | j <;> simp) with rfl | rfl | rfl | rfl | ⟨j, rfl⟩
  · rw [h.c0] at h1; cases h1; exact ⟨fun n => (by simp), fun s => (by simp)⟩
  · rw [h.c1] at h1; cases h1; exact ⟨fun n => (by simp), fun s => (by simp)⟩
  · rw [h.c2] at h1; cases h1; exact ⟨fun n => (by simp), fun s => (by simp)⟩
  · rw [h.c3] at h1; cases h1; exact ⟨fun n => (by simp), fun s => (by simp)⟩
  · rw [h.c4] at h1; cases h1
theorem IsRows.but {S : Nat → Prop} {w w' : World} {v : Value} {l : List (ByteArray × Cel)} (h : IsRows w v l) (hb : ButS S w w') (hS : ∀ k, S k → Bare w k) : IsRows w' v l := by
  obtain ⟨a, cap, hv, h⟩ := h
  refine ⟨a, cap, hv, ?_⟩
  rcases h with h | ⟨b2, off, ha, hlt, hc⟩
  · exact Or.inl h
  · by_cases hl : l = []
    · exact Or.inl hl
    have hn : ¬ S b2 := by
      intro hs
      obtain ⟨h1, _⟩ := hc 0 (List.length_pos_iff.2 hl)
      exact (hS b2 hs _ _ h1).2 _ rfl
    refine Or.inr ⟨b2, off, ha, by have := hb.size; omega, fun i hi => ?_⟩
    obtain ⟨h1, h2, s, h3, hs⟩ := hc i hi
    exact ⟨(hb.cell hlt hn).trans h1, (hb.cell hlt hn).trans h2, s, (hb.cell hlt hn).trans h3, hs.but hb (fun k hk => (hS k hk).noVers)⟩
theorem IsNums.but {S : Nat → Prop} {w w' : World} {v : Value} {l : List Nat} (h : IsNums w v l) (hb : ButS S w w') (hS : ∀ k, S k → Bare w k) : IsNums w' v l := by
  obtain ⟨a, cap, hv, h⟩ := h
  refine ⟨a, cap, hv, ?_⟩
  rcases h with h | ⟨b2, off, ha, hlt, hc⟩
  · exact Or.inl h
  · by_cases hl : l = []
    · exact Or.inl hl
    have hn : ¬ S b2 := by
      intro hs
      exact (hS b2 hs _ _ (hc 0 (List.length_pos_iff.2 hl))).1 _ rfl
    exact Or.inr ⟨b2, off, ha, by have := hb.size; omega, fun i hi => (hb.cell hlt hn).trans (hc i hi)⟩

def nextM (r : (Nat × Nat) × DataW Cel × List Nat × Int) (M : DataW Cel) : DataW Cel := if r.1.2 = 0 then r.2.1 else M
def nextB (r : (Nat × Nat) × DataW Cel × List Nat × Int) (B : Int) : Int := if r.1.2 = 0 then r.2.2.2 else B
def nextV (r : (Nat × Nat) × DataW Cel × List Nat × Int) : List Nat := if r.1.2 = 0 then r.2.2.1 else []
def AppGives (r : (Nat × Nat) × DataW Cel × List Nat × Int) (M : DataW Cel) (B : Int) (t b : Nat) (q1 q2 : Int) (w : World) (e : Ending) (w' : World) : Prop :=
  ∃ v, e = .returned (.tuple #[v, .int .i64 r.1.1, .int .i64 r.1.2]) ∧ w'.ownsRow w.heap.size 43 1 v (nextV r).length ((nextV r).map (fun n : Nat => Value.int .u64 n)) ∧ TabAt w' t b q1 q2 (nextM r M) (nextB r B) ∧ ButS (fun k => k = t ∨ k = b) w w'
theorem tab_app (w : World) {t b : Nat} {q1 q2 B : Int} {M : DataW Cel} (h : TabAt w t b q1 q2 M B) (hg : Good Tryz.prog 9 M) (hm : MX w) (v : Value) (l : List Edt) (hv : IsEdts w v l) (hl : l.length ≤ 1048576)
    (hsM : size M ≤ 1073741824) (hB0 : -1125899906842624 ≤ B) (hB1 : B ≤ 1125899906842624) (hp : ∀ i, i < l.length → (l.getD i dE).path.size ≤ 140737488351232 ∧ (l.getD i dE).text.size ≤ 9223372036854775807) :
    Calls Tryz.prog 16 #[.pointer (some ⟨t, 0, none⟩), v] w (AppGives (triedT M B q1 q2 l) M B t b q1 q2 w) := by
  refine (tab_apply w h hg hm v l hv hl hsM hB0 hB1 hp).mono fun e w' hh => ?_
  rcases hh with ⟨h0, rfl, hb⟩ | ⟨h0, v1, rfl, hown, hT, hb⟩
  · refine ⟨.slice none 0 0, rfl, ?_, ?_, ButS.of hb⟩
    · unfold nextV; rw [if_neg h0]; exact World.ownsRow_nil _ _ _ _
    · unfold nextM nextB; rw [if_neg h0, if_neg h0]; exact h.below hb
  · refine ⟨v1, ?_, ?_, ?_, hb⟩
    · rw [tried_zero h0]; rfl
    · unfold nextV; rw [if_pos h0]; exact hown
    · unfold nextM nextB; rw [if_pos h0, if_pos h0]; exact hT

theorem next_good {M : DataW Cel} {B q1 q2 : Int} {l : List Edt} (hg : Good Tryz.prog 9 M) : Good Tryz.prog 9 (nextM (triedT M B q1 q2 l) M) ∧ size (nextM (triedT M B q1 q2 l) M) ≤ size M + l.length ∧
    B - l.length * 33000 ≤ nextB (triedT M B q1 q2 l) B ∧ nextB (triedT M B q1 q2 l) B ≤ B + l.length * 33000 := by
  obtain ⟨a1, a2, a3, a4⟩ := runT_facts Tryz.underlying9 l (vs := []) (B := B) (i := 0) hg
  rw [← tried_eq (q1 := q1) (q2 := q2)] at a1 a2 a3 a4
  unfold nextM nextB
  split
  · exact ⟨a1, a2, a3, a4⟩
  · refine ⟨hg, by omega, ?_, ?_⟩ <;> omega
end Go.Proofs.YtfbgnpfhjbiikaaGreatDoor

namespace Go.Proofs.YtfbgnpfhjbiikaaGreatDoor
open Go Go.RowKit
def AllU (w : World) (o : Option Nat) : Prop := ∀ g, o = some g → ∀ j u, w.cell? ⟨g, j, none⟩ = some u → ∃ n : Int, u = .int .u64 n
theorem AllU.noVers {w : World} {o : Option Nat} (h : AllU w o) : ∀ k, some k = o → NoVers w k := by
  intro k hk o' n s _ h2
  obtain ⟨m, hm⟩ := h k hk.symm _ _ h2
  cases hm
def NoStr (w : World) (k : Nat) : Prop := ∀ o s, w.cell? ⟨k, o, none⟩ ≠ some (.string s)
theorem Bare.noStr {w : World} {k : Nat} (h : Bare w k) : NoStr w k := fun o s e => (h o _ e).2 s rfl
theorem AllU.noStr {w : World} {o : Option Nat} (h : AllU w o) : ∀ k, some k = o → NoStr w k := by
  intro k hk o' s e
  obtain ⟨m, hm⟩ := h k hk.symm _ _ e
  cases hm
theorem IsRows.but2 {S : Nat → Prop} {w w' : World} {v : Value} {l : List (ByteArray × Cel)} (h : IsRows w v l) (hb : ButS S w w') (hS : ∀ k, S k → NoStr w k ∧ NoVers w k) : IsRows w' v l := by
  obtain ⟨a, cap, hv, h⟩ := h
  refine ⟨a, cap, hv, ?_⟩
  rcases h with h | ⟨b2, off, ha, hlt, hc⟩
  · exact Or.inl h
  · by_cases hl : l = []
    · exact Or.inl hl
    have hn : ¬ S b2 := by
      intro hs
      obtain ⟨h1, _⟩ := hc 0 (List.length_pos_iff.2 hl)
      exact (hS b2 hs).1 _ _ h1
    refine Or.inr ⟨b2, off, ha, by have := hb.size; omega, fun i hi => ?_⟩
    obtain ⟨h1, h2, s, h3, hs⟩ := hc i hi
    exact ⟨(hb.cell hlt hn).trans h1, (hb.cell hlt hn).trans h2, s, (hb.cell hlt hn).trans h3, hs.but hb (fun k hk => (hS k hk).2)⟩
theorem IsNums.but2 {S : Nat → Prop} {w w' : World} {v : Value} {l : List Nat} (h : IsNums w v l) (hb : ButS S w w') (hS : ∀ k, S k → v.ownBlock ≠ some k) : IsNums w' v l := by
  obtain ⟨a, cap, hv, h⟩ := h
  refine ⟨a, cap, hv, ?_⟩
  rcases h with h | ⟨b2, off, ha, hlt, hc⟩
  · exact Or.inl h
  · have hn : ¬ S b2 := fun hs => hS b2 hs (by rw [hv, ha]; rfl)
    exact Or.inr ⟨b2, off, ha, by have := hb.size; omega, fun i hi => (hb.cell hlt hn).trans (hc i hi)⟩
theorem AllU.but {S : Nat → Prop} {w w' : World} {o : Option Nat} (h : AllU w o) (hb : ButS S w w') (hS : ∀ g, o = some g → ¬ S g ∧ g < w.heap.size) : AllU w' o := by
  intro g hg j u hu
  obtain ⟨h1, h2⟩ := hS g hg
  exact h g hg j u ((hb.cell (p := ⟨g, j, none⟩) h2 h1).symm.trans hu)
section
variable {P : Program} {w : World}
end
end Go.Proofs.YtfbgnpfhjbiikaaGreatDoor

namespace Go.Proofs.YtfbgnpfhjbiikaaGreatDoor
open Go Go.ChangeShapes Go.WideShapes Go.ChangeAt Go.RowKit
theorem getD_mem {α : Type} {l : List α} {k : Nat} {d : α} (h : k < l.length) : l.getD k d ∈ l := by
  rw [List.getD_eq_getElem?_getD, List.getElem?_eq_getElem h]; exact List.getElem_mem h
theorem list3 {α : Type} {l : List α} (h : l.length = 3) : ∃ c0 c1 c2, l = [c0, c1, c2] := by
  match l, h with
  | [c0, c1, c2], _ => exact ⟨c0, c1, c2, rfl⟩
theorem list2 {α : Type} {l : List α} (h : l.length = 2) : ∃ c0 c1, l = [c0, c1] := by
  match l, h with
  | [c0, c1], _ => exact ⟨c0, c1, rfl⟩
def verData {H : Type} (v : Ver) : DataW H := .agg [.lit (.int .u64 v.n), .lit (.int .u8 v.st), .lit (.string v.tx.data.toList)]
theorem cVer : Tryz.prog.cellsOf 50 = 3 := by kernel_rfl
theorem wfLt64 {n : Nat} (h : (Lit.int .u64 (n : Int)).wf = true) : n < 18446744073709551616 := by
  simp only [Lit.wf, Bool.and_eq_true, decide_eq_true_eq] at h
  have h1 := h.2
  rw [show IntKind.max .u64 = 18446744073709551615 from rfl] at h1
  omega
theorem addrThree {a : Addr} (h : a = ⟨a.block, a.off, none⟩) (i j : Nat) : (a.add i).add j = ⟨a.block, a.off + i + j, none⟩ := by
  rw [h, addrAdd, addrAdd]
section
variable {H : Type} {enc : TypeId × Value → H} {w : World} {base : Nat} {sp : Nat → Bool} {held : Bool}
theorem trod_ver {fuel : Nat} {cs : List Value} {x : DataW H × List MemPlace} (h : DataW.trod enc Tryz.prog w base sp held fuel 50 cs = some x) : ∃ v : Ver, cs = [.int .u64 v.n, .int .u8 v.st, .string v.tx] ∧ x.1 = verData v ∧ v.n < 18446744073709551616 := by
  obtain ⟨xs, n, _, rfl, hl, hlen, hf⟩ := DataW.trod_struct Tryz.underlying50 h
  rw [cVer] at hl
  obtain ⟨c0, c1, c2, rfl⟩ := list3 hl
  obtain ⟨y0, y1, y2, rfl⟩ := list3 hlen
  have h0 : DataW.trod enc Tryz.prog w base sp held n 43 [c0] = some y0 := by simpa [cU64] using hf 0 _ rfl
  have h1 : DataW.trod enc Tryz.prog w base sp held n 5 [c1] = some y1 := by simpa [cU8] using hf 1 _ rfl
  have h2 : DataW.trod enc Tryz.prog w base sp held n 9 [c2] = some y2 := by simpa [cStr] using hf 2 _ rfl
  obtain ⟨z0, e0, rfl, w0⟩ := DataW.trod_int Tryz.underlying43 h0
  obtain ⟨z1, e1, rfl, w1⟩ := DataW.trod_int Tryz.underlying5 h1
  obtain ⟨s2, e2, rfl, _⟩ := DataW.trod_string Tryz.underlying9 h2
  obtain ⟨n0, rfl⟩ := wfNat64 w0
  obtain ⟨n1, rfl⟩ := wfNat8 w1
  refine ⟨⟨n0, n1, s2⟩, ?_, rfl, wfLt64 w0⟩
  simp only [List.cons.injEq, and_true] at e0 e1 e2
  rw [e0, e1, e2]
def RowsWf (l : List (ByteArray × Cel)) : Prop := ∀ i, i < l.length → (l.getD i dR).2.last < 18446744073709551616
end
theorem mem_weightsAll {H : Type} {P : Program} {e : TypeId} {n : Nat} : ∀ {ds : List (DataW H)} {d : DataW H}, d ∈ ds → n ∈ d.weights P e → n ∈ DataW.weightsAll P e ds
  | [], _, h, _ => by cases h
  | a :: r, d, h, hn => by
    rw [DataW.weightsAll, List.mem_append]
    rcases List.mem_cons.1 h with rfl | h
    · left; exact hn
    · right; exact mem_weightsAll h hn
end Go.Proofs.YtfbgnpfhjbiikaaGreatDoor

namespace Go.Proofs.YtfbgnpfhjbiikaaGreatDoor
open Go Go.RowKit
open Pth
open Go.Maps (has size Canon CanonK Tidy IsMap KeysOf Keyed Merged)
def OkRow (r : ByteArray × Cel) : Prop := mayP r.1 = true ∧ mayC r.2 = true ∧ r.2.l ≠ []
theorem Good.putRow {M : DataW Cel} (h : Good Tryz.prog 9 M) {r : ByteArray × Cel} (hr : OkRow r) (hl : r.2.last < 18446744073709551616) : Good Tryz.prog 9 (M.put (kS r.1) (.held r.2)) := by
  obtain ⟨d, a, b⟩ := hr
  have hK : KeysOf Tryz.prog 9 (kS r.1) := ⟨_, keyS Tryz.underlying9 (by have := mayP_size d; unfold maxLen; omega)⟩
  refine ⟨Maps.canonK_put strKeyed.one hK _ h.canon, fun k hk' => ?_⟩
  by_cases e : k = kS r.1
  · subst e
    exact ⟨_, _, rfl, Maps.atKey_put_same (canonK_isMap h.canon) (kS_key _) _ _, a, b, hl, d⟩
  · rw [Maps.has_put_other e] at hk'
    rw [Maps.atKey_put_other e]; exact h.cells k hk'
end Go.Proofs.YtfbgnpfhjbiikaaGreatDoor
