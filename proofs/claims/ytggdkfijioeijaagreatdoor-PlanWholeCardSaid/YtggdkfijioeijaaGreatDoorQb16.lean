/- Contract: plan.Asks of reads and edits. Law 28: copied: a call with lists of its own. -/
import Derived.Test.YtggdkfijioeijaaGreatDoorQb13
import Derived.Laws.AppendOwnNone
namespace Go.Proofs.YtggdkfijioeijaaGreatDoor
open Go Go.RowKit Pth
def rdsTo (O : Nat → Nat) (rds : List Rd) (k s : Nat) : List Rd := (rds.take k).filter (fun r => ownP O r.path == s)
def rAtTo (O : Nat → Nat) (rds : List Rd) (k s : Nat) : List Nat := (List.range k).filter (fun i => ownP O (rds.getD i dRd).path == s)
def edsTo (O : Nat → Nat) (eds : List Ed) (k s : Nat) : List Ed := (eds.take k).filter (fun r => ownP O r.path == s)
def eAtTo (O : Nat → Nat) (eds : List Ed) (k s : Nat) : List Nat := (List.range k).filter (fun i => ownP O (eds.getD i dEd).path == s)
def askTo (O : Nat → Nat) (rds : List Rd) (eds : List Ed) (k j s : Nat) : Ask := { Ask.new s with reads := rdsTo O rds k s, readAt := rAtTo O rds k s, edits := edsTo O eds j s, editAt := eAtTo O eds j s }
def Sk (O : Nat → Nat) (rds : List Rd) (eds : List Ed) (k j s : Nat) : Prop := (∃ i, i < k ∧ ownP O (rds.getD i dRd).path = s) ∨ ∃ i, i < j ∧ ownP O (eds.getD i dEd).path = s
theorem mem_take_getD {α : Type} {l : List α} {k : Nat} {x : α} (h : x ∈ l.take k) (z : α) : ∃ i, i < k ∧ l.getD i z = x := by
 obtain ⟨i, hi, rfl⟩ := List.mem_iff_getElem.1 h
 rw [List.length_take] at hi
 exact ⟨i, by omega, by rw [List.getElem_take, List.getD_eq_getElem?_getD, List.getElem?_eq_getElem (by omega)]; rfl⟩
theorem rdsTo_nil {O : Nat → Nat} {rds : List Rd} {k s : Nat} (h : ¬ ∃ i, i < k ∧ ownP O (rds.getD i dRd).path = s) : rdsTo O rds k s = [] ∧ rAtTo O rds k s = [] := by
 refine ⟨List.filter_eq_nil_iff.2 fun r hr => ?_, List.filter_eq_nil_iff.2 fun i hi => ?_⟩
 ·obtain ⟨i, hi, rfl⟩ := mem_take_getD hr dRd
  exact fun e => h ⟨i, hi, by simpa using e⟩
 ·exact fun e => h ⟨i, List.mem_range.1 hi, by simpa using e⟩
theorem edsTo_nil {O : Nat → Nat} {eds : List Ed} {k s : Nat} (h : ¬ ∃ i, i < k ∧ ownP O (eds.getD i dEd).path = s) : edsTo O eds k s = [] ∧ eAtTo O eds k s = [] := by
 refine ⟨List.filter_eq_nil_iff.2 fun r hr => ?_, List.filter_eq_nil_iff.2 fun i hi => ?_⟩
 ·obtain ⟨i, hi, rfl⟩ := mem_take_getD hr dEd
  exact fun e => h ⟨i, hi, by simpa using e⟩
 ·exact fun e => h ⟨i, List.mem_range.1 hi, by simpa using e⟩
theorem askTo_new {O : Nat → Nat} {rds : List Rd} {eds : List Ed} {k j s : Nat} (h : ¬ Sk O rds eds k j s) : askTo O rds eds k j s = Ask.new s := by
 obtain ⟨h1, h2⟩ := rdsTo_nil (fun h2 => h (Or.inl h2))
 obtain ⟨h3, h4⟩ := edsTo_nil (fun h2 => h (Or.inr h2))
 unfold askTo
 rw [h1, h2, h3, h4]; rfl
theorem Sk_read {O : Nat → Nat} {rds : List Rd} {eds : List Ed} {k j : Nat} (x : Nat) : Sk O rds eds (k + 1) j x ↔ Sk O rds eds k j x ∨ x = ownP O (rds.getD k dRd).path := by
 unfold Sk
 constructor
 ·rintro (⟨i, hi, e⟩ | h)
  ·by_cases e2 : i = k
   ·subst e2; exact Or.inr e.symm
   ·exact Or.inl (Or.inl ⟨i, by omega, e⟩)
  ·exact Or.inl (Or.inr h)
 ·rintro ((⟨i, hi, e⟩ | h) | h)
  ·exact Or.inl ⟨i, by omega, e⟩
  ·exact Or.inr h
  ·exact Or.inl ⟨k, by omega, h.symm⟩
theorem Sk_edit {O : Nat → Nat} {rds : List Rd} {eds : List Ed} {k j : Nat} (x : Nat) : Sk O rds eds k (j + 1) x ↔ Sk O rds eds k j x ∨ x = ownP O (eds.getD j dEd).path := by
 unfold Sk
 constructor
 ·rintro (h | ⟨i, hi, e⟩)
  ·exact Or.inl (Or.inl h)
  ·by_cases e2 : i = j
   ·subst e2; exact Or.inr e.symm
   ·exact Or.inl (Or.inr ⟨i, by omega, e⟩)
 ·rintro ((h | ⟨i, hi, e⟩) | h)
  ·exact Or.inl h
  ·exact Or.inr ⟨i, by omega, e⟩
  ·exact Or.inr ⟨j, by omega, h.symm⟩
theorem askTo_read {O : Nat → Nat} {rds : List Rd} {eds : List Ed} {k j s : Nat} {r : Rd} (hk : k < rds.length) (hr : rds.getD k dRd = r) (hs : ownP O r.path = s) (x : Nat) :
  (if x = s then { askTo O rds eds k j s with reads := (askTo O rds eds k j s).reads ++ [r], readAt := (askTo O rds eds k j s).readAt ++ [k] } else askTo O rds eds k j x) = askTo O rds eds (k + 1) j x := by
 have ht : rds.take (k + 1) = rds.take k ++ [r] := by
  rw [List.take_succ_eq_append_getElem hk, ← hr, List.getD_eq_getElem?_getD, List.getElem?_eq_getElem hk]; rfl
 unfold askTo rdsTo rAtTo
 by_cases e : x = s
 ·subst e
  rw [if_pos rfl, ht, List.range_succ, List.filter_append, List.filter_append, List.filter_cons_of_pos (by simpa using hs), List.filter_cons_of_pos (by rw [hr]; simpa using hs)]
  rfl
 ·rw [if_neg e, ht, List.range_succ, List.filter_append, List.filter_append, List.filter_cons_of_neg (by rw [hs]; simpa using Ne.symm e), List.filter_cons_of_neg (by rw [hr, hs]; simpa using Ne.symm e), List.filter_nil, List.append_nil, List.filter_nil, List.append_nil]
theorem askTo_edit {O : Nat → Nat} {rds : List Rd} {eds : List Ed} {k j s : Nat} {r : Ed} (hk : j < eds.length) (hr : eds.getD j dEd = r) (hs : ownP O r.path = s) (x : Nat) :
  (if x = s then { askTo O rds eds k j s with edits := (askTo O rds eds k j s).edits ++ [r], editAt := (askTo O rds eds k j s).editAt ++ [j] } else askTo O rds eds k j x) = askTo O rds eds k (j + 1) x := by
 have ht : eds.take (j + 1) = eds.take j ++ [r] := by
  rw [List.take_succ_eq_append_getElem hk, ← hr, List.getD_eq_getElem?_getD, List.getElem?_eq_getElem hk]; rfl
 unfold askTo edsTo eAtTo
 by_cases e : x = s
 ·subst e
  rw [if_pos rfl, ht, List.range_succ, List.filter_append, List.filter_append, List.filter_cons_of_pos (by simpa using hs), List.filter_cons_of_pos (by rw [hr]; simpa using hs)]
  rfl
 ·rw [if_neg e, ht, List.range_succ, List.filter_append, List.filter_append, List.filter_cons_of_neg (by rw [hs]; simpa using Ne.symm e), List.filter_cons_of_neg (by rw [hr, hs]; simpa using Ne.symm e), List.filter_nil, List.append_nil, List.filter_nil, List.append_nil]
abbrev pdR (p k n1 n2 B : Nat) (As : Ask) (v0 v1 v2 v3 : Value) (xs ys : List Value) (r : Rd) (W : World) : PD := ⟨p, 1, 2, k, n1, n2, B, 2, 56, askV As v0 v1 v2 v3, v0, v1, xs, ys, rdC r, W⟩
abbrev pdE (p k n1 n2 B : Nat) (As : Ask) (v0 v1 v2 v3 : Value) (xs ys : List Value) (r : Ed) (W : World) : PD := ⟨p, 3, 4, k, n1, n2, B, 6, 63, askV As v0 v1 v2 v3, v2, v3, xs, ys, edC r, W⟩
structure InvQ (LO T15 T16 T17 q ix : Nat) (W : World) (d : PD) (base : Array Value) (l : Nat → Bool) (t : Array Value) (W' : World) : Prop where
 size : base.size = 166
 e15 : base.getD T15 undef = .int .i64 (ix : Int)
 e16 : base.getD T16 undef = .pointer (some ⟨q, 0, none⟩)
 e17 : base.getD T17 undef = .pointer (some ⟨d.p, 0, none⟩)
 ex : ∃ f, t = FsO base LO 20 f ∧ InvP d l f W'
theorem infoRd : (Tryz.prog.info? 56).map (fun i => (i.zero, i.size, i.bytes)) = some (some (.agg #[.string ByteArray.empty, .int .u64 0]), 2, 24) := by kernel_rfl
theorem infoEd : (Tryz.prog.info? 63).map (fun i => (i.zero, i.size, i.bytes)) = some (some (.agg #[.int .u8 0, .string ByteArray.empty, .bool false, .int .u64 0, .int .u64 0, .string ByteArray.empty]), 6, 64) := by kernel_rfl
theorem infoI64 : (Tryz.prog.info? 3).map (fun i => (i.zero, i.size, i.bytes)) = some (some (.int .i64 0), 1, 8) := by kernel_rfl
def AsksG (O : Nat → Nat) (rds : List Rd) (eds : List Ed) (w : World) (e : Ending) (w' : World) : Prop :=
 ∃ (v : Value) (ss : List Nat), e = .returned (.tuple #[v, .int .i64 0]) ∧ ss.Pairwise (· < ·) ∧ (∀ s, s ∈ ss ↔ Sk O rds eds rds.length eds.length s) ∧ IsAsks w' v (ss.map (askTo O rds eds rds.length eds.length)) ∧ Below w.heap.size w w'
set_option maxRecDepth 100000 in
set_option maxHeartbeats 8000000 in
theorem asks_ops (m e : Nat) (sp : List (Nat × Nat)) (O : Nat → Nat) (rds : List Rd) (eds : List Ed) (vR vE : Value) (pre : ByteArray) (f t tw : Nat) (w : World) (hM : MapAt w m e sp) (hl : sp.length ≤ 100000) (hS : SpI O sp M64) (hO : ∀ u, O u < 4294967296)
  (hR : IsRds w vR rds) (hE : IsEds w vE eds) (hm : MX w) (hsr : ∀ r ∈ rds, SmallRd r) (hse : ∀ x ∈ eds, SmallEd x)
  (h1 : 1 ≤ rds.length + eds.length) (h2 : rds.length + eds.length ≤ 16) (hb1 : rds.any badR = false) (hb2 : eds.any badE = false) (hb3 : eds.any longE = false) (hpr : ∀ r ∈ rds, r.path.size ≤ 100000) (hpe : ∀ x ∈ eds, x.path.size ≤ 100000) :
  Calls Tryz.prog 10 #[.pointer (some ⟨m, 0, none⟩), .agg (callC 1 vR vE pre f t tw)] w (AsksG O rds eds w) := by
 obtain ⟨iR, hR0, hR1, hR2, hR3⟩ := info_parts infoRd
 obtain ⟨iE, hE0, hE1, hE2, hE3⟩ := info_parts infoEd
 obtain ⟨iJ, hJ0, hJ1, hJ2, hJ3⟩ := info_parts infoI64
 have HR0 := Lib.hid hR0; have HR1 := Lib.hid hR1; have HR2 := Lib.hid hR2; have HR3 := Lib.hid hR3
 have HE0 := Lib.hid hE0; have HE1 := Lib.hid hE1; have HE2 := Lib.hid hE2; have HE3 := Lib.hid hE3
 have HJ0 := Lib.hid hJ0; have HJ1 := Lib.hid hJ1; have HJ2 := Lib.hid hJ2; have HJ3 := Lib.hid hJ3
 clear hR0 hR1 hR2 hR3 hE0 hE1 hE2 hE3 hJ0 hJ1 hJ2 hJ3
 obtain ⟨aR, cR, hRc⟩ := id hR
 obtain ⟨aE, cE, hEc⟩ := id hE
 obtain ⟨rfl, hRc⟩ := hRc
 obtain ⟨rfl, hEc⟩ := hEc
 have HMAY := Lib.hid (fun (W : World) (hW : Below w.heap.size w W) => may_ops rds eds (.slice aR rds.length cR) (.slice aE eds.length cE) pre f t tw W (hR.below hW (Nat.le_refl _)) (hE.below hW (Nat.le_refl _)) (hm.below hW (Nat.le_refl _)) hsr hse h1 h2 hb1 hb2 hb3)
 have HOF := Lib.hid (fun (s : ByteArray) (hs : s.size ≤ 100000) (W : World) (hW : Below w.heap.size w W) => map_Of m e sp s hs W (hM.below hW) hl O hS)
 have HO := Lib.hid hO; have HRC := Lib.hid hRc; have HEC := Lib.hid hEc; have HPR := Lib.hid hpr; have HPE := Lib.hid hpe
 have HNE : Hid (∃ s, Sk O rds eds rds.length eds.length s) := Lib.hid (by
  by_cases h0 : 0 < rds.length
  ·exact ⟨_, Or.inl ⟨0, h0, rfl⟩⟩
  ·exact ⟨_, Or.inr ⟨0, by omega, rfl⟩⟩)
 obtain ⟨nr, hnr⟩ : ∃ nr, rds.length = nr := ⟨_, rfl⟩
 obtain ⟨ne, hne⟩ : ∃ ne, eds.length = ne := ⟨_, rfl⟩
 have HNR := Lib.hid hnr; have HNEe := Lib.hid hne
 unfold AsksG
 rw [hnr] at HMAY HRC HNE h2 ⊢
 rw [hne] at HMAY HEC HNE h2 ⊢
 clear hR hE hm hsr hse h1 hb1 hb2 hb3 hM hl hS hO hRc hEc hpr hpe hnr hne
 obtain ⟨W0, hW0⟩ : ∃ W0, w.alloc (.cells (callC 1 (.slice aR nr cR) (.slice aE ne cE) pre f t tw) 30) = W0 := ⟨_, rfl⟩
 obtain ⟨hz0, hblk, hB0⟩ := alloc_keep hW0
 have hlt0 : w.heap.size < W0.heap.size := by omega
 have KP := Lib.hid (fun (W : World) (h : Below W0.heap.size W0 W) => show W.cell? ⟨w.heap.size, 0, none⟩ = some (.int .u8 ((1 : Nat) : Int)) ∧ W.cell? ⟨w.heap.size, 1, none⟩ = some (.slice aR nr cR) ∧ W.cell? ⟨w.heap.size, 2, none⟩ = some (.slice aE ne cE) by
  have hb := (h.block _ hlt0).trans hblk
  exact ⟨cell_of hb 0, cell_of hb 1, cell_of hb 2⟩)
 have c0 : W0.cell? ⟨w.heap.size, 0, none⟩ = some (.int .u8 ((1 : Nat) : Int)) := cell_of hblk 0
 have c1 : W0.cell? ⟨w.heap.size, 1, none⟩ = some (.slice aR nr cR) := cell_of hblk 1
 have c2 : W0.cell? ⟨w.heap.size, 2, none⟩ = some (.slice aE ne cE) := cell_of hblk 2
 have c3 : W0.cell? ⟨w.heap.size, 3, none⟩ = some (.string pre) := cell_of hblk 3
 have c4 : W0.cell? ⟨w.heap.size, 4, none⟩ = some (.int .u64 (f : Int)) := cell_of hblk 4
 have c5 : W0.cell? ⟨w.heap.size, 5, none⟩ = some (.int .u64 (t : Int)) := cell_of hblk 5
 have c6 : W0.cell? ⟨w.heap.size, 6, none⟩ = some (.int .u32 (tw : Int)) := cell_of hblk 6
 have HB0 := Lib.hid hB0
 clear hz0 hblk hB0 hlt0
 go_enter Tryz.func10, Tryz.ntmps10
 go_upto_region 3 with fail
 clear hW0
 go_wp2_with fail
 refine (HMAY.out W0 HB0.out).mono ?_
 rintro en w1 ⟨rfl, hb1⟩
 obtain ⟨x0, x1, x2⟩ := KP.out w1 hb1
 have HB1 := Lib.hid hb1
 clear hb1 c0 c1 c2 c3 c4 c5 c6 HMAY
 have hmm := @run_makeMap Tryz.prog
 go_upto_region 8 with fail
 obtain ⟨W2, hW2⟩ : ∃ W2, (w1.alloc (.map #[] 0)).alloc (.cells #[.map (some w1.heap.size)] 93) = W2 := ⟨_, rfl⟩
 obtain ⟨bm, hbm⟩ : ∃ bm, w1.heap.size = bm := ⟨_, rfl⟩
 have hA0 : AsksAt 0 (bm + 2) bm W2 (Sk O rds eds 0 0) (fun _ => 0) (fun _ _ => undef) (askTo O rds eds 0 0) := by
  have hno : ∀ s, ¬ Sk O rds eds 0 0 s := fun s h => by rcases h with ⟨i, hi, _⟩ | ⟨i, hi, _⟩ <;> omega
  refine ⟨⟨.map [], 0, ?_, Nat.le_refl _, fun z => ?_, fun s hs => absurd hs (hno s)⟩, fun s hs => absurd hs (hno s), fun s hs => absurd hs (hno s), fun s _ hs => absurd hs (hno s), fun s _ hs => absurd hs (hno s)⟩
  ·rw [← hW2, ← hbm]
   exact ownsMap_below (World.ownsMap_made w1 _ _ _) ((Below.refl _ _).alloc (Nat.le_refl _) _)
  ·constructor
   ·intro h; simp [Maps.has] at h
   ·rintro ⟨s, hs, _⟩; exact absurd hs (hno s)
 have hz2 : W2.heap.size = bm + 2 := by rw [← hW2, ← hbm]; simp
 have hby : W2.heap[bm + 1]? = some (.cells #[.map (some bm)] 93 (0, 0)) := by
  rw [← hW2, ← hbm]
  have h := (MapKept.heap_alloc (w1.alloc (.map #[] 0)) (.cells #[.map (some w1.heap.size)] 93)).1
  simpa using h
 have hb2 : Below bm w1 W2 := by rw [← hW2, ← hbm]; exact ((Below.refl _ _).alloc (Nat.le_refl _) _).alloc (by simp) _
 rw [hW2, hbm]
 have HA0 := Lib.hid hA0; have HBY := Lib.hid hby; have HB2 := Lib.hid hb2; have HZ2 := Lib.hid hz2; have HBM := Lib.hid hbm
 obtain ⟨y0, y1, y2⟩ := KP.out W2 (HB1.out.trans (hb2.mono (by rw [← hbm]; exact HB1.out.size)))
 have HB1m : Hid (Below w.heap.size w w1) := Lib.hid (HB0.out.trans (HB1.out.mono HB0.out.size))
 have HWM : Hid (W0.heap.size ≤ bm ∧ w.heap.size ≤ bm) := Lib.hid ⟨by rw [← hbm]; exact HB1.out.size, by rw [← hbm]; exact HB1m.out.size⟩
 clear hA0 hby hb2 hz2 hW2 hbm x0 x1 x2 hmm
 go_wp2_with fail
 go_loopw [35] (fun vi wr => ∃ (k : Nat) (P : Nat → Nat) (V : Nat → Nat → Value), k ≤ nr ∧ vi = .int .i64 k ∧ Hid (AsksAt k (bm + 2) bm wr (Sk O rds eds k 0) P V (askTo O rds eds k 0)) ∧ Hid (Below bm w1 wr) ∧ Hid (wr.heap[bm + 1]? = some (.cells #[.map (some bm)] 93 (0, 0)))) (fun vi _ => nr - (intOf vi).toNat)
 case atStart => exact ⟨0, _, _, Nat.zero_le _, rfl, HA0, HB2, HBY⟩
 case round =>
  clear HA0 HBY HB2 HZ2 y0 y1 y2
  obtain ⟨k, P, V, hk, rfl, HA, HB, HBY⟩ := hrel
  by_cases hlt : k < nr
  ·obtain ⟨b, off, rfl, hbl, hcc⟩ := HRC.out.resolve_left (fun h => by have := HNR.out; rw [h] at this; simp at this; omega)
   have hkl : k < rds.length := by rw [HNR.out]; exact hlt
   have hrm : rds.getD k dRd ∈ rds := by rw [List.getD_eq_getElem?_getD, List.getElem?_eq_getElem hkl]; exact List.getElem_mem _
   have hps := HPR.out _ hrm
   have hc0 := hcc k hlt
   have hask := fun x => askTo_read (O := O) (rds := rds) (eds := eds) (k := k) (j := 0) hkl rfl rfl x
   have hsk := fun x => Sk_read (O := O) (rds := rds) (eds := eds) (k := k) (j := 0) x
   obtain ⟨r, hr⟩ : ∃ r, rds.getD k dRd = r := ⟨_, rfl⟩
   rw [hr] at hc0 hps hask hsk
   have hbW : Below w.heap.size w wr := HB1m.out.trans (HB.out.mono HWM.out.2)
   have x0 : wr.cell? ⟨b, off + k * 2, none⟩ = some (.string r.path) := (hbW.cell (p := ⟨b, off + k * 2, none⟩) hbl).trans (hc0 0 _ rfl)
   have x1 : wr.cell? ⟨b, off + k * 2 + 1, none⟩ = some (.int .u64 (r.n : Int)) := (hbW.cell (p := ⟨b, off + k * 2 + 1, none⟩) hbl).trans (hc0 1 _ rfl)
   obtain ⟨s, hs⟩ : ∃ s, ownP O r.path = s := ⟨_, rfl⟩
   have hOF := fun W (hW : Below w.heap.size w W) => HOF.out r.path hps W hW
   rw [hs] at hask hsk hOF
   have hs32 : s < 4294967296 := hs ▸ HO.out _
   have HASK := Lib.hid hask; have HSK := Lib.hid hsk; have HOFr := Lib.hid hOF; have HBW := Lib.hid hbW
   have hki : (k : Int) < (nr : Int) := by omega
   clear hcc hkl hrm hps hc0 hask hsk hr hbW hs hOF
   go_upto_region 12 with fail
   obtain ⟨W3, hW3⟩ : ∃ W3, wr.alloc (.cells #[.string r.path, .int .u64 (r.n : Int)] 56) = W3 := ⟨_, rfl⟩
   obtain ⟨hz3, hq3, hb3⟩ := alloc_keep hW3
   obtain ⟨q, hq⟩ : ∃ q, wr.heap.size = q := ⟨_, rfl⟩
   rw [hW3, hq]
   rw [hq] at hz3 hq3 hb3
   have q0 : W3.cell? ⟨q, 0, none⟩ = some (.string r.path) := cell_of hq3 0
   have HB3 := Lib.hid hb3; have HQ3 := Lib.hid hq3; have HQ := Lib.hid hq; have HZ3 := Lib.hid hz3
   clear hz3 hq3 hb3 hW3 hq x0 x1
   go_wp2_with fail
   refine (HOFr.out W3 (HBW.out.trans (HB3.out.mono (by rw [← HQ.out]; exact HBW.out.size)))).mono ?_
   rintro en w4 ⟨rfl, hb4⟩
   have hbr4 : Below wr.heap.size wr w4 := by rw [HQ.out]; exact HB3.out.trans (hb4.mono (by have := HZ3.out; omega))
   have hA4 := HA.out.below hbr4
   have hby4 := (hbr4.block _ (Array.getElem?_eq_some_iff.1 HBY.out).1).trans HBY.out
   have hq4 := (hb4.block q (by have := HZ3.out; omega)).trans HQ3.out
   have hbm4 : bm + 1 < w4.heap.size := (Array.getElem?_eq_some_iff.1 hby4).1
   have HOFF := Lib.hid (asks_of k (bm + 2) bm (bm + 1) s hs32 _ P V _ w4 (cell_of hby4 0) hA4 (by omega) (fun h => askTo_new h) (by omega))
   have HBR4 := Lib.hid hbr4; have HBY4 := Lib.hid hby4; have HQ4 := Lib.hid hq4; have HA4 := Lib.hid hA4
   clear hb4 hbr4 hA4 hby4 hq4 HB3 HQ3 q0
   go_wp2_with fail
   refine HOFF.out.mono ?_
   rintro en w5 ⟨P', V', rfl, hA5, hbut5, hV5⟩
   have hSs : (fun x => Sk O rds eds k 0 x ∨ x = s) s := Or.inr rfl
   have hB5 : bm + 2 ≤ w5.heap.size := by have := hbut5.size; omega
   have hq5 := (hbut5.block q (Array.getElem?_eq_some_iff.1 HQ4.out).1 (by have := HQ.out; have := (Array.getElem?_eq_some_iff.1 HBY.out).1; omega)).trans HQ4.out
   have hby5 := (hbut5.block (bm + 1) (Array.getElem?_eq_some_iff.1 HBY4.out).1 (by omega)).trans HBY4.out
   have hqown : ∀ i, i < 4 → ∀ g, (V' s i).ownBlock = some g → g ≠ q := fun i hi g hg => by
    obtain ⟨h1, h2⟩ := hV5 i hi g hg
    have := HA.out.own_lt h1 hi h2
    have := HQ.out; omega
   have hqp : P' s ≠ q := fun e => by
    have h1 := (hA5.blk s hSs).2
    rw [e, hq5] at h1
    injection h1 with h1
    injection h1 with _ h1
    exact absurd h1 (by decide)
   have hdk := hA5.okR hSs hB5 (i1 := 0) (i2 := 1) (by decide) (by decide) (by decide) (d := pdR (P' s) k (askTo O rds eds k 0 s).reads.length (askTo O rds eds k 0 s).readAt.length (bm + 2) (askTo O rds eds k 0 s) (V' s 0) (V' s 1) (V' s 2) (V' s 3) ((askTo O rds eds k 0 s).reads.flatMap rdC) ((askTo O rds eds k 0 s).readAt.flatMap ixC) r w5) rfl rfl rfl rfl rfl
   have hmore := fun (l : Nat → Bool) (f : Nat → Value) (W' : World) (hI : InvP _ l f W') => hA5.read hSs r (ix := k) (d := pdR (P' s) k (askTo O rds eds k 0 s).reads.length (askTo O rds eds k 0 s).readAt.length (bm + 2) (askTo O rds eds k 0 s) (V' s 0) (V' s 1) (V' s 2) (V' s 3) ((askTo O rds eds k 0 s).reads.flatMap rdC) ((askTo O rds eds k 0 s).readAt.flatMap ixC) r w5) rfl hI
   have hlen : (askTo O rds eds k 0 s).reads.length ≤ 16 ∧ (askTo O rds eds k 0 s).readAt.length ≤ 16 := by
    have a1 : (rdsTo O rds k s).length ≤ k := Nat.le_trans (List.length_filter_le _ _) (List.length_take_le _ _)
    have a2 : (rAtTo O rds k s).length ≤ k := Nat.le_trans (List.length_filter_le _ _) (by rw [List.length_range]; exact Nat.le_refl _)
    exact ⟨by show (rdsTo O rds k s).length ≤ 16; omega, by show (rAtTo O rds k s).length ≤ 16; omega⟩
   have hst := (hA5.blk s hSs).2
   have hrw := hA5.rows s hSs
   have hr0 := hrw.r0; have hr1 := hrw.r1
   obtain ⟨As, hAs⟩ : ∃ As, askTo O rds eds k 0 s = As := ⟨_, rfl⟩
   have HASK2 : Hid (∀ x, (if x = s then { As with reads := As.reads ++ [r], readAt := As.readAt ++ [k] } else askTo O rds eds k 0 x) = askTo O rds eds (k + 1) 0 x) := Lib.hid (fun x => by rw [← hAs]; exact HASK.out x)
   obtain ⟨v0, hv0⟩ : ∃ v, V' s 0 = v := ⟨_, rfl⟩
   obtain ⟨v1, hv1⟩ : ∃ v, V' s 1 = v := ⟨_, rfl⟩
   obtain ⟨v2, hv2⟩ : ∃ v, V' s 2 = v := ⟨_, rfl⟩
   obtain ⟨v3, hv3⟩ : ∃ v, V' s 3 = v := ⟨_, rfl⟩
   obtain ⟨p, hp⟩ : ∃ p, P' s = p := ⟨_, rfl⟩
   have ho0 := hqown 0 (by decide); have ho1 := hqown 1 (by decide)
   rw [hv0] at ho0
   rw [hv1] at ho1
   rw [hAs, hv0, hv1, hv2, hv3, hp] at hdk hmore hst
   rw [hAs] at hlen
   rw [hAs, hv0] at hr0
   rw [hAs, hv1] at hr1
   rw [hp] at hqp ⊢
   obtain ⟨n1, hn1⟩ : ∃ n, As.reads.length = n := ⟨_, rfl⟩
   obtain ⟨n2, hn2⟩ : ∃ n, As.readAt.length = n := ⟨_, rfl⟩
   obtain ⟨xs, hxs⟩ : ∃ xs, As.reads.flatMap rdC = xs := ⟨_, rfl⟩
   obtain ⟨ys, hys⟩ : ∃ ys, As.readAt.flatMap ixC = ys := ⟨_, rfl⟩
   rw [hn1, hn2] at hdk hmore hlen
   rw [hxs, hys] at hdk hmore
   rw [hn1, hxs] at hr0
   rw [hn2, hys] at hr1
   have hI0 : ∀ f0, InvP (pdR p k n1 n2 (bm + 2) As v0 v1 v2 v3 xs ys r w5) (fun _ => false) f0 w5.drew := fun f0 =>
    ⟨ButS.of (Below.drew (Below.refl _ _)), fun _ _ _ h => (by cases h), fun h => (by cases h), fun h => (by cases h), row_below hr0 (Below.drew (Below.refl _ _)), row_below hr1 (Below.drew (Below.refl _ _)), hst⟩
   have hQ : ∀ W' : World, ButS (PD.but (pdR p k n1 n2 (bm + 2) As v0 v1 v2 v3 xs ys r w5)) w5 W' → W'.cell? ⟨q, 0, none⟩ = some (.string r.path) ∧ W'.cell? ⟨q, 1, none⟩ = some (.int .u64 (r.n : Int)) := fun W' hb => by
    have h1 := (hb.block q (Array.getElem?_eq_some_iff.1 hq5).1 (fun hc => by
     rcases hc with hc | hc | hc
     ·exact hqp hc.symm
     ·exact ho0 q hc rfl
     ·exact ho1 q hc rfl)).trans hq5
    exact ⟨cell_of h1 0, cell_of h1 1⟩
   have hblk5 := hA5.blk s hSs
   have hown2 : ∀ j, PD.but (pdR p k n1 n2 (bm + 2) As v0 v1 v2 v3 xs ys r w5) j → bm + 2 ≤ j := fun j hj => by
    rcases hj with hj | hj | hj
    ·rw [hj]; show bm + 2 ≤ p; rw [← hp]; exact hblk5.1
    ·exact (own_block hr0 hj).1
    ·exact (own_block hr1 hj).1
   have HD := Lib.hid hdk; have HI0 := Lib.hid hI0; have HQC := Lib.hid hQ; have HMORE := Lib.hid hmore; have HDB := Lib.hid hB5; have HBY5 := Lib.hid hby5; have HBUT5 := Lib.hid hbut5; have HOWN2 := Lib.hid hown2
   have HONE : Hid (∀ u ∈ ([.string r.path, .int .u64 (r.n : Int)] : List Value), u.oneCell' = true) := Lib.hid (fun u hu => rdC_ones [r] u (by simpa [rdC] using hu))
   have HONEj : Hid (∀ u ∈ ([.int .i64 (k : Int)] : List Value), u.oneCell' = true) := Lib.hid (fun u hu => by rcases List.mem_singleton.1 hu with rfl; rfl)
   have hl1 := hlen.1; have hl2 := hlen.2
   clear hdk hI0 hQ hmore hB5 hby5 hbut5 hown2 hblk5 hlen hst hrw hr0 hr1 hA5 hV5 hqown hqp hq5 ho0 ho1 hn1 hn2 hxs hys hv0 hv1 hv2 hv3 hp hAs hSs
   go_upto_region 13 with fail
   refine wp_region_eachC rfl (fun base l t W' => InvQ 46 15 16 17 q k w5 (pdR p k n1 n2 (bm + 2) As v0 v1 v2 v3 xs ys r w5) base l t W') ?lexR ?startR ?stepR ?finR
   case lexR =>
    intro i o h
    rcases i with _ | _ | _ | _ | _ | _ | _ | _ | _ | _ | _ | _ | _ | _ | _ | _ | _ | _ | _ | _ | _ | _ | i <;> simp at h <;> subst h <;> simp [Region.binds]
   case startR =>
    exact ⟨rfl, rfl, rfl, rfl, _, FsO_self _ 46 20, HI0.out _⟩
   case stepR =>
    intro l t W' i o hI ho hli hdep hcl K Q hK
    have g15 : l 15 = true → l 8 = true := fun h => hcl 15 _ rfl h ⟨8, .chain⟩ (by simp) rfl
    have g18 : l 18 = true → l 15 = true := fun h => hcl 18 _ rfl h ⟨15, .chain⟩ (by simp) rfl
    have g21 : l 21 = true → l 18 = true := fun h => hcl 21 _ rfl h ⟨18, .chain⟩ (by simp) rfl
    have g8a : l 8 = true → l 5 = true := fun h => hcl 8 _ rfl h ⟨5, .data⟩ (by simp) rfl
    have g8b : l 8 = true → l 7 = true := fun h => hcl 8 _ rfl h ⟨7, .data⟩ (by simp) rfl
    have g15a : l 15 = true → l 12 = true := fun h => hcl 15 _ rfl h ⟨12, .data⟩ (by simp) rfl
    have g15b : l 15 = true → l 14 = true := fun h => hcl 15 _ rfl h ⟨14, .data⟩ (by simp) rfl
    have g7 : l 7 = true → l 6 = true := fun h => hcl 7 _ rfl h ⟨6, .data⟩ (by simp) rfl
    clear hcl
    obtain ⟨hsz, e15, e16, e17, f, rfl, hP⟩ := hI
    generalize hbase : (Act.tmps _) = base at hsz e15 e16 e17 hK ⊢
    clear hbase
    have MK : ∀ (l' : Nat → Bool) (f' : Nat → Value) (W2 : World), InvP (pdR p k n1 n2 (bm + 2) As v0 v1 v2 v3 xs ys r w5) l' f' W2 → InvQ 46 15 16 17 q k w5 (pdR p k n1 n2 (bm + 2) As v0 v1 v2 v3 xs ys r w5) base l' (FsO base 46 20 f') W2 := fun l' f' W2 h => ⟨hsz, e15, e16, e17, f', rfl, h⟩
    have SET : ∀ (o' : Nat) (v : Value), o' < 20 → (FsO base 46 20 f).setIfInBounds (46 + o') v = FsO base 46 20 (fPut f o' v) := fun o' v h => FsO_set h
    rcases i with _ | _ | _ | _ | _ | _ | _ | _ | _ | _ | _ | _ | _ | _ | _ | _ | _ | _ | _ | _ | _ | _ | i <;> simp only [List.getElem?_toArray, List.getElem?_cons_zero, List.getElem?_cons_succ, List.getElem?_nil, Option.some.injEq, reduceCtorEq, Nat.reduceAdd] at ho
    ·subst ho
     refine ⟨rfl, ?_⟩
     have d0 := FsO_out (f := f) (lo := 46) (n := 20) 17 (by decide) e17
     go_simp
     refine hK _ _ ?_
     show InvQ 46 15 16 17 q k w5 (pdR p k n1 n2 (bm + 2) As v0 v1 v2 v3 xs ys r w5) base _ ((FsO base 46 20 f).setIfInBounds (46 + 0) _) _
     rw [SET 0 _ (by decide)]
     exact MK _ _ _ (hP.put' 0 0 _ rfl (by decide))
    ·subst ho
     refine ⟨rfl, ?_⟩
     have d0 := FsO_out (f := f) (lo := 46) (n := 20) 17 (by decide) e17
     go_simp
     refine hK _ _ ?_
     show InvQ 46 15 16 17 q k w5 (pdR p k n1 n2 (bm + 2) As v0 v1 v2 v3 xs ys r w5) base _ ((FsO base 46 20 f).setIfInBounds (46 + 1) _) _
     rw [SET 1 _ (by decide)]
     exact MK _ _ _ (hP.put' 1 1 _ rfl (by decide))
    ·subst ho
     refine ⟨rfl, ?_⟩
     have d0 := FsO_out (f := f) (lo := 46) (n := 20) 17 (by decide) e17
     go_simp
     refine hK _ _ ?_
     show InvQ 46 15 16 17 q k w5 (pdR p k n1 n2 (bm + 2) As v0 v1 v2 v3 xs ys r w5) base _ ((FsO base 46 20 f).setIfInBounds (46 + 2) _) _
     rw [SET 2 _ (by decide)]
     exact MK _ _ _ (hP.put' 2 2 _ rfl (by decide))
    ·subst ho
     refine ⟨rfl, ?_⟩
     have d0 : (FsO base 46 20 f).getD 48 undef = .pointer (some ⟨p, 0, none⟩) := FsO_in 2 (by rw [hsz]; decide) (by decide) ((hP.vals 2 2 (by decide) (hdep ⟨2, .data⟩ (by simp) rfl)).trans rfl)
     go_simp
     refine hK _ _ ?_
     show InvQ 46 15 16 17 q k w5 (pdR p k n1 n2 (bm + 2) As v0 v1 v2 v3 xs ys r w5) base _ ((FsO base 46 20 f).setIfInBounds (46 + 3) _) _
     rw [SET 3 _ (by decide)]
     exact MK _ _ _ (hP.put' 3 3 _ rfl (by decide))
    ·subst ho
     refine ⟨rfl, ?_⟩
     have d0 : (FsO base 46 20 f).getD 49 undef = .pointer (some ⟨p, 0, none⟩) := FsO_in 3 (by rw [hsz]; decide) (by decide) ((hP.vals 3 3 (by decide) (hdep ⟨3, .data⟩ (by simp) rfl)).trans rfl)
     go_simp
     refine hK _ _ ?_
     show InvQ 46 15 16 17 q k w5 (pdR p k n1 n2 (bm + 2) As v0 v1 v2 v3 xs ys r w5) base _ ((FsO base 46 20 f).setIfInBounds (46 + 4) _) _
     rw [SET 4 _ (by decide)]
     exact MK _ _ _ (hP.put' 4 4 _ rfl (by decide))
    ·subst ho
     refine ⟨rfl, ?_⟩
     have d0 : (FsO base 46 20 f).getD 50 undef = .pointer (some ⟨p, 1, none⟩) := FsO_in 4 (by rw [hsz]; decide) (by decide) ((hP.vals 4 4 (by decide) (hdep ⟨4, .data⟩ (by simp) rfl)).trans rfl)
     have z8 := no_of g8a hli; have z15 := no_of g15 z8; have z18 := no_of g18 z15; have z21 := no_of g21 z18
     have hb := hP.blk
     rw [z21, z18] at hb
     have hc : W'.cell? ⟨p, 1, none⟩ = some v0 := cell_of hb 1
     clear hb
     go_simp
     refine hK _ _ ?_
     show InvQ 46 15 16 17 q k w5 (pdR p k n1 n2 (bm + 2) As v0 v1 v2 v3 xs ys r w5) base _ ((FsO base 46 20 f).setIfInBounds (46 + 5) _) _
     rw [SET 5 _ (by decide)]
     exact MK _ _ _ (hP.put' 5 5 _ rfl (by decide))
    ·subst ho
     refine ⟨rfl, ?_⟩
     have d0 := FsO_out (f := f) (lo := 46) (n := 20) 16 (by decide) e16
     obtain ⟨f0, f1⟩ := HQC.out W' hP.but
     go_simp
     refine hK _ _ ?_
     show InvQ 46 15 16 17 q k w5 (pdR p k n1 n2 (bm + 2) As v0 v1 v2 v3 xs ys r w5) base _ ((FsO base 46 20 f).setIfInBounds (46 + 6) _) _
     rw [SET 6 _ (by decide)]
     exact MK _ _ _ (hP.put' 6 6 _ rfl (by decide))
    ·subst ho
     refine ⟨rfl, ?_⟩
     have d0 : (FsO base 46 20 f).getD 52 undef = .agg #[.string r.path, .int .u64 (r.n : Int)] := FsO_in 6 (by rw [hsz]; decide) (by decide) ((hP.vals 6 6 (by decide) (hdep ⟨6, .data⟩ (by simp) rfl)).trans rfl)
     have d0b : (FsO base 46 20 f)[52]?.getD undef = .agg #[.string r.path, .int .u64 (r.n : Int)] := by rw [← Array.getD_eq_getD_getElem?]; exact d0
     have z8 := no_of g8b hli
     go_simp
     refine hK _ _ ?_
     show InvQ 46 15 16 17 q k w5 (pdR p k n1 n2 (bm + 2) As v0 v1 v2 v3 xs ys r w5) base _ ((FsO base 46 20 f).setIfInBounds (46 + 7) _) _
     rw [SET 7 _ (by decide)]
     exact MK _ _ _ (hP.build1 HD.out z8)
    ·subst ho
     refine ⟨rfl, ?_⟩
     have d0 : (FsO base 46 20 f).getD 51 undef = v0 := FsO_in 5 (by rw [hsz]; decide) (by decide) ((hP.vals 5 5 (by decide) (hdep ⟨5, .data⟩ (by simp) rfl)).trans rfl)
     have z15 := no_of g15 hli; have z18 := no_of g18 z15; have z21 := no_of g21 z18
     obtain ⟨q1, e1, e2, e3, e4⟩ := hP.b1 (hdep ⟨7, .data⟩ (by simp) rfl)
     have d1 : (FsO base 46 20 f).getD 53 undef = .slice (some ⟨q1, 0, none⟩) 1 1 := FsO_in 7 (by rw [hsz]; decide) (by decide) e1
     have a1 := hP.a1
     rw [hli] at a1
     refine wp_append_lies W' (.tmp 51) (.tmp 53) 23 rfl (bm + 2) 56 iR (.agg #[.string ByteArray.empty, .int .u64 0]) 2 24 Tryz.underlying23 HR0.out HR1.out HR2.out HR3.out rfl (by decide) v0 n1 xs d0 a1 ⟨q1, 0, none⟩ 1 1 [.string r.path, .int .u64 (r.n : Int)] d1 rfl (World.news_of_block (e4 hli)) HONE.out (by decide) (by unfold maxLen; omega) (by omega) (Nat.le_trans HDB.out hP.but.size) W'.heap.size rfl ?_
     intro g c W2 hown hg hat hlt2
     refine hK _ _ ?_
     show InvQ 46 15 16 17 q k w5 (pdR p k n1 n2 (bm + 2) As v0 v1 v2 v3 xs ys r w5) base _ ((FsO base 46 20 f).setIfInBounds (46 + 8) _) W2
     rw [SET 8 _ (by decide)]
     exact MK _ _ _ (hP.app1 HD.out z15 z18 z21 hown hg hat hlt2)
    ·subst ho
     refine ⟨rfl, ?_⟩
     have d0 := FsO_out (f := f) (lo := 46) (n := 20) 17 (by decide) e17
     go_simp
     refine hK _ _ ?_
     show InvQ 46 15 16 17 q k w5 (pdR p k n1 n2 (bm + 2) As v0 v1 v2 v3 xs ys r w5) base _ ((FsO base 46 20 f).setIfInBounds (46 + 9) _) _
     rw [SET 9 _ (by decide)]
     exact MK _ _ _ (hP.put' 9 9 _ rfl (by decide))
    ·subst ho
     refine ⟨rfl, ?_⟩
     have d0 : (FsO base 46 20 f).getD 55 undef = .pointer (some ⟨p, 0, none⟩) := FsO_in 9 (by rw [hsz]; decide) (by decide) ((hP.vals 9 9 (by decide) (hdep ⟨9, .data⟩ (by simp) rfl)).trans rfl)
     go_simp
     refine hK _ _ ?_
     show InvQ 46 15 16 17 q k w5 (pdR p k n1 n2 (bm + 2) As v0 v1 v2 v3 xs ys r w5) base _ ((FsO base 46 20 f).setIfInBounds (46 + 10) _) _
     rw [SET 10 _ (by decide)]
     exact MK _ _ _ (hP.put' 10 10 _ rfl (by decide))
    ·subst ho
     refine ⟨rfl, ?_⟩
     have d0 : (FsO base 46 20 f).getD 56 undef = .pointer (some ⟨p, 0, none⟩) := FsO_in 10 (by rw [hsz]; decide) (by decide) ((hP.vals 10 10 (by decide) (hdep ⟨10, .data⟩ (by simp) rfl)).trans rfl)
     go_simp
     refine hK _ _ ?_
     show InvQ 46 15 16 17 q k w5 (pdR p k n1 n2 (bm + 2) As v0 v1 v2 v3 xs ys r w5) base _ ((FsO base 46 20 f).setIfInBounds (46 + 11) _) _
     rw [SET 11 _ (by decide)]
     exact MK _ _ _ (hP.put' 11 11 _ rfl (by decide))
    ·subst ho
     refine ⟨rfl, ?_⟩
     have d0 : (FsO base 46 20 f).getD 57 undef = .pointer (some ⟨p, 2, none⟩) := FsO_in 11 (by rw [hsz]; decide) (by decide) ((hP.vals 11 11 (by decide) (hdep ⟨11, .data⟩ (by simp) rfl)).trans rfl)
     have z15 := no_of g15a hli; have z18 := no_of g18 z15; have z21 := no_of g21 z18
     have hb := hP.blk
     rw [z21, z18] at hb
     have hc : W'.cell? ⟨p, 2, none⟩ = some v1 := cell_of hb 2
     clear hb
     go_simp
     refine hK _ _ ?_
     show InvQ 46 15 16 17 q k w5 (pdR p k n1 n2 (bm + 2) As v0 v1 v2 v3 xs ys r w5) base _ ((FsO base 46 20 f).setIfInBounds (46 + 12) _) _
     rw [SET 12 _ (by decide)]
     exact MK _ _ _ (hP.put' 12 12 _ rfl (by decide))
    ·subst ho
     refine ⟨rfl, ?_⟩
     have d0 := FsO_out (f := f) (lo := 46) (n := 20) 15 (by decide) e15
     go_simp
     refine hK _ _ ?_
     show InvQ 46 15 16 17 q k w5 (pdR p k n1 n2 (bm + 2) As v0 v1 v2 v3 xs ys r w5) base _ ((FsO base 46 20 f).setIfInBounds (46 + 13) _) _
     rw [SET 13 _ (by decide)]
     exact MK _ _ _ (hP.put' 13 13 _ rfl (by decide))
    ·subst ho
     refine ⟨rfl, ?_⟩
     have d0 : (FsO base 46 20 f).getD 59 undef = .int .i64 (k : Int) := FsO_in 13 (by rw [hsz]; decide) (by decide) ((hP.vals 13 13 (by decide) (hdep ⟨13, .data⟩ (by simp) rfl)).trans rfl)
     have d0b : (FsO base 46 20 f)[59]?.getD undef = .int .i64 (k : Int) := by rw [← Array.getD_eq_getD_getElem?]; exact d0
     have z15 := no_of g15b hli
     go_simp
     refine hK _ _ ?_
     show InvQ 46 15 16 17 q k w5 (pdR p k n1 n2 (bm + 2) As v0 v1 v2 v3 xs ys r w5) base _ ((FsO base 46 20 f).setIfInBounds (46 + 14) _) _
     rw [SET 14 _ (by decide)]
     exact MK _ _ _ (hP.build2 HD.out z15)
    ·subst ho
     refine ⟨rfl, ?_⟩
     have d0 : (FsO base 46 20 f).getD 58 undef = v1 := FsO_in 12 (by rw [hsz]; decide) (by decide) ((hP.vals 12 12 (by decide) (hdep ⟨12, .data⟩ (by simp) rfl)).trans rfl)
     have z18 := no_of g18 hli; have z21 := no_of g21 z18
     obtain ⟨q1, e1, e2, e3, e4⟩ := hP.b2 (hdep ⟨14, .data⟩ (by simp) rfl)
     have y8 : l 8 = true := hdep ⟨8, .chain⟩ (by simp) rfl
     have d1 : (FsO base 46 20 f).getD 60 undef = .slice (some ⟨q1, 0, none⟩) 1 1 := FsO_in 14 (by rw [hsz]; decide) (by decide) e1
     have a2 := hP.a2
     rw [hli] at a2
     refine wp_append_lies W' (.tmp 58) (.tmp 60) 45 rfl (bm + 2) 3 iJ (.int .i64 0) 1 8 Tryz.underlying45 HJ0.out HJ1.out HJ2.out HJ3.out rfl (by decide) v1 n2 ys d0 a2 ⟨q1, 0, none⟩ 1 1 [.int .i64 (k : Int)] d1 rfl (World.news_of_block (e4 hli)) HONEj.out (by decide) (by unfold maxLen; omega) (by omega) (Nat.le_trans HDB.out hP.but.size) W'.heap.size rfl ?_
     intro g c W2 hown hg hat hlt2
     refine hK _ _ ?_
     show InvQ 46 15 16 17 q k w5 (pdR p k n1 n2 (bm + 2) As v0 v1 v2 v3 xs ys r w5) base _ ((FsO base 46 20 f).setIfInBounds (46 + 15) _) W2
     rw [SET 15 _ (by decide)]
     exact MK _ _ _ (hP.app2 HD.out y8 z18 z21 hown hg hat hlt2)
    ·subst ho
     refine ⟨rfl, ?_⟩
     have d0 : (FsO base 46 20 f).getD 46 undef = .pointer (some ⟨p, 0, none⟩) := FsO_in 0 (by rw [hsz]; decide) (by decide) ((hP.vals 0 0 (by decide) (hdep ⟨0, .data⟩ (by simp) rfl)).trans rfl)
     go_simp
     refine hK _ _ ?_
     show InvQ 46 15 16 17 q k w5 (pdR p k n1 n2 (bm + 2) As v0 v1 v2 v3 xs ys r w5) base _ ((FsO base 46 20 f).setIfInBounds (46 + 16) _) _
     rw [SET 16 _ (by decide)]
     exact MK _ _ _ (hP.put' 16 16 _ rfl (by decide))
    ·subst ho
     refine ⟨rfl, ?_⟩
     have d0 : (FsO base 46 20 f).getD 62 undef = .pointer (some ⟨p, 0, none⟩) := FsO_in 16 (by rw [hsz]; decide) (by decide) ((hP.vals 16 16 (by decide) (hdep ⟨16, .data⟩ (by simp) rfl)).trans rfl)
     go_simp
     refine hK _ _ ?_
     show InvQ 46 15 16 17 q k w5 (pdR p k n1 n2 (bm + 2) As v0 v1 v2 v3 xs ys r w5) base _ ((FsO base 46 20 f).setIfInBounds (46 + 17) _) _
     rw [SET 17 _ (by decide)]
     exact MK _ _ _ (hP.put' 17 17 _ rfl (by decide))
    ·subst ho
     refine ⟨rfl, ?_⟩
     have d0 : (FsO base 46 20 f).getD 63 undef = .pointer (some ⟨p, 1, none⟩) := FsO_in 17 (by rw [hsz]; decide) (by decide) ((hP.vals 17 17 (by decide) (hdep ⟨17, .data⟩ (by simp) rfl)).trans rfl)
     have y8 : l 8 = true := hdep ⟨8, .data⟩ (by simp) rfl
     have y15 : l 15 = true := hdep ⟨15, .chain⟩ (by simp) rfl
     have z21 := no_of g21 hli
     have d1 : (FsO base 46 20 f).getD 54 undef = f 8 := FsO_in 8 (by rw [hsz]; decide) (by decide) rfl
     have hb := hP.blk
     rw [z21, hli] at hb
     have hc : W'.cell? ⟨p, 1, none⟩ = some v0 := cell_of hb 1
     have hfz : W'.frozen? ⟨p, 1, none⟩ = false := frozen_of hb 1
     obtain ⟨g8, c8, hu8⟩ : ∃ g8 c8, f 8 = .slice (some ⟨g8, 0, none⟩) (n1 + 1) c8 := by have h := hP.a1; rw [y8, if_pos rfl] at h; obtain ⟨g, c, h, _⟩ := h; exact ⟨g, c, h⟩
     clear hb
     have hfin := MK _ _ _ (hP.set1 HD.out y8 y15 hli z21)
     rw [hu8] at d1 hfin
     go_simp
     exact hK _ _ hfin
    ·subst ho
     refine ⟨rfl, ?_⟩
     have d0 : (FsO base 46 20 f).getD 47 undef = .pointer (some ⟨p, 0, none⟩) := FsO_in 1 (by rw [hsz]; decide) (by decide) ((hP.vals 1 1 (by decide) (hdep ⟨1, .data⟩ (by simp) rfl)).trans rfl)
     go_simp
     refine hK _ _ ?_
     show InvQ 46 15 16 17 q k w5 (pdR p k n1 n2 (bm + 2) As v0 v1 v2 v3 xs ys r w5) base _ ((FsO base 46 20 f).setIfInBounds (46 + 18) _) _
     rw [SET 18 _ (by decide)]
     exact MK _ _ _ (hP.put' 19 18 _ rfl (by decide))
    ·subst ho
     refine ⟨rfl, ?_⟩
     have d0 : (FsO base 46 20 f).getD 64 undef = .pointer (some ⟨p, 0, none⟩) := FsO_in 18 (by rw [hsz]; decide) (by decide) ((hP.vals 19 18 (by decide) (hdep ⟨19, .data⟩ (by simp) rfl)).trans rfl)
     go_simp
     refine hK _ _ ?_
     show InvQ 46 15 16 17 q k w5 (pdR p k n1 n2 (bm + 2) As v0 v1 v2 v3 xs ys r w5) base _ ((FsO base 46 20 f).setIfInBounds (46 + 19) _) _
     rw [SET 19 _ (by decide)]
     exact MK _ _ _ (hP.put' 20 19 _ rfl (by decide))
    ·subst ho
     refine ⟨rfl, ?_⟩
     have d0 : (FsO base 46 20 f).getD 65 undef = .pointer (some ⟨p, 2, none⟩) := FsO_in 19 (by rw [hsz]; decide) (by decide) ((hP.vals 20 19 (by decide) (hdep ⟨20, .data⟩ (by simp) rfl)).trans rfl)
     have y15 : l 15 = true := hdep ⟨15, .data⟩ (by simp) rfl
     have y8 := g15 y15
     have y18 : l 18 = true := hdep ⟨18, .chain⟩ (by simp) rfl
     have d1 : (FsO base 46 20 f).getD 61 undef = f 15 := FsO_in 15 (by rw [hsz]; decide) (by decide) rfl
     have hb := hP.blk
     rw [hli, y18] at hb
     have hc : W'.cell? ⟨p, 2, none⟩ = some v1 := cell_of hb 2
     have hfz : W'.frozen? ⟨p, 2, none⟩ = false := frozen_of hb 2
     obtain ⟨g8, c8, hu8⟩ : ∃ g8 c8, f 15 = .slice (some ⟨g8, 0, none⟩) (n2 + 1) c8 := by have h := hP.a2; rw [y15, if_pos rfl] at h; obtain ⟨g, c, h, _⟩ := h; exact ⟨g, c, h⟩
     clear hb
     have hfin := MK _ _ _ (hP.set2 HD.out y8 y15 y18 hli)
     rw [hu8] at d1 hfin
     go_simp
     exact hK _ _ hfin
   case finR =>
    intro l t' W' hall hI
    obtain ⟨_, _, _, _, f, rfl, hP⟩ := hI
    obtain ⟨V6, hA6⟩ := HMORE.out l f W' hP (hall 8 (by decide)) (hall 15 (by decide)) (hall 21 (by decide))
    have hby6 := (hP.but.block (bm + 1) (Array.getElem?_eq_some_iff.1 HBY5.out).1 (fun hc => by have := HOWN2.out _ hc; omega)).trans HBY5.out
    have hw5 : Below bm w1 w5 := HB.out.trans ((HBR4.out.mono (by have := (Array.getElem?_eq_some_iff.1 HBY.out).1; omega)).trans (HBUT5.out.below (fun k hk => by have h : k = bm := hk; omega) (by have := (Array.getElem?_eq_some_iff.1 HBY4.out).1; omega)))
    have hb6 : Below bm w1 W' := hw5.trans (hP.but.below (fun k hk => by have := HOWN2.out _ hk; omega) (by have := HDB.out; show bm ≤ w5.heap.size; omega))
    have hA7 : AsksAt (k + 1) (bm + 2) bm W' (Sk O rds eds (k + 1) 0) P' V6 (askTo O rds eds (k + 1) 0) := by
     have h1 := hA6.same (S' := Sk O rds eds (k + 1) 0) (fun x => HSK.out x)
     have h2 := funext HASK2.out
     rw [← h2]; exact h1
    have HA7 := Lib.hid hA7; have HBY7 := Lib.hid hby6; have HB7 := Lib.hid hb6
    clear hA6 hA7 hby6 hw5 hb6 hall hP
    simp only [FsO_succ _ 46, FsO_nil, Nat.reduceAdd]
    go_wp2_with fail
    go_roundw
    case rel => exact ⟨k + 1, P', V6, by omega, by go_num, HA7, HB7, HBY7⟩
    case measure => simp [intOf]; omega
  ·have hki : ¬ (k : Int) < (nr : Int) := by omega
   obtain rfl : k = nr := by omega
   have hbW0 : Below W0.heap.size W0 wr := HB1.out.trans (HB.out.mono HWM.out.1)
   obtain ⟨y0, y1, y2⟩ := KP.out wr hbW0
   have HA1 := HA; have HBX := HB; have HBYX := HBY
   clear hbW0
   go_wp2_with fail
   go_loopw [70] (fun vi wr => ∃ (j : Nat) (P : Nat → Nat) (V : Nat → Nat → Value), j ≤ ne ∧ vi = .int .i64 j ∧ Hid (AsksAt (k + j) (bm + 2) bm wr (Sk O rds eds k j) P V (askTo O rds eds k j)) ∧ Hid (Below bm w1 wr) ∧ Hid (wr.heap[bm + 1]? = some (.cells #[.map (some bm)] 93 (0, 0)))) (fun vi _ => ne - (intOf vi).toNat)
   case atStart => exact ⟨0, _, _, Nat.zero_le _, rfl, HA1, HBX, HBYX⟩
   case round =>
    clear HA HB HBY HA1 HBX HBYX y0 y1 y2
    obtain ⟨j, P, V, hj, rfl, HA, HB, HBY⟩ := hrel
    by_cases hlt : j < ne
    ·obtain ⟨b, off, rfl, hbl, hcc⟩ := HEC.out.resolve_left (fun h => by have := HNEe.out; rw [h] at this; simp at this; omega)
     have hkl : j < eds.length := by rw [HNEe.out]; exact hlt
     have hrm : eds.getD j dEd ∈ eds := by rw [List.getD_eq_getElem?_getD, List.getElem?_eq_getElem hkl]; exact List.getElem_mem _
     have hps := HPE.out _ hrm
     have hc0 := hcc j hlt
     have hask := fun x => askTo_edit (O := O) (rds := rds) (eds := eds) (k := k) (j := j) hkl rfl rfl x
     have hsk := fun x => Sk_edit (O := O) (rds := rds) (eds := eds) (k := k) (j := j) x
     obtain ⟨r, hr⟩ : ∃ r, eds.getD j dEd = r := ⟨_, rfl⟩
     rw [hr] at hc0 hps hask hsk
     have hbW : Below w.heap.size w wr := HB1m.out.trans (HB.out.mono HWM.out.2)
     have x0 : wr.cell? ⟨b, off + j * 6, none⟩ = some (.int .u8 (r.kind : Int)) := (hbW.cell (p := ⟨b, off + j * 6 + 0, none⟩) hbl).trans (hc0 0 _ rfl)
     have x1 : wr.cell? ⟨b, off + j * 6 + 1, none⟩ = some (.string r.path) := (hbW.cell (p := ⟨b, off + j * 6 + 1, none⟩) hbl).trans (hc0 1 _ rfl)
     have x2 : wr.cell? ⟨b, off + j * 6 + 2, none⟩ = some (.bool r.any) := (hbW.cell (p := ⟨b, off + j * 6 + 2, none⟩) hbl).trans (hc0 2 _ rfl)
     have x3 : wr.cell? ⟨b, off + j * 6 + 3, none⟩ = some (.int .u64 (r.want : Int)) := (hbW.cell (p := ⟨b, off + j * 6 + 3, none⟩) hbl).trans (hc0 3 _ rfl)
     have x4 : wr.cell? ⟨b, off + j * 6 + 4, none⟩ = some (.int .u64 (r.n : Int)) := (hbW.cell (p := ⟨b, off + j * 6 + 4, none⟩) hbl).trans (hc0 4 _ rfl)
     have x5 : wr.cell? ⟨b, off + j * 6 + 5, none⟩ = some (.string r.text) := (hbW.cell (p := ⟨b, off + j * 6 + 5, none⟩) hbl).trans (hc0 5 _ rfl)
     obtain ⟨s, hs⟩ : ∃ s, ownP O r.path = s := ⟨_, rfl⟩
     have hOF := fun W (hW : Below w.heap.size w W) => HOF.out r.path hps W hW
     rw [hs] at hask hsk hOF
     have hs32 : s < 4294967296 := hs ▸ HO.out _
     have HASK := Lib.hid hask; have HSK := Lib.hid hsk; have HOFr := Lib.hid hOF; have HBW := Lib.hid hbW
     have hki : (j : Int) < (ne : Int) := by omega
     clear hcc hkl hrm hps hc0 hask hsk hr hbW hs hOF
     go_upto_region 18 with fail
     obtain ⟨W3, hW3⟩ : ∃ W3, wr.alloc (.cells #[.int .u8 (r.kind : Int), .string r.path, .bool r.any, .int .u64 (r.want : Int), .int .u64 (r.n : Int), .string r.text] 63) = W3 := ⟨_, rfl⟩
     obtain ⟨hz3, hq3, hb3⟩ := alloc_keep hW3
     obtain ⟨q, hq⟩ : ∃ q, wr.heap.size = q := ⟨_, rfl⟩
     rw [hW3, hq]
     rw [hq] at hz3 hq3 hb3
     have q0 : W3.cell? ⟨q, 1, none⟩ = some (.string r.path) := cell_of hq3 1
     have HB3 := Lib.hid hb3; have HQ3 := Lib.hid hq3; have HQ := Lib.hid hq; have HZ3 := Lib.hid hz3
     clear hz3 hq3 hb3 hW3 hq x0 x1 x2 x3 x4 x5
     go_wp2_with fail
     refine (HOFr.out W3 (HBW.out.trans (HB3.out.mono (by rw [← HQ.out]; exact HBW.out.size)))).mono ?_
     rintro en w4 ⟨rfl, hb4⟩
     have hbr4 : Below wr.heap.size wr w4 := by rw [HQ.out]; exact HB3.out.trans (hb4.mono (by have := HZ3.out; omega))
     have hA4 := HA.out.below hbr4
     have hby4 := (hbr4.block _ (Array.getElem?_eq_some_iff.1 HBY.out).1).trans HBY.out
     have hq4 := (hb4.block q (by have := HZ3.out; omega)).trans HQ3.out
     have hbm4 : bm + 1 < w4.heap.size := (Array.getElem?_eq_some_iff.1 hby4).1
     have HOFF := Lib.hid (asks_of (k + j) (bm + 2) bm (bm + 1) s hs32 _ P V _ w4 (cell_of hby4 0) hA4 (by omega) (fun h => askTo_new h) (by omega))
     have HBR4 := Lib.hid hbr4; have HBY4 := Lib.hid hby4; have HQ4 := Lib.hid hq4; have HA4 := Lib.hid hA4
     clear hb4 hbr4 hA4 hby4 hq4 HB3 HQ3 q0
     go_wp2_with fail
     refine HOFF.out.mono ?_
     rintro en w5 ⟨P', V', rfl, hA5, hbut5, hV5⟩
     have hSs : (fun x => Sk O rds eds k j x ∨ x = s) s := Or.inr rfl
     have hB5 : bm + 2 ≤ w5.heap.size := by have := hbut5.size; omega
     have hq5 := (hbut5.block q (Array.getElem?_eq_some_iff.1 HQ4.out).1 (by have := HQ.out; have := (Array.getElem?_eq_some_iff.1 HBY.out).1; omega)).trans HQ4.out
     have hby5 := (hbut5.block (bm + 1) (Array.getElem?_eq_some_iff.1 HBY4.out).1 (by omega)).trans HBY4.out
     have hqown : ∀ i, i < 4 → ∀ g, (V' s i).ownBlock = some g → g ≠ q := fun i hi g hg => by
      obtain ⟨h1, h2⟩ := hV5 i hi g hg
      have := HA.out.own_lt h1 hi h2
      have := HQ.out; omega
     have hqp : P' s ≠ q := fun e => by
      have h1 := (hA5.blk s hSs).2
      rw [e, hq5] at h1
      injection h1 with h1
      injection h1 with _ h1
      exact absurd h1 (by decide)
     have hdk := hA5.okR hSs hB5 (i1 := 2) (i2 := 3) (by decide) (by decide) (by decide) (d := pdE (P' s) j (askTo O rds eds k j s).edits.length (askTo O rds eds k j s).editAt.length (bm + 2) (askTo O rds eds k j s) (V' s 0) (V' s 1) (V' s 2) (V' s 3) ((askTo O rds eds k j s).edits.flatMap edC) ((askTo O rds eds k j s).editAt.flatMap ixC) r w5) rfl rfl rfl rfl rfl
     have hmore := fun (l : Nat → Bool) (f : Nat → Value) (W' : World) (hI : InvP _ l f W') => hA5.edit hSs r (ix := j) (d := pdE (P' s) j (askTo O rds eds k j s).edits.length (askTo O rds eds k j s).editAt.length (bm + 2) (askTo O rds eds k j s) (V' s 0) (V' s 1) (V' s 2) (V' s 3) ((askTo O rds eds k j s).edits.flatMap edC) ((askTo O rds eds k j s).editAt.flatMap ixC) r w5) rfl hI
     have hlen : (askTo O rds eds k j s).edits.length ≤ 16 ∧ (askTo O rds eds k j s).editAt.length ≤ 16 := by
      have a1 : (edsTo O eds j s).length ≤ j := Nat.le_trans (List.length_filter_le _ _) (List.length_take_le _ _)
      have a2 : (eAtTo O eds j s).length ≤ j := Nat.le_trans (List.length_filter_le _ _) (by rw [List.length_range]; exact Nat.le_refl _)
      exact ⟨by show (edsTo O eds j s).length ≤ 16; omega, by show (eAtTo O eds j s).length ≤ 16; omega⟩
     have hst := (hA5.blk s hSs).2
     have hrw := hA5.rows s hSs
     have hr0 := hrw.r2; have hr1 := hrw.r3
     obtain ⟨As, hAs⟩ : ∃ As, askTo O rds eds k j s = As := ⟨_, rfl⟩
     have HASK2 : Hid (∀ x, (if x = s then { As with edits := As.edits ++ [r], editAt := As.editAt ++ [j] } else askTo O rds eds k j x) = askTo O rds eds k (j + 1) x) := Lib.hid (fun x => by rw [← hAs]; exact HASK.out x)
     obtain ⟨v0, hv0⟩ : ∃ v, V' s 0 = v := ⟨_, rfl⟩
     obtain ⟨v1, hv1⟩ : ∃ v, V' s 1 = v := ⟨_, rfl⟩
     obtain ⟨v2, hv2⟩ : ∃ v, V' s 2 = v := ⟨_, rfl⟩
     obtain ⟨v3, hv3⟩ : ∃ v, V' s 3 = v := ⟨_, rfl⟩
     obtain ⟨p, hp⟩ : ∃ p, P' s = p := ⟨_, rfl⟩
     have ho0 := hqown 2 (by decide); have ho1 := hqown 3 (by decide)
     rw [hv2] at ho0
     rw [hv3] at ho1
     rw [hAs, hv0, hv1, hv2, hv3, hp] at hdk hmore hst
     rw [hAs] at hlen
     rw [hAs, hv2] at hr0
     rw [hAs, hv3] at hr1
     rw [hp] at hqp ⊢
     obtain ⟨n1, hn1⟩ : ∃ n, As.edits.length = n := ⟨_, rfl⟩
     obtain ⟨n2, hn2⟩ : ∃ n, As.editAt.length = n := ⟨_, rfl⟩
     obtain ⟨xs, hxs⟩ : ∃ xs, As.edits.flatMap edC = xs := ⟨_, rfl⟩
     obtain ⟨ys, hys⟩ : ∃ ys, As.editAt.flatMap ixC = ys := ⟨_, rfl⟩
     rw [hn1, hn2] at hdk hmore hlen
     rw [hxs, hys] at hdk hmore
     rw [hn1, hxs] at hr0
     rw [hn2, hys] at hr1
     have hI0 : ∀ f0, InvP (pdE p j n1 n2 (bm + 2) As v0 v1 v2 v3 xs ys r w5) (fun _ => false) f0 w5.drew := fun f0 =>
      ⟨ButS.of (Below.drew (Below.refl _ _)), fun _ _ _ h => (by cases h), fun h => (by cases h), fun h => (by cases h), row_below hr0 (Below.drew (Below.refl _ _)), row_below hr1 (Below.drew (Below.refl _ _)), hst⟩
     have hQ : ∀ W' : World, ButS (PD.but (pdE p j n1 n2 (bm + 2) As v0 v1 v2 v3 xs ys r w5)) w5 W' → W'.cell? ⟨q, 0, none⟩ = some (.int .u8 (r.kind : Int)) ∧ W'.cell? ⟨q, 1, none⟩ = some (.string r.path) ∧ W'.cell? ⟨q, 2, none⟩ = some (.bool r.any) ∧ W'.cell? ⟨q, 3, none⟩ = some (.int .u64 (r.want : Int)) ∧ W'.cell? ⟨q, 4, none⟩ = some (.int .u64 (r.n : Int)) ∧ W'.cell? ⟨q, 5, none⟩ = some (.string r.text) := fun W' hb => by
      have h1 := (hb.block q (Array.getElem?_eq_some_iff.1 hq5).1 (fun hc => by
       rcases hc with hc | hc | hc
       ·exact hqp hc.symm
       ·exact ho0 q hc rfl
       ·exact ho1 q hc rfl)).trans hq5
      exact ⟨cell_of h1 0, cell_of h1 1, cell_of h1 2, cell_of h1 3, cell_of h1 4, cell_of h1 5⟩
     have hblk5 := hA5.blk s hSs
     have hown2 : ∀ j, PD.but (pdE p j n1 n2 (bm + 2) As v0 v1 v2 v3 xs ys r w5) j → bm + 2 ≤ j := fun j hj => by
      rcases hj with hj | hj | hj
      ·rw [hj]; show bm + 2 ≤ p; rw [← hp]; exact hblk5.1
      ·exact (own_block hr0 hj).1
      ·exact (own_block hr1 hj).1
     have HD := Lib.hid hdk; have HI0 := Lib.hid hI0; have HQC := Lib.hid hQ; have HMORE := Lib.hid hmore; have HDB := Lib.hid hB5; have HBY5 := Lib.hid hby5; have HBUT5 := Lib.hid hbut5; have HOWN2 := Lib.hid hown2
     have HONE : Hid (∀ u ∈ ([.int .u8 (r.kind : Int), .string r.path, .bool r.any, .int .u64 (r.want : Int), .int .u64 (r.n : Int), .string r.text] : List Value), u.oneCell' = true) := Lib.hid (fun u hu => edC_ones [r] u (by simpa [edC] using hu))
     have HONEj : Hid (∀ u ∈ ([.int .i64 (j : Int)] : List Value), u.oneCell' = true) := Lib.hid (fun u hu => by rcases List.mem_singleton.1 hu with rfl; rfl)
     have hl1 := hlen.1; have hl2 := hlen.2
     clear hdk hI0 hQ hmore hB5 hby5 hbut5 hown2 hblk5 hlen hst hrw hr0 hr1 hA5 hV5 hqown hqp hq5 ho0 ho1 hn1 hn2 hxs hys hv0 hv1 hv2 hv3 hp hAs hSs
     go_upto_region 19 with fail
     refine wp_region_eachC rfl (fun base l t W' => InvQ 81 18 19 20 q j w5 (pdE p j n1 n2 (bm + 2) As v0 v1 v2 v3 xs ys r w5) base l t W') ?lexE ?startE ?stepE ?finE
     case lexE =>
      intro i o h
      rcases i with _ | _ | _ | _ | _ | _ | _ | _ | _ | _ | _ | _ | _ | _ | _ | _ | _ | _ | _ | _ | _ | _ | i <;> simp at h <;> subst h <;> simp [Region.binds]
     case startE =>
      exact ⟨rfl, rfl, rfl, rfl, _, FsO_self _ 81 20, HI0.out _⟩
     case stepE =>
      intro l t W' i o hI ho hli hdep hcl K Q hK
      have g15 : l 15 = true → l 8 = true := fun h => hcl 15 _ rfl h ⟨8, .chain⟩ (by simp) rfl
      have g18 : l 18 = true → l 15 = true := fun h => hcl 18 _ rfl h ⟨15, .chain⟩ (by simp) rfl
      have g21 : l 21 = true → l 18 = true := fun h => hcl 21 _ rfl h ⟨18, .chain⟩ (by simp) rfl
      have g8a : l 8 = true → l 5 = true := fun h => hcl 8 _ rfl h ⟨5, .data⟩ (by simp) rfl
      have g8b : l 8 = true → l 7 = true := fun h => hcl 8 _ rfl h ⟨7, .data⟩ (by simp) rfl
      have g15a : l 15 = true → l 12 = true := fun h => hcl 15 _ rfl h ⟨12, .data⟩ (by simp) rfl
      have g15b : l 15 = true → l 14 = true := fun h => hcl 15 _ rfl h ⟨14, .data⟩ (by simp) rfl
      have g7 : l 7 = true → l 6 = true := fun h => hcl 7 _ rfl h ⟨6, .data⟩ (by simp) rfl
      clear hcl
      obtain ⟨hsz, e15, e16, e17, f, rfl, hP⟩ := hI
      generalize hbase : (Act.tmps _) = base at hsz e15 e16 e17 hK ⊢
      clear hbase
      have MK : ∀ (l' : Nat → Bool) (f' : Nat → Value) (W2 : World), InvP (pdE p j n1 n2 (bm + 2) As v0 v1 v2 v3 xs ys r w5) l' f' W2 → InvQ 81 18 19 20 q j w5 (pdE p j n1 n2 (bm + 2) As v0 v1 v2 v3 xs ys r w5) base l' (FsO base 81 20 f') W2 := fun l' f' W2 h => ⟨hsz, e15, e16, e17, f', rfl, h⟩
      have SET : ∀ (o' : Nat) (v : Value), o' < 20 → (FsO base 81 20 f).setIfInBounds (81 + o') v = FsO base 81 20 (fPut f o' v) := fun o' v h => FsO_set h
      rcases i with _ | _ | _ | _ | _ | _ | _ | _ | _ | _ | _ | _ | _ | _ | _ | _ | _ | _ | _ | _ | _ | _ | i <;> simp only [List.getElem?_toArray, List.getElem?_cons_zero, List.getElem?_cons_succ, List.getElem?_nil, Option.some.injEq, reduceCtorEq, Nat.reduceAdd] at ho
      ·subst ho
       refine ⟨rfl, ?_⟩
       have d0 := FsO_out (f := f) (lo := 81) (n := 20) 20 (by decide) e17
       go_simp
       refine hK _ _ ?_
       show InvQ 81 18 19 20 q j w5 (pdE p j n1 n2 (bm + 2) As v0 v1 v2 v3 xs ys r w5) base _ ((FsO base 81 20 f).setIfInBounds (81 + 0) _) _
       rw [SET 0 _ (by decide)]
       exact MK _ _ _ (hP.put' 0 0 _ rfl (by decide))
      ·subst ho
       refine ⟨rfl, ?_⟩
       have d0 := FsO_out (f := f) (lo := 81) (n := 20) 20 (by decide) e17
       go_simp
       refine hK _ _ ?_
       show InvQ 81 18 19 20 q j w5 (pdE p j n1 n2 (bm + 2) As v0 v1 v2 v3 xs ys r w5) base _ ((FsO base 81 20 f).setIfInBounds (81 + 1) _) _
       rw [SET 1 _ (by decide)]
       exact MK _ _ _ (hP.put' 1 1 _ rfl (by decide))
      ·subst ho
       refine ⟨rfl, ?_⟩
       have d0 := FsO_out (f := f) (lo := 81) (n := 20) 20 (by decide) e17
       go_simp
       refine hK _ _ ?_
       show InvQ 81 18 19 20 q j w5 (pdE p j n1 n2 (bm + 2) As v0 v1 v2 v3 xs ys r w5) base _ ((FsO base 81 20 f).setIfInBounds (81 + 2) _) _
       rw [SET 2 _ (by decide)]
       exact MK _ _ _ (hP.put' 2 2 _ rfl (by decide))
      ·subst ho
       refine ⟨rfl, ?_⟩
       have d0 : (FsO base 81 20 f).getD 83 undef = .pointer (some ⟨p, 0, none⟩) := FsO_in 2 (by rw [hsz]; decide) (by decide) ((hP.vals 2 2 (by decide) (hdep ⟨2, .data⟩ (by simp) rfl)).trans rfl)
       go_simp
       refine hK _ _ ?_
       show InvQ 81 18 19 20 q j w5 (pdE p j n1 n2 (bm + 2) As v0 v1 v2 v3 xs ys r w5) base _ ((FsO base 81 20 f).setIfInBounds (81 + 3) _) _
       rw [SET 3 _ (by decide)]
       exact MK _ _ _ (hP.put' 3 3 _ rfl (by decide))
      ·subst ho
       refine ⟨rfl, ?_⟩
       have d0 : (FsO base 81 20 f).getD 84 undef = .pointer (some ⟨p, 0, none⟩) := FsO_in 3 (by rw [hsz]; decide) (by decide) ((hP.vals 3 3 (by decide) (hdep ⟨3, .data⟩ (by simp) rfl)).trans rfl)
       go_simp
       refine hK _ _ ?_
       show InvQ 81 18 19 20 q j w5 (pdE p j n1 n2 (bm + 2) As v0 v1 v2 v3 xs ys r w5) base _ ((FsO base 81 20 f).setIfInBounds (81 + 4) _) _
       rw [SET 4 _ (by decide)]
       exact MK _ _ _ (hP.put' 4 4 _ rfl (by decide))
      ·subst ho
       refine ⟨rfl, ?_⟩
       have d0 : (FsO base 81 20 f).getD 85 undef = .pointer (some ⟨p, 3, none⟩) := FsO_in 4 (by rw [hsz]; decide) (by decide) ((hP.vals 4 4 (by decide) (hdep ⟨4, .data⟩ (by simp) rfl)).trans rfl)
       have z8 := no_of g8a hli; have z15 := no_of g15 z8; have z18 := no_of g18 z15; have z21 := no_of g21 z18
       have hb := hP.blk
       rw [z21, z18] at hb
       have hc : W'.cell? ⟨p, 3, none⟩ = some v2 := cell_of hb 3
       clear hb
       go_simp
       refine hK _ _ ?_
       show InvQ 81 18 19 20 q j w5 (pdE p j n1 n2 (bm + 2) As v0 v1 v2 v3 xs ys r w5) base _ ((FsO base 81 20 f).setIfInBounds (81 + 5) _) _
       rw [SET 5 _ (by decide)]
       exact MK _ _ _ (hP.put' 5 5 _ rfl (by decide))
      ·subst ho
       refine ⟨rfl, ?_⟩
       have d0 := FsO_out (f := f) (lo := 81) (n := 20) 19 (by decide) e16
       obtain ⟨f0, f1, f2, f3, f4, f5⟩ := HQC.out W' hP.but
       go_simp
       refine hK _ _ ?_
       show InvQ 81 18 19 20 q j w5 (pdE p j n1 n2 (bm + 2) As v0 v1 v2 v3 xs ys r w5) base _ ((FsO base 81 20 f).setIfInBounds (81 + 6) _) _
       rw [SET 6 _ (by decide)]
       exact MK _ _ _ (hP.put' 6 6 _ rfl (by decide))
      ·subst ho
       refine ⟨rfl, ?_⟩
       have d0 : (FsO base 81 20 f).getD 87 undef = .agg #[.int .u8 (r.kind : Int), .string r.path, .bool r.any, .int .u64 (r.want : Int), .int .u64 (r.n : Int), .string r.text] := FsO_in 6 (by rw [hsz]; decide) (by decide) ((hP.vals 6 6 (by decide) (hdep ⟨6, .data⟩ (by simp) rfl)).trans rfl)
       have d0b : (FsO base 81 20 f)[87]?.getD undef = .agg #[.int .u8 (r.kind : Int), .string r.path, .bool r.any, .int .u64 (r.want : Int), .int .u64 (r.n : Int), .string r.text] := by rw [← Array.getD_eq_getD_getElem?]; exact d0
       have z8 := no_of g8b hli
       go_simp
       refine hK _ _ ?_
       show InvQ 81 18 19 20 q j w5 (pdE p j n1 n2 (bm + 2) As v0 v1 v2 v3 xs ys r w5) base _ ((FsO base 81 20 f).setIfInBounds (81 + 7) _) _
       rw [SET 7 _ (by decide)]
       exact MK _ _ _ (hP.build1 HD.out z8)
      ·subst ho
       refine ⟨rfl, ?_⟩
       have d0 : (FsO base 81 20 f).getD 86 undef = v2 := FsO_in 5 (by rw [hsz]; decide) (by decide) ((hP.vals 5 5 (by decide) (hdep ⟨5, .data⟩ (by simp) rfl)).trans rfl)
       have z15 := no_of g15 hli; have z18 := no_of g18 z15; have z21 := no_of g21 z18
       obtain ⟨q1, e1, e2, e3, e4⟩ := hP.b1 (hdep ⟨7, .data⟩ (by simp) rfl)
       have d1 : (FsO base 81 20 f).getD 88 undef = .slice (some ⟨q1, 0, none⟩) 1 1 := FsO_in 7 (by rw [hsz]; decide) (by decide) e1
       have a1 := hP.a1
       rw [hli] at a1
       refine wp_append_lies W' (.tmp 86) (.tmp 88) 24 rfl (bm + 2) 63 iE (.agg #[.int .u8 0, .string ByteArray.empty, .bool false, .int .u64 0, .int .u64 0, .string ByteArray.empty]) 6 64 Tryz.underlying24 HE0.out HE1.out HE2.out HE3.out rfl (by decide) v2 n1 xs d0 a1 ⟨q1, 0, none⟩ 1 1 [.int .u8 (r.kind : Int), .string r.path, .bool r.any, .int .u64 (r.want : Int), .int .u64 (r.n : Int), .string r.text] d1 rfl (World.news_of_block (e4 hli)) HONE.out (by decide) (by unfold maxLen; omega) (by omega) (Nat.le_trans HDB.out hP.but.size) W'.heap.size rfl ?_
       intro g c W2 hown hg hat hlt2
       refine hK _ _ ?_
       show InvQ 81 18 19 20 q j w5 (pdE p j n1 n2 (bm + 2) As v0 v1 v2 v3 xs ys r w5) base _ ((FsO base 81 20 f).setIfInBounds (81 + 8) _) W2
       rw [SET 8 _ (by decide)]
       exact MK _ _ _ (hP.app1 HD.out z15 z18 z21 hown hg hat hlt2)
      ·subst ho
       refine ⟨rfl, ?_⟩
       have d0 := FsO_out (f := f) (lo := 81) (n := 20) 20 (by decide) e17
       go_simp
       refine hK _ _ ?_
       show InvQ 81 18 19 20 q j w5 (pdE p j n1 n2 (bm + 2) As v0 v1 v2 v3 xs ys r w5) base _ ((FsO base 81 20 f).setIfInBounds (81 + 9) _) _
       rw [SET 9 _ (by decide)]
       exact MK _ _ _ (hP.put' 9 9 _ rfl (by decide))
      ·subst ho
       refine ⟨rfl, ?_⟩
       have d0 : (FsO base 81 20 f).getD 90 undef = .pointer (some ⟨p, 0, none⟩) := FsO_in 9 (by rw [hsz]; decide) (by decide) ((hP.vals 9 9 (by decide) (hdep ⟨9, .data⟩ (by simp) rfl)).trans rfl)
       go_simp
       refine hK _ _ ?_
       show InvQ 81 18 19 20 q j w5 (pdE p j n1 n2 (bm + 2) As v0 v1 v2 v3 xs ys r w5) base _ ((FsO base 81 20 f).setIfInBounds (81 + 10) _) _
       rw [SET 10 _ (by decide)]
       exact MK _ _ _ (hP.put' 10 10 _ rfl (by decide))
      ·subst ho
       refine ⟨rfl, ?_⟩
       have d0 : (FsO base 81 20 f).getD 91 undef = .pointer (some ⟨p, 0, none⟩) := FsO_in 10 (by rw [hsz]; decide) (by decide) ((hP.vals 10 10 (by decide) (hdep ⟨10, .data⟩ (by simp) rfl)).trans rfl)
       go_simp
       refine hK _ _ ?_
       show InvQ 81 18 19 20 q j w5 (pdE p j n1 n2 (bm + 2) As v0 v1 v2 v3 xs ys r w5) base _ ((FsO base 81 20 f).setIfInBounds (81 + 11) _) _
       rw [SET 11 _ (by decide)]
       exact MK _ _ _ (hP.put' 11 11 _ rfl (by decide))
      ·subst ho
       refine ⟨rfl, ?_⟩
       have d0 : (FsO base 81 20 f).getD 92 undef = .pointer (some ⟨p, 4, none⟩) := FsO_in 11 (by rw [hsz]; decide) (by decide) ((hP.vals 11 11 (by decide) (hdep ⟨11, .data⟩ (by simp) rfl)).trans rfl)
       have z15 := no_of g15a hli; have z18 := no_of g18 z15; have z21 := no_of g21 z18
       have hb := hP.blk
       rw [z21, z18] at hb
       have hc : W'.cell? ⟨p, 4, none⟩ = some v3 := cell_of hb 4
       clear hb
       go_simp
       refine hK _ _ ?_
       show InvQ 81 18 19 20 q j w5 (pdE p j n1 n2 (bm + 2) As v0 v1 v2 v3 xs ys r w5) base _ ((FsO base 81 20 f).setIfInBounds (81 + 12) _) _
       rw [SET 12 _ (by decide)]
       exact MK _ _ _ (hP.put' 12 12 _ rfl (by decide))
      ·subst ho
       refine ⟨rfl, ?_⟩
       have d0 := FsO_out (f := f) (lo := 81) (n := 20) 18 (by decide) e15
       go_simp
       refine hK _ _ ?_
       show InvQ 81 18 19 20 q j w5 (pdE p j n1 n2 (bm + 2) As v0 v1 v2 v3 xs ys r w5) base _ ((FsO base 81 20 f).setIfInBounds (81 + 13) _) _
       rw [SET 13 _ (by decide)]
       exact MK _ _ _ (hP.put' 13 13 _ rfl (by decide))
      ·subst ho
       refine ⟨rfl, ?_⟩
       have d0 : (FsO base 81 20 f).getD 94 undef = .int .i64 (j : Int) := FsO_in 13 (by rw [hsz]; decide) (by decide) ((hP.vals 13 13 (by decide) (hdep ⟨13, .data⟩ (by simp) rfl)).trans rfl)
       have d0b : (FsO base 81 20 f)[94]?.getD undef = .int .i64 (j : Int) := by rw [← Array.getD_eq_getD_getElem?]; exact d0
       have z15 := no_of g15b hli
       go_simp
       refine hK _ _ ?_
       show InvQ 81 18 19 20 q j w5 (pdE p j n1 n2 (bm + 2) As v0 v1 v2 v3 xs ys r w5) base _ ((FsO base 81 20 f).setIfInBounds (81 + 14) _) _
       rw [SET 14 _ (by decide)]
       exact MK _ _ _ (hP.build2 HD.out z15)
      ·subst ho
       refine ⟨rfl, ?_⟩
       have d0 : (FsO base 81 20 f).getD 93 undef = v3 := FsO_in 12 (by rw [hsz]; decide) (by decide) ((hP.vals 12 12 (by decide) (hdep ⟨12, .data⟩ (by simp) rfl)).trans rfl)
       have z18 := no_of g18 hli; have z21 := no_of g21 z18
       obtain ⟨q1, e1, e2, e3, e4⟩ := hP.b2 (hdep ⟨14, .data⟩ (by simp) rfl)
       have y8 : l 8 = true := hdep ⟨8, .chain⟩ (by simp) rfl
       have d1 : (FsO base 81 20 f).getD 95 undef = .slice (some ⟨q1, 0, none⟩) 1 1 := FsO_in 14 (by rw [hsz]; decide) (by decide) e1
       have a2 := hP.a2
       rw [hli] at a2
       refine wp_append_lies W' (.tmp 93) (.tmp 95) 45 rfl (bm + 2) 3 iJ (.int .i64 0) 1 8 Tryz.underlying45 HJ0.out HJ1.out HJ2.out HJ3.out rfl (by decide) v3 n2 ys d0 a2 ⟨q1, 0, none⟩ 1 1 [.int .i64 (j : Int)] d1 rfl (World.news_of_block (e4 hli)) HONEj.out (by decide) (by unfold maxLen; omega) (by omega) (Nat.le_trans HDB.out hP.but.size) W'.heap.size rfl ?_
       intro g c W2 hown hg hat hlt2
       refine hK _ _ ?_
       show InvQ 81 18 19 20 q j w5 (pdE p j n1 n2 (bm + 2) As v0 v1 v2 v3 xs ys r w5) base _ ((FsO base 81 20 f).setIfInBounds (81 + 15) _) W2
       rw [SET 15 _ (by decide)]
       exact MK _ _ _ (hP.app2 HD.out y8 z18 z21 hown hg hat hlt2)
      ·subst ho
       refine ⟨rfl, ?_⟩
       have d0 : (FsO base 81 20 f).getD 81 undef = .pointer (some ⟨p, 0, none⟩) := FsO_in 0 (by rw [hsz]; decide) (by decide) ((hP.vals 0 0 (by decide) (hdep ⟨0, .data⟩ (by simp) rfl)).trans rfl)
       go_simp
       refine hK _ _ ?_
       show InvQ 81 18 19 20 q j w5 (pdE p j n1 n2 (bm + 2) As v0 v1 v2 v3 xs ys r w5) base _ ((FsO base 81 20 f).setIfInBounds (81 + 16) _) _
       rw [SET 16 _ (by decide)]
       exact MK _ _ _ (hP.put' 16 16 _ rfl (by decide))
      ·subst ho
       refine ⟨rfl, ?_⟩
       have d0 : (FsO base 81 20 f).getD 97 undef = .pointer (some ⟨p, 0, none⟩) := FsO_in 16 (by rw [hsz]; decide) (by decide) ((hP.vals 16 16 (by decide) (hdep ⟨16, .data⟩ (by simp) rfl)).trans rfl)
       go_simp
       refine hK _ _ ?_
       show InvQ 81 18 19 20 q j w5 (pdE p j n1 n2 (bm + 2) As v0 v1 v2 v3 xs ys r w5) base _ ((FsO base 81 20 f).setIfInBounds (81 + 17) _) _
       rw [SET 17 _ (by decide)]
       exact MK _ _ _ (hP.put' 17 17 _ rfl (by decide))
      ·subst ho
       refine ⟨rfl, ?_⟩
       have d0 : (FsO base 81 20 f).getD 98 undef = .pointer (some ⟨p, 3, none⟩) := FsO_in 17 (by rw [hsz]; decide) (by decide) ((hP.vals 17 17 (by decide) (hdep ⟨17, .data⟩ (by simp) rfl)).trans rfl)
       have y8 : l 8 = true := hdep ⟨8, .data⟩ (by simp) rfl
       have y15 : l 15 = true := hdep ⟨15, .chain⟩ (by simp) rfl
       have z21 := no_of g21 hli
       have d1 : (FsO base 81 20 f).getD 89 undef = f 8 := FsO_in 8 (by rw [hsz]; decide) (by decide) rfl
       have hb := hP.blk
       rw [z21, hli] at hb
       have hc : W'.cell? ⟨p, 3, none⟩ = some v2 := cell_of hb 3
       have hfz : W'.frozen? ⟨p, 3, none⟩ = false := frozen_of hb 3
       obtain ⟨g8, c8, hu8⟩ : ∃ g8 c8, f 8 = .slice (some ⟨g8, 0, none⟩) (n1 + 1) c8 := by have h := hP.a1; rw [y8, if_pos rfl] at h; obtain ⟨g, c, h, _⟩ := h; exact ⟨g, c, h⟩
       clear hb
       have hfin := MK _ _ _ (hP.set1 HD.out y8 y15 hli z21)
       rw [hu8] at d1 hfin
       go_simp
       exact hK _ _ hfin
      ·subst ho
       refine ⟨rfl, ?_⟩
       have d0 : (FsO base 81 20 f).getD 82 undef = .pointer (some ⟨p, 0, none⟩) := FsO_in 1 (by rw [hsz]; decide) (by decide) ((hP.vals 1 1 (by decide) (hdep ⟨1, .data⟩ (by simp) rfl)).trans rfl)
       go_simp
       refine hK _ _ ?_
       show InvQ 81 18 19 20 q j w5 (pdE p j n1 n2 (bm + 2) As v0 v1 v2 v3 xs ys r w5) base _ ((FsO base 81 20 f).setIfInBounds (81 + 18) _) _
       rw [SET 18 _ (by decide)]
       exact MK _ _ _ (hP.put' 19 18 _ rfl (by decide))
      ·subst ho
       refine ⟨rfl, ?_⟩
       have d0 : (FsO base 81 20 f).getD 99 undef = .pointer (some ⟨p, 0, none⟩) := FsO_in 18 (by rw [hsz]; decide) (by decide) ((hP.vals 19 18 (by decide) (hdep ⟨19, .data⟩ (by simp) rfl)).trans rfl)
       go_simp
       refine hK _ _ ?_
       show InvQ 81 18 19 20 q j w5 (pdE p j n1 n2 (bm + 2) As v0 v1 v2 v3 xs ys r w5) base _ ((FsO base 81 20 f).setIfInBounds (81 + 19) _) _
       rw [SET 19 _ (by decide)]
       exact MK _ _ _ (hP.put' 20 19 _ rfl (by decide))
      ·subst ho
       refine ⟨rfl, ?_⟩
       have d0 : (FsO base 81 20 f).getD 100 undef = .pointer (some ⟨p, 4, none⟩) := FsO_in 19 (by rw [hsz]; decide) (by decide) ((hP.vals 20 19 (by decide) (hdep ⟨20, .data⟩ (by simp) rfl)).trans rfl)
       have y15 : l 15 = true := hdep ⟨15, .data⟩ (by simp) rfl
       have y8 := g15 y15
       have y18 : l 18 = true := hdep ⟨18, .chain⟩ (by simp) rfl
       have d1 : (FsO base 81 20 f).getD 96 undef = f 15 := FsO_in 15 (by rw [hsz]; decide) (by decide) rfl
       have hb := hP.blk
       rw [hli, y18] at hb
       have hc : W'.cell? ⟨p, 4, none⟩ = some v3 := cell_of hb 4
       have hfz : W'.frozen? ⟨p, 4, none⟩ = false := frozen_of hb 4
       obtain ⟨g8, c8, hu8⟩ : ∃ g8 c8, f 15 = .slice (some ⟨g8, 0, none⟩) (n2 + 1) c8 := by have h := hP.a2; rw [y15, if_pos rfl] at h; obtain ⟨g, c, h, _⟩ := h; exact ⟨g, c, h⟩
       clear hb
       have hfin := MK _ _ _ (hP.set2 HD.out y8 y15 y18 hli)
       rw [hu8] at d1 hfin
       go_simp
       exact hK _ _ hfin
     case finE =>
      intro l t' W' hall hI
      obtain ⟨_, _, _, _, f, rfl, hP⟩ := hI
      obtain ⟨V6, hA6⟩ := HMORE.out l f W' hP (hall 8 (by decide)) (hall 15 (by decide)) (hall 21 (by decide))
      have hby6 := (hP.but.block (bm + 1) (Array.getElem?_eq_some_iff.1 HBY5.out).1 (fun hc => by have := HOWN2.out _ hc; omega)).trans HBY5.out
      have hw5 : Below bm w1 w5 := HB.out.trans ((HBR4.out.mono (by have := (Array.getElem?_eq_some_iff.1 HBY.out).1; omega)).trans (HBUT5.out.below (fun k hk => by have h : k = bm := hk; omega) (by have := (Array.getElem?_eq_some_iff.1 HBY4.out).1; omega)))
      have hb6 : Below bm w1 W' := hw5.trans (hP.but.below (fun k hk => by have := HOWN2.out _ hk; omega) (by have := HDB.out; show bm ≤ w5.heap.size; omega))
      have hA7 : AsksAt (k + (j + 1)) (bm + 2) bm W' (Sk O rds eds k (j + 1)) P' V6 (askTo O rds eds k (j + 1)) := by
       have h1 := hA6.same (S' := Sk O rds eds k (j + 1)) (fun x => HSK.out x)
       have h2 := funext HASK2.out
       rw [← h2]; exact h1
      have HA7 := Lib.hid hA7; have HBY7 := Lib.hid hby6; have HB7 := Lib.hid hb6
      clear hA6 hA7 hby6 hw5 hb6 hall hP
      simp only [FsO_succ _ 81, FsO_nil, Nat.reduceAdd]
      go_wp2_with fail
      go_roundw
      case rel => exact ⟨j + 1, P', V6, by omega, by go_num, HA7, HB7, HBY7⟩
      case measure => simp [intOf]; omega
    ·have hki : ¬ (j : Int) < (ne : Int) := by omega
     obtain rfl : j = ne := by omega
     have HASKED := Lib.hid (plan_asked (k + j) (bm + 2) bm wr _ P V _ HA.out (by omega) HNE.out (fun s hs => by
      rcases hs with ⟨i, _, e⟩ | ⟨i, _, e⟩ <;> (rw [← e]; exact HO.out _)))
     have z0 := cell_of HBY.out 0
     have HBw : Hid (Below w.heap.size w wr) := Lib.hid (HB1m.out.trans (HB.out.mono HWM.out.2))
     go_wp2_with fail
     refine HASKED.out.mono ?_
     rintro en w6 ⟨v6, ss, rfl, h1, h2, h3, hb6⟩
     have H1 := Lib.hid h1; have H2 := Lib.hid h2; have H3 := Lib.hid h3; have HB6 := Lib.hid (HBw.out.trans (hb6.mono HBw.out.size))
     clear h1 h2 h3 hb6 HASKED z0
     go_wp2_with fail
     go_ret2
     exact ⟨v6, ss, rfl, H1.out, H2.out, H3.out, HB6.out⟩
end Go.Proofs.YtggdkfijioeijaaGreatDoor
namespace Go.Proofs.YtggdkfijioeijaaGreatDoor
open Go Go.RowKit
theorem wpList_append_new {P : Program} {w : World} {ops : Array Oper} {rest : List Oper} {o : Oper} {a : Act} {Q : Exit → Act → World → Prop} (hgd : o.guard = none) (s x : Operand) (t : TypeId)
  (ho : o.op = .call { callee := .builtin .append, args := #[s, x], argTypes := #[t, t] })
  (base : Nat) (e : TypeId) (i : TypeInfo) (z : Value) (size bytes : Nat) (ht : P.underlying t = some (.slice e)) (hi : P.info? e = some i) (hz : i.zero = some z)
  (hsize : i.size = size) (hby : i.bytes = bytes) (hzs : z.cells.size = size) (hsz : 0 < size) (hs : a.eval s = .slice none 0 0)
  (ad : Addr) (m c : Nat) (news : List Value) (hx : a.eval x = .slice (some ad) m c) (hl : news.length = m * size) (hnews : ∀ j u, news[j]? = some u → w.cell? (ad.add j) = some u) (h1 : ∀ u ∈ news, u.oneCell' = true)
  (h63 : m ≤ maxLen) (hbytes : m * bytes ≤ 140737488355328) (hbase : base ≤ w.heap.size)
  (h : ∀ a' c' w', w'.ownsRow base e size (.slice a' m c') m news → w.grownBy w' none → wpList P ops Q rest (a.put o.dst (.slice a' m c')) w') :
  wpList P ops Q (o :: rest) a w := by
 refine wpList_plain hgd fun K hK => ?_
 obtain ⟨v', w', hr, h2, h3, _, _⟩ := run_append_own_at (P := P) w base t o.type e i z size bytes ht hi hz hsize hby hzs hsz (.slice none 0 0) 0 [] (World.ownsRow_nil _ _ _ _) ad m c news hl hnews h1 (by rw [Nat.zero_add]; exact h63) (by rw [Nat.zero_add]; exact hbytes) hbase
 rw [Nat.zero_add, List.nil_append] at h2
 obtain ⟨a', c', rfl⟩ : ∃ a' c', v' = .slice a' m c' := by
  rcases h2.2 with ⟨hv, h0⟩ | ⟨g, cap, cur, hv, _⟩
  ·exact ⟨none, 0, by rw [hv, h0]⟩
  ·exact ⟨_, _, hv⟩
 unfold Oper.wp
 simp [execOp, ho, resolve, invoke, builtin, hs, hx, hr, Result.andThen]
 exact hK _ _ (h a' c' w' h2 h3)
theorem isl_news {α : Type} {k : Nat} {C : α → List Value} {z : α} (hC : ∀ x, (C x).length = k) {w : World} {ad : Addr} {n c : Nat} {l : List α} (h : IsL k C z w (.slice (some ad) n c) l) : ∀ j u, (l.flatMap C)[j]? = some u → w.cell? (ad.add j) = some u := by
 obtain ⟨a', c', he, h⟩ := h
 cases he
 rcases h with rfl | ⟨b, off, hb, _, hc⟩
 ·intro j u hu; simp at hu
 ·cases hb
  intro j u hu
  have hk : 0 < k := by
   rcases Nat.eq_zero_or_pos k with h0 | h0
   ·exfalso
    have : l.flatMap C = [] := by
     rw [List.flatMap_eq_nil_iff]
     intro x _
     exact List.length_eq_zero_iff.1 ((hC x).trans h0)
    rw [this] at hu; simp at hu
   ·exact h0
  have hjl : j < l.length * k := by
   have := (List.getElem?_eq_some_iff.1 hu).1
   rwa [flat_length hC] at this
  have hi : j / k < l.length := Nat.div_lt_of_lt_mul (by rw [Nat.mul_comm]; exact hjl)
  have hdm := Nat.div_add_mod j k
  have hm : j % k < k := Nat.mod_lt _ hk
  have hlt : j % k < (C (l.getD (j / k) z)).length := by rw [hC]; exact hm
  have h2 := hc (j / k) hi (j % k) _ (List.getElem?_eq_getElem hlt)
  have h3 := flat_at hC z l (j / k) hi (j % k) _ (List.getElem?_eq_getElem hlt)
  rw [show j / k * k + j % k = j by rw [Nat.mul_comm]; exact hdm] at h3
  rw [h3] at hu
  have e : off + j / k * k + j % k = off + j := by rw [Nat.add_assoc, show j / k * k + j % k = j by rw [Nat.mul_comm]; exact hdm]
  rw [e, hu] at h2
  have e2 : (⟨b, off, none⟩ : Addr).add j = ⟨b, off + j, none⟩ := by
   unfold Addr.add; split
   ·rename_i h; subst h; rfl
   ·rfl
  rw [e2]; exact h2
def NilOk (v : Value) : Prop := ∀ n c, v = .slice none n c → n = 0 ∧ c = 0
theorem wpList_append_copy {α : Type} {k : Nat} {C : α → List Value} {zz : α} {P : Program} {w : World} {ops : Array Oper} {rest : List Oper} {o : Oper} {a : Act} {Q : Exit → Act → World → Prop} (hgd : o.guard = none) (s x : Operand) (t : TypeId)
  (ho : o.op = .call { callee := .builtin .append, args := #[s, x], argTypes := #[t, t] })
  (base : Nat) (e : TypeId) (i : TypeInfo) (z : Value) (bytes : Nat) (ht : P.underlying t = some (.slice e)) (hi : P.info? e = some i) (hz : i.zero = some z)
  (hsize : i.size = k) (hby : i.bytes = bytes) (hzs : z.cells.size = k) (hsz : 0 < k) (hs : a.eval s = .slice none 0 0)
  (v : Value) (l : List α) (hx : a.eval x = v) (hv : IsL k C zz w v l) (hn : NilOk v) (hC : ∀ x, (C x).length = k) (h1 : ∀ u ∈ l.flatMap C, u.oneCell' = true)
  (h63 : l.length ≤ maxLen) (hbytes : l.length * bytes ≤ 140737488355328) (hbase : base ≤ w.heap.size)
  (h : ∀ a' c' w', w'.ownsRow base e k (.slice a' l.length c') l.length (l.flatMap C) → w.grownBy w' none → wpList P ops Q rest (a.put o.dst (.slice a' l.length c')) w') :
  wpList P ops Q (o :: rest) a w := by
 obtain ⟨ad, cp, rfl⟩ := isl_shape hv
 cases ad with
 | none =>
  obtain ⟨h0, rfl⟩ := hn _ _ rfl
  obtain rfl : l = [] := List.length_eq_zero_iff.1 h0
  exact wpList_append_own_none hgd s x t ho base e i k ht hi (.slice none 0 0) 0 [] hs (World.ownsRow_nil _ _ _ _) hx (h none 0 w (World.ownsRow_nil _ _ _ _) ⟨rfl, rfl, rfl, Nat.le_refl _, fun _ _ _ => rfl⟩)
 | some ad => exact wpList_append_new hgd s x t ho base e i z k bytes ht hi hz hsize hby hzs hsz hs ad l.length cp (l.flatMap C) hx (flat_length hC l) (isl_news hC hv) h1 h63 hbytes hbase h
theorem blk_app {C B e k n : Nat} {wr w1 w8 : World} {cs : Array Value} {T : TypeId} {fz : Nat × Nat} {v : Value} {xs : List Value} {o : Option Nat} (hC : C < B) (hcb : wr.heap[C]? = some (.cells cs T fz)) (hb1 : Below wr.heap.size wr w1) (hB : B ≤ wr.heap.size) (hg : w1.grownBy w8 o) (ho : ∀ j, o = some j → B ≤ j) (hrow : w8.ownsRow B e k v n xs) :
  w8.heap[C]? = some (.cells cs T fz) ∧ ∀ i, ∃ X, w8.setCell ⟨C, i, none⟩ v = X ∧ X.heap[C]? = some (.cells (cs.setIfInBounds i v) T fz) ∧ X.ownsRow B e k v n xs ∧ KX C B wr X := by
 have h1 := (hb1.block C (by omega)).trans hcb
 have h8 := (hg.block C (lt_of_block h1) (fun e => by have := ho C e.symm; omega)).trans h1
 have hk : KX C B wr w8 := (KX.of (hb1.mono hB)).trans (KX.row hg ho (Nat.le_trans hB hb1.size))
 exact ⟨h8, fun i => ⟨_, rfl, setCell_block h8 _, ownsRow_setCell_below hrow (by dsimp only; omega) _, hk.trans (KX.set B w8 ⟨C, i, none⟩ _)⟩⟩
theorem row_kx' {C B e k n : Nat} {W2 W : World} {v : Value} {xs : List Value} (h : W2.ownsRow B e k v n xs) (hk : KX C W2.heap.size W2 W) (hB : C < B) : W.ownsRow B e k v n xs := by
 refine ⟨h.1, ?_⟩
 rcases h.2 with hn | ⟨g, cap, cur, hv, hBg, hg, rest⟩
 ·exact Or.inl hn
 ·exact Or.inr ⟨g, cap, cur, hv, hBg, (hk.same g (lt_of_block hg) (by omega)).trans hg, rest⟩
def CopG (kind : Nat) (rds : List Rd) (eds : List Ed) (pre : ByteArray) (f t tw : Nat) (w : World) (e : Ending) (w' : World) : Prop :=
 ∃ v1 v2, e = .returned (.agg (callC kind v1 v2 pre f t tw)) ∧ IsRds w' v1 rds ∧ IsEds w' v2 eds ∧ Below w.heap.size w w'
set_option maxRecDepth 100000 in
set_option maxHeartbeats 4000000 in
theorem law28_copied (kind : Nat) (rds : List Rd) (eds : List Ed) (vR vE : Value) (pre : ByteArray) (f t tw : Nat) (w : World) (hR : IsRds w vR rds) (hE : IsEds w vE eds) (hnR : NilOk vR) (hnE : NilOk vE) (hlr : rds.length ≤ 1000) (hle : eds.length ≤ 1000) :
  Calls Tryz.prog 11 #[.agg (callC kind vR vE pre f t tw)] w (CopG kind rds eds pre f t tw w) := by
 obtain ⟨iR, hR0, hR1, hR2, hR3⟩ := info_parts infoRd
 obtain ⟨iE, hE0, hE1, hE2, hE3⟩ := info_parts infoEd
 obtain ⟨aR, cR, rfl⟩ := isl_shape hR
 obtain ⟨aE, cE, rfl⟩ := isl_shape hE
 obtain ⟨nr, hnr⟩ : ∃ nr, rds.length = nr := ⟨_, rfl⟩
 obtain ⟨ne, hne⟩ : ∃ ne, eds.length = ne := ⟨_, rfl⟩
 rw [hnr] at hR hnR hlr ⊢
 rw [hne] at hE hnE hle ⊢
 have HNR := Lib.hid hnr; have HNE := Lib.hid hne; have HR := Lib.hid hR; have HE := Lib.hid hE
 obtain ⟨C, hC⟩ : ∃ C, w.heap.size = C := ⟨_, rfl⟩
 obtain ⟨W0, hW0⟩ : ∃ W0, (w.alloc (.cells (callC kind (.slice aR nr cR) (.slice aE ne cE) pre f t tw) 30)).alloc (.cells #[.int .u8 0, .slice none 0 0, .slice none 0 0, .string ⟨#[]⟩, .int .u64 0, .int .u64 0, .int .u32 0] 30) = W0 := ⟨_, rfl⟩
 have hz0 : W0.heap.size = C + 2 := by rw [← hW0, ← hC]; simp
 have hb0 : Below w.heap.size w W0 := by rw [← hW0]; exact ((Below.refl _ _).alloc (Nat.le_refl _) _).alloc (by simp) _
 have hg0 : W0.heap[C]? = some (.cells (callC kind (.slice aR nr cR) (.slice aE ne cE) pre f t tw) 30 (0, 0)) := by
  rw [← hW0, ← hC]; exact (Below.heap_alloc _ _ _ (by simp)).trans (MapKept.heap_alloc _ _).1
 have hg1 : W0.heap[C + 1]? = some (.cells #[.int .u8 0, .slice none 0 0, .slice none 0 0, .string ⟨#[]⟩, .int .u64 0, .int .u64 0, .int .u32 0] 30 (0, 0)) := by
  rw [← hW0, ← hC]
  have h := (MapKept.heap_alloc (w.alloc (.cells (callC kind (.slice aR nr cR) (.slice aE ne cE) pre f t tw) 30)) (.cells #[.int .u8 0, .slice none 0 0, .slice none 0 0, .string ⟨#[]⟩, .int .u64 0, .int .u64 0, .int .u32 0] 30)).1
  simpa using h
 have x1 : W0.cell? ⟨C, 1, none⟩ = some (.slice aR nr cR) := cell_of hg0 1
 have f1 : W0.frozen? ⟨C, 1, none⟩ = false := frozen_of hg0 1
 have HG0 := Lib.hid hg0; have HG1 := Lib.hid hg1; have HB0 := Lib.hid hb0; have HZ0 := Lib.hid hz0; have HCS := Lib.hid hC
 have hsz0 : C + 2 ≤ W0.heap.size := by omega
 have HR0 := Lib.hid hR0; have HR1 := Lib.hid hR1; have HR2 := Lib.hid hR2; have HR3 := Lib.hid hR3
 have HE0 := Lib.hid hE0; have HE1 := Lib.hid hE1; have HE2 := Lib.hid hE2; have HE3 := Lib.hid hE3
 clear hnr hne hR hE hg0 hg1 hb0 hz0 hR0 hR1 hR2 hR3 hE0 hE1 hE2 hE3
 go_enter Tryz.func11, Tryz.ntmps11
 go_upto_region 1 with fail
 clear hW0 hC
 go_upto_region 2 with (
  at_builtin
  refine wpList_append_copy rfl (.const (.slice none 0 0)) (.tmp 4) 23 rfl (C + 2) 56 iR (.agg #[.string ByteArray.empty, .int .u64 0]) 24 Tryz.underlying23 HR0.out HR1.out HR2.out HR3.out rfl (by decide) rfl (.slice aR nr cR) rds rfl (HR.out.below HB0.out (Nat.le_refl _)) hnR rdC_len (rdC_ones rds) (by rw [HNR.out]; unfold maxLen; omega) (by rw [HNR.out]; omega) hsz0 ?goR
  rw [HNR.out]
  intro a1 c1 w8 hown8 hg8
  obtain ⟨hb8, hset⟩ := blk_app (show C < C + 2 by omega) HG0.out (Below.refl _ _) hsz0 hg8 (fun j hj => by cases hj) hown8
  obtain ⟨X1, hX1, hbX, hrX, hkX⟩ := hset 1
  have x1 := cell_of hb8 1; have f1 := frozen_of hb8 1
  have hbX : X1.heap[C]? = some (.cells (callC kind (.slice a1 nr c1) (.slice aE ne cE) pre f t tw) 30 (0, 0)) := hbX
  have HBX := Lib.hid hbX; have HRX := Lib.hid hrX; have HKX := Lib.hid hkX
  have x2 : X1.cell? ⟨C, 2, none⟩ = some (.slice aE ne cE) := cell_of hbX 2
  clear hown8 hg8 hb8 hset hbX hrX hkX)
 have hsz1 : C + 2 ≤ X1.heap.size := by have := HKX.out.size; omega
 have hb01 : Below C W0 X1 := HKX.out.below (by omega) (Nat.le_refl _)
 have HB1 : Hid (Below w.heap.size w X1) := Lib.hid (HB0.out.trans (by rw [HCS.out]; exact hb01))
 clear hb01
 go_upto_region 3 with (
  at_builtin
  refine wpList_append_copy rfl (.const (.slice none 0 0)) (.tmp 8) 24 rfl X1.heap.size 63 iE (.agg #[.int .u8 0, .string ByteArray.empty, .bool false, .int .u64 0, .int .u64 0, .string ByteArray.empty]) 64 Tryz.underlying24 HE0.out HE1.out HE2.out HE3.out rfl (by decide) rfl (.slice aE ne cE) eds rfl (HE.out.below HB1.out (Nat.le_refl _)) hnE edC_len (edC_ones eds) (by rw [HNE.out]; unfold maxLen; omega) (by rw [HNE.out]; omega) (Nat.le_refl _) ?goE
  rw [HNE.out]
  intro a2 c2 w9 hown9 hg9
  obtain ⟨hb9, hset⟩ := blk_app (show C < X1.heap.size by omega) HBX.out (Below.refl _ _) (Nat.le_refl _) hg9 (fun j hj => by cases hj) hown9
  obtain ⟨X2, hX2, hbX, hrX, hkX⟩ := hset 2
  have y1 := cell_of hb9 2; have g1 := frozen_of hb9 2
  have hbX : X2.heap[C]? = some (.cells (callC kind (.slice a1 nr c1) (.slice a2 ne c2) pre f t tw) 30 (0, 0)) := hbX
  have HBX2 := Lib.hid hbX; have HRX2 := Lib.hid hrX; have HKX2 := Lib.hid hkX
  clear hown9 hg9 hb9 hset hbX hrX hkX)
 have hk2 : X2.heap[C + 1]? = some (.cells #[.int .u8 0, .slice none 0 0, .slice none 0 0, .string ⟨#[]⟩, .int .u64 0, .int .u64 0, .int .u32 0] 30 (0, 0)) := by
  have h1 := (HKX.out.same (C + 1) (by omega) (by omega)).trans HG1.out
  exact (HKX2.out.same (C + 1) (by omega) (by omega)).trans h1
 have HR3' : Hid (X2.ownsRow (C + 2) 56 2 (.slice a1 nr c1) nr (rds.flatMap rdC)) := Lib.hid (row_kx' HRX.out HKX2.out (by omega))
 have hb12 : Below C X1 X2 := HKX2.out.below (by omega) (Nat.le_refl _)
 have HB2 : Hid (Below w.heap.size w X2) := Lib.hid (HB1.out.trans (by rw [HCS.out]; exact hb12))
 have hszX : X1.heap.size ≤ X2.heap.size := HKX2.out.size
 have k0 : X2.cell? ⟨C, 0, none⟩ = some (.int .u8 (kind : Int)) := cell_of HBX2.out 0
 have k1 : X2.cell? ⟨C, 1, none⟩ = some (.slice a1 nr c1) := cell_of HBX2.out 1
 have k2 : X2.cell? ⟨C, 2, none⟩ = some (.slice a2 ne c2) := cell_of HBX2.out 2
 have k3 : X2.cell? ⟨C, 3, none⟩ = some (.string pre) := cell_of HBX2.out 3
 have k4 : X2.cell? ⟨C, 4, none⟩ = some (.int .u64 (f : Int)) := cell_of HBX2.out 4
 have k5 : X2.cell? ⟨C, 5, none⟩ = some (.int .u64 (t : Int)) := cell_of HBX2.out 5
 have k6 : X2.cell? ⟨C, 6, none⟩ = some (.int .u32 (tw : Int)) := cell_of HBX2.out 6
 have z0 := cell_of hk2 0; have z1 := cell_of hk2 1; have z2 := cell_of hk2 2; have z3 := cell_of hk2 3; have z4 := cell_of hk2 4; have z5 := cell_of hk2 5; have z6 := cell_of hk2 6
 have g0 := frozen_of hk2 0; have g1' := frozen_of hk2 1; have g2 := frozen_of hk2 2; have g3 := frozen_of hk2 3; have g4 := frozen_of hk2 4; have g5 := frozen_of hk2 5; have g6 := frozen_of hk2 6
 simp at z0 z1 z2 z3 z4 z5 z6
 clear hb12 hk2
 go_wp2_with fail
 refine bodyPost_ret (v := .agg (callC kind (.slice a1 nr c1) (.slice a2 ne c2) pre f t tw)) ?_ rfl ⟨.slice a1 nr c1, .slice a2 ne c2, rfl, ?_, ?_, ?_⟩
 ·simp [results, Tryz.results11, go_sem, z0, z1, z2, z3, z4, z5, z6]
 ·refine IsL.own rdC_len (by decide) _ (B := C + 2) (e := 56) ?_
  rw [HNR.out]
  repeat (refine ownsRow_setCell_below ?_ (by dsimp only; omega) _)
  exact HR3'.out
 ·refine IsL.own edC_len (by decide) _ (B := X1.heap.size) (e := 63) ?_
  rw [HNE.out]
  repeat (refine ownsRow_setCell_below ?_ (by dsimp only; omega) _)
  exact HRX2.out
 ·have hCw := HCS.out
  repeat (refine Below.setCell ?_ (by dsimp only; omega) _)
  exact HB2.out
end Go.Proofs.YtggdkfijioeijaaGreatDoor
